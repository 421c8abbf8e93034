/- Layer 10 (text): which statements are right, and their text. No program stands here. -/
import Derived.Test.YtikgbgminhgpdaaGreatDoorTextFuel
import Derived.Test.YtikgbgminhgpdaaGreatDoorTextJoinW
import Derived.Lib.ItoaLen
namespace Go.Proofs.YtikgbgminhgpdaaGreatDoor.Tx
open Go.Lib (itoa decDigits)

/-! Which are right (collections: eight that are ordered). -/
def hasReg (k : Nat) : Bool := k == 1 || k == 4 || k == 5 || k == 6 || k == 7 || k == 9 || k == 10
def hasA (k : Nat) : Bool := k == 1 || k == 2 || k == 3 || k == 4 || k == 6 || k == 7 || k == 9 || k == 10 || k == 11 || k == 12
def hasB (k : Nat) : Bool := k == 2 || k == 7 || k == 10 || k == 11
def hasColl (k : Nat) : Bool := decide (1 ≤ k) && decide (k ≤ 8)
def hasElse (k : Nat) : Bool := k == 11 || k == 14
def argR (a : Int × Int) (there : Bool) : Bool := if there = true then decide (0 ≤ a.1) && decide (a.1 ≤ 8) && decide (-999 ≤ a.2) && decide (a.2 ≤ 999) else decide (a.1 = 0) && decide (a.2 = 0)
def collR (s : Sh) : Bool := if hasColl s.kind = true then decide (0 ≤ s.coll) && decide (s.coll < 8) else decide (s.coll = 0)
def regR (s : Sh) : Bool := if hasReg s.kind = true then decide (1 ≤ s.reg) && decide (s.reg ≤ 8) else decide (s.reg = 0)
def loopR (s : Sh) : Bool := s.kind != 12 || (decide (s.a.1 = 0) && decide (0 ≤ s.a.2) && decide (s.a.2 ≤ 5))
/-- Is a statement right, apart from those in it? nb, ne: nothing stands in its Body, its Else. -/
def oneR (s : Sh) (nb ne : Bool) : Bool :=
  decide (1 ≤ s.kind) && decide (s.kind ≤ 16) && collR s && argR s.a (hasA s.kind) && argR s.b (hasB s.kind) && loopR s && regR s && (opens s.kind || nb) && (hasElse s.kind || ne)
mutual
/-- Goes over statements, n were gone over ahead: how many then, or the error's number and place. -/
def walkS : St → Nat → Nat → Except (Int × Nat) Nat
  | .mk h b e, d, n => if 100 < n + 1 then .error (8, n + 1) else if 8 < d then .error (10, n + 1) else if oneR h b.isEmpty e.isEmpty = false then .error (9, n + 1) else
    match walkL b (d + 1) (n + 1) with
    | .error x => .error x
    | .ok n1 => walkL e (d + 1) n1
def walkL : List St → Nat → Nat → Except (Int × Nat) Nat
  | [], _, n => .ok n
  | s :: l, d, n => match walkS s d n with
    | .error x => .error x
    | .ok n1 => walkL l d n1
end
mutual
/-- All statements are right. -/
def goodS : St → Bool
  | .mk h b e => oneR h b.isEmpty e.isEmpty && goodL b && goodL e
def goodL : List St → Bool
  | [] => true
  | s :: l => goodS s && goodL l
end
mutual
theorem walkS_good : ∀ (s : St) (d n m : Nat), walkS s d n = .ok m → goodS s = true
  | .mk h b e, d, n, m, hw => by
    unfold walkS at hw
    unfold goodS
    split at hw
    · cases hw
    · split at hw
      · cases hw
      · split at hw
        · cases hw
        · rename_i h1
          split at hw
          · cases hw
          · rename_i n1 hb
            simp only [Bool.and_eq_true]
            exact ⟨⟨by simpa using h1, walkL_good b _ _ _ hb⟩, walkL_good e _ _ _ hw⟩
theorem walkL_good : ∀ (l : List St) (d n m : Nat), walkL l d n = .ok m → goodL l = true
  | [], _, _, _, _ => by unfold goodL; rfl
  | s :: l, d, n, m, hw => by
    unfold walkL at hw
    unfold goodL
    split at hw
    · cases hw
    · rename_i n1 hs
      simp only [Bool.and_eq_true]
      exact ⟨walkS_good s _ _ _ hs, walkL_good l _ _ _ hw⟩
end

/-! Their text. -/
def argT (a : Int × Int) : Bs := if a.1 = 0 then itoa a.2 else 114 :: itoa a.1 ++ (if 0 < a.2 then 43 :: itoa a.2 else if a.2 < 0 then itoa a.2 else [])
def piece (s : Sh) (c : UInt8) : Bs := if c = 99 then itoa s.coll else if c = 97 then argT s.a else if c = 110 then argT s.a else if c = 98 then argT s.b else if c = 114 then 114 :: itoa s.reg else [123]
def wordB (k : Nat) : Bs := kinds.getD (k - 1) []
def lineW (s : Sh) : List Bs := wordB s.kind :: (form s.kind).map (piece s)
def lineT (s : Sh) : Bs := Go.Lib.join (lineW s) [32]
def elseT : Bs := [125, 32, 101, 108, 115, 101, 32, 123]
mutual
def tellS : St → Bs → Bs
  | .mk h b e, ah => ah ++ lineT h ++ [10] ++ if opens h.kind = false then [] else
    tellL b (ah ++ [32, 32]) ++ (if e.isEmpty then [] else ah ++ elseT ++ [10] ++ tellL e (ah ++ [32, 32])) ++ (ah ++ [125] ++ [10])
def tellL : List St → Bs → Bs
  | [], _ => []
  | s :: l, ah => tellS s ah ++ tellL l ah
end
def elseW : List Bs := [[125], [101, 108, 115, 101], [123]]
mutual
/-- The words of their lines. -/
def tellWS : St → List (List Bs)
  | .mk h b e => lineW h :: if opens h.kind = false then [] else tellWL b ++ (if e.isEmpty then [] else elseW :: tellWL e) ++ [[[125]]]
def tellWL : List St → List (List Bs)
  | [] => []
  | s :: l => tellWS s ++ tellWL l
end

/-! Numbers that are read as they were told. -/
def dig3 (n : Nat) : Bs := if n < 10 then [UInt8.ofNat (48 + n)] else if n < 100 then [UInt8.ofNat (48 + n / 10), UInt8.ofNat (48 + n % 10)] else [UInt8.ofNat (48 + n / 100), UInt8.ofNat (48 + n / 10 % 10), UInt8.ofNat (48 + n % 10)]
theorem dec_dig3 {n : Nat} (h : n < 1000) : decDigits n = dig3 n := by
  unfold dig3
  by_cases h1 : n < 10
  · rw [if_pos h1, Go.Lib.decDigits_one h1]
  · rw [if_neg h1]
    by_cases h2 : n < 100
    · rw [if_pos h2, Go.Lib.decDigits_two h1 h2]
    · rw [if_neg h2, decDigits, dif_neg h1]
      by_cases h3 : n / 10 < 10
      · omega
      · rw [Go.Lib.decDigits_two h3 (by omega)]
        simp [Nat.div_div_eq_div_mul]
/-- What is so of a small number's digits. -/
def digOk (n : Nat) : Bool := decide (plain (dig3 n) = some n) && (dig3 n).all digit && !(dig3 n).isEmpty && decide ((dig3 n).length ≤ 3)
theorem digOk_all : ∀ n : _root_.Fin 1000, digOk n.1 = true := by decide +kernel
theorem dec_ok {n : Nat} (h : n < 1000) : plain (decDigits n) = some n ∧ (decDigits n).all digit = true ∧ decDigits n ≠ [] ∧ (decDigits n).length ≤ 3 := by
  have := digOk_all ⟨n, h⟩
  unfold digOk at this
  simp only [Bool.and_eq_true, decide_eq_true_eq] at this
  rw [dec_dig3 h]
  exact ⟨this.1.1.1, this.1.1.2, (fun e => by have := this.1.2; rw [e] at this; cases this), this.2⟩
theorem itoa_nat (n : Nat) : itoa (n : Int) = decDigits n := Go.Lib.itoa_nonneg n
theorem itoa_minus {n : Nat} (h : 1 ≤ n) : itoa (-(n : Int)) = 45 :: decDigits n := Go.Lib.itoa_neg n h
theorem digit_ne {x : UInt8} (h : digit x = true) : x ≠ 32 ∧ x ≠ 10 ∧ x ≠ 45 ∧ x ≠ 114 := by
  refine ⟨?_, ?_, ?_, ?_⟩ <;> (rintro rfl; revert h; decide)
theorem head_digit {l : Bs} (h0 : l ≠ []) (h : l.all digit = true) : ∃ x r, l = x :: r ∧ digit x = true := by
  obtain ⟨x, r, rfl⟩ := List.exists_cons_of_ne_nil h0
  simp only [List.all_cons, Bool.and_eq_true] at h
  exact ⟨x, r, rfl, h.1⟩
theorem number_plus {n : Nat} (h : n < 1000) : number (decDigits n) = some (n : Int) := by
  obtain ⟨h1, h2, h3, _⟩ := dec_ok h
  obtain ⟨x, r, e, hx⟩ := head_digit h3 h2
  unfold number
  split
  · rename_i t ht
    rw [e] at ht
    simp only [List.cons.injEq] at ht
    exact absurd ht.1 (digit_ne hx).2.2.1
  · rw [h1]; rfl
theorem number_minus {n : Nat} (h : n < 1000) (h0 : 1 ≤ n) : number (45 :: decDigits n) = some (-(n : Int)) := by
  unfold number
  simp only
  rw [(dec_ok h).1]
  simp only
  rw [if_pos (by omega)]
theorem number_itoa {z : Int} (h1 : -999 ≤ z) (h2 : z ≤ 999) : number (itoa z) = some z := by
  by_cases h : 0 ≤ z
  · obtain ⟨n, rfl⟩ : ∃ n : Nat, z = (n : Int) := ⟨z.toNat, by omega⟩
    rw [itoa_nat, number_plus (by omega)]
  · obtain ⟨n, rfl⟩ : ∃ n : Nat, z = -(n : Int) := ⟨(-z).toNat, by omega⟩
    rw [itoa_minus (by omega), number_minus (by omega) (by omega)]
theorem plain_itoa {z : Int} (h1 : 0 ≤ z) (h2 : z ≤ 999) : (plain (itoa z)).map (fun n => (n : Int)) = some z := by
  obtain ⟨n, rfl⟩ : ∃ n : Nat, z = (n : Int) := ⟨z.toNat, by omega⟩
  rw [itoa_nat, (dec_ok (by omega)).1]
  rfl
theorem register_itoa {z : Int} (h1 : 1 ≤ z) (h2 : z ≤ 8) : register (114 :: itoa z) = some z.toNat ∧ itoa z = [UInt8.ofNat (48 + z.toNat)] := by
  obtain ⟨n, rfl⟩ : ∃ n : Nat, z = (n : Int) := ⟨z.toNat, by omega⟩
  rw [itoa_nat, Go.Lib.decDigits_one (by omega)]
  refine ⟨?_, rfl⟩
  have : ∀ n : _root_.Fin 9, 1 ≤ n.1 → register [114, UInt8.ofNat (48 + n.1)] = some n.1 := by decide
  exact this ⟨n, by omega⟩ (by show 1 ≤ n; omega)
theorem arg_itoa {a : Int × Int} (h : argR a true = true) : arg (argT a) = some a := by
  obtain ⟨r, z⟩ := a
  unfold argR at h
  simp only [if_true, Bool.and_eq_true, decide_eq_true_eq] at h
  obtain ⟨⟨⟨h1, h2⟩, h3⟩, h4⟩ := h
  unfold argT
  simp only
  by_cases hr : r = 0
  · subst hr
    rw [if_pos rfl]
    have hn := number_itoa h3 h4
    unfold arg
    split
    · rename_i d rest he
      exfalso
      rw [he] at hn
      by_cases h0 : 0 ≤ z
      · obtain ⟨n, rfl⟩ : ∃ n : Nat, z = (n : Int) := ⟨z.toNat, by omega⟩
        rw [itoa_nat] at he
        obtain ⟨_, q2, q3, _⟩ := dec_ok (n := n) (by omega)
        obtain ⟨x, r, e, hx⟩ := head_digit q3 q2
        rw [e] at he
        simp only [List.cons.injEq] at he
        exact (digit_ne hx).2.2.2 he.1
      · obtain ⟨n, rfl⟩ : ∃ n : Nat, z = -(n : Int) := ⟨(-z).toNat, by omega⟩
        rw [itoa_minus (by omega)] at he
        simp only [List.cons.injEq] at he
        exact absurd he.1 (by decide)
    · rw [hn]; rfl
  · rw [if_neg hr]
    obtain ⟨g1, g2⟩ := register_itoa (z := r) (by omega) h2
    rw [g2] at g1 ⊢
    have hrr : ((r.toNat : Nat) : Int) = r := by omega
    by_cases hp : 0 < z
    · rw [if_pos hp]
      obtain ⟨n, rfl⟩ : ∃ n : Nat, z = (n : Int) := ⟨z.toNat, by omega⟩
      rw [itoa_nat]
      simp only [List.cons_append, List.nil_append, arg, g1, (dec_ok (n := n) (by omega)).1, hrr]
      rw [if_neg (by omega), if_neg (by decide), if_pos trivial]
    · rw [if_neg hp]
      by_cases hm : z < 0
      · rw [if_pos hm]
        obtain ⟨n, rfl⟩ : ∃ n : Nat, z = -(n : Int) := ⟨(-z).toNat, by omega⟩
        rw [itoa_minus (by omega)]
        simp only [List.cons_append, List.nil_append, arg, g1, (dec_ok (n := n) (by omega)).1, hrr]
        rw [if_neg (by omega), if_pos trivial]
      · rw [if_neg hm]
        obtain rfl : z = 0 := by omega
        simp only [List.append_nil, arg, g1, hrr]
end Go.Proofs.YtikgbgminhgpdaaGreatDoor.Tx
