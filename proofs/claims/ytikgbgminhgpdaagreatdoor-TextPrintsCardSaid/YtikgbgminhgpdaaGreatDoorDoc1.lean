/- Layers 9, 10: the document's small functions: in, arg, Dec, arg's text, words, forms. -/
import Derived.Test.YtikgbgminhgpdaaGreatDoorTxtArg
import Derived.Test.YtikgbgminhgpdaaGreatDoorTxtRead
import Derived.Test.YtikgbgminhgpdaaGreatDoorTextDoc
import Derived.Test.YtikgbgminhgpdaaGreatDoorTxtKind
import Derived.Laws.IdiomStrings
namespace Go.Proofs.YtikgbgminhgpdaaGreatDoor
open Go.RowKit Tx
open Go.Lib (itoa decDigits)
set_option maxRecDepth 10000

set_option maxHeartbeats 2000000 in
theorem in_ok (n : Int) (xs : List Int) {g cap : Nat} {w : World} (hx : xs.length ≤ 1000) (hc : ∀ (j : Nat) x, xs[j]? = some x → w.cell? ⟨g, j, none⟩ = some (.int .i64 x)) :
    Calls Tryz.prog 64 #[.int .i64 n, .slice (some ⟨g, 0, none⟩) xs.length cap] w fun e w' => e = .returned (.bool (xs.contains n)) ∧ w = w' := by
  have HC := Lib.hid hc
  clear hc
  go_enter Tryz.func64, Tryz.ntmps64
  go_wp2
  go_loopg [5] (xs.length + 1) (fun gf i wx => ∃ (k : Nat), i = .int .i64 (k : Int) ∧ k ≤ xs.length ∧ w = wx ∧ (xs.take k).contains n = false ∧ xs.length + 1 ≤ k + gf)
  case atStart => exact ⟨0, rfl, Nat.zero_le _, rfl, rfl, by omega⟩
  case round =>
    obtain ⟨k, rfl, hk, rfl, hno, hfu⟩ := hrel
    obtain ⟨gk', rfl⟩ : ∃ g', gk = g' + 1 := ⟨gk - 1, by omega⟩
    by_cases hlt : k < xs.length
    · obtain ⟨x, hx'⟩ : ∃ x, xs[k]? = some x := ⟨_, List.getElem?_eq_getElem hlt⟩
      have g1 : decide ((k : Int) < (xs.length : Int)) = true := decide_eq_true (by omega)
      have g1' : (k : Int) < (xs.length : Int) := by omega
      have cc := HC.out k x hx'
      have hsplit : xs = xs.take k ++ x :: xs.drop (k + 1) := by
        obtain ⟨hl, e⟩ := List.getElem?_eq_some_iff.1 hx'
        rw [← e, ← List.drop_eq_getElem_cons hl, List.take_append_drop]
      by_cases he : x = n
      · have g2 : (x == n) = true := by simpa using he
        have HR := Lib.hid (show xs.contains n = true by rw [hsplit]; simp [he])
        clear hno hsplit hx' he
        go_wp2
        go_ret
        exact ⟨by rw [HR.out]; rfl, rfl⟩
      · have g2 : (x == n) = false := by simpa using he
        have HR := Lib.hid (show (xs.take (k + 1)).contains n = false by
          rw [List.take_add_one, hx']
          simp only [Option.toList_some, List.contains_append, hno, Bool.false_or]
          simp [Ne.symm he])
        clear hno hsplit hx' he
        go_wp2
        go_roundg gk'
        case measure => omega
        case rel => exact ⟨k + 1, by go_num, hlt, rfl, HR.out, by omega⟩
    · obtain rfl : k = xs.length := by omega
      have g1 : decide ((xs.length : Int) < (xs.length : Int)) = false := decide_eq_false (by omega)
      have HR := Lib.hid (show xs.contains n = false by rw [List.take_length] at hno; exact hno)
      clear hno
      go_wp2
      go_ret
      exact ⟨by rw [HR.out]; rfl, rfl⟩
set_option maxHeartbeats 2000000 in
theorem argd_ok (a : Int × Int) (t : Bool) (w : World) : Calls Tryz.prog 65 #[.agg #[.int .i64 a.1, .int .i64 a.2], .bool t] w fun e w' => e = .returned (.bool (argR a t)) ∧ Below w.heap.size w w' := by
  obtain ⟨r, n⟩ := a
  cases t with
  | false =>
    by_cases hr : r = 0
    · by_cases hn : n = 0
      · subst hr hn
        go_enter Tryz.func65, Tryz.ntmps65
        go_wp2
        go_ret
        exact ⟨rfl, (Below.refl _ _).alloc (Nat.le_refl _) _⟩
      · subst hr
        have g : (n == 0) = false := by simpa using hn
        have he : argR ((0 : Int), n) false = false := by simp [argR, hn]
        rw [he]
        go_enter Tryz.func65, Tryz.ntmps65
        go_wp2
        go_ret
        exact ⟨rfl, (Below.refl _ _).alloc (Nat.le_refl _) _⟩
    · have g : (r == 0) = false := by simpa using hr
      have he : argR (r, n) false = false := by simp [argR, hr]
      rw [he]
      go_enter Tryz.func65, Tryz.ntmps65
      go_wp2
      go_ret
      exact ⟨rfl, (Below.refl _ _).alloc (Nat.le_refl _) _⟩
  | true =>
    by_cases h1 : 0 ≤ r
    · by_cases h2 : r ≤ 8
      · by_cases h3 : -999 ≤ n
        · by_cases h4 : n ≤ 999
          · have he : argR (r, n) true = true := by simp [argR, h1, h2, h3, h4]
            rw [he]
            go_enter Tryz.func65, Tryz.ntmps65
            go_wp2
            go_ret
            exact ⟨rfl, (Below.refl _ _).alloc (Nat.le_refl _) _⟩
          · have he : argR (r, n) true = false := by simp [argR, h4]
            rw [he]
            go_enter Tryz.func65, Tryz.ntmps65
            go_wp2
            go_ret
            exact ⟨rfl, (Below.refl _ _).alloc (Nat.le_refl _) _⟩
        · have he : argR (r, n) true = false := by simp [argR, h3]
          rw [he]
          go_enter Tryz.func65, Tryz.ntmps65
          go_wp2
          go_ret
          exact ⟨rfl, (Below.refl _ _).alloc (Nat.le_refl _) _⟩
      · have he : argR (r, n) true = false := by simp [argR, h2]
        rw [he]
        go_enter Tryz.func65, Tryz.ntmps65
        go_wp2
        go_ret
        exact ⟨rfl, (Below.refl _ _).alloc (Nat.le_refl _) _⟩
    · have he : argR (r, n) true = false := by simp [argR, h1]
      rw [he]
      go_enter Tryz.func65, Tryz.ntmps65
      go_wp2
      go_ret
      exact ⟨rfl, (Below.refl _ _).alloc (Nat.le_refl _) _⟩
theorem wordsD_ok (w : World) : Calls Tryz.prog 40 #[] w fun e w' => ∃ g, e = .returned (.slice (some ⟨g, 0, none⟩) 17 17) ∧ (∀ k, 1 ≤ k → k ≤ 16 → w'.cell? ⟨g, k, none⟩ = some (.string ⟨(wordB k).toArray⟩)) ∧ Below w.heap.size w w' := by
  go_enter Tryz.func40, Tryz.ntmps40
  go_wp2
  go_ret
  refine ⟨_, rfl, ?_, (Below.refl _ _).alloc (Nat.le_refl _) _⟩
  intro k h1 h2
  rcases (by omega : k = 1 ∨ k = 2 ∨ k = 3 ∨ k = 4 ∨ k = 5 ∨ k = 6 ∨ k = 7 ∨ k = 8 ∨ k = 9 ∨ k = 10 ∨ k = 11 ∨ k = 12 ∨ k = 13 ∨ k = 14 ∨ k = 15 ∨ k = 16) with rfl | rfl | rfl | rfl | rfl | rfl | rfl | rfl | rfl | rfl | rfl | rfl | rfl | rfl | rfl | rfl
  all_goals exact ((Cells.new w _ _).cell _).trans rfl
theorem formsD_ok (w : World) : Calls Tryz.prog 41 #[] w fun e w' => ∃ g, e = .returned (.slice (some ⟨g, 0, none⟩) 17 17) ∧ (∀ k, 1 ≤ k → k ≤ 16 → w'.cell? ⟨g, k, none⟩ = some (.string ⟨(form k).toArray⟩)) ∧ Below w.heap.size w w' := by
  go_enter Tryz.func41, Tryz.ntmps41
  go_wp2
  go_ret
  refine ⟨_, rfl, ?_, (Below.refl _ _).alloc (Nat.le_refl _) _⟩
  intro k h1 h2
  rcases (by omega : k = 1 ∨ k = 2 ∨ k = 3 ∨ k = 4 ∨ k = 5 ∨ k = 6 ∨ k = 7 ∨ k = 8 ∨ k = 9 ∨ k = 10 ∨ k = 11 ∨ k = 12 ∨ k = 13 ∨ k = 14 ∨ k = 15 ∨ k = 16) with rfl | rfl | rfl | rfl | rfl | rfl | rfl | rfl | rfl | rfl | rfl | rfl | rfl | rfl | rfl | rfl
  all_goals exact ((Cells.new w _ _).cell _).trans rfl
/-! Dec. -/
theorem dec_step {n m : Nat} {acc : Bs} (h : decDigits n = (if m = 0 then [] else decDigits m) ++ acc) (hm : m ≠ 0) : decDigits n = (if m / 10 = 0 then [] else decDigits (m / 10)) ++ (UInt8.ofNat (48 + m % 10) :: acc) := by
  rw [h, if_neg hm]
  conv => lhs; lhs; unfold decDigits
  by_cases h10 : m < 10
  · rw [dif_pos h10, if_pos (by omega), Nat.mod_eq_of_lt h10]
    rfl
  · rw [dif_neg h10, if_neg (by omega), List.append_assoc]
    rfl
theorem dec_zero : decDigits 0 = [48] := by
  unfold decDigits
  rfl
theorem dec_cons (k : Nat) (acc : ByteArray) : ((⟨#[48 + UInt8.ofNat k]⟩ : ByteArray) ++ acc).data.toList = UInt8.ofNat (48 + k) :: acc.data.toList := by
  rw [ByteArray.data_append, Array.toList_append]
  show (48 + UInt8.ofNat k) :: acc.data.toList = _
  congr 1
  rw [UInt8.ofNat_add]
  rfl
theorem dec_sz (x : UInt8) (acc : ByteArray) : ((⟨#[x]⟩ : ByteArray) ++ acc).size = acc.size + 1 := by
  rw [ByteArray.size_append]
  show 1 + acc.size = _
  omega
theorem dec_size (x : UInt8) (acc : ByteArray) {n : Nat} (h : acc.size + 1 ≤ n) : ((⟨#[x]⟩ : ByteArray) ++ acc).size ≤ n := by
  rw [dec_sz]
  exact h
theorem dec_ne (x : UInt8) (acc : ByteArray) : (⟨#[x]⟩ : ByteArray) ++ acc ≠ ⟨#[]⟩ := fun e => by
  have := congrArg ByteArray.size e
  rw [dec_sz] at this
  cases this
theorem conv_digit (w : World) (k : Nat) (hk : k < 10) (z : Int) (hz : z = 48 + (k : Int)) (t : TypeId) : (convert 48 9 (.slice (some ⟨w.heap.size, 0, none⟩) 1 1)).run Tryz.prog (w.alloc (.cells #[.int .u8 z] t)) = .ok (.string ⟨#[UInt8.ofNat (48 + k)]⟩) (w.alloc (.cells #[.int .u8 z] t)) := by
  have := run_convert_bytes_back (P := Tryz.prog) (w.alloc (.cells #[.int .u8 z] t)) 48 9 5 ⟨w.heap.size, 0, none⟩ 1 [UInt8.ofNat (48 + k)] Tryz.underlying48 Tryz.underlying5 Tryz.underlying9 (fun j hj => by
    simp only [List.length_singleton] at hj
    obtain rfl : j = 0 := by omega
    have := (Cells.new w [.int .u8 z] t).cell 0
    rw [Addr.add_lit]
    refine this.trans ?_
    simp only [List.getElem?_cons_zero, List.getElem_cons_zero, Option.some.injEq, Value.int.injEq, true_and]
    rw [hz, UInt8.toNat_ofNat']
    omega)
  exact this
set_option maxHeartbeats 2000000 in
theorem decN_ok (n : Nat) (hn : n ≤ 1000000000) (w : World) : Calls Tryz.prog 42 #[.int .i64 (n : Int)] w fun e w' => e = .returned (.string ⟨(decDigits n).toArray⟩) ∧ Below w.heap.size w w' := by
  have g0 : decide ((n : Int) < 0) = false := decide_eq_false (by omega)
  have g0' : ¬ (n : Int) < 0 := by omega
  go_enter Tryz.func42, Tryz.ntmps42
  go_wp2
  go_loopg [0, 3] 30 (fun gf v s wx => ∃ (m : Nat) (acc : ByteArray), v = .int .i64 (m : Int) ∧ s = .string acc ∧ m ≤ 1000000000 ∧ acc.size ≤ 30 ∧ Below w.heap.size w wx ∧ ((acc = ⟨#[]⟩ ∧ m = n ∧ gf = 30) ∨ (acc ≠ ⟨#[]⟩ ∧ decDigits n = (if m = 0 then [] else decDigits m) ++ acc.data.toList)) ∧ m < 10 ^ (gf - 2) ∧ 2 ≤ gf ∧ acc.size + gf ≤ 30)
  case atStart => exact ⟨n, ⟨#[]⟩, rfl, rfl, hn, by decide, Below.refl _ _, .inl ⟨rfl, rfl, rfl⟩, by omega, by omega, by decide⟩
  case round =>
    obtain ⟨m, acc, rfl, rfl, hm, hacc, hb, hinv, hpow, hg3, hsz⟩ := hrel
    obtain ⟨gk', rfl⟩ : ∃ g', gk = g' + 1 := ⟨gk - 1, by omega⟩
    have HB := Lib.hid hb
    have hw := hb.size
    clear hb
    by_cases hc : 0 < m ∨ acc = ⟨#[]⟩
    · have hq : decDigits n = (if m / 10 = 0 then [] else decDigits (m / 10)) ++ (UInt8.ofNat (48 + m % 10) :: acc.data.toList) := by
        rcases hinv with ⟨rfl, rfl, -⟩ | ⟨h1, h2⟩
        · by_cases h0 : m = 0
          · subst h0; rw [dec_zero]; rfl
          · exact dec_step (by rw [if_neg h0]; simp) h0
        · rcases hc with hc | hc
          · exact dec_step h2 (by omega)
          · exact absurd hc h1
      have hgk : 2 ≤ gk' ∧ m / 10 < 10 ^ (gk' - 2) := by
        rcases hinv with ⟨-, -, h3⟩ | ⟨h1, -⟩
        · obtain rfl : gk' = 29 := by omega
          refine ⟨by omega, ?_⟩
          have : m / 10 ≤ m := Nat.div_le_self _ _
          omega
        · rcases hc with hc | hc
          · rcases Nat.lt_or_ge gk' 2 with h | h
            · obtain rfl : gk' = 1 := by omega
              simp at hpow
              omega
            · refine ⟨h, ?_⟩
              have e : gk' + 1 - 2 = (gk' - 2) + 1 := by omega
              rw [e, Nat.pow_succ] at hpow
              omega
          · exact absurd hc h1
      have HQ := Lib.hid hq
      clear hq hinv hpow
      by_cases hm0 : 0 < m
      · have g1 : decide ((0 : Int) < (m : Int)) = true := decide_eq_true (by omega)
        have g1' : (0 : Int) < (m : Int) := by omega
        have hcv := conv_digit wr (m % 10) (by omega) (48 + (m : Int) % 10) (by omega) 5
        go_wp2
        go_roundg gk'
        case measure => omega
        case rel => exact ⟨m / 10, _, by go_num, rfl, by omega, dec_size _ _ (by omega), HB.out.alloc hw _, .inr ⟨dec_ne _ _, HQ.out.trans (by rw [dec_cons])⟩, hgk.2, hgk.1, by have := dec_sz (48 + UInt8.ofNat (m % 10)) acc; omega⟩
      · obtain rfl : m = 0 := by omega
        obtain rfl : acc = ⟨#[]⟩ := by
          rcases hc with hc | hc
          · omega
          · exact hc
        have hcv := conv_digit wr 0 (by omega) 48 (by omega) 5
        go_wp2
        go_roundg gk'
        case measure => omega
        case rel => exact ⟨0, _, rfl, rfl, by omega, by decide, HB.out.alloc hw _, .inr ⟨by decide, HQ.out⟩, hgk.2, hgk.1, by have := dec_sz 48 ⟨#[]⟩; omega⟩
    · obtain rfl : m = 0 := by omega
      have hne : acc ≠ ⟨#[]⟩ := fun e => hc (.inr e)
      have HQ := Lib.hid (show decDigits n = acc.data.toList by
        rcases hinv with ⟨h1, -⟩ | ⟨-, h2⟩
        · exact absurd h1 hne
        · simpa using h2)
      have g2 : acc.toList.isEmpty = false := by
        rw [ByteArray.toList_eq]
        cases hl : acc.data.toList with
        | nil => exact absurd (ba_list (b := ⟨#[]⟩) hl) hne
        | cons a b => rfl
      clear hinv
      go_wp2
      go_ret
      exact ⟨by rw [HQ.out]; rfl, HB.out⟩
set_option maxHeartbeats 2000000 in
theorem dec_ok' {n : Int} (h1 : -999999 ≤ n) (h2 : n ≤ 999999) (w : World) : Calls Tryz.prog 42 #[.int .i64 n] w fun e w' => e = .returned (.string ⟨(itoa n).toArray⟩) ∧ Below w.heap.size w w' := by
  by_cases h0 : 0 ≤ n
  · obtain ⟨k, rfl⟩ : ∃ k : Nat, n = (k : Int) := ⟨n.toNat, by omega⟩
    rw [itoa_nat]
    exact decN_ok k (by omega) w
  · obtain ⟨k, rfl⟩ : ∃ k : Nat, n = -(k : Int) := ⟨(-n).toNat, by omega⟩
    rw [itoa_minus (by omega)]
    have g0 : decide (-(k : Int) < 0) = true := decide_eq_true (by omega)
    have g0' : -(k : Int) < 0 := by omega
    have hw1 : IntKind.i64.wrap (- -(k : Int)) = (k : Int) := by
      rw [Int.neg_neg]
      exact IntWalk.i64_in _ (by omega)
    have HD := Lib.hid (fun w => decN_ok k (by omega) w)
    have hlen : (decDigits k).length ≤ 1000 := by
      have := itoa_nat k
      have := Lib.itoa_length_le (k : Int) (by omega) (by omega)
      rw [itoa_nat] at this
      omega
    generalize decDigits k = l at HD hlen ⊢
    go_enter Tryz.func42, Tryz.ntmps42
    go_wp2_with fail
    refine (HD.out _).mono ?_
    rintro _ w1 ⟨rfl, hb1⟩
    have HB1 := Lib.hid hb1
    clear hb1
    go_wp2
    go_ret
    exact ⟨rfl, HB1.out⟩

set_option maxHeartbeats 2000000 in
theorem argD_ok {a : Int × Int} {t : Bool} (h : argR a t = true) (w : World) : Calls Tryz.prog 43 #[.agg #[.int .i64 a.1, .int .i64 a.2]] w fun e w' => e = .returned (.string ⟨(argT a).toArray⟩) ∧ Below w.heap.size w w' := by
  obtain ⟨h1, h2, h3, h4⟩ := arg_bounds h
  obtain ⟨r, z⟩ := a
  simp only at h1 h2 h3 h4 ⊢
  clear h
  have hs := itoa_short h3 h4
  have hs0 := itoa_short (n := r) (by omega) (by omega)
  have HI := Lib.hid (fun (w : World) => dec_ok' (n := z) (by omega) (by omega) w)
  have HR := Lib.hid (fun (w : World) => dec_ok' (n := r) (by omega) (by omega) w)
  unfold argT
  simp only
  generalize Lib.itoa z = lz at hs HI ⊢
  generalize Lib.itoa r = lr at hs0 HR ⊢
  clear h2 h3 h4
  have HB0 := Lib.hid ((Below.refl w.heap.size w).alloc (Nat.le_refl _) (.cells #[.int .i64 r, .int .i64 z] 43))
  have HSZ := Lib.hid (show (w.alloc (.cells #[.int .i64 r, .int .i64 z] 43)).heap.size = w.heap.size + 1 by simp)
  by_cases hr : r = 0
  · subst hr
    rw [if_pos rfl]
    clear HR hs0
    go_enter Tryz.func43, Tryz.ntmps43
    go_wp2_with fail
    refine (HI.out _).mono ?_
    rintro e w' ⟨rfl, hb'⟩
    have HB' := Lib.hid (HB0.out.trans (hb'.mono HB0.out.size))
    clear hb'
    go_wp2
    go_ret
    exact ⟨rfl, HB'.out⟩
  · rw [if_neg hr]
    have g0 : (r == 0) = false := by simpa using hr
    have c0 : (w.alloc (.cells #[.int .i64 r, .int .i64 z] 43)).cell? ⟨w.heap.size, 1, none⟩ = some (.int .i64 z) := by simp
    have HC := Lib.hid c0
    have g5 : ¬ 9223372036854775807 < 1 + lr.length := by omega
    have g6 : ¬ 9223372036854775807 < 1 + lr.length + 1 := by omega
    have g6' : ¬ 9223372036854775807 < lr.length + 1 + 1 := by omega
    have g7 : ¬ 9223372036854775807 < lr.length + 1 + 1 + lz.length := by omega
    have g8 : ¬ 9223372036854775807 < lr.length + 1 + lz.length := by omega
    clear c0
    rcases (by omega : 0 < z ∨ z < 0 ∨ z = 0) with hz | hz | hz
    · rw [if_pos hz]
      have g1 : decide (0 < z) = true := decide_eq_true hz
      have g2 : decide (z < 0) = false := decide_eq_false (by omega)
      go_enter Tryz.func43, Tryz.ntmps43
      go_wp2_with fail
      refine (HR.out _).mono ?_
      rintro e w1 ⟨rfl, hb1⟩
      have HB1 := Lib.hid (HB0.out.trans (hb1.mono HB0.out.size))
      have q1 := (hb1.cell (p := ⟨w.heap.size, 1, none⟩) (by simp)).trans HC.out
      have HS1 := Lib.hid hb1.size
      clear hb1
      go_wp2_with fail
      refine (HI.out _).mono ?_
      rintro e w2 ⟨rfl, hb2⟩
      have q2 := (hb2.cell (p := ⟨w.heap.size, 1, none⟩) (by show w.heap.size < w1.heap.size; have := HS1.out; have := HSZ.out; omega)).trans q1
      have HB2 := Lib.hid (HB1.out.trans (hb2.mono HB1.out.size))
      clear hb2 q1
      go_wp2
      go_ret
      exact ⟨congrArg (fun x => Ending.returned (Value.string x)) (ba_list (by simp [ByteArray.data_append])), HB2.out⟩
    · rw [if_neg (by omega), if_pos hz]
      have g1 : decide (0 < z) = false := decide_eq_false (by omega)
      have g2 : decide (z < 0) = true := decide_eq_true hz
      go_enter Tryz.func43, Tryz.ntmps43
      go_wp2_with fail
      refine (HR.out _).mono ?_
      rintro e w1 ⟨rfl, hb1⟩
      have HB1 := Lib.hid (HB0.out.trans (hb1.mono HB0.out.size))
      have q1 := (hb1.cell (p := ⟨w.heap.size, 1, none⟩) (by simp)).trans HC.out
      have HS1 := Lib.hid hb1.size
      clear hb1
      go_wp2_with fail
      refine (HI.out _).mono ?_
      rintro e w2 ⟨rfl, hb2⟩
      have q2 := (hb2.cell (p := ⟨w.heap.size, 1, none⟩) (by show w.heap.size < w1.heap.size; have := HS1.out; have := HSZ.out; omega)).trans q1
      have HB2 := Lib.hid (HB1.out.trans (hb2.mono HB1.out.size))
      clear hb2 q1
      go_wp2
      go_ret
      exact ⟨congrArg (fun x => Ending.returned (Value.string x)) (ba_list (by simp [ByteArray.data_append])), HB2.out⟩
    · subst hz
      rw [if_neg (by omega), if_neg (by omega)]
      go_enter Tryz.func43, Tryz.ntmps43
      go_wp2_with fail
      refine (HR.out _).mono ?_
      rintro e w1 ⟨rfl, hb1⟩
      have HB1 := Lib.hid (HB0.out.trans (hb1.mono HB0.out.size))
      have q1 := (hb1.cell (p := ⟨w.heap.size, 1, none⟩) (by simp)).trans HC.out
      have HS1 := Lib.hid hb1.size
      clear hb1
      go_wp2
      go_ret
      exact ⟨congrArg (fun x => Ending.returned (Value.string x)) (ba_list (by simp [ByteArray.data_append])), HB1.out⟩
end Go.Proofs.YtikgbgminhgpdaaGreatDoor
