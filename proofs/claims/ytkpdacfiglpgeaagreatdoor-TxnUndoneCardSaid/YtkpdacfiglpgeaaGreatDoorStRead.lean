/- StRead: StPlain, StRead, StIn, StFew, StLines, StArg, Ends14. -/
import Derived.Test.YtkpdacfiglpgeaaGreatDoorHeap
import Derived.Test.YtkpdacfiglpgeaaGreatDoorErr
import Derived.Deep.AppendLies
import Derived.Lib.Hide
import Derived.Deep.LoopGhost
import Derived.Deep.RegionHeld3
import Derived.ProofKit
import Derived.OpenShut
import Derived.Deep.Slices
import Derived.Deep.Fields

/- Statements as plain data: which are right, how many there are. No program stands here. -/
namespace Go.Proofs.YtkpdacfiglpgeaaGreatDoor.Tx

def opens (k : Nat) : Bool := k == 11 || k == 12 || k == 13 || k == 14
/-- A statement without its blocks. -/
structure Sh where
  kind : Nat
  coll : Int
  reg : Int
  a : Int × Int
  b : Int × Int
inductive St where
  | mk (h : Sh) (body els : List St)
def hasReg (k : Nat) : Bool := k == 1 || k == 4 || k == 5 || k == 6 || k == 7 || k == 9 || k == 10
def hasA (k : Nat) : Bool := k == 1 || k == 2 || k == 3 || k == 4 || k == 6 || k == 7 || k == 9 || k == 10 || k == 11 || k == 12
def hasB (k : Nat) : Bool := k == 2 || k == 7 || k == 10 || k == 11
def hasColl (k : Nat) : Bool := decide (1 ≤ k) && decide (k ≤ 8)
def hasElse (k : Nat) : Bool := k == 11 || k == 14
def argR (a : Int × Int) (there : Bool) : Bool := if there = true then decide (0 ≤ a.1) && decide (a.1 ≤ 8) && decide (-999 ≤ a.2) && decide (a.2 ≤ 999) else decide (a.1 = 0) && decide (a.2 = 0)
def regR (s : Sh) : Bool := if hasReg s.kind = true then decide (1 ≤ s.reg) && decide (s.reg ≤ 8) else decide (s.reg = 0)
def loopR (s : Sh) : Bool := s.kind != 12 || (decide (s.a.1 = 0) && decide (0 ≤ s.a.2) && decide (s.a.2 ≤ 5))
def collK (ks : List Int) (s : Sh) : Bool := if hasColl s.kind = true then decide (0 ≤ s.coll) && decide (s.coll < (ks.length : Int)) else decide (s.coll = 0)
def ordK (ks : List Int) (s : Sh) : Bool := !(s.kind == 6 || s.kind == 7) || (ks.getD s.coll.toNat 0 == 3)
/-- Is a statement right, apart from those in it? -/
def oneK (ks : List Int) (s : Sh) (nb ne : Bool) : Bool :=
  decide (1 ≤ s.kind) && decide (s.kind ≤ 16) && collK ks s && ordK ks s && argR s.a (hasA s.kind) && argR s.b (hasB s.kind) && loopR s && regR s && (opens s.kind || nb) && (hasElse s.kind || ne)
/-! Weights. -/
def cut (d n : Nat) : Nat := if 30 < d then 1000 else min n 1000
mutual
def wtS : Nat → St → Nat
  | d, .mk _ b e => 1 + cut (d + 1) (wtSum (d + 1) b) + cut (d + 1) (wtSum (d + 1) e)
def wtSum : Nat → List St → Nat
  | _, [] => 0
  | d, s :: l => wtS d s + wtSum d l
end
/-- What weight answers. -/
def wtL (d : Nat) (l : List St) : Nat := cut d (wtSum d l)
theorem cut_le (d n : Nat) : cut d n ≤ 1000 := by
  unfold cut
  split <;> omega
theorem cut_few {d n k : Nat} (h : cut d n ≤ k) (hk : k < 1000) : cut d n = n := by
  unfold cut at h ⊢
  split at h
  · omega
  · rename_i hd
    rw [if_neg hd]
    omega
theorem wtSum_drop (d : Nat) : ∀ (l : List St) (k : Nat) (s : St), l[k]? = some s → wtSum d (l.drop k) = wtS d s + wtSum d (l.drop (k + 1))
  | [], k, s, h => by simp at h
  | x :: l, 0, s, h => by
    simp only [List.getElem?_cons_zero, Option.some.injEq] at h
    subst h
    simp [wtSum]
  | x :: l, k + 1, s, h => by
    simpa using wtSum_drop d l k s (by simpa using h)
theorem wtS_pos (d : Nat) (s : St) : 1 ≤ wtS d s := by
  cases s
  unfold wtS
  omega

/-! The document's going over. -/
mutual
def flatS : Nat → St → List (St × Nat)
  | d, .mk h b e => (.mk h b e, d) :: (flatL (d + 1) b ++ flatL (d + 1) e)
def flatL : Nat → List St → List (St × Nat)
  | _, [] => []
  | d, s :: l => flatS d s ++ flatL d l
end
theorem flatL_drop (d : Nat) : ∀ (l : List St) (k : Nat) (s : St), l[k]? = some s → flatL d (l.drop k) = flatS d s ++ flatL d (l.drop (k + 1))
  | [], k, s, h => by simp at h
  | x :: l, 0, s, h => by
    simp only [List.getElem?_cons_zero, Option.some.injEq] at h
    subst h
    simp [flatL]
  | x :: l, k + 1, s, h => by
    simpa using flatL_drop d l k s (by simpa using h)
/-- One of them, n gone over ahead. -/
def judge1 (ks : List Int) (x : St × Nat) (n : Nat) : Option (Int × Nat) :=
  match x with
  | (.mk h b e, d) => if 100 ≤ n then some (8, n + 1) else if 8 < d then some (10, n + 1) else if oneK ks h b.isEmpty e.isEmpty = false then some (9, n + 1) else none
def judge (ks : List Int) : List (St × Nat) → Nat → Option (Int × Nat)
  | [], _ => none
  | x :: l, n => match judge1 ks x n with
    | some y => some y
    | none => judge ks l (n + 1)
theorem judge_next {ks : List Int} {ls : List (St × Nat)} {k : Nat} {x : St × Nat} (hx : ls[k]? = some x) : judge ks (ls.drop k) k = match judge1 ks x k with
    | some y => some y
    | none => judge ks (ls.drop (k + 1)) (k + 1) := by
  obtain ⟨hl, e⟩ := List.getElem?_eq_some_iff.1 hx
  rw [List.drop_eq_getElem_cons hl, e]
  conv => lhs; unfold judge
/-- The document's answer. -/
def rightV (ks : List Int) (l : List St) : Int × Int := match judge ks (flatL 1 l) 0 with
  | some y => (y.1, (y.2 : Int))
  | none => (0, 0)
mutual
def cntS : St → Nat
  | .mk _ b e => 1 + cntL b + cntL e
def cntL : List St → Nat
  | [] => 0
  | s :: l => cntS s + cntL l
end
theorem len_empty (b : List St) : decide (b.length = 0) = b.isEmpty := by cases b <;> simp
theorem cnt_get : ∀ {l : List St} {k : Nat} {h : Sh} {b e : List St}, l[k]? = some (.mk h b e) → 1 + cntL b + cntL e ≤ cntL l
  | [], _, _, _, _, h => by simp at h
  | s :: l, k, h, b, e, hk => by
    rw [show cntL (s :: l) = cntS s + cntL l from by rw [cntL]]
    cases k with
    | zero =>
      simp only [List.getElem?_cons_zero, Option.some.injEq] at hk
      subst hk
      rw [show cntS (.mk h b e) = 1 + cntL b + cntL e from by rw [cntS]]
      omega
    | succ k =>
      have := cnt_get (l := l) (k := k) (by simpa using hk)
      omega
mutual
theorem one_cnt : ∀ (s : St), 1 ≤ cntS s
  | .mk h b e => by rw [show cntS (.mk h b e) = 1 + cntL b + cntL e from by rw [cntS]]; omega
theorem len_cnt : ∀ (l : List St), l.length ≤ cntL l
  | [] => Nat.zero_le _
  | s :: l => by
    rw [show cntL (s :: l) = cntS s + cntL l from by rw [cntL]]
    have := len_cnt l
    have := one_cnt s
    simp
    omega
end
theorem cnt_drop : ∀ (l : List St) (k : Nat) (h : Sh) (b e : List St), l[k]? = some (.mk h b e) → cntL (l.drop k) = 1 + cntL b + cntL e + cntL (l.drop (k + 1))
  | [], k, h, b, e, hk => by simp at hk
  | x :: l, 0, h, b, e, hk => by
    simp only [List.getElem?_cons_zero, Option.some.injEq] at hk
    subst hk
    simp [cntL, cntS]
  | x :: l, k + 1, h, b, e, hk => by simpa using cnt_drop l k h b e (by simpa using hk)
mutual
theorem flatS_len : ∀ (d : Nat) (s : St), (flatS d s).length = cntS s
  | d, .mk h b e => by
    unfold flatS cntS
    rw [List.length_cons, List.length_append, flatL_len, flatL_len]
    omega
theorem flatL_len : ∀ (d : Nat) (l : List St), (flatL d l).length = cntL l
  | d, [] => by
    unfold flatL cntL
    rfl
  | d, s :: l => by
    unfold flatL cntL
    rw [List.length_append, flatS_len, flatL_len]
end
mutual
theorem cnt_wtS : ∀ (s : St) (d : Nat), wtS d s ≤ 900 → cntS s ≤ wtS d s
  | .mk h b e, d, hw => by
    rw [show cntS (.mk h b e) = 1 + cntL b + cntL e from by rw [cntS]]
    rw [show wtS d (.mk h b e) = 1 + cut (d + 1) (wtSum (d + 1) b) + cut (d + 1) (wtSum (d + 1) e) from by rw [wtS]] at hw ⊢
    have e1 := cut_few (d := d + 1) (n := wtSum (d + 1) b) (k := 900) (by omega) (by omega)
    have e2 := cut_few (d := d + 1) (n := wtSum (d + 1) e) (k := 900) (by omega) (by omega)
    have h1 := cnt_wtSum b (d + 1) (by omega)
    have h2 := cnt_wtSum e (d + 1) (by omega)
    omega
theorem cnt_wtSum : ∀ (l : List St) (d : Nat), wtSum d l ≤ 900 → cntL l ≤ wtSum d l
  | [], d, _ => by
    rw [show cntL [] = 0 from by rw [cntL]]
    omega
  | s :: l, d, hw => by
    rw [show cntL (s :: l) = cntS s + cntL l from by rw [cntL]]
    rw [show wtSum d (s :: l) = wtS d s + wtSum d l from by rw [wtSum]] at hw ⊢
    have h1 := cnt_wtS s d (by omega)
    have h2 := cnt_wtSum l d (by omega)
    omega
end
theorem few_cnt {l : List St} (h : wtL 0 l ≤ 250) : cntL l ≤ 250 := by
  unfold wtL at h
  have e := cut_few h (by omega)
  have := cnt_wtSum l 0 (by omega)
  omega
/-! An abort, a retry or a loop. -/
mutual
def endsS : St → Bool
  | .mk h b e => h.kind == 15 || h.kind == 16 || h.kind == 12 || endsL b || endsL e
def endsL : List St → Bool
  | [] => false
  | s :: l => endsS s || endsL l
end
theorem ends_drop : ∀ (l : List St) (k : Nat) (s : St), l[k]? = some s → endsL (l.drop k) = (endsS s || endsL (l.drop (k + 1)))
  | [], k, s, h => by simp at h
  | x :: l, 0, s, h => by
    simp only [List.getElem?_cons_zero, Option.some.injEq] at h
    subst h
    simp [endsL]
  | x :: l, k + 1, s, h => by simpa using ends_drop l k s (by simpa using h)
/-! Statements over n cells: the keys of others are left out; keys modulo n. -/
def plainH (n : Int) (h : Sh) : Sh := if h.kind ≤ 2 then { h with coll := 0, a := (0, h.a.2 % 64 % n) } else h
mutual
def plainS (n : Int) : St → List St
  | .mk h b e => if 3 ≤ h.kind ∧ h.kind ≤ 8 then [] else [.mk (plainH n h) (plainL n b) (plainL n e)]
def plainL (n : Int) : List St → List St
  | [] => []
  | s :: l => plainS n s ++ plainL n l
end
theorem plain_app (n : Int) (l2 : List St) : ∀ l1 : List St, plainL n (l1 ++ l2) = plainL n l1 ++ plainL n l2
  | [] => by rw [show plainL n [] = [] from by rw [plainL]]; rfl
  | s :: l => by rw [List.cons_append, plainL, plainL, plain_app n l2 l, List.append_assoc]
theorem plain_take (n : Int) {l : List St} {k : Nat} {s : St} (hk : l[k]? = some s) : plainL n (l.take (k + 1)) = plainL n (l.take k) ++ plainS n s := by
  rw [List.take_add_one, hk, plain_app]
  simp [plainL]
theorem cnt_app : ∀ l1 l2 : List St, cntL (l1 ++ l2) = cntL l1 + cntL l2
  | [], l2 => by rw [show cntL [] = 0 from by rw [cntL]]; simp
  | s :: l, l2 => by rw [List.cons_append, cntL, cntL, cnt_app l l2]; omega
mutual
theorem cnt_plainS (n : Int) : ∀ s : St, cntL (plainS n s) ≤ cntS s
  | .mk h b e => by
    rw [show cntS (.mk h b e) = 1 + cntL b + cntL e from by rw [cntS]]
    unfold plainS
    split
    · rw [show cntL [] = 0 from by rw [cntL]]; omega
    · have := cnt_plainL n b
      have := cnt_plainL n e
      rw [cntL, cntS, show cntL [] = 0 from by rw [cntL]]
      omega
theorem cnt_plainL (n : Int) : ∀ l : List St, cntL (plainL n l) ≤ cntL l
  | [] => by rw [show plainL n [] = [] from by rw [plainL]]; exact Nat.le_refl _
  | s :: l => by
    rw [show plainL n (s :: l) = plainS n s ++ plainL n l from by rw [plainL], cnt_app, show cntL (s :: l) = cntS s + cntL l from by rw [cntL]]
    have := cnt_plainS n s
    have := cnt_plainL n l
    omega
end
end Go.Proofs.YtkpdacfiglpgeaaGreatDoor.Tx

/- Statements in memory that can be read; a row of them put behind another. -/
namespace Go.Proofs.YtkpdacfiglpgeaaGreatDoor
open Go.RowKit Tx
set_option maxRecDepth 10000

/-- A row of statements that can be read, in a block below B. -/
def RowR (B : Nat) (w : World) (v : Value) (n : Nat) (xs : List Value) : Prop :=
  ∃ pt cap, v = .slice pt n cap ∧ (n = 0 ∨ ∃ g off, pt = some ⟨g, off, none⟩ ∧ g < B ∧ g < w.heap.size ∧ ∀ j x, xs[j]? = some x → w.cell? ⟨g, off + j, none⟩ = some x)
/-- A statement's cells; z: its kind's number (a kind below 1 is none). -/
def stL (z : Int) (h : Sh) (bv ev : Value) : List Value := [.int .i64 z, .int .i64 h.coll, .int .i64 h.reg, .int .i64 h.a.1, .int .i64 h.a.2, .int .i64 h.b.1, .int .i64 h.b.2, bv, ev]
mutual
def StR (B : Nat) (w : World) : St → List Value → Prop
  | .mk h b e, c => ∃ z bv ev cb ce, z.toNat = h.kind ∧ c = stL z h bv ev ∧ StsR B w b cb ∧ RowR B w bv b.length cb.flatten ∧ StsR B w e ce ∧ RowR B w ev e.length ce.flatten
def StsR (B : Nat) (w : World) : List St → List (List Value) → Prop
  | [], cs => cs = []
  | s :: l, cs => ∃ c cs', cs = c :: cs' ∧ StR B w s c ∧ StsR B w l cs'
end
/-- A list of statements that can be read, in blocks below B. -/
def SlR (B : Nat) (w : World) (l : List St) (v : Value) : Prop := ∃ cs, StsR B w l cs ∧ RowR B w v l.length cs.flatten
theorem RowR.kept {S : Nat → Prop} {B B' : Nat} {w w' : World} {v : Value} {n : Nat} {xs : List Value} (h : RowR B w v n xs) (k : Kept S w w') (hs : ∀ b, b < B → b < w.heap.size → ¬ S b ∧ b < B') : RowR B' w' v n xs := by
  obtain ⟨pt, cap, rfl, h⟩ := h
  refine ⟨pt, cap, rfl, ?_⟩
  rcases h with h | ⟨g, off, rfl, h1, h2, h3⟩
  · exact .inl h
  · exact .inr ⟨g, off, rfl, (hs g h1 h2).2, Nat.lt_of_lt_of_le h2 k.size, fun j x hx => (World.cell?_of_block (w := w) (k.block g h2 (hs g h1 h2).1)).trans (h3 j x hx)⟩
mutual
theorem StR.kept {S : Nat → Prop} {B B' : Nat} {w w' : World} (k : Kept S w w') (hs : ∀ b, b < B → b < w.heap.size → ¬ S b ∧ b < B') : ∀ (s : St) (c : List Value), StR B w s c → StR B' w' s c
  | .mk h b e, c, hc => by
    unfold StR at hc ⊢
    obtain ⟨z, bv, ev, cb, ce, h0, h1, h2, h3, h4, h5⟩ := hc
    exact ⟨z, bv, ev, cb, ce, h0, h1, StsR.kept k hs b cb h2, h3.kept k hs, StsR.kept k hs e ce h4, h5.kept k hs⟩
theorem StsR.kept {S : Nat → Prop} {B B' : Nat} {w w' : World} (k : Kept S w w') (hs : ∀ b, b < B → b < w.heap.size → ¬ S b ∧ b < B') : ∀ (l : List St) (cs : List (List Value)), StsR B w l cs → StsR B' w' l cs
  | [], cs, hc => by unfold StsR at hc ⊢; exact hc
  | s :: l, cs, hc => by
    unfold StsR at hc ⊢
    obtain ⟨c, cs', h1, h2, h3⟩ := hc
    exact ⟨c, cs', h1, StR.kept k hs s c h2, StsR.kept k hs l cs' h3⟩
end
theorem SlR.kept {S : Nat → Prop} {B B' : Nat} {w w' : World} {l : List St} {v : Value} (h : SlR B w l v) (k : Kept S w w') (hs : ∀ b, b < B → b < w.heap.size → ¬ S b ∧ b < B') : SlR B' w' l v := by
  obtain ⟨cs, h1, h2⟩ := h
  exact ⟨cs, StsR.kept k hs l cs h1, h2.kept k hs⟩
theorem SlR.below {B C : Nat} {w w' : World} {l : List St} {v : Value} (h : SlR B w l v) (k : Below C w w') (hB : B ≤ C) : SlR B w' l v :=
  h.kept (Kept.of_below k) (fun b h1 _ => ⟨by omega, h1⟩)
theorem StR.len {B : Nat} {w : World} {s : St} {c : List Value} (h : StR B w s c) : c.length = 9 := by
  cases s with
  | mk h0 b e =>
    unfold StR at h
    obtain ⟨z, bv, ev, cb, ce, _, rfl, _⟩ := h
    rfl
theorem StsR.get {B : Nat} {w : World} : ∀ {l : List St} {cs : List (List Value)} {i : Nat} {s : St}, StsR B w l cs → l[i]? = some s → ∃ c, StR B w s c ∧ ∀ j, j < 9 → cs.flatten[9 * i + j]? = c[j]?
  | [], _, i, _, _, hi => by simp at hi
  | s0 :: l, cs, i, s, h, hi => by
    unfold StsR at h
    obtain ⟨c, cs', rfl, h1, h2⟩ := h
    cases i with
    | zero =>
      simp only [List.getElem?_cons_zero, Option.some.injEq] at hi
      subst hi
      refine ⟨c, h1, fun j hj => ?_⟩
      rw [List.flatten_cons, Nat.mul_zero, Nat.zero_add, List.getElem?_append_left (by rw [h1.len]; exact hj)]
    | succ i =>
      obtain ⟨c', q1, q2⟩ := StsR.get h2 (i := i) (s := s) (by simpa using hi)
      refine ⟨c', q1, fun j hj => ?_⟩
      rw [List.flatten_cons, List.getElem?_append_right (by rw [h1.len]; omega), h1.len, show 9 * (i + 1) + j - 9 = 9 * i + j by omega]
      exact q2 j hj
/-- The i-th statement of a list that can be read. -/
theorem SlR.get {B : Nat} {w : World} {l : List St} {v : Value} {i : Nat} {h : Sh} {b e : List St} (hl : SlR B w l v) (hi : l[i]? = some (.mk h b e)) :
    ∃ g off cap z bv ev, v = .slice (some ⟨g, off, none⟩) l.length cap ∧ g < B ∧ g < w.heap.size ∧ z.toNat = h.kind ∧ (∀ j x, (stL z h bv ev)[j]? = some x → w.cell? ⟨g, off + i * 9 + j, none⟩ = some x) ∧ SlR B w b bv ∧ SlR B w e ev := by
  obtain ⟨cs, h1, pt, cap, rfl, h2⟩ := hl
  have hlt : i < l.length := (List.getElem?_eq_some_iff.1 hi).1
  rcases h2 with h2 | ⟨g, off, rfl, h3, h4, h5⟩
  · omega
  · obtain ⟨c, hc, hq⟩ := h1.get hi
    unfold StR at hc
    obtain ⟨z, bv, ev, cb, ce, k0, rfl, k2, k3, k4, k5⟩ := hc
    refine ⟨g, off, cap, z, bv, ev, rfl, h3, h4, k0, fun j x hx => ?_, ⟨cb, k2, k3⟩, ⟨ce, k4, k5⟩⟩
    have hj : j < 9 := (List.getElem?_eq_some_iff.1 hx).1
    have := h5 (9 * i + j) x ((hq j hj).trans hx)
    rw [← Nat.add_assoc, Nat.mul_comm 9 i] at this
    exact this
theorem SlR.shape {B : Nat} {w : World} {l : List St} {v : Value} (hl : SlR B w l v) : ∃ pt cap, v = .slice pt l.length cap := by
  obtain ⟨cs, h1, pt, cap, rfl, h2⟩ := hl
  exact ⟨pt, cap, rfl⟩
theorem SlR.nil (B : Nat) (w : World) : SlR B w [] (.slice none 0 0) := ⟨[], by unfold StsR; rfl, none, 0, rfl, .inl rfl⟩
theorem row_kept {S : Nat → Prop} {w w' : World} {B B' : Nat} {e : TypeId} {size : Nat} {v : Value} {n : Nat} {xs : List Value} (h : w.ownsRow B e size v n xs) (hB : B' ≤ B) (k : Kept S w w') (hs : ∀ b, v.ownBlock = some b → b < w.heap.size → ¬ S b) : w'.ownsRow B' e size v n xs := by
  refine ⟨h.1, ?_⟩
  rcases h.2 with hn | ⟨g, cap, cur, rfl, h1, h2, h3⟩
  · exact Or.inl hn
  · exact Or.inr ⟨g, cap, cur, rfl, Nat.le_trans hB h1, (k.block g (lt_of_block h2) (hs g rfl (lt_of_block h2))).trans h2, h3⟩
theorem stmtInfo : (Tryz.prog.info? 50).map (fun i => (i.zero, i.size, i.bytes)) = some (some (.agg #[.int .i64 0, .int .i64 0, .int .i64 0, .int .i64 0, .int .i64 0, .int .i64 0, .int .i64 0, .slice none 0 0, .slice none 0 0]), 9, 104) := by kernel_rfl
theorem nine_cells {w : World} {b : Nat} {t : TypeId} {x0 x1 x2 x3 x4 x5 x6 x7 x8 : Value} (h : Cells w b [x0, x1, x2, x3, x4, x5, x6, x7, x8] t) :
    (w.cell? ⟨b, 0, none⟩ = some x0 ∧ w.cell? ⟨b, 1, none⟩ = some x1 ∧ w.cell? ⟨b, 2, none⟩ = some x2 ∧ w.cell? ⟨b, 3, none⟩ = some x3 ∧ w.cell? ⟨b, 4, none⟩ = some x4 ∧ w.cell? ⟨b, 5, none⟩ = some x5 ∧ w.cell? ⟨b, 6, none⟩ = some x6 ∧ w.cell? ⟨b, 7, none⟩ = some x7 ∧ w.cell? ⟨b, 8, none⟩ = some x8) ∧
    (w.frozen? ⟨b, 0, none⟩ = false ∧ w.frozen? ⟨b, 1, none⟩ = false ∧ w.frozen? ⟨b, 2, none⟩ = false ∧ w.frozen? ⟨b, 3, none⟩ = false ∧ w.frozen? ⟨b, 4, none⟩ = false ∧ w.frozen? ⟨b, 5, none⟩ = false ∧ w.frozen? ⟨b, 6, none⟩ = false ∧ w.frozen? ⟨b, 7, none⟩ = false ∧ w.frozen? ⟨b, 8, none⟩ = false) :=
  ⟨⟨h.cell 0, h.cell 1, h.cell 2, h.cell 3, h.cell 4, h.cell 5, h.cell 6, h.cell 7, h.cell 8⟩, h.free 0, h.free 1, h.free 2, h.free 3, h.free 4, h.free 5, h.free 6, h.free 7, h.free 8⟩
def stV (z : Int) (h : Sh) (bv ev : Value) : Value := .agg #[.int .i64 z, .int .i64 h.coll, .int .i64 h.reg, .int .i64 h.a.1, .int .i64 h.a.2, .int .i64 h.b.1, .int .i64 h.b.2, bv, ev]
theorem Cells.below {w w' : World} {b : Nat} {xs : List Value} {t : TypeId} (h : Cells w b xs t) (k : Below w.heap.size w w') : Cells w' b xs t := h.kept (Kept.of_below k) (fun q => by have := h.lt; omega)
theorem row_read {B' : Nat} {w : World} {v : Value} {n : Nat} {xs : List Value} (h1 : w.ownsRow B' 50 9 v n xs) : RowR w.heap.size w v n xs := by
  have hl := h1.lt
  rcases h1.2 with ⟨rfl, rfl⟩ | ⟨g, cap, cur, rfl, q1, q2, q3, q4, q5, q6⟩
  · exact ⟨_, _, rfl, .inl rfl⟩
  · refine ⟨_, _, rfl, .inr ⟨g, 0, rfl, (hl g rfl).2, (hl g rfl).2, fun j x hx => ?_⟩⟩
    rw [← q6, List.getElem?_take] at hx
    split at hx
    · rw [Nat.zero_add]
      simp only [World.cell?, q2]
      simpa using hx
    · cases hx
theorem StsR.app {B : Nat} {w : World} : ∀ {l1 l2 : List St} {c1 c2 : List (List Value)}, StsR B w l1 c1 → StsR B w l2 c2 → StsR B w (l1 ++ l2) (c1 ++ c2)
  | [], l2, c1, c2, h1, h2 => by
    unfold StsR at h1
    subst h1
    simpa using h2
  | s :: l1, l2, c1, c2, h1, h2 => by
    unfold StsR at h1
    obtain ⟨c, cs', rfl, q1, q2⟩ := h1
    rw [List.cons_append, List.cons_append]
    unfold StsR
    exact ⟨c, cs' ++ c2, rfl, q1, StsR.app q2 h2⟩
theorem SlR.of_row {B B' : Nat} {w : World} {l : List St} {cs : List (List Value)} {v : Value} (h : StsR B w l cs) (hr : w.ownsRow B' 50 9 v l.length cs.flatten) : SlR w.heap.size w l v :=
  ⟨cs, StsR.kept (Kept.refl (fun _ => False) w) (fun _ _ h2 => ⟨id, h2⟩) l cs h, row_read hr⟩
/-- A guarded operation that is wanted. -/
theorem wpList_want {P : Program} {ops : Array Oper} {Q : Exit → Act → World → Prop} {a : Act} {w : World} {o : Oper} {rest : List Oper} (hw : Region.wanted o (yielded ops a.tmps) = true) (h : o.wp P a w (wpList P ops Q rest) Q) : wpList P ops Q (o :: rest) a w := by
  unfold wpList
  rw [if_pos hw]
  exact .inl h
theorem StsR.one {B : Nat} {w : World} : ∀ {l : List St} {cs : List (List Value)}, StsR B w l cs → cs.flatten.length = l.length * 9 ∧ ∀ u ∈ cs.flatten, u.oneCell' = true
  | [], cs, h => by
    unfold StsR at h
    subst h
    exact ⟨rfl, fun u hu => by cases hu⟩
  | s :: l, cs, h => by
    unfold StsR at h
    obtain ⟨c, cs', rfl, q1, q2⟩ := h
    obtain ⟨i1, i2⟩ := StsR.one q2
    have hl := q1.len
    refine ⟨by simp [hl, i1]; omega, fun u hu => ?_⟩
    rw [List.flatten_cons] at hu
    rcases List.mem_append.1 hu with hu | hu
    · cases s with
      | mk h b e =>
        unfold StR at q1
        obtain ⟨z, bv, ev, cb, ce, -, rfl, -, ⟨p1, c1, rfl, -⟩, -, ⟨p2, c2, rfl, -⟩⟩ := q1
        simp only [stL, List.mem_cons, List.not_mem_nil, or_false] at hu
        rcases hu with rfl | rfl | rfl | rfl | rfl | rfl | rfl | rfl | rfl <;> rfl
    · exact i2 u hu
/-- A row of statements, put behind a row of the call's own. -/
theorem wp_append_sts {w : World} {o : Oper} {a : Act} {K : Act → World → Prop} {Q : Exit → Act → World → Prop} (s x : Operand)
    (ho : o.op = .call { callee := .builtin .append, args := #[s, x], argTypes := #[42, 42] }) {base : Nat} {v : Value} {n : Nat} {xs : List Value} (hs : a.eval s = v) (hown : w.ownsRow base 50 9 v n xs)
    {B : Nat} {l : List St} {cs : List (List Value)} {y : Value} (hx : a.eval x = y) (hl : StsR B w l cs) (hr : RowR B w y l.length cs.flatten) (hn : n + l.length ≤ 1000000) (hbase : base ≤ w.heap.size)
    (h : ∀ v' w', w'.ownsRow base 50 9 v' (n + l.length) (xs ++ cs.flatten) → w.grownBy w' v.ownBlock → (v'.ownBlock = v.ownBlock ∨ v'.ownBlock = some w.heap.size) → (∃ p c, v' = .slice p (n + l.length) c) → K (a.put o.dst v') w') : o.wp Tryz.prog a w K Q := by
  obtain ⟨i0, hi0, hi1⟩ := Option.map_eq_some_iff.1 stmtInfo
  simp only [Prod.mk.injEq] at hi1
  obtain ⟨hz0, hz1, hz2⟩ := hi1
  obtain ⟨pt, cap, rfl, hr⟩ := hr
  obtain ⟨hlen, hone⟩ := hl.one
  cases l with
  | nil =>
    unfold StsR at hl
    subst hl
    have hrun : (Builtin.append_ #[42, 42] o.type #[v, .slice pt 0 cap]).run Tryz.prog w = .ok v w := by
      rcases hown.2 with ⟨rfl, rfl⟩ | ⟨g, c2, cur, rfl, -, -, hle, -⟩
      · cases pt <;> simp [Builtin.append_, run_underlying Tryz.underlying42, sizeOf, typeInfo, hi0, Builtin.lenOf, Builtin.firstCells, loadCells, loadCellsFrom]
      · cases pt <;> simp [Builtin.append_, run_underlying Tryz.underlying42, sizeOf, typeInfo, hi0, Builtin.lenOf, Builtin.firstCells, loadCells, loadCellsFrom, storeCells, hle]
    unfold Oper.wp execOp
    simp only [ho, resolve, invoke, builtin, Sem.run_bind, Sem.run_pure, Result.andThen_ok, List.map_toArray, List.map_cons, List.map_nil, hs, hx, List.length_nil, hrun]
    refine h v w (by simpa using hown) ⟨rfl, rfl, rfl, Nat.le_refl _, fun _ _ _ => rfl⟩ (.inl rfl) ?_
    rcases hown.2 with ⟨rfl, rfl⟩ | ⟨g, c2, cur, rfl, -⟩
    · exact ⟨_, _, rfl⟩
    · exact ⟨_, _, rfl⟩
  | cons s0 l0 =>
    rcases hr with hr | ⟨g, off, rfl, hg1, hg2, hcell⟩
    · cases hr
    · refine wp_append_lies w s x 42 ho base 50 i0 _ 9 104 Tryz.underlying42 hi0 hz0 hz1 hz2 rfl (by omega) v n xs hs hown ⟨g, off, none⟩ (s0 :: l0).length cap cs.flatten hx hlen (fun j u hu => ?_) hone (by simp) (by unfold maxLen; omega) (by omega) hbase w.heap.size rfl ?_
      · have := hcell j u hu
        rwa [show (⟨g, off, none⟩ : Addr).add j = ⟨g, off + j, none⟩ by unfold Addr.add; split <;> simp_all]
      · intro g' cap' w' h1 h2 h3 h4
        refine h _ w' h1 h2 ?_ ⟨_, _, rfl⟩
        rcases h3 with h3 | h3
        · exact .inl h3.symm
        · exact .inr (by rw [h3]; rfl)
end Go.Proofs.YtkpdacfiglpgeaaGreatDoor

/- Layer 9: the document's small functions: in, arg. -/
namespace Go.Proofs.YtkpdacfiglpgeaaGreatDoor
open Go.RowKit Tx
set_option maxRecDepth 10000

set_option maxHeartbeats 2000000 in
theorem in_ok (n : Int) (xs : List Int) {g cap : Nat} {w : World} (hx : xs.length ≤ 1000) (hc : ∀ (j : Nat) x, xs[j]? = some x → w.cell? ⟨g, j, none⟩ = some (.int .i64 x)) :
    Calls Tryz.prog 64 #[.int .i64 n, .slice (some ⟨g, 0, none⟩) xs.length cap] w fun e w' => e = .returned (.bool (xs.contains n)) ∧ w = w' := by
  have HC := Lib.hid hc
  clear hc
  go_enter Tryz.func64, Tryz.ntmps64
  go_wp2
  go_loopg [5] (xs.length + 1) (fun gf i wx => ∃ (k : Nat), i = .int .i64 (k : Int) ∧ k ≤ xs.length ∧ w = wx ∧ (xs.take k).contains n = false ∧ xs.length + 1 ≤ k + gf)
  case atStart => exact ⟨0, rfl, Nat.zero_le _, rfl, rfl, by omega⟩
  case round =>
    obtain ⟨k, rfl, hk, rfl, hno, hfu⟩ := hrel
    obtain ⟨gk', rfl⟩ : ∃ g', gk = g' + 1 := ⟨gk - 1, by omega⟩
    by_cases hlt : k < xs.length
    · obtain ⟨x, hx'⟩ : ∃ x, xs[k]? = some x := ⟨_, List.getElem?_eq_getElem hlt⟩
      have g1 : decide ((k : Int) < (xs.length : Int)) = true := decide_eq_true (by omega)
      have g1' : (k : Int) < (xs.length : Int) := by omega
      have cc := HC.out k x hx'
      have hsplit : xs = xs.take k ++ x :: xs.drop (k + 1) := by
        obtain ⟨hl, e⟩ := List.getElem?_eq_some_iff.1 hx'
        rw [← e, ← List.drop_eq_getElem_cons hl, List.take_append_drop]
      by_cases he : x = n
      · have g2 : (x == n) = true := by simpa using he
        have HR := Lib.hid (show xs.contains n = true by rw [hsplit]; simp [he])
        clear hno hsplit hx' he
        go_wp2
        go_ret
        exact ⟨by rw [HR.out]; rfl, rfl⟩
      · have g2 : (x == n) = false := by simpa using he
        have HR := Lib.hid (show (xs.take (k + 1)).contains n = false by
          rw [List.take_add_one, hx']
          simp only [Option.toList_some, List.contains_append, hno, Bool.false_or]
          simp [Ne.symm he])
        clear hno hsplit hx' he
        go_wp2
        go_roundg gk'
        case measure => omega
        case rel => exact ⟨k + 1, by go_num, hlt, rfl, HR.out, by omega⟩
    · obtain rfl : k = xs.length := by omega
      have g1 : decide ((xs.length : Int) < (xs.length : Int)) = false := decide_eq_false (by omega)
      have HR := Lib.hid (show xs.contains n = false by rw [List.take_length] at hno; exact hno)
      clear hno
      go_wp2
      go_ret
      exact ⟨by rw [HR.out]; rfl, rfl⟩
set_option maxHeartbeats 2000000 in
theorem argd_ok (a : Int × Int) (t : Bool) (w : World) : Calls Tryz.prog 65 #[.agg #[.int .i64 a.1, .int .i64 a.2], .bool t] w fun e w' => e = .returned (.bool (argR a t)) ∧ Below w.heap.size w w' := by
  obtain ⟨r, n⟩ := a
  cases t with
  | false =>
    by_cases hr : r = 0
    · by_cases hn : n = 0
      · subst hr hn
        go_enter Tryz.func65, Tryz.ntmps65
        go_wp2
        go_ret
        exact ⟨rfl, (Below.refl _ _).alloc (Nat.le_refl _) _⟩
      · subst hr
        have g : (n == 0) = false := by simpa using hn
        have he : argR ((0 : Int), n) false = false := by simp [argR, hn]
        rw [he]
        go_enter Tryz.func65, Tryz.ntmps65
        go_wp2
        go_ret
        exact ⟨rfl, (Below.refl _ _).alloc (Nat.le_refl _) _⟩
    · have g : (r == 0) = false := by simpa using hr
      have he : argR (r, n) false = false := by simp [argR, hr]
      rw [he]
      go_enter Tryz.func65, Tryz.ntmps65
      go_wp2
      go_ret
      exact ⟨rfl, (Below.refl _ _).alloc (Nat.le_refl _) _⟩
  | true =>
    by_cases h1 : 0 ≤ r
    · by_cases h2 : r ≤ 8
      · by_cases h3 : -999 ≤ n
        · by_cases h4 : n ≤ 999
          · have he : argR (r, n) true = true := by simp [argR, h1, h2, h3, h4]
            rw [he]
            go_enter Tryz.func65, Tryz.ntmps65
            go_wp2
            go_ret
            exact ⟨rfl, (Below.refl _ _).alloc (Nat.le_refl _) _⟩
          · have he : argR (r, n) true = false := by simp [argR, h4]
            rw [he]
            go_enter Tryz.func65, Tryz.ntmps65
            go_wp2
            go_ret
            exact ⟨rfl, (Below.refl _ _).alloc (Nat.le_refl _) _⟩
        · have he : argR (r, n) true = false := by simp [argR, h3]
          rw [he]
          go_enter Tryz.func65, Tryz.ntmps65
          go_wp2
          go_ret
          exact ⟨rfl, (Below.refl _ _).alloc (Nat.le_refl _) _⟩
      · have he : argR (r, n) true = false := by simp [argR, h2]
        rw [he]
        go_enter Tryz.func65, Tryz.ntmps65
        go_wp2
        go_ret
        exact ⟨rfl, (Below.refl _ _).alloc (Nat.le_refl _) _⟩
    · have he : argR (r, n) true = false := by simp [argR, h1]
      rw [he]
      go_enter Tryz.func65, Tryz.ntmps65
      go_wp2
      go_ret
      exact ⟨rfl, (Below.refl _ _).alloc (Nat.le_refl _) _⟩
end Go.Proofs.YtkpdacfiglpgeaaGreatDoor

/- Layers 9, 10: how many statements there are: the laws' weight. -/
namespace Go.Proofs.YtkpdacfiglpgeaaGreatDoor
open Go.RowKit Tx
set_option maxRecDepth 10000

def WtPost (w0 : World) (n : Nat) (e : Ending) (w' : World) : Prop := e = .returned (.int .i64 (n : Int)) ∧ Below w0.heap.size w0 w'
theorem weight_deep {v : Value} {d : Nat} (w : World) (h : 30 < d) (h2 : d ≤ 1000) : Calls Tryz.prog 36 #[v, .int .i64 (d : Int)] w (WtPost w 1000) := by
  have g1 : decide ((30 : Int) < (d : Int)) = true := decide_eq_true (by omega)
  have g1' : (30 : Int) < (d : Int) := by omega
  go_enter Tryz.func36, Tryz.ntmps36
  go_wp2
  go_ret
  exact ⟨rfl, Below.refl _ _⟩
set_option maxHeartbeats 4000000 in
theorem weight_ok (B : Nat) : ∀ (N : Nat) (l : List St) (v : Value) (d : Nat) (w : World), d + N = 32 → SlR B w l v → B ≤ w.heap.size → Calls Tryz.prog 36 #[v, .int .i64 (d : Int)] w (WtPost w (wtL d l))
  | 0, l, v, d, w, hd, _, _ => by
    have : wtL d l = 1000 := by unfold wtL cut; rw [if_pos (by omega)]
    rw [this]
    exact weight_deep w (by omega) (by omega)
  | N + 1, l, v, d, w, hd, hl, hB => by
    by_cases hd30 : 30 < d
    · have : wtL d l = 1000 := by unfold wtL cut; rw [if_pos hd30]
      rw [this]
      exact weight_deep w hd30 (by omega)
    have HW := Lib.hid (show wtL d l = min (wtSum d l) 1000 by unfold wtL cut; rw [if_neg hd30])
    have g0 : decide ((30 : Int) < (d : Int)) = false := decide_eq_false (by omega)
    have g0' : ¬ (30 : Int) < (d : Int) := by omega
    have hwd : IntKind.i64.wrap ((d : Int) + 1) = (d : Int) + 1 := IntWalk.i64_in _ (by omega)
    have IH := Lib.hid (fun (l : List St) (v : Value) (w : World) (hl : SlR B w l v) (hB : B ≤ w.heap.size) => (show Calls Tryz.prog 36 #[v, .int .i64 ((d : Int) + 1)] w (WtPost w (wtL (d + 1) l)) by
      have := weight_ok B N l v (d + 1) w (by omega) hl hB
      rwa [show ((d + 1 : Nat) : Int) = (d : Int) + 1 by omega] at this))
    obtain ⟨pt, cp, rfl⟩ := hl.shape
    have HL := Lib.hid hl
    clear hl
    go_enter Tryz.func36, Tryz.ntmps36
    go_wp2
    go_loopg [5, 6] 1002 (fun gf n i wx => ∃ (k m : Nat), n = .int .i64 (m : Int) ∧ i = .int .i64 (k : Int) ∧ k ≤ l.length ∧ k ≤ m ∧ m ≤ 3001 ∧ Below w.heap.size w wx ∧ wtSum d l = m + wtSum d (l.drop k) ∧ 1002 ≤ k + gf)
    case atStart => exact ⟨0, 0, rfl, rfl, Nat.zero_le _, Nat.le_refl _, by omega, Below.refl _ _, by simp, by omega⟩
    case round =>
      obtain ⟨k, m, rfl, rfl, hk, hkm, hm, hb, hsum, hfu⟩ := hrel
      have HB := Lib.hid hb
      have hbs := hb.size
      by_cases hlt : k < l.length ∧ m < 1000
      · obtain ⟨hlt, hm1⟩ := hlt
        obtain ⟨gk', rfl⟩ : ∃ g', gk = g' + 1 := ⟨gk - 1, by omega⟩
        obtain ⟨⟨h, b, e⟩, hs⟩ : ∃ s, l[k]? = some s := ⟨_, List.getElem?_eq_getElem hlt⟩
        have hlr := HL.out.below hb hB
        obtain ⟨g, off, cp', z, bv, ev, hv, hgB, hgl, hz, hcell, hbb, hee⟩ := hlr.get hs
        simp only [Value.slice.injEq] at hv
        obtain ⟨rfl, -, rfl⟩ := hv
        obtain ⟨bp, bc, rfl⟩ := hbb.shape
        obtain ⟨ep, ec, rfl⟩ := hee.shape
        have g1 : decide ((k : Int) < (l.length : Int)) = true := decide_eq_true (by omega)
        have g1' : (k : Int) < (l.length : Int) := by omega
        have g2 : decide ((m : Int) < 1000) = true := decide_eq_true (by omega)
        have g2' : (m : Int) < 1000 := by omega
        have y7 : wr.cell? ⟨g, off + k * 9 + 7, none⟩ = some (.slice bp b.length bc) := hcell 7 _ rfl
        have y8 : wr.cell? ⟨g, off + k * 9 + 8, none⟩ = some (.slice ep e.length ec) := hcell 8 _ rfl
        have HEE := Lib.hid hee
        have HC1 := Lib.hid (IH.out b _ (wr.drewN 1) (hbb.kept ((Kept.refl (fun _ => False) wr).drewN 1) (fun _ q _ => ⟨id, q⟩)) (Nat.le_trans hB hbs))
        have hx1 := cut_le (d + 1) (wtSum (d + 1) b)
        have hx2 := cut_le (d + 1) (wtSum (d + 1) e)
        have hnext : wtSum d l = (m + 1 + wtL (d + 1) b + wtL (d + 1) e) + wtSum d (l.drop (k + 1)) := by
          rw [hsum, wtSum_drop d l k _ hs]
          unfold wtS wtL
          omega
        have HN := Lib.hid hnext
        change wtL (d + 1) b ≤ 1000 at hx1
        change wtL (d + 1) e ≤ 1000 at hx2
        have hbwr := hB
        obtain ⟨x1, hX1⟩ : ∃ x, wtL (d + 1) b = x := ⟨_, rfl⟩
        obtain ⟨x2, hX2⟩ : ∃ x, wtL (d + 1) e = x := ⟨_, rfl⟩
        rw [hX1] at hx1 HC1 HN hnext
        rw [hX2] at hx2 HN hnext
        have HX2 := Lib.hid hX2
        have hw1 : IntKind.i64.wrap ((m : Int) + 1) = (m : Int) + 1 := IntWalk.i64_in _ (by omega)
        have hw2 : IntKind.i64.wrap ((m : Int) + 1 + (x1 : Int)) = (m : Int) + 1 + (x1 : Int) := IntWalk.i64_in _ (by omega)
        have hw3 : IntKind.i64.wrap ((m : Int) + 1 + (x1 : Int) + (x2 : Int)) = (m : Int) + 1 + (x1 : Int) + (x2 : Int) := IntWalk.i64_in _ (by omega)
        clear hcell hlr hbb hee hsum hnext hs hb hX1 hX2
        go_wp2_with fail
        go_region_held3 (fun w' => w'.cell? ⟨g, off + k * 9 + 7, none⟩ = some (.slice bp b.length bc) ∧ w'.cell? ⟨g, off + k * 9 + 8, none⟩ = some (.slice ep e.length ec))
          (first | with_reducible exact ⟨y7, y8⟩ | with_reducible exact ⟨q7, q8⟩ | with_reducible exact ⟨r7, r8⟩ | go_keep)
          (first | (go_at_call 36; refine HC2.out.mono ?_; rintro e2 w2 ⟨rfl, hb2⟩; (have r7 := (hb2.cell (p := ⟨g, off + k * 9 + 7, none⟩) (Nat.lt_of_lt_of_le hgl hs1)).trans q7; have r8 := (hb2.cell (p := ⟨g, off + k * 9 + 8, none⟩) (Nat.lt_of_lt_of_le hgl hs1)).trans q8; have HB2 := Lib.hid (HB1.out.trans (hb2.mono HB1.out.size)); clear hb2)) | (go_at_call 36; refine HC1.out.mono ?_; rintro e1 w1 ⟨rfl, hb1⟩; (have hb1' : Below wr.heap.size wr w1 := ⟨hb1.os, hb1.tape, hb1.output, hb1.size, hb1.block⟩; have q7 := (hb1'.cell (p := ⟨g, off + k * 9 + 7, none⟩) hgl).trans y7; have q8 := (hb1'.cell (p := ⟨g, off + k * 9 + 8, none⟩) hgl).trans y8); (have HC2 := Lib.hid (IH.out e _ w1 (HEE.out.below hb1' (Nat.le_trans hB hbs)) (Nat.le_trans hB (Nat.le_trans hbs hb1'.size))); have HB1 := Lib.hid (show Below w.heap.size w w1 from HB.out.trans (hb1'.mono hbs)); have hs1 : wr.heap.size ≤ w1.heap.size := hb1'.size; clear hb1 hb1')))
        all_goals
          go_wp2
          rw [HX2.out, hw3]
          go_roundg gk'
          case measure => omega
          case rel => exact ⟨k + 1, m + 1 + x1 + x2, by go_num, by go_num, hlt, by omega, by omega, HB2.out, by rw [HN.out], by omega⟩
      · have HS := Lib.hid hsum
        have hwt : wtL d l = min m 1000 := by
          rw [HW.out, hsum]
          rcases Nat.lt_or_ge k l.length with h | h
          · omega
          · rw [List.drop_eq_nil_of_le h]
            have : wtSum d [] = 0 := by unfold wtSum; rfl
            omega
        obtain ⟨x, hx⟩ : ∃ x : Nat, min m 1000 = x := ⟨_, rfl⟩
        have HWT := Lib.hid (hwt.trans hx)
        have hmin : min (m : Int) 1000 = (x : Int) := by omega
        clear hsum hb hwt hx
        by_cases hk2 : k < l.length
        · have g1 : decide ((k : Int) < (l.length : Int)) = true := decide_eq_true (by omega)
          have g1' : (k : Int) < (l.length : Int) := by omega
          have g2 : decide ((m : Int) < 1000) = false := decide_eq_false (by omega)
          have g2' : ¬ (m : Int) < 1000 := by omega
          go_wp2
          all_goals
            go_ret
            refine ⟨?_, HB.out⟩
            rw [HWT.out]
            first | rfl | (have hx1 : (x : Int) = 1000 := by omega
                           rw [hx1]; rfl) | (have hx1 : (x : Int) = (m : Int) := by omega
                                             rw [hx1]; rfl)
        · obtain rfl : k = l.length := by omega
          have g1 : decide ((l.length : Int) < (l.length : Int)) = false := decide_eq_false (by omega)
          clear hlt
          go_wp2
          all_goals
            go_ret
            refine ⟨?_, HB.out⟩
            rw [HWT.out]
            first | rfl | (have hx1 : (x : Int) = 1000 := by omega
                           rw [hx1]; rfl) | (have hx1 : (x : Int) = (m : Int) := by omega
                                             rw [hx1]; rfl)
theorem few_ok {B : Nat} {l : List St} {v : Value} {w : World} (hl : SlR B w l v) (hB : B ≤ w.heap.size) : Calls Tryz.prog 14 #[v] w fun e w' => e = .returned (.bool (decide (wtL 0 l ≤ 250))) ∧ Below w.heap.size w w' := by
  have HW := Lib.hid (weight_ok B 32 l v 0 w (by omega) hl hB)
  obtain ⟨pt, cp, rfl⟩ := hl.shape
  clear hl
  have hle := cut_le 0 (wtSum 0 l)
  obtain ⟨x, hx⟩ : ∃ x, wtL 0 l = x := ⟨_, rfl⟩
  have hg : decide ((x : Int) ≤ 250) = decide (x ≤ 250) := by
    by_cases h : x ≤ 250
    · rw [decide_eq_true h, decide_eq_true (by omega)]
    · rw [decide_eq_false h, decide_eq_false (by omega)]
  rw [hx] at HW ⊢
  clear hx hle
  go_enter Tryz.func14, Tryz.ntmps14
  go_wp2_with fail
  refine HW.out.mono ?_
  rintro _ w1 ⟨rfl, hb1⟩
  have HB1 := Lib.hid hb1
  clear hb1
  go_wp2
  go_ret
  exact ⟨by simp, HB1.out⟩
end Go.Proofs.YtkpdacfiglpgeaaGreatDoor

/- Layer 9: the document's list of all statements. -/
namespace Go.Proofs.YtkpdacfiglpgeaaGreatDoor
open Go.RowKit Tx
set_option maxRecDepth 10000

/-- A Line's cells. -/
def lnL (z : Int) (h : Sh) (bv ev : Value) (d : Nat) : List Value := [.int .i64 z, .int .i64 h.coll, .int .i64 h.reg, .int .i64 h.a.1, .int .i64 h.a.2, .int .i64 h.b.1, .int .i64 h.b.2, bv, ev, .int .i64 (d : Int)]
def LnL : St × Nat → List Value → Prop
  | (.mk h b e, d), c => ∃ z bp bc ep ec, z.toNat = h.kind ∧ c = lnL z h (.slice bp b.length bc) (.slice ep e.length ec) d
def LnsR : List (St × Nat) → List (List Value) → Prop
  | [], cs => cs = []
  | x :: l, cs => ∃ c cs', cs = c :: cs' ∧ LnL x c ∧ LnsR l cs'
theorem LnL.len {x : St × Nat} {c : List Value} (h : LnL x c) : c.length = 10 := by
  obtain ⟨⟨hh, b, e⟩, d⟩ := x
  obtain ⟨z, bp, bc, ep, ec, _, rfl⟩ := h
  rfl
theorem LnsR.snoc {x : St × Nat} {c : List Value} (hc : LnL x c) : ∀ {l : List (St × Nat)} {cs : List (List Value)}, LnsR l cs → LnsR (l ++ [x]) (cs ++ [c])
  | [], cs, h => by
    unfold LnsR at h
    subst h
    exact ⟨c, [], rfl, hc, rfl⟩
  | y :: l, cs, h => by
    obtain ⟨c', cs', rfl, h1, h2⟩ := h
    exact ⟨c', cs' ++ [c], rfl, h1, LnsR.snoc hc h2⟩
theorem LnsR.get : ∀ {l : List (St × Nat)} {cs : List (List Value)} {i : Nat} {x : St × Nat}, LnsR l cs → l[i]? = some x → ∃ c, LnL x c ∧ ∀ j, j < 10 → cs.flatten[10 * i + j]? = c[j]?
  | [], _, i, _, _, hi => by simp at hi
  | y :: l, cs, i, x, h, hi => by
    obtain ⟨c, cs', rfl, h1, h2⟩ := h
    cases i with
    | zero =>
      simp only [List.getElem?_cons_zero, Option.some.injEq] at hi
      subst hi
      refine ⟨c, h1, fun j hj => ?_⟩
      rw [List.flatten_cons, Nat.mul_zero, Nat.zero_add, List.getElem?_append_left (by rw [h1.len]; exact hj)]
    | succ i =>
      obtain ⟨c', q1, q2⟩ := LnsR.get h2 (i := i) (x := x) (by simpa using hi)
      refine ⟨c', q1, fun j hj => ?_⟩
      rw [List.flatten_cons, List.getElem?_append_right (by rw [h1.len]; omega), h1.len, show 10 * (i + 1) + j - 10 = 10 * i + j by omega]
      exact q2 j hj
theorem lineInfo : (Tryz.prog.info? 101).map (fun i => (i.zero, i.size, i.bytes)) = some (some (.agg #[.int .i64 0, .int .i64 0, .int .i64 0, .int .i64 0, .int .i64 0, .int .i64 0, .int .i64 0, .slice none 0 0, .slice none 0 0, .int .i64 0]), 10, 112) := by kernel_rfl
/-- What Lines answers. -/
def LnPost (B : Nat) (ls : List (St × Nat)) (w : World) (e : Ending) (w' : World) : Prop :=
  ∃ p n c cs, ls.length = n ∧ e = .returned (.slice p n c) ∧ w'.ownsRow B 101 10 (.slice p n c) n cs.flatten ∧ LnsR ls cs ∧ Below B w w'
def LnJ (B d : Nat) (l : List St) (ls : List (St × Nat)) (w0 : World) (gf : Nat) (out i : Value) (wx : World) : Prop :=
  ∃ (k : Nat) (ls' : List (St × Nat)) (p : Option Addr) (n c : Nat) (cs : List (List Value)), ls'.length = n ∧ out = .slice p n c ∧ i = .int .i64 (k : Int) ∧ k ≤ l.length ∧ l.length + 1 ≤ k + gf ∧ wx.ownsRow B 101 10 (.slice p n c) n cs.flatten ∧ LnsR ls' cs ∧ Below B w0 wx ∧
    ls' ++ flatL d (l.drop k) = ls ++ flatL d l ∧ ls'.length + cntL (l.drop k) ≤ 1000
theorem lines_mid {B0 : Nat} {wr w8 : World} {o : Obj} {row : Option Nat} (hb : B0 ≤ wr.heap.size) (hg : (wr.alloc o).grownBy w8 row) (hr : ∀ b, row = some b → B0 ≤ b) : Below B0 wr w8 :=
  (((Kept.refl (fun k => B0 ≤ k) wr).alloc o).trans ((Kept.of_grown hg).mono fun k _ e => hr k e.symm)).below hb (fun k h1 h2 => by omega)
set_option maxHeartbeats 4000000 in
theorem linesN_ok (B B0 : Nat) : ∀ (N : Nat) (l : List St) (v : Value) (d : Nat) (ls : List (St × Nat)) (p : Option Addr) (n c : Nat) (cs : List (List Value)) (w : World), cntL l < N → SlR B w l v → B ≤ B0 → B0 ≤ w.heap.size → ls.length = n → w.ownsRow B0 101 10 (.slice p n c) n cs.flatten → LnsR ls cs → ls.length + cntL l ≤ 1000 → d + cntL l ≤ 2000 →
    Calls Tryz.prog 38 #[.slice p n c, v, .int .i64 (d : Int)] w (LnPost B0 (ls ++ flatL d l) w)
  | 0, l, v, d, ls, p, n, c, cs, w, hN, _, _, _, _, _, _, _, _ => by omega
  | N + 1, l, v, d, ls, p, n, c, cs, w, hN, hl, hB, hB0, hn, hrow, hls, hcnt, hd => by
    have IH := Lib.hid (linesN_ok B B0 N)
    have hlc := len_cnt l
    obtain ⟨pt, cp, rfl⟩ := hl.shape
    have HL := Lib.hid hl; have HROW0 := Lib.hid hrow; have HLS0 := Lib.hid hls
    obtain ⟨i0, hi0, hz0, hz1, hz2⟩ := info_parts lineInfo
    clear hl hrow hls
    go_enter Tryz.func38, Tryz.ntmps38
    go_wp2
    go_loopg [0, 7] (l.length + 1) (fun gf out i wx => LnJ B0 d l ls w gf out i wx)
    case atStart => exact ⟨0, ls, p, n, c, cs, hn, rfl, rfl, Nat.zero_le _, by omega, HROW0.out, HLS0.out, Below.refl _ _, rfl, hcnt⟩
    case round =>
      obtain ⟨k, ls', p', n', c', cs', hn', rfl, rfl, hk, hfu, hrow, hls, hb, hfl, hlen⟩ := hrel
      have HB := Lib.hid hb
      have hbs := hb.size
      by_cases hlt : k < l.length
      · obtain ⟨gk', rfl⟩ : ∃ g', gk = g' + 1 := ⟨gk - 1, by omega⟩
        obtain ⟨⟨h, b, e⟩, hs⟩ : ∃ s, l[k]? = some s := ⟨_, List.getElem?_eq_getElem hlt⟩
        have hlr := HL.out.below hb hB
        obtain ⟨g, off, cp', z, bv, ev, hv, hgB, hgl, hz, hcell, hbb, hee⟩ := hlr.get hs
        simp only [Value.slice.injEq] at hv
        obtain ⟨rfl, -, rfl⟩ := hv
        obtain ⟨bp, bc, rfl⟩ := hbb.shape
        obtain ⟨ep, ec, rfl⟩ := hee.shape
        have hcd := cnt_drop l k h b e hs
        have hcg := cnt_get hs
        have hfd := flatL_drop d l k _ hs
        have g1 : decide ((k : Int) < (l.length : Int)) = true := decide_eq_true (by omega)
        have g1' : (k : Int) < (l.length : Int) := by omega
        have y0 : wr.cell? ⟨g, off + k * 9, none⟩ = _ := hcell 0 _ rfl; have y1 := hcell 1 _ rfl; have y2 := hcell 2 _ rfl; have y3 := hcell 3 _ rfl; have y4 := hcell 4 _ rfl; have y5 := hcell 5 _ rfl; have y6 := hcell 6 _ rfl
        have y7 : wr.cell? ⟨g, off + k * 9 + 7, none⟩ = some (.slice bp b.length bc) := hcell 7 _ rfl
        have y8 : wr.cell? ⟨g, off + k * 9 + 8, none⟩ = some (.slice ep e.length ec) := hcell 8 _ rfl
        have HBB := Lib.hid hbb; have HEE := Lib.hid hee
        have HLNL := Lib.hid (show LnL (.mk h b e, d) (lnL z h (.slice bp b.length bc) (.slice ep e.length ec) d) from ⟨z, bp, bc, ep, ec, hz, rfl⟩)
        have HROW := Lib.hid (show (wr.alloc (.cells (lnL z h (.slice bp b.length bc) (.slice ep e.length ec) d).toArray 101)).ownsRow B0 101 10 (.slice p' n' c') n' cs'.flatten from World.ownsRow.alloc hrow _)
        have HNEWS := Lib.hid (show ∀ j u, (lnL z h (.slice bp b.length bc) (.slice ep e.length ec) d)[j]? = some u → (wr.alloc (.cells (lnL z h (.slice bp b.length bc) (.slice ep e.length ec) d).toArray 101)).cell? ((⟨wr.heap.size, 0, none⟩ : Addr).add j) = some u from by
          have := World.news_of_block (w := wr.alloc (.cells (lnL z h (.slice bp b.length bc) (.slice ep e.length ec) d).toArray 101)) (B := wr.heap.size) (cs := (lnL z h (.slice bp b.length bc) (.slice ep e.length ec) d).toArray) (t := 101) (fr := (0, 0)) (heap_alloc_new wr _)
          simpa using this)
        have HONE := Lib.hid (show ∀ u ∈ lnL z h (.slice bp b.length bc) (.slice ep e.length ec) d, u.oneCell' = true from by
          intro u hu
          simp only [lnL, List.mem_cons, List.not_mem_nil, or_false] at hu
          rcases hu with rfl | rfl | rfl | rfl | rfl | rfl | rfl | rfl | rfl | rfl <;> rfl)
        have HOLD := Lib.hid (fun b hb => (hrow.lt b hb).1)
        have HLS := Lib.hid hls
        have HFL := Lib.hid (show (ls' ++ [(St.mk h b e, d)] ++ flatL (d + 1) b ++ flatL (d + 1) e) ++ flatL d (l.drop (k + 1)) = ls ++ flatL d l by
          rw [← hfl, hfd]
          unfold flatS
          simp)
        have hbz : B0 ≤ (wr.alloc (.cells (lnL z h (.slice bp b.length bc) (.slice ep e.length ec) d).toArray 101)).heap.size := by simp; omega
        have hwd : IntKind.i64.wrap ((d : Int) + 1) = (d : Int) + 1 := IntWalk.i64_in _ (by omega)
        have hd1 : ((d + 1 : Nat) : Int) = (d : Int) + 1 := by omega
        have hB0r : B0 ≤ wr.heap.size := by omega
        have hn1 : (ls' ++ [(St.mk h b e, d)]).length = n' + 1 := by rw [List.length_append, hn']; rfl
        clear hrow hls hb hfl hlr hcell hbb hee hs hfd
        go_wp2_with (at_builtin; refine wpList_append_lies _ rfl _ _ 98 rfl B0 101 i0 _ 10 112 Tryz.underlying98 hi0 hz0 hz1 hz2 rfl (by omega) _ n' cs'.flatten rfl HROW.out ⟨wr.heap.size, 0, none⟩ 1 1 (lnL z h (.slice bp b.length bc) (.slice ep e.length ec) d) rfl rfl HNEWS.out HONE.out (by omega) (by unfold maxLen; omega) (by omega) hbz _ rfl ?_; intro gg cap8 w8 hown8 hgrow8 hat8 hlt8; have HB8 := Lib.hid (lines_mid hB0r hgrow8 HOLD.out); have z7 := (HB8.out.cell (p := ⟨g, off + k * 9 + 7, none⟩) (Nat.lt_of_lt_of_le hgB hB)).trans y7; have HOWN8 := Lib.hid hown8; have hs8 := HB8.out.size; clear hown8 hgrow8 hat8)
        have HC1 := IH.out b _ (d + 1) (ls' ++ [(St.mk h b e, d)]) _ (n' + 1) cap8 (cs' ++ [lnL z h (.slice bp b.length bc) (.slice ep e.length ec) d]) w8 (by omega) (HBB.out.below HB8.out hB) hB (by omega) hn1 (by rw [List.flatten_append]; simpa using HOWN8.out) (LnsR.snoc HLNL.out HLS.out) (by omega) (by omega)
        rw [hd1] at HC1
        have HC1 := Lib.hid HC1
        refine HC1.out.mono ?_
        rintro _ w9 ⟨p9, n9, c9, cs9, hn9, rfl, hrow9, hls9, hb9⟩
        have HB9 := Lib.hid (HB8.out.trans hb9)
        have z8 := (HB9.out.cell (p := ⟨g, off + k * 9 + 8, none⟩) (Nat.lt_of_lt_of_le hgB hB)).trans y8
        have hs9 := hb9.size
        have hl9 := flatL_len (d + 1) b
        have HC2 := IH.out e _ (d + 1) _ p9 n9 c9 cs9 w9 (by omega) (HEE.out.below HB9.out hB) hB (by omega) hn9 hrow9 hls9 (by rw [List.length_append]; omega) (by omega)
        rw [hd1] at HC2
        have HC2 := Lib.hid HC2
        clear hb9 hrow9 hls9 HC1 y0 y1 y2 y3 y4 y5 y6 y7 y8 z7
        go_wp2_with fail
        refine HC2.out.mono ?_
        rintro _ w10 ⟨p10, n10, c10, cs10, hn10, rfl, hrow10, hls10, hb10⟩
        have HB10 := Lib.hid (HB.out.trans (HB9.out.trans hb10))
        have HROW10 := Lib.hid hrow10; have HLS10 := Lib.hid hls10
        have hl10 := flatL_len (d + 1) e
        clear hrow10 hls10 hb10 HC2 z8
        go_wp2
        go_roundg gk'
        case measure => omega
        case rel =>
          refine ⟨k + 1, _, p10, n10, c10, cs10, hn10, rfl, by go_num, hlt, by omega, HROW10.out, HLS10.out, HB10.out, HFL.out, ?_⟩
          rw [List.length_append, List.length_append, hl9, hl10]
          omega
      · obtain rfl : k = l.length := by omega
        have g1 : decide ((l.length : Int) < (l.length : Int)) = false := decide_eq_false (by omega)
        have HFL := Lib.hid (show ls' = ls ++ flatL d l by
          rw [← hfl, List.drop_eq_nil_of_le (Nat.le_refl _)]
          unfold flatL
          simp)
        have HROW := Lib.hid hrow; have HLS := Lib.hid hls
        clear hrow hls hb hfl
        go_wp2
        go_ret
        unfold LnPost
        rw [← HFL.out]
        exact ⟨p', n', c', cs', hn', rfl, HROW.out, HLS.out, HB.out⟩
end Go.Proofs.YtkpdacfiglpgeaaGreatDoor

/- Statements that came in: a slice argument of statements, as a tree. -/
namespace Go.Proofs.YtkpdacfiglpgeaaGreatDoor
open Go.ChangeShapes Go.WideShapes Go.ChangeAt Go.RowKit Go.Deep Tx
set_option maxRecDepth 10000

theorem stmtFields : ∃ fs : Array Field, Tryz.prog.underlying 50 = some (.struct fs) ∧ (fs.toList.map fun f => (f.type, f.offset)) = [(3, 0), (3, 1), (3, 2), (48, 3), (48, 5), (42, 7), (42, 8)] := ⟨_, Tryz.underlying50, by kernel_rfl⟩
theorem argFields : ∃ fs : Array Field, Tryz.prog.underlying 48 = some (.struct fs) ∧ (fs.toList.map fun f => (f.type, f.offset)) = [(3, 0), (3, 1)] := ⟨_, Tryz.underlying48, by kernel_rfl⟩
theorem stmtCells : Tryz.prog.cellsOf 50 = 9 := by kernel_rfl
theorem argCells : Tryz.prog.cellsOf 48 = 2 := by kernel_rfl
theorem intCells : Tryz.prog.cellsOf 3 = 1 := by kernel_rfl
theorem stmtsCells : Tryz.prog.cellsOf 42 = 1 := by kernel_rfl

section
variable {H : Type} {enc : TypeId × Value → H} {W : World} {base : Nat} {sp : Nat → Bool} {held : Bool}
/-- A struct's fields, by their types and places. -/
theorem fields_of {t : TypeId} {fs : Array Field} {n : Nat} {cs : List Value} {x : DataW H × List MemPlace} {L : List (TypeId × Nat)} (hs : Tryz.prog.underlying t = some (.struct fs)) (hL : (fs.toList.map fun f => (f.type, f.offset)) = L)
    (h : DataW.trod enc Tryz.prog W base sp held n t cs = some x) :
    ∃ m, n = m + 1 ∧ cs.length = Tryz.prog.cellsOf t ∧ ∀ (j : Nat) (u : TypeId) (o : Nat), L[j]? = some (u, o) → ∃ y, DataW.trod enc Tryz.prog W base sp held m u ((cs.drop o).take (Tryz.prog.cellsOf u)) = some y := by
  obtain ⟨xs, m, hn, _, hlen, hsz, hf⟩ := DataW.trod_struct hs h
  refine ⟨m, hn, hlen, fun j u o hj => ?_⟩
  rw [← hL, List.getElem?_map, Option.map_eq_some_iff] at hj
  obtain ⟨f, hf1, hf2⟩ := hj
  simp only [Prod.mk.injEq] at hf2
  obtain ⟨rfl, rfl⟩ := hf2
  have hfa : fs[j]? = some f := by simpa using hf1
  have hlt : j < fs.size := (Array.getElem?_eq_some_iff.1 hfa).1
  have h1 := hf j f hfa
  rw [List.getElem?_eq_getElem (by omega)] at h1
  exact ⟨_, h1⟩
theorem int_of {n : Nat} {c : Value} {y : DataW H × List MemPlace} (h : DataW.trod enc Tryz.prog W base sp held n 3 [c] = some y) : ∃ z : Int, c = .int .i64 z := by
  obtain ⟨a, e, -, -⟩ := DataW.trod_int Tryz.underlying3 h
  exact ⟨a, (List.cons.inj e).1⟩
theorem arg_of {n : Nat} {c d : Value} {y : DataW H × List MemPlace} (h : DataW.trod enc Tryz.prog W base sp held n 48 [c, d] = some y) : ∃ a : Int × Int, c = .int .i64 a.1 ∧ d = .int .i64 a.2 := by
  obtain ⟨fs, hs, hL⟩ := argFields
  obtain ⟨m, _, _, key⟩ := fields_of hs hL h
  obtain ⟨y0, k0⟩ := key 0 _ _ rfl
  obtain ⟨y1, k1⟩ := key 1 _ _ rfl
  rw [intCells] at k0 k1
  obtain ⟨a, rfl⟩ := int_of k0
  obtain ⟨b, rfl⟩ := int_of k1
  exact ⟨(a, b), rfl, rfl⟩
theorem rows_of {B : Nat} {w : World} : ∀ (n : Nat) (g : Nat → Option Value), (∀ i, i < n → ∃ s c, StR B w s c ∧ ∀ j, j < 9 → g (9 * i + j) = c[j]?) → ∃ l cs, l.length = n ∧ StsR B w l cs ∧ ∀ j x, cs.flatten[j]? = some x → g j = some x
  | 0, g, _ => ⟨[], [], rfl, by unfold StsR; rfl, fun j x h => by simp at h⟩
  | n + 1, g, h => by
    obtain ⟨s, c, h1, h2⟩ := h 0 (by omega)
    obtain ⟨l, cs, q1, q2, q3⟩ := rows_of n (fun k => g (9 + k)) (fun i hi => by
      obtain ⟨s, c, k1, k2⟩ := h (i + 1) (by omega)
      exact ⟨s, c, k1, fun j hj => by rw [← k2 j hj]; congr 1; omega⟩)
    refine ⟨s :: l, c :: cs, by simp [q1], by unfold StsR; exact ⟨c, cs, rfl, h1, q2⟩, fun j x hx => ?_⟩
    have hl := h1.len
    rw [List.flatten_cons] at hx
    by_cases hj : j < 9
    · rw [List.getElem?_append_left (by omega)] at hx
      have := h2 j hj
      rw [hx] at this
      simpa using this
    · rw [List.getElem?_append_right (by omega), hl] at hx
      have := q3 _ _ hx
      rwa [show 9 + (j - 9) = j by omega] at this
theorem stmt_of {n : Nat} (ih : ∀ m, m < n → ∀ (cs : List Value) (y : DataW H × List MemPlace), DataW.trod enc Tryz.prog W base sp held m 42 cs = some y → ∃ v l, cs = [v] ∧ SlR W.heap.size W l v) {cs : List Value} {y : DataW H × List MemPlace} (h : DataW.trod enc Tryz.prog W base sp held n 50 cs = some y) :
    ∃ s, StR W.heap.size W s cs := by
  obtain ⟨fs, hs, hL⟩ := stmtFields
  obtain ⟨m, rfl, hlen, key⟩ := fields_of hs hL h
  rw [stmtCells] at hlen
  obtain ⟨c0, c1, c2, c3, c4, c5, c6, c7, c8, rfl⟩ : ∃ c0 c1 c2 c3 c4 c5 c6 c7 c8, cs = [c0, c1, c2, c3, c4, c5, c6, c7, c8] := by
    match cs, hlen with
    | [c0, c1, c2, c3, c4, c5, c6, c7, c8], _ => exact ⟨_, _, _, _, _, _, _, _, _, rfl⟩
  obtain ⟨y0, k0⟩ := key 0 _ _ rfl
  obtain ⟨y1, k1⟩ := key 1 _ _ rfl
  obtain ⟨y2, k2⟩ := key 2 _ _ rfl
  obtain ⟨y3, k3⟩ := key 3 _ _ rfl
  obtain ⟨y4, k4⟩ := key 4 _ _ rfl
  obtain ⟨y5, k5⟩ := key 5 _ _ rfl
  obtain ⟨y6, k6⟩ := key 6 _ _ rfl
  rw [intCells] at k0 k1 k2
  rw [argCells] at k3 k4
  rw [stmtsCells] at k5 k6
  obtain ⟨z, rfl⟩ := int_of k0
  obtain ⟨co, rfl⟩ := int_of k1
  obtain ⟨r, rfl⟩ := int_of k2
  obtain ⟨a, rfl, rfl⟩ := arg_of k3
  obtain ⟨b, rfl, rfl⟩ := arg_of k4
  obtain ⟨v1, l1, e1, s1⟩ := ih m (by omega) _ _ k5
  obtain ⟨v2, l2, e2, s2⟩ := ih m (by omega) _ _ k6
  obtain rfl : c7 = v1 := (List.cons.inj e1).1
  obtain rfl : c8 = v2 := (List.cons.inj e2).1
  obtain ⟨cb, s3, s4⟩ := s1
  obtain ⟨ce, s5, s6⟩ := s2
  refine ⟨.mk ⟨z.toNat, co, r, a, b⟩ l1 l2, ?_⟩
  unfold StR
  exact ⟨z, c7, c8, cb, ce, rfl, rfl, s3, s4, s5, s6⟩
theorem stmts_of : ∀ (n : Nat) (cs : List Value) (y : DataW H × List MemPlace), DataW.trod enc Tryz.prog W base sp held n 42 cs = some y → ∃ v l, cs = [v] ∧ SlR W.heap.size W l v := by
  intro n
  induction n using Nat.strongRecOn with
  | _ n ih =>
    intro cs y h
    rcases DataW.trod_slice Tryz.underlying42 h with ⟨h0, _⟩ | ⟨a, len, cap, elems, rest, m, hn, hcs, hx, hb, hl, hm, hlen, hel, _⟩
    · exact ⟨_, [], h0, SlR.nil _ _⟩
    · subst hn hcs
      have key : ∀ i, i < len → ∃ s c, StR W.heap.size W s c ∧ ∀ j, j < 9 → W.cell? ((a.add (i * 9)).add j) = c[j]? := by
        intro i hi
        have h1 := hel i hi
        rw [stmtCells, List.getElem?_eq_getElem (by omega), Option.bind_eq_some_iff] at h1
        obtain ⟨cs', hcs', hy⟩ := h1
        obtain ⟨_, hcl, hat⟩ := World.cells?_some hcs'
        obtain ⟨s, hs⟩ := stmt_of (fun k hk => ih k (by omega)) hy
        exact ⟨s, cs', hs, fun j hj => hat j hj⟩
      rcases Nat.eq_zero_or_pos len with e | hpos
      · subst e
        exact ⟨_, [], rfl, [], by unfold StsR; rfl, some a, cap, rfl, .inl rfl⟩
      · have hsp : a.spot = none := by
          obtain ⟨⟨hh, hbb, hee⟩, c, q1, q2⟩ := key 0 hpos
          unfold StR at q1
          obtain ⟨z, bv, ev, cb, ce, _, rfl, _⟩ := q1
          have h0 := q2 0 (by omega)
          simp only [Nat.zero_mul, Addr.add, if_true] at h0
          have h1 : W.cell? a = some (.int .i64 z) := h0
          cases hs : a.spot with
          | none => rfl
          | some s =>
            unfold World.cell? at h1
            split at h1
            · simp [hs] at h1
            · cases h1
        obtain ⟨blk, off, spot⟩ := a
        simp only at hsp
        subst hsp
        have had : ∀ i j, ((⟨blk, off, none⟩ : Addr).add (i * 9)).add j = ⟨blk, off + (9 * i + j), none⟩ := by
          intro i j
          have e : off + (9 * i + j) = off + i * 9 + j := by omega
          rw [e]
          unfold Addr.add
          split <;> split <;> simp_all
        obtain ⟨l, C, q1, q2, q3⟩ := rows_of len (fun k => W.cell? ⟨blk, off + k, none⟩) (fun i hi => by
          obtain ⟨s, c, k1, k2⟩ := key i hi
          exact ⟨s, c, k1, fun j hj => by rw [← k2 j hj, had]⟩)
        have hblk : blk < W.heap.size := by
          obtain ⟨s, c, k1, k2⟩ := key 0 hpos
          have h1 := k2 0 (by omega)
          rw [had] at h1
          obtain ⟨x, hx2⟩ : ∃ x, c[0]? = some x := ⟨_, List.getElem?_eq_getElem (by rw [k1.len]; omega)⟩
          exact World.block_lt_of_cell? W _ (h1.trans hx2)
        refine ⟨_, l, rfl, C, q2, some ⟨blk, off, none⟩, cap, by rw [q1], .inr ⟨blk, off, rfl, hblk, hblk, q3⟩⟩
theorem came_stmts {v : Value} {d : DataW H} {ps : List MemPlace} {r : Reach} {b0 : Nat}
    (hval : Value.okWide Tryz.prog W r b0 42 v) (hd : DataW.Trod enc Tryz.prog W base sp held 42 v d ps) : ∃ l : List St, SlR W.heap.size W l v := by
  obtain ⟨a0, len0, cap0, rfl⟩ := okWide_slice Tryz.underlying42 hval
  obtain ⟨fuel, hf⟩ := hd
  obtain ⟨v, l, hcs, h⟩ := stmts_of _ _ _ hf
  have hv : Value.slice a0 len0 cap0 = v := by
    simp only [Value.cells] at hcs
    exact (List.cons.inj hcs).1
  exact ⟨l, hv ▸ h⟩
end
end Go.Proofs.YtkpdacfiglpgeaaGreatDoor

/- Layer 14's laws: is there an abort, a retry or a loop? -/
namespace Go.Proofs.YtkpdacfiglpgeaaGreatDoor
open Go.RowKit Tx
set_option maxRecDepth 10000

def EndsPost (r : Bool) (w : World) (e : Ending) (w' : World) : Prop := e = .returned (.bool r) ∧ Below w.heap.size w w'
def EndsAt (B N : Nat) : Prop := ∀ (l : List St) (v : Value) (w : World), cntL l < N → cntL l ≤ 1000000 → SlR B w l v → B ≤ w.heap.size → Calls Tryz.prog 17 #[v] w (EndsPost (endsL l) w)
def EnJ (l : List St) (w0 : World) (gf : Nat) (i : Value) (wx : World) : Prop :=
  ∃ k : Nat, i = .int .i64 (k : Int) ∧ k ≤ l.length ∧ l.length + 1 ≤ k + gf ∧ Below w0.heap.size w0 wx ∧ endsL l = endsL (l.drop k)
set_option maxHeartbeats 4000000 in
theorem ends_step {B N : Nat} (hIH : EndsAt B N) : EndsAt B (N + 1) := by
  intro l v w hN hc hl hB
  have IH := Lib.hid hIH
  have hlc := len_cnt l
  obtain ⟨pt, cp, rfl⟩ := hl.shape
  have HL := Lib.hid hl
  clear hIH hl
  go_enter Tryz.func17, Tryz.ntmps17
  go_wp2
  go_loopg [7] (l.length + 1) (fun gf i wx => EnJ l w gf i wx)
  case atStart => exact ⟨0, rfl, Nat.zero_le _, by omega, Below.refl _ _, rfl⟩
  case round =>
    obtain ⟨k, rfl, hk, hfu, hb, hen⟩ := hrel
    have HB := Lib.hid hb
    have hbs := hb.size
    by_cases hlt : k < l.length
    · obtain ⟨gk', rfl⟩ : ∃ g', gk = g' + 1 := ⟨gk - 1, by omega⟩
      obtain ⟨⟨h, b, e⟩, hs⟩ : ∃ s, l[k]? = some s := ⟨_, List.getElem?_eq_getElem hlt⟩
      have hcg := cnt_get hs
      have HEN := Lib.hid (hen.trans (ends_drop l k _ hs))
      have hlr := HL.out.below hb hB
      obtain ⟨g, off, cp', z, bv, ev, hv, hgB, hgl, hz, hcell, hbb, hee⟩ := hlr.get hs
      simp only [Value.slice.injEq] at hv
      obtain ⟨rfl, -, rfl⟩ := hv
      obtain ⟨bp, bc, rfl⟩ := hbb.shape
      obtain ⟨ep, ec, rfl⟩ := hee.shape
      have g1 : decide ((k : Int) < (l.length : Int)) = true := decide_eq_true (by omega)
      have g1' : (k : Int) < (l.length : Int) := by omega
      have y0 : wr.cell? ⟨g, off + k * 9, none⟩ = _ := hcell 0 _ rfl
      have y1 := hcell 1 _ rfl; have y2 := hcell 2 _ rfl; have y3 := hcell 3 _ rfl; have y4 := hcell 4 _ rfl; have y5 := hcell 5 _ rfl; have y6 := hcell 6 _ rfl; have y7 := hcell 7 _ rfl; have y8 := hcell 8 _ rfl
      have HC := Lib.hid (Cells.new wr [.int .i64 z, .int .i64 h.coll, .int .i64 h.reg, .int .i64 h.a.1, .int .i64 h.a.2, .int .i64 h.b.1, .int .i64 h.b.2, .slice bp b.length bc, .slice ep e.length ec] 50)
      have HBA := Lib.hid ((Below.refl wr.heap.size wr).alloc (Nat.le_refl _) (.cells #[.int .i64 z, .int .i64 h.coll, .int .i64 h.reg, .int .i64 h.a.1, .int .i64 h.a.2, .int .i64 h.b.1, .int .i64 h.b.2, .slice bp b.length bc, .slice ep e.length ec] 50))
      have HBY := Lib.hid (HB.out.trans (HBA.out.mono hbs))
      have HBB := Lib.hid (hbb.below HBA.out (Nat.le_trans hB hbs)); have HEE := Lib.hid (hee.below HBA.out (Nat.le_trans hB hbs))
      clear hb hen hlr hcell hbb hee hs
      by_cases h15 : z = 15
      · have g2 : (z == 15) = true := by simp [h15]
        have HR := Lib.hid (show endsL l = true by rw [HEN.out]; unfold endsS; simp [show h.kind = 15 by omega])
        clear h15 hz
        go_wp2
        go_ret
        exact ⟨by rw [HR.out]; rfl, HBY.out⟩
      · have g2 : (z == 15) = false := by simpa using h15
        by_cases h16 : z = 16
        · have g3 : (z == 16) = true := by simp [h16]
          have HR := Lib.hid (show endsL l = true by rw [HEN.out]; unfold endsS; simp [show h.kind = 16 by omega])
          clear h16 hz
          go_wp2
          go_ret
          exact ⟨by rw [HR.out]; rfl, HBY.out⟩
        · have g3 : (z == 16) = false := by simpa using h16
          by_cases h12 : z = 12
          · have g4 : (z == 12) = true := by simp [h12]
            have HR := Lib.hid (show endsL l = true by rw [HEN.out]; unfold endsS; simp [show h.kind = 12 by omega])
            clear h12 hz
            go_wp2
            go_ret
            exact ⟨by rw [HR.out]; rfl, HBY.out⟩
          · have g4 : (z == 12) = false := by simpa using h12
            have HK := Lib.hid (show (h.kind == 15 || h.kind == 16 || h.kind == 12) = false by
              simp only [Bool.or_eq_false_iff, beq_eq_false_iff_ne, ne_eq]
              omega)
            have HCB := Lib.hid (IH.out b _ _ (by omega) (by omega) HBB.out (Nat.le_trans (Nat.le_trans hB hbs) HBA.out.size))
            go_wp2_with fail
            refine HCB.out.mono ?_
            rintro _ w2 ⟨rfl, hb2⟩
            have HB2 := Lib.hid (HBY.out.trans (hb2.mono HBY.out.size))
            have z8 := ((HC.out.kept (Kept.of_below hb2) (fun q => absurd q (by simp))).cell 8)
            have HE2 := Lib.hid (HEE.out.below hb2 (Nat.le_trans (Nat.le_trans hB hbs) HBA.out.size))
            have hs2 := hb2.size
            clear hb2 HCB
            cases hEb : endsL b with
            | true =>
              have HR := Lib.hid (show endsL l = true by rw [HEN.out]; unfold endsS; simp [hEb])
              have HBY := HB2
              go_wp2
              go_ret
              exact ⟨by rw [HR.out]; rfl, HBY.out⟩
            | false =>
              have HCE := Lib.hid (IH.out e _ w2 (by omega) (by omega) HE2.out (Nat.le_trans (Nat.le_trans (Nat.le_trans hB hbs) HBA.out.size) hs2))
              simp only [List.getElem?_cons_succ, List.getElem?_cons_zero] at z8
              go_wp2_with fail
              refine HCE.out.mono ?_
              rintro _ w3 ⟨rfl, hb3⟩
              have HB3 := Lib.hid (HB2.out.trans (hb3.mono HB2.out.size))
              clear hb3 HCE
              cases hEe : endsL e with
              | true =>
                have HR := Lib.hid (show endsL l = true by rw [HEN.out]; unfold endsS; simp [hEe])
                have HBY := HB3
                go_wp2
                go_ret
                exact ⟨by rw [HR.out]; rfl, HBY.out⟩
              | false =>
                have HR := Lib.hid (show endsL l = endsL (l.drop (k + 1)) by rw [HEN.out]; unfold endsS; rw [HK.out, hEb, hEe]; rfl)
                go_wp2
                go_roundg gk'
                case measure => omega
                case rel => exact ⟨k + 1, by go_num, hlt, by omega, HB3.out, HR.out⟩
    · obtain rfl : k = l.length := by omega
      have g1 : decide ((l.length : Int) < (l.length : Int)) = false := decide_eq_false (by omega)
      have HR := Lib.hid (show endsL l = false by rw [hen, List.drop_eq_nil_of_le (Nat.le_refl _)]; unfold endsL; rfl)
      clear hb hen
      go_wp2
      go_ret
      exact ⟨by rw [HR.out]; rfl, HB.out⟩
theorem ends_all (B : Nat) : ∀ N, EndsAt B N
  | 0 => fun _ _ _ hN => absurd hN (by omega)
  | N + 1 => ends_step (ends_all B N)
end Go.Proofs.YtkpdacfiglpgeaaGreatDoor
