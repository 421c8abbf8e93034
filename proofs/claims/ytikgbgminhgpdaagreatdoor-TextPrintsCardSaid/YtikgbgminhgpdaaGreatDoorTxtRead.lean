/- Layers 9, 10: statements that can be read, wherever they lie. -/
import Derived.Test.YtikgbgminhgpdaaGreatDoorTxtTree
namespace Go.Proofs.YtikgbgminhgpdaaGreatDoor
open Go.RowKit Tx
set_option maxRecDepth 10000

/-- A row of statements that can be read, in a block below B. -/
def RowR (B : Nat) (w : World) (v : Value) (n : Nat) (xs : List Value) : Prop :=
  ∃ pt cap, v = .slice pt n cap ∧ (n = 0 ∨ ∃ g off, pt = some ⟨g, off, none⟩ ∧ g < B ∧ g < w.heap.size ∧ ∀ j x, xs[j]? = some x → w.cell? ⟨g, off + j, none⟩ = some x)
/-- A statement's cells; z: its kind's number (a kind below 1 is none). -/
def stL (z : Int) (h : Sh) (bv ev : Value) : List Value := [.int .i64 z, .int .i64 h.coll, .int .i64 h.reg, .int .i64 h.a.1, .int .i64 h.a.2, .int .i64 h.b.1, .int .i64 h.b.2, bv, ev]
mutual
def StR (B : Nat) (w : World) : St → List Value → Prop
  | .mk h b e, c => ∃ z bv ev cb ce, z.toNat = h.kind ∧ c = stL z h bv ev ∧ StsR B w b cb ∧ RowR B w bv b.length cb.flatten ∧ StsR B w e ce ∧ RowR B w ev e.length ce.flatten
def StsR (B : Nat) (w : World) : List St → List (List Value) → Prop
  | [], cs => cs = []
  | s :: l, cs => ∃ c cs', cs = c :: cs' ∧ StR B w s c ∧ StsR B w l cs'
end
/-- A list of statements that can be read, in blocks below B. -/
def SlR (B : Nat) (w : World) (l : List St) (v : Value) : Prop := ∃ cs, StsR B w l cs ∧ RowR B w v l.length cs.flatten
theorem RowR.kept {S : Nat → Prop} {B B' : Nat} {w w' : World} {v : Value} {n : Nat} {xs : List Value} (h : RowR B w v n xs) (k : Kept S w w') (hs : ∀ b, b < B → b < w.heap.size → ¬ S b ∧ b < B') : RowR B' w' v n xs := by
  obtain ⟨pt, cap, rfl, h⟩ := h
  refine ⟨pt, cap, rfl, ?_⟩
  rcases h with h | ⟨g, off, rfl, h1, h2, h3⟩
  · exact .inl h
  · exact .inr ⟨g, off, rfl, (hs g h1 h2).2, Nat.lt_of_lt_of_le h2 k.size, fun j x hx => (World.cell?_of_block (w := w) (k.block g h2 (hs g h1 h2).1)).trans (h3 j x hx)⟩
mutual
theorem StR.kept {S : Nat → Prop} {B B' : Nat} {w w' : World} (k : Kept S w w') (hs : ∀ b, b < B → b < w.heap.size → ¬ S b ∧ b < B') : ∀ (s : St) (c : List Value), StR B w s c → StR B' w' s c
  | .mk h b e, c, hc => by
    unfold StR at hc ⊢
    obtain ⟨z, bv, ev, cb, ce, h0, h1, h2, h3, h4, h5⟩ := hc
    exact ⟨z, bv, ev, cb, ce, h0, h1, StsR.kept k hs b cb h2, h3.kept k hs, StsR.kept k hs e ce h4, h5.kept k hs⟩
theorem StsR.kept {S : Nat → Prop} {B B' : Nat} {w w' : World} (k : Kept S w w') (hs : ∀ b, b < B → b < w.heap.size → ¬ S b ∧ b < B') : ∀ (l : List St) (cs : List (List Value)), StsR B w l cs → StsR B' w' l cs
  | [], cs, hc => by unfold StsR at hc ⊢; exact hc
  | s :: l, cs, hc => by
    unfold StsR at hc ⊢
    obtain ⟨c, cs', h1, h2, h3⟩ := hc
    exact ⟨c, cs', h1, StR.kept k hs s c h2, StsR.kept k hs l cs' h3⟩
end
theorem SlR.kept {S : Nat → Prop} {B B' : Nat} {w w' : World} {l : List St} {v : Value} (h : SlR B w l v) (k : Kept S w w') (hs : ∀ b, b < B → b < w.heap.size → ¬ S b ∧ b < B') : SlR B' w' l v := by
  obtain ⟨cs, h1, h2⟩ := h
  exact ⟨cs, StsR.kept k hs l cs h1, h2.kept k hs⟩
theorem SlR.below {B C : Nat} {w w' : World} {l : List St} {v : Value} (h : SlR B w l v) (k : Below C w w') (hB : B ≤ C) : SlR B w' l v :=
  h.kept (Kept.of_below k) (fun b h1 _ => ⟨by omega, h1⟩)
mutual
theorem StC.read {A : Nat → Prop} {B : Nat} {w : World} (hA : ∀ b, A b → b < w.heap.size → b < B) : ∀ (s : St) (c : List Value), StC A w s c → StR B w s c
  | .mk h b e, c, hc => by
    unfold StC at hc
    unfold StR
    obtain ⟨bv, ev, cb, ce, h1, h2, h3, h4, h5⟩ := hc
    exact ⟨(h.kind : Int), bv, ev, cb, ce, by omega, h1, StCs.read hA b cb h2, RowIn.read hA h3, StCs.read hA e ce h4, RowIn.read hA h5⟩
theorem StCs.read {A : Nat → Prop} {B : Nat} {w : World} (hA : ∀ b, A b → b < w.heap.size → b < B) : ∀ (l : List St) (cs : List (List Value)), StCs A w l cs → StsR B w l cs
  | [], cs, hc => by unfold StCs at hc; unfold StsR; exact hc
  | s :: l, cs, hc => by
    unfold StCs at hc
    unfold StsR
    obtain ⟨c, cs', h1, h2, h3⟩ := hc
    exact ⟨c, cs', h1, StC.read hA s c h2, StCs.read hA l cs' h3⟩
theorem RowIn.read {A : Nat → Prop} {B : Nat} {w : World} {v : Value} {n : Nat} {xs : List Value} (hA : ∀ b, A b → b < w.heap.size → b < B) (h : RowIn A w v n xs) : RowR B w v n xs := by
  obtain ⟨h1, h2⟩ := h
  have hl := h1.lt
  rcases h1.2 with ⟨rfl, rfl⟩ | ⟨g, cap, cur, rfl, q1, q2, q3, q4, q5, q6⟩
  · exact ⟨_, _, rfl, .inl rfl⟩
  · refine ⟨_, _, rfl, .inr ⟨g, 0, rfl, hA g (h2 g rfl) (hl g rfl).2, (hl g rfl).2, fun j x hx => ?_⟩⟩
    rw [← q6, List.getElem?_take] at hx
    split at hx
    · rw [Nat.zero_add]
      simp only [World.cell?, q2]
      simpa using hx
    · cases hx
end
theorem SlV.read {B : Nat} {w : World} {l : List St} {v : Value} (h : SlV B w l v) : SlR w.heap.size w l v := by
  obtain ⟨cs, h1, h2⟩ := h
  exact ⟨cs, StCs.read (fun b _ q => q) l cs h1, RowIn.read (A := fun _ => True) (fun b _ q => q) ⟨row_kept h2 (Nat.zero_le _) (Kept.refl (fun _ => False) w) (fun _ _ _ => id), fun _ _ => trivial⟩⟩
theorem StR.len {B : Nat} {w : World} {s : St} {c : List Value} (h : StR B w s c) : c.length = 9 := by
  cases s with
  | mk h0 b e =>
    unfold StR at h
    obtain ⟨z, bv, ev, cb, ce, _, rfl, _⟩ := h
    rfl
theorem StsR.get {B : Nat} {w : World} : ∀ {l : List St} {cs : List (List Value)} {i : Nat} {s : St}, StsR B w l cs → l[i]? = some s → ∃ c, StR B w s c ∧ ∀ j, j < 9 → cs.flatten[9 * i + j]? = c[j]?
  | [], _, i, _, _, hi => by simp at hi
  | s0 :: l, cs, i, s, h, hi => by
    unfold StsR at h
    obtain ⟨c, cs', rfl, h1, h2⟩ := h
    cases i with
    | zero =>
      simp only [List.getElem?_cons_zero, Option.some.injEq] at hi
      subst hi
      refine ⟨c, h1, fun j hj => ?_⟩
      rw [List.flatten_cons, Nat.mul_zero, Nat.zero_add, List.getElem?_append_left (by rw [h1.len]; exact hj)]
    | succ i =>
      obtain ⟨c', q1, q2⟩ := StsR.get h2 (i := i) (s := s) (by simpa using hi)
      refine ⟨c', q1, fun j hj => ?_⟩
      rw [List.flatten_cons, List.getElem?_append_right (by rw [h1.len]; omega), h1.len, show 9 * (i + 1) + j - 9 = 9 * i + j by omega]
      exact q2 j hj
/-- The i-th statement of a list that can be read. -/
theorem SlR.get {B : Nat} {w : World} {l : List St} {v : Value} {i : Nat} {h : Sh} {b e : List St} (hl : SlR B w l v) (hi : l[i]? = some (.mk h b e)) :
    ∃ g off cap z bv ev, v = .slice (some ⟨g, off, none⟩) l.length cap ∧ g < B ∧ g < w.heap.size ∧ z.toNat = h.kind ∧ (∀ j x, (stL z h bv ev)[j]? = some x → w.cell? ⟨g, off + i * 9 + j, none⟩ = some x) ∧ SlR B w b bv ∧ SlR B w e ev := by
  obtain ⟨cs, h1, pt, cap, rfl, h2⟩ := hl
  have hlt : i < l.length := (List.getElem?_eq_some_iff.1 hi).1
  rcases h2 with h2 | ⟨g, off, rfl, h3, h4, h5⟩
  · omega
  · obtain ⟨c, hc, hq⟩ := h1.get hi
    unfold StR at hc
    obtain ⟨z, bv, ev, cb, ce, k0, rfl, k2, k3, k4, k5⟩ := hc
    refine ⟨g, off, cap, z, bv, ev, rfl, h3, h4, k0, fun j x hx => ?_, ⟨cb, k2, k3⟩, ⟨ce, k4, k5⟩⟩
    have hj : j < 9 := (List.getElem?_eq_some_iff.1 hx).1
    have := h5 (9 * i + j) x ((hq j hj).trans hx)
    rw [← Nat.add_assoc, Nat.mul_comm 9 i] at this
    exact this
theorem SlR.shape {B : Nat} {w : World} {l : List St} {v : Value} (hl : SlR B w l v) : ∃ pt cap, v = .slice pt l.length cap := by
  obtain ⟨cs, h1, pt, cap, rfl, h2⟩ := hl
  exact ⟨pt, cap, rfl⟩
theorem SlR.nil (B : Nat) (w : World) : SlR B w [] (.slice none 0 0) := ⟨[], by unfold StsR; rfl, none, 0, rfl, .inl rfl⟩
end Go.Proofs.YtikgbgminhgpdaaGreatDoor
