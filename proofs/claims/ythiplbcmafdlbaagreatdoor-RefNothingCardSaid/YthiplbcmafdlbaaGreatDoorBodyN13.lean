/- RefNothing: its transaction as a body: what it reads, what it keeps, what holds along its way. -/
import Derived.Test.YthiplbcmafdlbaaGreatDoorBody13a
import Derived.Test.YthiplbcmafdlbaaGreatDoorNothPlain13
namespace Go.Proofs.YthiplbcmafdlbaaGreatDoor
open Go.RowKit Bl Th
set_option maxRecDepth 10000

/-- What such a body reads: its boxes, its cells, its operations. -/
structure SharedN (W : World) (bc bl bs bn g : Nat) (lv : Value) (Qo : List Nat) (l : List Op13) (clock : Nat) (cells : List Nat) (w : World) : Prop where
  clock' : Cells w bc [.int .u64 (clock : Int)] 24
  ops : Cells w bl [lv] 22
  cells' : Cells w bs [.slice (some ⟨g, 0, none⟩) cells.length cells.length] 25
  n' : Cells w bn [.int .i64 (cells.length : Int)] 3
  arr : Cells w g (cells.map fun x : Nat => .int .u64 (x : Int)) 24
  lies : OpsIn W w lv Qo l
def shN (bc bl bs bn g : Nat) (Qo : List Nat) : List Nat := [bc, bl, bs, bn, g] ++ Qo
theorem SharedN.heldBy {W : World} {bc bl bs bn g : Nat} {lv : Value} {Qo : List Nat} {l : List Op13} {clock : Nat} {cells : List Nat} {w w' : World} {R : List Nat} (h : SharedN W bc bl bs bn g lv Qo l clock cells w) (k : HeldBy R w w') (hs : ∀ b ∈ shN bc bl bs bn g Qo, b ∈ R) : SharedN W bc bl bs bn g lv Qo l clock cells w' := by
  have m : ∀ b, b = bc ∨ b = bl ∨ b = bs ∨ b = bn ∨ b = g ∨ b ∈ Qo → b ∈ R := fun b hb => hs b (by simpa [shN, or_assoc] using hb)
  exact ⟨h.clock'.heldBy k (m bc (by simp)), h.ops.heldBy k (m bl (by simp)), h.cells'.heldBy k (m bs (by simp)), h.n'.heldBy k (m bn (by simp)), h.arr.heldBy k (m g (by simp)), h.lies.heldBy k (fun b hb => m b (by simp [hb]))⟩
/-- What it keeps: how much it read, and would write. -/
def nothAux (W : World) (bR bW : Nat) : Aux Sets where
  at' s Q w := Q = [bR, bW] ∧ bR ≠ bW ∧ W.heap.size ≤ bR ∧ W.heap.size ≤ bW ∧ (∃ p c, Cells w bR [.slice p s.reads.length c] 33) ∧ ∃ p c, Cells w bW [.slice p s.writes.length c] 34
  loc := by
    rintro s Q w w' ⟨rfl, h1, h2, h3, ⟨p, c, h4⟩, q, d, h5⟩ k
    exact ⟨rfl, h1, h2, h3, ⟨p, c, h4.heldBy k (by simp)⟩, q, d, h5.heldBy k (by simp)⟩
/-- What holds along its way, behind Begin. -/
structure WayN (W : World) (Y : List Nat) (pa pb pc pt : Nat) (wi : World) (t : Tx) (B E : List Nat) (c : CS) (w : World) : Prop where
  ctx : Ctx W (E ++ (B ++ Y)) pa pb pc c w
  held : HeldBy Y wi w
  tx : TxAt W pt t B w
  newB : ∀ b ∈ B, wi.heap.size ≤ b
  newE : ∀ b ∈ E, wi.heap.size ≤ b
  loY : (∀ b ∈ Y, b < wi.heap.size) ∧ W.heap.size ≤ wi.heap.size
section
variable {W : World} {Y B B' E : List Nat} {pa pb pc pt n : Nat} {wi w w' : World} {t t' : Tx} {v : Value} {c c' : CS}
theorem WayN.apart (h : WayN W Y pa pb pc pt wi t B E c w) : ∀ b ∈ B, b ∉ Y := by
  intro b hb hm
  have := h.newB b hb
  have := h.loY.1 b hm
  omega
theorem WayN.fine (h : WayN W Y pa pb pc pt wi t B E c w) : WayN W Y pa pb pc pt wi t B [] c w :=
  { h with ctx := h.ctx.less (fun b hb => by simp only [List.nil_append] at hb; exact List.mem_append_right _ hb), newE := by simp }
/-- A call of the transaction by the Ctx. -/
theorem WayN.call (h : WayN W Y pa pb pc pt wi t B [] c w) (ht : TxAt W pt t' B' w') (hc : Ctx W (E ++ (B' ++ Y)) pa pb pc c' w') (hh : HeldBy Y w w') (hB : ∀ b ∈ E ++ B', b ∈ B ∨ w.heap.size ≤ b) : WayN W Y pa pb pc pt wi t' B' E c' w' := by
  have hz := h.held.1
  have key : ∀ b ∈ E ++ B', wi.heap.size ≤ b := by
    intro b hb
    rcases hB b hb with q | q
    · exact h.newB b q
    · exact Nat.le_trans hz q
  exact ⟨hc, h.held.trans hh, ht, fun b hb => key b (by simp [hb]), fun b hb => key b (by simp [hb]), h.loY⟩
/-- A write: in memory alone. -/
theorem WayN.set (h : WayN W Y pa pb pc pt wi t B [] c w) (ht : TxAt W pt t' B' w') (he : Err w' v n E) (k : Kept (fun b => b ∈ B) w w') (hB : ∀ b ∈ B', b ∈ B ∨ w.heap.size ≤ b) (hE : ∀ b ∈ E, w.heap.size ≤ b) : WayN W Y pa pb pc pt wi t' B' E c w' := by
  have hz := h.held.1
  obtain ⟨e1, e2⟩ := Ctx.objs (B := B) (B' := E ++ B') (R := Y) (h.ctx.less fun b hb => by simpa using hb) k (fun b hb => Nat.le_trans h.loY.2 (h.newB b hb)) h.apart (by
    intro b hb
    rcases List.mem_append.1 hb with q | q
    · exact ⟨.inr (hE b q), he.lt b q⟩
    · exact ⟨hB b q, ht.lt b q⟩)
  exact h.call ht (e1.less fun b hb => by simpa [or_assoc] using hb) e2 (fun b hb => by
    rcases List.mem_append.1 hb with q | q
    · exact .inr (hE b q)
    · exact hB b q)
/-- New blocks beside it. -/
theorem WayN.under (h : WayN W Y pa pb pc pt wi t B E c w) (hb : Below w.heap.size w w') : WayN W Y pa pb pc pt wi t B E c w' := by
  have hh := HeldBy.of_below (R := E ++ (B ++ Y)) hb h.ctx.heldR
  exact { h with ctx := h.ctx.under hb, held := h.held.trans (hh.less fun b hb => by simp [hb]), tx := h.tx.heldBy hh (fun b hb => by simp [hb]) }
end
/-- Both boxes at the end. -/
theorem noth_end {W : World} {X E : List Nat} {v : Value} {pa pb pc bR bW n : Nat} {wi w : World} {c : CS} {s s0 : Sets} {p q : Option Addr} {cp cq : Nat} (ha : (nothAux W bR bW).at' s0 [bR, bW] wi) (hXQ : ∀ b ∈ X, b ∉ [bR, bW])
    (hc : Ctx W (E ++ (bR :: bW :: X)) pa pb pc c w) (hh : HeldBy (bR :: bW :: X) wi w) (hE : ∀ b ∈ E, wi.heap.size ≤ b) (he : Err w v n E) :
    BodyPost W pa pb pc (nothAux W bR bW) X [bR, bW] wi (n, c, s) (.returned v) ((w.setCell ⟨bR, 0, none⟩ (.slice p s.reads.length cp)).setCell ⟨bW, 0, none⟩ (.slice q s.writes.length cq)) := by
  obtain ⟨-, h1, h2, h3, ⟨p0, c0, h4⟩, q0, d0, h5⟩ := ha
  have hz := hh.1
  have l1 := h4.lt
  have l2 := h5.lt
  have h4' := h4.heldBy hh (by simp)
  have h5' := h5.heldBy hh (by simp)
  have k : Kept (fun b => b ∈ [bR, bW]) w ((w.setCell ⟨bR, 0, none⟩ (.slice p s.reads.length cp)).setCell ⟨bW, 0, none⟩ (.slice q s.writes.length cq)) := (Kept.setCell (Kept.refl _ w) (fun _ => by simp) _).setCell (fun _ => by simp) _
  obtain ⟨e1, e2⟩ := Ctx.objs (B := [bR, bW]) (B' := [bR, bW]) (R := E ++ X) (hc.less fun b hb => by simp only [List.mem_append, List.mem_cons, List.not_mem_nil, or_false] at hb ⊢; rcases hb with (q | q) | q | q <;> simp [q]) k (by
    intro b hb
    simp only [List.mem_cons, List.not_mem_nil, or_false] at hb
    rcases hb with rfl | rfl
    · exact h2
    · exact h3) (by
    intro b hb hm
    rcases List.mem_append.1 hm with q | q
    · have := hE b q
      simp only [List.mem_cons, List.not_mem_nil, or_false] at hb
      rcases hb with rfl | rfl <;> omega
    · exact hXQ b q hb) (by
    intro b hb
    refine ⟨.inl hb, Nat.lt_of_lt_of_le ?_ k.size⟩
    simp only [List.mem_cons, List.not_mem_nil, or_false] at hb
    rcases hb with rfl | rfl
    · exact h4'.lt
    · exact h5'.lt)
  have hRE : ∀ b ∈ E, b ≠ bR ∧ b ≠ bW := fun b hb => by
    have := hE b hb
    exact ⟨fun e => by omega, fun e => by omega⟩
  refine ⟨v, E, [bR, bW], rfl, he.heldBy e2 (fun b hb => by simp [hb]), ⟨rfl, h1, h2, h3, ⟨p, cp, ?_⟩, q, cq, ?_⟩, e1.less (fun b hb => by simp only [List.mem_append, List.mem_cons, List.not_mem_nil, or_false] at hb ⊢; rcases hb with q | q | q | q <;> simp [q]), (hh.less fun b hb => by simp [hb]).trans (e2.less fun b hb => by simp [hb]), fun b hb => ?_⟩
  · exact ((h4'.set 0 _).cast (by simp)).kept (Kept.setCell (S := fun b => b = bW) (Kept.refl _ _) (fun _ => rfl) _) (fun e => h1 e)
  · exact ((h5'.kept (Kept.setCell (S := fun b => b = bR) (Kept.refl _ _) (fun _ => rfl) _) (fun e => h1 e.symm)).set 0 _).cast (by simp)
  · rcases List.mem_append.1 hb with q | q
    · exact .inr (hE b q)
    · exact .inl q
end Go.Proofs.YthiplbcmafdlbaaGreatDoor
