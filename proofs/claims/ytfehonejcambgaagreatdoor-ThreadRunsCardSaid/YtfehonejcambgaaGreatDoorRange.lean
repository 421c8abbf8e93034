/- Ranging over a map with integer keys: the entries come out one by one, in whatever order. No program stands here. -/
import Derived.Test.YtfehonejcambgaaGreatDoorMap
import Derived.Maps.RangeRun
namespace Go.Proofs.YtfehonejcambgaaGreatDoor
open Go.RowKit

/-- Block r is an iterator over the map at b that has handed out the entries born at 'seen'. -/
def IterAt (w : World) (r b since : Nat) (seen : List Nat) (c : Nat) : Prop := w.heap[r]? = some (.mapIter (some b) since seen.toArray c)
theorem IterAt.kept {S : Nat → Prop} {w w' : World} {r b s c : Nat} {seen : List Nat} (h : IterAt w r b s seen c) (k : Kept S w w') (hs : ¬ S r) : IterAt w' r b s seen c := (k.block r (lt_of_block h) hs).trans h

theorem run_range_at {P : Program} {w : World} {b : Nat} {kd : IntKind} {es : List Ent} {c : Nat} (h : MapAt w b kd es c) {t kt e : TypeId} (ht : P.underlying t = some (.map kt e)) :
    (Instr.range t (.map (some b))).run P w = .ok (.pointer (some ⟨w.heap.size, 0, none⟩)) (w.alloc (.mapIter (some b) c #[] c)) := by
  simp only [Instr.range, run_underlying ht, Sem.run_bind, Result.andThen_ok, run_getObj h]
  simp [newObj, Sem.run, Result.andThen]

/-- 'range m' at the operation. -/
theorem wpList_range_at {P : Program} (w : World) {ops : Array Oper} {rest : List Oper} {o : Oper} {a : Act} {Q : Exit → Act → World → Prop}
    (hg : o.guard = none) (m : Operand) (t : TypeId) (hop : o.op = Op.range t m) (kt e : TypeId) (kd : IntKind) (ht : P.underlying t = some (.map kt e)) (b : Nat) (es : List Ent) (c : Nat)
    (hm : a.eval m = .map (some b)) (h : MapAt w b kd es c)
    (hK : ∀ w', IterAt w' w.heap.size b c [] c → Below w.heap.size w w' → w'.heap.size = w.heap.size + 1 → wpList P ops Q rest (a.put o.dst (.pointer (some ⟨w.heap.size, 0, none⟩))) w') :
    wpList P ops Q (o :: rest) a w := by
  refine wpList_plain hg fun K' hK' => ?_
  have hrun := run_range_at (P := P) h ht
  unfold Oper.wp
  simp [execOp, hop, hm, hrun, Result.andThen]
  refine hK' _ _ (hK _ ?_ ((Below.refl _ _).alloc (Nat.le_refl _) _) (by simp))
  show (w.heap.push _)[w.heap.size]? = _
  simp

/-- The step. -/
theorem wpList_next_at {P : Program} (w : World) {ops : Array Oper} {rest : List Oper} {o : Oper} {a : Act} {Q : Exit → Act → World → Prop}
    (hg : o.guard = none) (it : Operand) (hop : o.op = Op.next it false) (kd : IntKind) (r b since : Nat) (es : List Ent) (seen : List Nat) (c : Nat)
    (hit : a.eval it = .pointer (some ⟨r, 0, none⟩)) (hi : IterAt w r b since seen c) (h : MapAt w b kd es c) (hold : ∀ x ∈ es, x.born < since) (hsc : since ≤ c) (hn : (es.map (·.born)).Nodup)
    (hDone : (∀ x ∈ es, x.born ∈ seen) → wpList P ops Q rest (a.put o.dst (.tuple #[.bool false])) w)
    (hMore : ∀ (x : Ent) (w' : World), x ∈ es → x.born ∉ seen → IterAt w' r b since (seen ++ [x.born]) c → Kept (fun j => j = r) w w' → w'.heap.size = w.heap.size → (Instr.entry (.pointer (some ⟨r, 0, none⟩))).run P w' = .ok (.tuple #[.int kd x.key, x.val]) w' →
      wpList P ops Q rest (a.put o.dst (.tuple #[.bool true, .int kd x.key, x.val])) w') :
    wpList P ops Q (o :: rest) a w := by
  refine wpList_plain hg fun K' hK' => ?_
  have hold' : ∀ x ∈ (es.map (Ent.mk' kd)).toArray.toList, x.born < since := by
    intro x hx
    simp only [List.mem_map] at hx
    obtain ⟨y, hy, rfl⟩ := hx
    exact hold y hy
  unfold Oper.wp
  rcases run_next_at (P := P) w o.type r b since c seen.toArray (es.map (Ent.mk' kd)).toArray c hi h hold' hsc with ⟨h0, hrun⟩ | ⟨e, he, w1, hal, hrun⟩
  · simp [execOp, hop, hit, hrun, Result.andThen]
    refine hK' _ _ (hDone fun x hx => ?_)
    have hemp : leftOf (es.map (Ent.mk' kd)).toArray seen.toArray = #[] := Array.eq_empty_of_size_eq_zero h0
    unfold leftOf at hemp
    rw [Array.filter_eq_empty_iff] at hemp
    have := hemp (Ent.mk' kd x) (by simp; exact ⟨x, hx, rfl⟩)
    simpa [Ent.mk'] using this
  · unfold leftOf at he
    simp only [Array.toList_filter, List.mem_filter, List.mem_map] at he
    obtain ⟨⟨x, hx, rfl⟩, hns⟩ := he
    simp [execOp, hop, hit, hrun, Result.andThen]
    have hr : r < w.heap.size := lt_of_block hi
    have hw1 : w1.heap = w.heap := by rcases hal with rfl | rfl <;> rfl
    have hk : Kept (fun j => j = r) w (ChangeMaps.setBlock w1 r (.mapIter (some b) since (seen ++ [x.born]).toArray c)) := by
      have k1 : Kept (fun j => j = r) w w1 := by rcases hal with rfl | rfl; exact Kept.refl _ _; exact (Kept.refl _ _).drew
      exact k1.trans (kept_setBlk w1 r _)
    have hit' : (ChangeMaps.setBlock w1 r (.mapIter (some b) since (seen ++ [x.born]).toArray c)).heap[r]? = some (.mapIter (some b) since (seen ++ [x.born]).toArray c) := setBlk_at (w := w1) (by rw [hw1]; exact hr) _
    have hrb : r ≠ b := by
      rintro rfl
      have e1 : w.heap[r]? = some (.mapIter (some r) since seen.toArray c) := hi
      have e2 : w.heap[r]? = some (.map (es.map (Ent.mk' kd)).toArray c) := h
      rw [e1] at e2
      cases e2
    refine hK' _ _ (hMore x _ hx (by simpa [Ent.mk'] using hns) hit' hk (by simp [ChangeMaps.setBlock, hw1]) ?_)
    refine run_entry_at _ r b since seen.toArray (es.map (Ent.mk' kd)).toArray c (Ent.mk' kd x) (hit'.trans (by simp [Ent.mk'])) ((hk.block b (lt_of_block h) (fun e => hrb e.symm)).trans h) (by simp; exact ⟨x, hx, rfl⟩) ?_
    have : (es.map (Ent.mk' kd)).toArray.toList.map (·.born) = es.map (·.born) := by simp [Ent.mk', Function.comp_def]
    rw [this]; exact hn
end Go.Proofs.YtfehonejcambgaaGreatDoor
