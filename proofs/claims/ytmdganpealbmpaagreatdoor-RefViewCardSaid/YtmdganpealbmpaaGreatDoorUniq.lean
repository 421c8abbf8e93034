/- Layer 2 (blocks): small laws that the laws above share. -/
import Derived.Test.YtmdganpealbmpaaGreatDoorBlocks4
import Derived.Test.YtmdganpealbmpaaGreatDoorLivePlain
namespace Go.Proofs.YtmdganpealbmpaaGreatDoor
open Go.RowKit Bl
set_option maxRecDepth 10000

/-- Where errors.As finds the type 'error'. -/
def Handle (w : World) : Prop := w.cell? ⟨0, 0, none⟩ = some (.iface 179 (.agg #[.pointer (some ⟨1, 47, none⟩)]))
theorem Handle.lt {w : World} (h : Handle w) : 0 < w.heap.size := World.block_lt_of_cell? w _ h
theorem Handle.below {B : Nat} {w w' : World} (h : Handle w) (hB : 0 < B) (k : Below B w w') : Handle w' := (k.cell hB).trans h

/-- The blocks stay as they are held. -/
def HeldBy (R : List Nat) (w w' : World) : Prop := w.heap.size ≤ w'.heap.size ∧ ∀ b ∈ R, w'.heap[b]? = w.heap[b]?

theorem uniq_alloc {S S' : BS} {n : Int} {ref : Nat} (h : Uniq S) (ha : alloc S n = .ok (ref, S')) : Uniq S' := by
  unfold alloc at ha
  split at ha
  · split at ha
    · cases ha
    · rename_i p S1 ht
      split at ha
      · cases ha
      · simp only [Except.ok.injEq, Prod.mk.injEq] at ha
        obtain ⟨_, rfl⟩ := ha
        have h1 : Uniq S1 := by
          unfold take at ht
          split at ht
          · simp only [Option.some.injEq, Prod.mk.injEq] at ht
            obtain ⟨_, rfl⟩ := ht
            exact h
          · split at ht
            · cases ht
            · simp only [Option.some.injEq, Prod.mk.injEq] at ht
              obtain ⟨_, rfl⟩ := ht
              exact aput_nodup _ _ _ h
        exact aput_nodup _ _ _ h1
  · cases ha
theorem uniq_free {S S' : BS} {ref : Nat} (h : Uniq S) (hf : free S ref = some S') : Uniq S' := by
  unfold free at hf
  split at hf
  · cases hf
  · simp only [Option.some.injEq] at hf
    subst hf
    exact aput_nodup _ _ _ h

end Go.Proofs.YtmdganpealbmpaaGreatDoor
