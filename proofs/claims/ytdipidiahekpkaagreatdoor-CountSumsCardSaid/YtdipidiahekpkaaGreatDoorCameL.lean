/- A slice argument of one-cell elements, as a list of values. -/
import Derived.Test.YtdipidiahekpkaaGreatDoorChecked
import Derived.ProofKit
import Derived.OpenShut
import Derived.Below
namespace Go.Proofs.YtdipidiahekpkaaGreatDoor
open Go.ChangeShapes Go.WideShapes Go.ChangeAt Go.RowKit

/-- A slice that came in has these values. -/
def CameL (w : World) (v : Value) (l : List Value) : Prop :=
  (v = .slice none 0 0 ∧ l = []) ∨ ∃ a cap, v = .slice (some a) l.length cap ∧ l.length ≤ maxLen ∧ ∀ i x, l[i]? = some x → w.cell? (a.add i) = some x
theorem CameL.shape {w : World} {v : Value} {l : List Value} (h : CameL w v l) : ∃ p cap, v = .slice p l.length cap ∧ l.length ≤ maxLen := by
  rcases h with ⟨rfl, rfl⟩ | ⟨a, cap, rfl, hm, _⟩
  · exact ⟨_, _, rfl, Nat.zero_le _⟩
  · exact ⟨_, _, rfl, hm⟩
theorem CameL.cell {w w' : World} {p : Option Addr} {n cap : Nat} {l : List Value} (h : CameL w (.slice p n cap) l) (hb : Below w.heap.size w w') {i : Nat} {x : Value} (hx : l[i]? = some x) : ∃ a, p = some a ∧ w'.cell? (a.add i) = some x := by
  rcases h with ⟨h0, rfl⟩ | ⟨a, cap, hv, hm, hc⟩
  · simp at hx
  · obtain ⟨rfl, _, _⟩ := Value.slice.inj hv
    have h1 := hc i x hx
    exact ⟨a, rfl, (hb.cell (World.block_lt_of_cell? w _ h1)).trans h1⟩


theorem cameL_of {P : Program} {α H : Type} {enc : TypeId × Value → H} {W : World} {r : Reach} {b0 base : Nat} {sp : Nat → Bool} {held : Bool} {t e : TypeId} {v : Value} {d : DataW H} {ps : List MemPlace} (f : α → Value) (G : α → Prop) (ht : P.underlying t = some (.slice e)) (hc : P.cellsOf e = 1)
    (hval : Value.okWide P W r b0 t v) (hd : DataW.Trod enc P W base sp held t v d ps) (dec : ∀ n cs y, DataW.trod enc P W base sp held n e cs = some y → ∃ x, cs = [f x] ∧ G x) :
    ∃ l : List α, CameL W v (l.map f) ∧ ∀ x ∈ l, G x := by
  obtain ⟨a0, len0, cap0, rfl⟩ := okWide_slice ht hval
  obtain ⟨fuel, hf⟩ := hd
  rcases DataW.trod_slice ht hf with ⟨h0, _⟩ | ⟨a, len, cap, elems, rest, n, _, hcs, hx, hb, hl, hm, hlen, hel, _⟩
  · simp [Value.cells] at h0
    obtain ⟨rfl, rfl, rfl⟩ := h0
    exact ⟨[], Or.inl ⟨rfl, rfl⟩, by simp⟩
  · simp [Value.cells] at hcs
    obtain ⟨rfl, rfl, rfl⟩ := hcs
    have key : ∀ i, i < len0 → ∃ x, W.cell? (a.add i) = some (f x) ∧ G x := by
      intro i hi
      have h1 := hel i hi
      rw [hc, Nat.mul_one, List.getElem?_eq_getElem (by omega), Option.bind_eq_some_iff] at h1
      obtain ⟨cs', hcs', hy⟩ := h1
      obtain ⟨x, rfl, hg⟩ := dec _ _ _ hy
      exact ⟨x, cell_of_cells?_one hcs', hg⟩
    let g : Fin len0 → α := fun i => Classical.choose (key i i.2)
    have hg : ∀ i : Fin len0, W.cell? (a.add i) = some (f (g i)) ∧ G (g i) := fun i => Classical.choose_spec (key i i.2)
    refine ⟨List.ofFn g, Or.inr ⟨a, cap0, by simp, by simp; omega, ?_⟩, ?_⟩
    · intro i x hx
      rw [List.getElem?_map, Option.map_eq_some_iff] at hx
      obtain ⟨y, hy, rfl⟩ := hx
      rw [List.getElem?_ofFn] at hy
      split at hy
      · rename_i hi
        cases hy
        exact (hg ⟨i, hi⟩).1
      · cases hy
    · intro x hx
      rw [List.mem_ofFn] at hx
      obtain ⟨i, rfl⟩ := hx
      exact (hg i).2
theorem came_bools {P : Program} {H : Type} {enc : TypeId × Value → H} {W : World} {r : Reach} {b0 base : Nat} {sp : Nat → Bool} {held : Bool} {t e : TypeId} {v : Value} {d : DataW H} {ps : List MemPlace} (ht : P.underlying t = some (.slice e)) (he : P.underlying e = some .bool) (hc : P.cellsOf e = 1)
    (hval : Value.okWide P W r b0 t v) (hd : DataW.Trod enc P W base sp held t v d ps) : ∃ l : List Bool, CameL W v (l.map .bool) := by
  obtain ⟨l, h, _⟩ := cameL_of (α := Bool) .bool (fun _ => True) ht hc hval hd fun n cs y h => by
    obtain ⟨b, h1, _⟩ := DataW.trod_bool he h
    exact ⟨b, h1, trivial⟩
  exact ⟨l, h⟩
theorem came_ints {P : Program} {H : Type} {enc : TypeId × Value → H} {W : World} {r : Reach} {b0 base : Nat} {sp : Nat → Bool} {held : Bool} {t e : TypeId} {k : IntKind} {v : Value} {d : DataW H} {ps : List MemPlace} (ht : P.underlying t = some (.slice e)) (he : P.underlying e = some (.int k)) (hc : P.cellsOf e = 1)
    (hval : Value.okWide P W r b0 t v) (hd : DataW.Trod enc P W base sp held t v d ps) : ∃ l : List Int, CameL W v (l.map (.int k)) ∧ ∀ x ∈ l, (Lit.int k x).wf = true :=
  cameL_of (α := Int) (.int k) (fun x => (Lit.int k x).wf = true) ht hc hval hd fun n cs y h => by
    obtain ⟨b, h1, _, h3⟩ := DataW.trod_int he h
    exact ⟨b, h1, h3⟩
end Go.Proofs.YtdipidiahekpkaaGreatDoor
