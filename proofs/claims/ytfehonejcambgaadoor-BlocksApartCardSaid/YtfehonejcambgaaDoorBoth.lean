/- Layer 2 (blocks): what a law holds: blocks that it made, and a slice of refs. -/
import Derived.Test.YtfehonejcambgaaDoorLaw02
import Derived.Test.YtfehonejcambgaaDoorRow
import Derived.Test.YtfehonejcambgaaDoorStalePlain
namespace Go.Proofs.YtfehonejcambgaaDoor
open Go.RowKit Bl
set_option maxRecDepth 10000

def encR (k : Nat) : Value := .int .u64 (k : Int)
/-- What a law holds: a slice of refs, and blocks. -/
structure Both (W : World) (pb : Nat) (S : BS) (v : Value) (l : List Nat) (wr : World) : Prop where
  own : Own W v.ownBlock.toList pb S wr
  row : Row wr W.heap.size 22 v (l.map encR)

theorem row_held {w w' : World} {base : Nat} {e : TypeId} {v : Value} {xs : List Value} (h : Row w base e v xs) (hh : HeldBy v.ownBlock.toList w w') : Row w' base e v xs :=
  h.same fun k hk => hh k (by simp [hk])
theorem Both.next {W : World} {pb : Nat} {S S' : BS} {v : Value} {l : List Nat} {wr w' : World} (h : Both W pb S v l wr) (ho : Own W v.ownBlock.toList pb S' w') (hh : HeldBy v.ownBlock.toList wr w') : Both W pb S' v l w' := ⟨ho, row_held h.row hh⟩
theorem Both.below' {W : World} {pb : Nat} {S : BS} {v : Value} {l : List Nat} {wr w' : World} (h : Both W pb S v l wr) (hb : Below wr.heap.size wr w') : Both W pb S v l w' :=
  h.next (h.own.below' hb) fun b hm => hb.block b (h.own.held b hm)

/-- A refused call: the error's number is 5. -/
def Stale (w w' : World) (v : Value) : Prop := ErrNo w' v 5 ∧ Below w.heap.size w w'
theorem both_load_bad {W : World} {pb : Nat} {S : BS} {v : Value} {l : List Nat} {wr : World} (h : Both W pb S v l wr) {ref : Nat} (hr : ref < 18446744073709551616) (i : Int) (hf : find S ref = none) :
    Calls Tryd.prog 32 #[.pointer (some ⟨pb, 0, none⟩), .int .u64 ref, .int .i64 i] wr fun e w' => ∃ f, e = .returned (.tuple #[.int .u64 0, f]) ∧ Stale wr w' f := by
  obtain ⟨L, h1, h2⟩ := h.own.lay
  refine (bload_stale h1 ref hr i hf).mono ?_
  rintro e w' ⟨f, rfl, hv, hb⟩
  exact ⟨f, rfl, hv.err, hb⟩
theorem word_none {S : BS} {ref : Nat} (hf : find S ref = none) (i : Int) : word S ref i = .error 5 := by unfold word; rw [hf]
theorem both_cas_bad {W : World} {pb : Nat} {S : BS} {v : Value} {l : List Nat} {wr : World} (h : Both W pb S v l wr) {ref : Nat} (hr : ref < 18446744073709551616) (i o x : Int) (hf : find S ref = none) :
    Calls Tryd.prog 34 #[.pointer (some ⟨pb, 0, none⟩), .int .u64 ref, .int .i64 i, .int .u64 o, .int .u64 x] wr fun e w' => ∃ f, e = .returned (.tuple #[.bool false, f]) ∧ Stale wr w' f := by
  obtain ⟨L, h1, h2⟩ := h.own.lay
  refine (bcas_bad h1 ref hr i o x (word_none hf i)).mono ?_
  rintro e w' ⟨f, a, rfl, hv, hb⟩
  exact ⟨f, rfl, hv.err, hb⟩
theorem both_store_bad {W : World} {pb : Nat} {S : BS} {v : Value} {l : List Nat} {wr : World} (h : Both W pb S v l wr) {ref : Nat} (hr : ref < 18446744073709551616) (i x : Int) (hf : find S ref = none) :
    Calls Tryd.prog 31 #[.pointer (some ⟨pb, 0, none⟩), .int .u64 ref, .int .i64 i, .int .u64 x] wr fun e w' => ∃ f, e = .returned f ∧ Stale wr w' f := by
  obtain ⟨L, h1, h2⟩ := h.own.lay
  refine (bstore_bad h1 ref hr i x (word_none hf i)).mono ?_
  rintro e w' ⟨f, a, rfl, hv, hb⟩
  exact ⟨f, rfl, hv.err, hb⟩
theorem both_free_bad {W : World} {pb : Nat} {S : BS} {v : Value} {l : List Nat} {wr : World} (h : Both W pb S v l wr) {ref : Nat} (hr : ref < 18446744073709551616) (hf : find S ref = none) :
    Calls Tryd.prog 28 #[.pointer (some ⟨pb, 0, none⟩), .int .u64 ref] wr fun e w' => ∃ f, e = .returned f ∧ Stale wr w' f := by
  obtain ⟨L, h1, h2⟩ := h.own.lay
  refine (bfree_bad h1 ref hr hf).mono ?_
  rintro e w' ⟨f, a, rfl, hv, hb⟩
  exact ⟨f, rfl, hv.err, hb⟩
theorem both_load {W : World} {pb : Nat} {S : BS} {v : Value} {l : List Nat} {wr : World} (h : Both W pb S v l wr) {ref : Nat} (hr : ref < 18446744073709551616) (i : Int) {k : Nat} (hw : word S ref i = .ok k) :
    Calls Tryd.prog 32 #[.pointer (some ⟨pb, 0, none⟩), .int .u64 ref, .int .i64 i] wr fun e w' => e = .returned (.tuple #[.int .u64 (S.ws.getD k 0 : Nat), .nilIface]) ∧ Both W pb S v l w' := by
  obtain ⟨L, h1, h2⟩ := h.own.lay
  refine (bload_ok h1 ref hr i hw).mono ?_
  rintro e w' ⟨rfl, r, k⟩
  obtain ⟨a, b⟩ := h.own.moved h2 r (Moved.same k (two_mem pb L)) h.own.uniq
  exact ⟨rfl, h.next a b⟩
theorem both_alloc {W : World} {pb : Nat} {S S' : BS} {v : Value} {l : List Nat} {wr : World} (h : Both W pb S v l wr) {n : Int} {ref : Nat} (ha : alloc S n = .ok (ref, S')) :
    Calls Tryd.prog 27 #[.pointer (some ⟨pb, 0, none⟩), .int .i64 n] wr fun e w' => e = .returned (.tuple #[.int .u64 ref, .nilIface]) ∧ Both W pb S' v l w' :=
  (own_alloc h.own ha).mono fun _ _ ⟨he, a, b⟩ => ⟨he, h.next a b⟩
theorem both_free {W : World} {pb : Nat} {S S' : BS} {v : Value} {l : List Nat} {wr : World} (h : Both W pb S v l wr) {ref : Nat} (hr : ref < 18446744073709551616) (hf : free S ref = some S') :
    Calls Tryd.prog 28 #[.pointer (some ⟨pb, 0, none⟩), .int .u64 ref] wr fun e w' => e = .returned .nilIface ∧ Both W pb S' v l w' :=
  (own_free h.own hr hf).mono fun _ _ ⟨he, a, b⟩ => ⟨he, h.next a b⟩
/-- The slice is appended to. -/
theorem Both.app {W : World} {pb : Nat} {S : BS} {v : Value} {l : List Nat} {w w' : World} {g o n cap x : Nat} (h : Both W pb S v l w)
    (hr : Row w' W.heap.size 22 (.slice (some ⟨g, o, none⟩) n cap) (l.map encR ++ [encR x])) (hg : w.grownBy w' v.ownBlock) (ho : v.ownBlock = some g ∨ g = w.heap.size) (hlt : g < w'.heap.size) : Both W pb S (.slice (some ⟨g, o, none⟩) n cap) (l ++ [x]) w' := by
  have hk := Kept.of_grown hg
  refine ⟨h.own.step (R' := [g]) (hk.mono fun b _ hb => by simp [← hb]) ?_ fun b hb => ?_, by simpa using hr⟩
  · exact h.own.below.trans (hk.below h.own.below.size fun b hb e => by have := (h.row.lt b e.symm).1; omega)
  · simp only [List.mem_cons, List.not_mem_nil, or_false] at hb
    subst hb
    refine ⟨?_, hlt⟩
    rcases ho with e | e
    · exact .inl (by simp [e])
    · exact .inr (by omega)
theorem both_top {W : World} {pb : Nat} {S : BS} {v : Value} {l : List Nat} {wr : World} (h : Both W pb S v l wr) : Calls Tryd.prog 29 #[.pointer (some ⟨pb, 0, none⟩)] wr fun e w' => e = .returned (.int .i64 S.top) ∧ wr = w' := by
  obtain ⟨L, h1, h2⟩ := h.own.lay
  exact btop_ok h1
theorem both_used {W : World} {pb : Nat} {S : BS} {v : Value} {l : List Nat} {wr : World} (h : Both W pb S v l wr) :
    Calls Tryd.prog 30 #[.pointer (some ⟨pb, 0, none⟩)] wr fun e w' => e = .returned (.int .i64 (usedBy S.bl : Int)) ∧ Both W pb S v l w' :=
  (own_used h.own).mono fun _ _ ⟨he, a, b⟩ => ⟨he, h.next a b⟩
theorem in_eight (x : Int) : ∃ N : Nat, 1 ≤ N ∧ N ≤ 8 ∧ wrap64 (1 + (wrap64 (x.tmod 8 + 8)).tmod 8) = (N : Int) := by
  have h1 : -8 < x.tmod 8 := Int.lt_tmod_of_pos x (by decide)
  have h2 : x.tmod 8 < 8 := Int.tmod_lt_of_pos x (by decide)
  have e1 : wrap64 (x.tmod 8 + 8) = x.tmod 8 + 8 := IntWalk.wrap64_in _ (by omega)
  rw [e1]
  have h3 : 0 ≤ (x.tmod 8 + 8).tmod 8 := Int.tmod_nonneg _ (by omega)
  have h4 : (x.tmod 8 + 8).tmod 8 < 8 := Int.tmod_lt_of_pos _ (by decide)
  rw [IntWalk.wrap64_in _ (by omega)]
  exact ⟨(1 + (x.tmod 8 + 8).tmod 8).toNat, by omega, by omega, by omega⟩
theorem in_thirty (x : Int) : ∃ N : Nat, 1 ≤ N ∧ N ≤ 30 ∧ wrap64 (1 + (wrap64 (x.tmod 30 + 30)).tmod 30) = (N : Int) := by
  have h1 : -30 < x.tmod 30 := Int.lt_tmod_of_pos x (by decide)
  have h2 : x.tmod 30 < 30 := Int.tmod_lt_of_pos x (by decide)
  have e1 : wrap64 (x.tmod 30 + 30) = x.tmod 30 + 30 := IntWalk.wrap64_in _ (by omega)
  rw [e1]
  have h3 : 0 ≤ (x.tmod 30 + 30).tmod 30 := Int.tmod_nonneg _ (by omega)
  have h4 : (x.tmod 30 + 30).tmod 30 < 30 := Int.tmod_lt_of_pos _ (by decide)
  rw [IntWalk.wrap64_in _ (by omega)]
  exact ⟨(1 + (x.tmod 30 + 30).tmod 30).toNat, by omega, by omega, by omega⟩

end Go.Proofs.YtfehonejcambgaaDoor
