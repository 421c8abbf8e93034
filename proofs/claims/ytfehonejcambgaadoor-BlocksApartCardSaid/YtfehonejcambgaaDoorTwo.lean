/- Layer 2 (blocks): what a law holds: blocks that it made, a slice of refs, and a slice of sizes. -/
import Derived.Test.YtfehonejcambgaaDoorBoth
namespace Go.Proofs.YtfehonejcambgaaDoor
open Go.RowKit Bl
set_option maxRecDepth 10000

def encI (k : Nat) : Value := .int .i64 (k : Int)
theorem Row.caps {w : World} {base : Nat} {e : TypeId} {a : Addr} {n cap : Nat} {xs : List Value} (h : Row w base e (.slice (some a) n cap) xs) : n ≤ cap ∧ cap ≤ 2 ^ 63 - 1 := by
  rcases h with ⟨h, _⟩ | ⟨g, o, cap', cur, hv, _, _, h1, h2, _⟩
  · cases h
  · simp only [Value.slice.injEq, Option.some.injEq] at hv
    obtain ⟨rfl, rfl, rfl⟩ := hv
    exact ⟨h1, h2⟩
structure Two (W : World) (pb : Nat) (S : BS) (v u : Value) (l s : List Nat) (wr : World) : Prop where
  own : Own W (v.ownBlock.toList ++ u.ownBlock.toList) pb S wr
  row : Row wr W.heap.size 22 v (l.map encR)
  rowS : Row wr W.heap.size 3 u (s.map encI)
  ne : ∀ b, v.ownBlock = some b → u.ownBlock = some b → False

theorem two_ok {W : World} {pb : Nat} {S : BS} {v u : Value} {l s : List Nat} {wr : World} (h : Two W pb S v u l s wr) : Ok S := by
  obtain ⟨L, h1, h2⟩ := h.own.lay
  exact h1.ok
theorem Two.next {W : World} {pb : Nat} {S S' : BS} {v u : Value} {l s : List Nat} {wr w' : World} (h : Two W pb S v u l s wr) (ho : Own W (v.ownBlock.toList ++ u.ownBlock.toList) pb S' w') (hh : HeldBy (v.ownBlock.toList ++ u.ownBlock.toList) wr w') : Two W pb S' v u l s w' :=
  ⟨ho, h.row.same fun k hk => hh k (by simp [hk]), h.rowS.same fun k hk => hh k (by simp [hk]), h.ne⟩
theorem Two.below' {W : World} {pb : Nat} {S : BS} {v u : Value} {l s : List Nat} {wr w' : World} (h : Two W pb S v u l s wr) (hb : Below wr.heap.size wr w') : Two W pb S v u l s w' :=
  h.next (h.own.below' hb) fun b hm => hb.block b (h.own.held b hm)
theorem Two.cell {W : World} {pb : Nat} {S : BS} {v u : Value} {l s : List Nat} {w : World} (h : Two W pb S v u l s w) (c : Value) (t : TypeId) : Two W pb S v u l s (w.alloc (.cells #[c] t)) :=
  h.below' ((Below.refl _ _).alloc (Nat.le_refl _) _)
/-- The refs are appended to. -/
theorem Two.app {W : World} {pb : Nat} {S : BS} {v u : Value} {l s : List Nat} {w w' : World} {g o n cap x : Nat} (h : Two W pb S v u l s w)
    (hr : Row w' W.heap.size 22 (.slice (some ⟨g, o, none⟩) n cap) (l.map encR ++ [encR x])) (hg : w.grownBy w' v.ownBlock) (ho : v.ownBlock = some g ∨ g = w.heap.size) (hlt : g < w'.heap.size) : Two W pb S (.slice (some ⟨g, o, none⟩) n cap) u (l ++ [x]) s w' := by
  have hk := Kept.of_grown hg
  refine ⟨h.own.step (R' := [g] ++ u.ownBlock.toList) (hk.mono fun b _ hb => by simp [← hb]) ?_ fun b hb => ?_, by simpa using hr, ?_, ?_⟩
  · exact h.own.below.trans (hk.below h.own.below.size fun b hb e => by have := (h.row.lt b e.symm).1; omega)
  · simp only [List.mem_append, List.mem_cons, List.not_mem_nil, or_false, Option.mem_toList] at hb
    rcases hb with rfl | hb
    · refine ⟨?_, hlt⟩
      rcases ho with e | e
      · exact .inl (by simp [e])
      · exact .inr (by omega)
    · exact ⟨.inl (by simp [hb]), Nat.lt_of_lt_of_le (h.rowS.lt b hb).2 hk.size⟩
  · exact h.rowS.same fun k hu => hk.block k (h.rowS.lt k hu).2 fun e => h.ne k e.symm hu
  · intro b hb hu
    simp only [Value.ownBlock, Option.some.injEq] at hb
    subst hb
    rcases ho with e | e
    · exact h.ne _ e hu
    · have := (h.rowS.lt _ hu).2; omega
/-- The sizes are appended to. -/
theorem Two.appS {W : World} {pb : Nat} {S : BS} {v u : Value} {l s : List Nat} {w w' : World} {g o n cap x : Nat} (h : Two W pb S v u l s w)
    (hr : Row w' W.heap.size 3 (.slice (some ⟨g, o, none⟩) n cap) (s.map encI ++ [encI x])) (hg : w.grownBy w' u.ownBlock) (ho : u.ownBlock = some g ∨ g = w.heap.size) (hlt : g < w'.heap.size) : Two W pb S v (.slice (some ⟨g, o, none⟩) n cap) l (s ++ [x]) w' := by
  have hk := Kept.of_grown hg
  refine ⟨h.own.step (R' := v.ownBlock.toList ++ [g]) (hk.mono fun b _ hb => by simp [← hb]) ?_ fun b hb => ?_, ?_, by simpa using hr, ?_⟩
  · exact h.own.below.trans (hk.below h.own.below.size fun b hb e => by have := (h.rowS.lt b e.symm).1; omega)
  · simp only [List.mem_append, List.mem_cons, List.not_mem_nil, or_false, Option.mem_toList] at hb
    rcases hb with hb | rfl
    · exact ⟨.inl (by simp [hb]), Nat.lt_of_lt_of_le (h.row.lt b hb).2 hk.size⟩
    · refine ⟨?_, hlt⟩
      rcases ho with e | e
      · exact .inl (by simp [e])
      · exact .inr (by omega)
  · exact h.row.same fun k hu => hk.block k (h.row.lt k hu).2 fun e => h.ne k hu e.symm
  · intro b hb hu
    simp only [Value.ownBlock, Option.some.injEq] at hu
    subst hu
    rcases ho with e | e
    · exact h.ne _ hb e
    · have := (h.row.lt _ hb).2; omega
/-- The last of each is left out. -/
theorem Two.init {W : World} {pb : Nat} {S : BS} {g o n cap g' o' n' cap' x y : Nat} {l s : List Nat} {w : World} (h : Two W pb S (.slice (some ⟨g, o, none⟩) n cap) (.slice (some ⟨g', o', none⟩) n' cap') (l ++ [x]) (s ++ [y]) w) : Two W pb S (.slice (some ⟨g, o, none⟩) (n - 1) cap) (.slice (some ⟨g', o', none⟩) (n' - 1) cap') l s w := by
  have h1 := h.row
  have h2 := h.rowS
  rw [List.map_append] at h1 h2
  exact ⟨h.own, h1.init, h2.init, h.ne⟩
theorem Two.drewN {W : World} {pb : Nat} {S : BS} {v u : Value} {l s : List Nat} {w : World} (h : Two W pb S v u l s w) (n : Nat) : Two W pb S v u l s (w.drewN n) :=
  h.below' ⟨rfl, rfl, rfl, Nat.le_refl _, fun _ _ => rfl⟩
theorem Two.at {W : World} {pb : Nat} {S : BS} {p p' : Option Addr} {n cap n' cap' : Nat} {rs : List (Nat × Nat)} {w : World} (h : Two W pb S (.slice p n cap) (.slice p' n' cap') (rs.map (·.1)) (rs.map (·.2)) w) {k : Nat} {r : Nat × Nat} (hk : rs[k]? = some r) :
    ∃ g o g' o', p = some ⟨g, o, none⟩ ∧ p' = some ⟨g', o', none⟩ ∧ w.cell? ⟨g, o + k, none⟩ = some (.int .u64 (r.1 : Int)) ∧ w.cell? ⟨g', o' + k, none⟩ = some (.int .i64 (r.2 : Int)) := by
  have hl := (List.getElem?_eq_some_iff.1 hk).1
  obtain ⟨g, o, c, hv, _, _, hc⟩ := h.row.cells (by simp only [List.length_map]; omega)
  obtain ⟨g', o', c', hv', _, _, hc'⟩ := h.rowS.cells (by simp only [List.length_map]; omega)
  have h1 := (hc k (by simp only [List.length_map]; omega)).1
  have h2 := (hc' k (by simp only [List.length_map]; omega)).1
  rw [List.getElem?_map, List.getElem?_map, hk] at h1 h2
  exact ⟨g, o, g', o', (Value.slice.inj hv).1, (Value.slice.inj hv').1, h1, h2⟩
theorem two_alloc {W : World} {pb : Nat} {S S' : BS} {v u : Value} {l s : List Nat} {wr : World} (h : Two W pb S v u l s wr) {n : Int} {ref : Nat} (ha : alloc S n = .ok (ref, S')) :
    Calls Tryd.prog 27 #[.pointer (some ⟨pb, 0, none⟩), .int .i64 n] wr fun e w' => e = .returned (.tuple #[.int .u64 ref, .nilIface]) ∧ Two W pb S' v u l s w' :=
  (own_alloc h.own ha).mono fun _ _ ⟨he, a, b⟩ => ⟨he, h.next a b⟩
theorem two_free {W : World} {pb : Nat} {S S' : BS} {v u : Value} {l s : List Nat} {wr : World} (h : Two W pb S v u l s wr) {ref : Nat} (hr : ref < 18446744073709551616) (hf : free S ref = some S') :
    Calls Tryd.prog 28 #[.pointer (some ⟨pb, 0, none⟩), .int .u64 ref] wr fun e w' => e = .returned .nilIface ∧ Two W pb S' v u l s w' :=
  (own_free h.own hr hf).mono fun _ _ ⟨he, a, b⟩ => ⟨he, h.next a b⟩
theorem two_load {W : World} {pb : Nat} {S : BS} {v u : Value} {l s : List Nat} {wr : World} (h : Two W pb S v u l s wr) {ref : Nat} (hr : ref < 18446744073709551616) (i : Int) {k : Nat} (hw : word S ref i = .ok k) :
    Calls Tryd.prog 32 #[.pointer (some ⟨pb, 0, none⟩), .int .u64 ref, .int .i64 i] wr fun e w' => e = .returned (.tuple #[.int .u64 (S.ws.getD k 0 : Nat), .nilIface]) ∧ Two W pb S v u l s w' := by
  obtain ⟨L, h1, h2⟩ := h.own.lay
  refine (bload_ok h1 ref hr i hw).mono ?_
  rintro e w' ⟨rfl, r, k⟩
  obtain ⟨a, b⟩ := h.own.moved h2 r (Moved.same k (two_mem pb L)) h.own.uniq
  exact ⟨rfl, h.next a b⟩
theorem two_store {W : World} {pb : Nat} {S : BS} {v u : Value} {l s : List Nat} {wr : World} (h : Two W pb S v u l s wr) {ref : Nat} (hr : ref < 18446744073709551616) (i : Int) {x : Nat} (hx : x < 18446744073709551616) {k : Nat} (hw : word S ref i = .ok k) :
    Calls Tryd.prog 31 #[.pointer (some ⟨pb, 0, none⟩), .int .u64 ref, .int .i64 i, .int .u64 x] wr fun e w' => e = .returned .nilIface ∧ Two W pb { S with ws := S.ws.set k x } v u l s w' := by
  obtain ⟨L, h1, h2⟩ := h.own.lay
  refine (bstore_ok h1 ref hr i x hx hw).mono ?_
  rintro e w' ⟨rfl, r, k⟩
  obtain ⟨a, b⟩ := h.own.moved h2 r (Moved.same k (two_mem pb L)) h.own.uniq
  exact ⟨rfl, h.next a b⟩
theorem two_live {W : World} {pb : Nat} {S : BS} {v u : Value} {l s : List Nat} {wr : World} (h : Two W pb S v u l s wr) :
    Calls Tryd.prog 33 #[.pointer (some ⟨pb, 0, none⟩)] wr fun e w' => (∃ p cap, e = .returned (.slice p (liveRefs S.bl).length cap)) ∧ Below W.heap.size W w' := by
  obtain ⟨L, h1, h2⟩ := h.own.lay
  refine (live_ok' h1 h.own.uniq).mono ?_
  rintro e w' ⟨p, cap, l', rfl, hp, hb, _⟩
  exact ⟨⟨p, cap, by rw [hp.length_eq]⟩, h.own.below.trans (hb.mono h.own.below.size)⟩
end Go.Proofs.YtfehonejcambgaaDoor
