/- Layer 2 (blocks): what lies in memory, and one contract a function. -/
import Derived.Test.YtmdganpealbmpaaGreatDoorWords
import Derived.Test.YtmdganpealbmpaaGreatDoorHeap
import Derived.Test.YtmdganpealbmpaaGreatDoorBlocksPlain
import Derived.Laws.BitsAllLaws
namespace Go.Proofs.YtmdganpealbmpaaGreatDoor
open Go.RowKit Bl
set_option maxRecDepth 10000

/-- Where blocks lie: the arena, its words, the two maps, the blocks' own structs, the freed lists' slices. -/
structure Lay where
  pa : Nat
  wb : Nat
  bm : Nat
  fm : Nat
  xs : List Nat
  vs : List Value

/-- The entries of the blocks' map. -/
def entsB : List (Nat × Blk) → List Nat → Nat → List Ent
  | p :: bl, x :: xs, i => ⟨(p.1 : Int), .pointer (some ⟨x, 0, none⟩), i⟩ :: entsB bl xs (i + 1)
  | _, _, _ => []
def entsF : List (Nat × List Nat) → List Value → Nat → List Ent
  | p :: fr, v :: vs, i => ⟨(p.1 : Int), v, i⟩ :: entsF fr vs (i + 1)
  | _, _, _ => []

/-- The struct of a block. -/
def BlkAt (w : World) (x : Nat) (b : Blk) : Prop := Cells w x [.int .i64 (b.n : Int), .int .u64 (b.gen : Int), .bool b.live] 133

/-- All heap blocks that belong to it. -/
def Lay.all (pb : Nat) (L : Lay) : List Nat := pb :: L.pa :: L.wb :: L.bm :: L.fm :: (L.xs ++ L.vs.filterMap Value.ownBlock)

/-- Blocks lie in memory so. -/
structure Rep (w : World) (pb : Nat) (L : Lay) (S : BS) : Prop where
  main : Cells w pb [.pointer (some ⟨L.pa, 0, none⟩), .int .i64 (S.top : Int), .map (some L.bm), .map (some L.fm)] 96
  arena : Arena w L.pa L.wb S.ws
  bmap : MapAt w L.bm .i64 (entsB S.bl L.xs 0) S.bl.length
  fmap : MapAt w L.fm .i64 (entsF S.fr L.vs 0) S.fr.length
  xlen : L.xs.length = S.bl.length
  vlen : L.vs.length = S.fr.length
  blks : ∀ (i : Nat) p x, S.bl[i]? = some p → L.xs[i]? = some x → BlkAt w x p.2
  rows : ∀ (i : Nat) p v, S.fr[i]? = some p → L.vs[i]? = some v → w.ownsRow 0 3 1 v p.2.length (p.2.map fun (k : Nat) => .int .i64 (k : Int))
  apart : (L.all pb).Nodup
  ok : Ok S

/-- The struct's place of a block. -/
def spot (k : Nat) : List (Nat × Blk) → List Nat → Option (Nat × Blk)
  | p :: bl, x :: xs => if p.1 = k then some (x, p.2) else spot k bl xs
  | _, _ => none

theorem look_entsB (k : Nat) : ∀ (bl : List (Nat × Blk)) (xs : List Nat) (i : Nat), look (k : Int) (entsB bl xs i) = (spot k bl xs).map fun q => .pointer (some ⟨q.1, 0, none⟩)
  | [], _, _ => by cases ‹List Nat› <;> rfl
  | _ :: _, [], _ => rfl
  | p :: bl, x :: xs, i => by
    unfold entsB look spot
    by_cases h : p.1 = k
    · simp [h]
    · have : ¬ (p.1 : Int) = (k : Int) := by omega
      simp only [this, h, if_false]
      exact look_entsB k bl xs (i + 1)
theorem spot_aget (k : Nat) : ∀ (bl : List (Nat × Blk)) (xs : List Nat), xs.length = bl.length → (spot k bl xs).map (·.2) = aget k bl
  | [], [], _ => rfl
  | [], _ :: _, h => by simp at h
  | _ :: _, [], h => by simp at h
  | p :: bl, x :: xs, h => by
    unfold spot aget
    split
    · rfl
    · exact spot_aget k bl xs (by simpa using h)
theorem spot_at (k : Nat) : ∀ (bl : List (Nat × Blk)) (xs : List Nat) (q : Nat × Blk), spot k bl xs = some q → ∃ i : Nat, bl[i]? = some (k, q.2) ∧ xs[i]? = some q.1
  | p :: bl, x :: xs, q, h => by
    unfold spot at h
    by_cases hk : p.1 = k
    · rw [if_pos hk] at h
      obtain rfl := Option.some.inj h
      exact ⟨0, by simp [← hk], rfl⟩
    · rw [if_neg hk] at h
      obtain ⟨i, h1, h2⟩ := spot_at k bl xs q h
      exact ⟨i + 1, by simpa using h1, by simpa using h2⟩
  | [], _, _, h => by cases ‹List Nat› <;> simp [spot] at h
  | _ :: _, [], _, h => by simp [spot] at h

theorem zeroBlk (w : World) : (zeroValue 129).run Tryz.prog w = .ok (.pointer none) w := by kernel_rfl
theorem zeroInts (w : World) : (zeroValue 23).run Tryz.prog w = .ok (.slice none 0 0) w := by kernel_rfl

/-- A look-up of a place. -/
theorem Rep.lookB {w : World} {pb : Nat} {L : Lay} {S : BS} (h : Rep w pb L S) (k : Nat) :
    (Instr.lookup 93 (.map (some L.bm)) (.int .i64 (k : Int)) false).run Tryz.prog w = .ok (match spot k S.bl L.xs with | some q => .pointer (some ⟨q.1, 0, none⟩) | none => .pointer none) w := by
  rw [run_lookup_at h.bmap Tryz.underlying93 Tryz.underlying3 zeroBlk, look_entsB]
  cases spot k S.bl L.xs <;> rfl

set_option maxHeartbeats 400000 in
theorem made_nil (w : World) : Calls Tryz.prog 94 #[.pointer none] w fun e w' => e = .returned (.bool false) ∧ w = w' := by
  go_enter Tryz.func94, Tryz.ntmps94
  go_wp2
  go_ret
  exact ⟨rfl, rfl⟩
set_option maxHeartbeats 400000 in
theorem made_ok {w : World} {pb : Nat} {L : Lay} {S : BS} (h : Rep w pb L S) : Calls Tryz.prog 94 #[.pointer (some ⟨pb, 0, none⟩)] w fun e w' => e = .returned (.bool true) ∧ w = w' := by
  have q := h.main.cell
  have hn := fun w => run_neq_map_nil (P := Tryz.prog) w 93 3 129 (some L.bm) Tryz.underlying93
  simp only [Option.isNone_some, Bool.not_false] at hn
  clear h
  go_enter Tryz.func94, Tryz.ntmps94
  go_wp2
  go_ret
  exact ⟨rfl, rfl⟩

theorem ownsRow_kept {S : Nat → Prop} {w w' : World} {base : Nat} {e : TypeId} {size : Nat} {v : Value} {n : Nat} {xs : List Value} (h : w.ownsRow base e size v n xs) (k : Kept S w w') (hs : ∀ b, v.ownBlock = some b → ¬ S b) : w'.ownsRow base e size v n xs := by
  refine ⟨h.1, ?_⟩
  rcases h.2 with hn | ⟨g, cap, cur, rfl, h1, h2, h3⟩
  · exact Or.inl hn
  · exact Or.inr ⟨g, cap, cur, rfl, h1, (k.block g (lt_of_block h2) (hs g rfl)).trans h2, h3⟩

/-- Blocks stay while only other heap blocks change. -/
theorem Rep.kept {T : Nat → Prop} {w w' : World} {pb : Nat} {L : Lay} {S : BS} (h : Rep w pb L S) (k : Kept T w w') (hs : ∀ b ∈ L.all pb, ¬ T b) : Rep w' pb L S := by
  have m (b : Nat) (hb : b ∈ L.all pb) := hs b hb
  refine ⟨h.main.kept k (m _ (by simp [Lay.all])), h.arena.kept k (m _ (by simp [Lay.all])) (m _ (by simp [Lay.all])), h.bmap.kept k (m _ (by simp [Lay.all])), h.fmap.kept k (m _ (by simp [Lay.all])), h.xlen, h.vlen, ?_, ?_, h.apart, h.ok⟩
  · intro i p x hp hx
    have hm : x ∈ L.xs := List.mem_of_getElem? hx
    exact (h.blks i p x hp hx : Cells _ _ _ _).kept k (m _ (by simp [Lay.all, hm]))
  · intro i p v hp hv
    have hm : v ∈ L.vs := List.mem_of_getElem? hv
    refine ownsRow_kept (h.rows i p v hp hv) k fun b hb => m _ ?_
    simp only [Lay.all, List.mem_cons, List.mem_append, List.mem_filterMap]
    exact Or.inr (Or.inr (Or.inr (Or.inr (Or.inr (Or.inr ⟨v, hm, hb⟩)))))
theorem Rep.lt {w : World} {pb : Nat} {L : Lay} {S : BS} (h : Rep w pb L S) : ∀ b ∈ L.all pb, b < w.heap.size := by
  intro b hb
  simp only [Lay.all, List.mem_cons, List.mem_append, List.mem_filterMap] at hb
  rcases hb with rfl | rfl | rfl | rfl | rfl | hb | ⟨v, hv, hb⟩
  · exact h.main.lt
  · obtain ⟨_, _, _, _, _, _, hc⟩ := h.arena.hd; exact hc.lt
  · exact h.arena.row.lt
  · exact h.bmap.lt
  · exact h.fmap.lt
  · obtain ⟨i, hi⟩ := List.getElem?_of_mem hb
    have hl : i < S.bl.length := by rw [← h.xlen]; exact (List.getElem?_eq_some_iff.1 hi).1
    exact (h.blks i _ b (List.getElem?_eq_getElem hl) hi : Cells _ _ _ _).lt
  · obtain ⟨i, hi⟩ := List.getElem?_of_mem hv
    have hl : i < S.fr.length := by rw [← h.vlen]; exact (List.getElem?_eq_some_iff.1 hi).1
    rcases (h.rows i _ v (List.getElem?_eq_getElem hl) hi).2 with ⟨rfl, _⟩ | ⟨g, cap, cur, rfl, _, h2, _⟩
    · simp [Value.ownBlock] at hb
    · simp only [Value.ownBlock, Option.some.injEq] at hb
      subst hb; exact lt_of_block h2
theorem Rep.below {w w' : World} {pb : Nat} {L : Lay} {S : BS} (h : Rep w pb L S) (hb : Below w.heap.size w w') : Rep w' pb L S :=
  h.kept (Kept.of_below hb) fun b hm => by have := h.lt b hm; omega

theorem and_mask32 (ref : Nat) (h : ref < 18446744073709551616) : bits BinOp.and IntKind.u64 (ref : Int) 4294967295 = ((ref % 4294967296 : Nat) : Int) := by
  rw [show (4294967295 : Int) = ((4294967295 : Nat) : Int) from rfl, u64_and_nat _ _ h (by omega)]
  have := Nat.and_two_pow_sub_one_eq_mod ref 32
  simp only [Nat.reducePow, Nat.reduceSub] at this
  rw [this]

/-- A Fault that was made. -/
def FaultAt (w : World) (v : Value) (at' no : Int) : Prop := ∃ f, v = .iface 134 (.pointer (some ⟨f, 0, none⟩)) ∧ Cells w f [.int .i64 at', .int .i64 no] 136
theorem FaultAt.err {w : World} {v : Value} {a n : Int} (h : FaultAt w v a n) : ErrNo w v n := by
  obtain ⟨f, rfl, hc⟩ := h
  have := hc.cell 1
  first | exact Or.inr ⟨f, 0, rfl, by simpa using this⟩ | exact Or.inr (Or.inr ⟨f, 0, rfl, by simpa using this⟩)
theorem FaultAt.kept {S : Nat → Prop} {w w' : World} {v : Value} {a n : Int} (h : FaultAt w v a n) (k : Kept S w w') (hs : ∀ f, v = .iface 134 (.pointer (some ⟨f, 0, none⟩)) → ¬ S f) : FaultAt w' v a n := by
  obtain ⟨f, rfl, hc⟩ := h
  exact ⟨f, rfl, hc.kept k (hs f rfl)⟩
/-- A Fault that was made since w. -/
def FaultNew (w w' : World) (v : Value) (at' no : Int) : Prop := ∃ f, v = .iface 134 (.pointer (some ⟨f, 0, none⟩)) ∧ Cells w' f [.int .i64 at', .int .i64 no] 136 ∧ w.heap.size ≤ f
theorem FaultNew.at {w w' : World} {v : Value} {a n : Int} (h : FaultNew w w' v a n) : FaultAt w' v a n := by
  obtain ⟨f, rfl, hc, _⟩ := h
  exact ⟨f, rfl, hc⟩
theorem FaultNew.err {w w' : World} {v : Value} {a n : Int} (h : FaultNew w w' v a n) : ErrNo w' v n := h.at.err
/-- What find answers at a ref that is not good. -/
def FindBad (ref : Nat) (w : World) (e : Ending) (w' : World) : Prop :=
  ∃ v, e = .returned (.tuple #[.int .i64 0, .pointer none, v]) ∧ FaultNew w w' v ((ref % 4294967296 : Nat) : Int) 5 ∧ Below w.heap.size w w'

set_option maxHeartbeats 400000 in
theorem find_nil (ref : Int) (w : World) : Calls Tryz.prog 64 #[.pointer none, .int .u64 ref] w fun e w' => e = .returned (.tuple #[.int .i64 0, .pointer none, .iface 99 (.int .i64 1)]) ∧ w = w' := by
  go_enter Tryz.func64, Tryz.ntmps64
  go_wp2_with (go_at_call 94; refine (made_nil _).mono ?_; rintro e w' ⟨rfl, rfl⟩)
  go_ret3
  exact ⟨rfl, rfl⟩

theorem wrap64_small (n : Nat) (h : n < 9223372036854775808) : wrap64 (n : Int) = (n : Int) := by unfold wrap64; omega

set_option maxHeartbeats 400000 in
theorem find_ok {w : World} {pb : Nat} {L : Lay} {S : BS} (h : Rep w pb L S) (ref : Nat) (hr : ref < 18446744073709551616) {p : Nat} {b : Blk} (hf : find S ref = some (p, b)) :
    Calls Tryz.prog 64 #[.pointer (some ⟨pb, 0, none⟩), .int .u64 ref] w fun e w' => (∃ x, e = .returned (.tuple #[.int .i64 p, .pointer (some ⟨x, 0, none⟩), .nilIface]) ∧ spot p S.bl L.xs = some (x, b)) ∧ w = w' := by
  have hm := made_ok h
  have q := h.main.cell
  have hand := and_mask32 ref hr
  have hw : ref % 4294967296 < 4294967296 := by omega
  have hl := h.lookB (ref % 4294967296)
  unfold find at hf
  have hs := spot_aget (ref % 4294967296) S.bl L.xs h.xlen
  have hat := spot_at (ref % 4294967296) S.bl L.xs
  have hdiv : (ref : Int) / 4294967296 = ((ref / 4294967296 : Nat) : Int) := by omega
  generalize ref / 4294967296 = g at *
  generalize hp : ref % 4294967296 = r at *
  cases hsp : spot r S.bl L.xs with
  | none =>
    rw [hsp] at hs
    rw [← hs] at hf
    simp at hf
  | some y =>
    obtain ⟨x, b'⟩ := y
    rw [hsp] at hs hl
    rw [← hs] at hf
    simp only [Option.map_some] at hf
    by_cases hc : b'.live = true ∧ b'.gen = g
    · rw [if_pos hc] at hf
      obtain ⟨rfl, rfl⟩ := Prod.mk.inj (Option.some.inj hf)
      obtain ⟨hc1, rfl⟩ := hc
      obtain ⟨i, hi1, hi2⟩ := hat _ hsp
      have qb := (h.blks i _ _ hi1 hi2 : Cells _ _ _ _).cell
      simp only [hc1] at qb
      have HM := Lib.hid hm; have HS := Lib.hid hsp
      clear hm h hs hat hi1 hi2 hsp hf hp hc1
      go_enter Tryz.func64, Tryz.ntmps64
      go_wp2_with (go_at_call 94; refine HM.out.mono ?_; rintro e w' ⟨rfl, rfl⟩)
      go_ret3
      exact ⟨⟨x, rfl, HS.out⟩, rfl⟩
    · rw [if_neg hc] at hf
      simp at hf

set_option maxHeartbeats 400000 in
theorem find_bad {w : World} {pb : Nat} {L : Lay} {S : BS} (h : Rep w pb L S) (ref : Nat) (hr : ref < 18446744073709551616) (hf : find S ref = none) :
    Calls Tryz.prog 64 #[.pointer (some ⟨pb, 0, none⟩), .int .u64 ref] w (FindBad ref w) := by
  have hm := made_ok h
  have q := h.main.cell
  have hand := and_mask32 ref hr
  have hw : ref % 4294967296 < 4294967296 := by omega
  have hl := h.lookB (ref % 4294967296)
  unfold find at hf
  have hs := spot_aget (ref % 4294967296) S.bl L.xs h.xlen
  have hat := spot_at (ref % 4294967296) S.bl L.xs
  have hdiv : (ref : Int) / 4294967296 = ((ref / 4294967296 : Nat) : Int) := by omega
  generalize ref / 4294967296 = g at *
  generalize hp : ref % 4294967296 = r at *
  have HP := Lib.hid hp
  have HM := Lib.hid hm
  clear hm hp
  cases hsp : spot r S.bl L.xs with
  | none =>
    rw [hsp] at hl
    clear hs hat hsp hf h
    go_enter Tryz.func64, Tryz.ntmps64
    go_wp2_with (go_at_call 94; refine HM.out.mono ?_; rintro e w' ⟨rfl, rfl⟩)
    go_ret3
    exact ⟨_, rfl, ⟨_, rfl, by rw [HP.out]; exact Cells.new _ _ _, Nat.le_refl _⟩, (Below.refl _ _).alloc (Nat.le_refl _) _⟩
  | some y =>
    obtain ⟨x, b'⟩ := y
    rw [hsp] at hs hl
    rw [← hs] at hf
    simp only [Option.map_some] at hf
    obtain ⟨i, hi1, hi2⟩ := hat _ hsp
    have qb := (h.blks i _ _ hi1 hi2 : Cells _ _ _ _).cell
    have hc : b'.live = false ∨ (b'.live = true ∧ ¬ b'.gen = g) := by
      cases hl2 : b'.live
      · exact Or.inl rfl
      · refine Or.inr ⟨rfl, fun e => ?_⟩
        rw [if_pos ⟨hl2, e⟩] at hf; cases hf
    clear hf hs hat hi1 hi2 hsp h
    rcases hc with hc | ⟨hc, hg⟩
    · rw [hc] at qb
      clear hc
      go_enter Tryz.func64, Tryz.ntmps64
      go_wp2_with (go_at_call 94; refine HM.out.mono ?_; rintro e w' ⟨rfl, rfl⟩)
      go_ret3
      exact ⟨_, rfl, ⟨_, rfl, by rw [HP.out]; exact Cells.new _ _ _, Nat.le_refl _⟩, (Below.refl _ _).alloc (Nat.le_refl _) _⟩
    · rw [hc] at qb
      have g1 : ((b'.gen : Int) != (g : Int)) = true := by rw [bne_iff_ne]; omega
      have g2 : (b'.gen != g) = true := by rw [bne_iff_ne]; exact hg
      clear hc hg
      generalize b'.gen = gg at *
      go_enter Tryz.func64, Tryz.ntmps64
      go_wp2_with (go_at_call 94; refine HM.out.mono ?_; rintro e w' ⟨rfl, rfl⟩)
      go_ret3
      exact ⟨_, rfl, ⟨_, rfl, by rw [HP.out]; exact Cells.new _ _ _, Nat.le_refl _⟩, (Below.refl _ _).alloc (Nat.le_refl _) _⟩

theorem nodup_ne {α : Type} {a b : α} {l r : List α} (h : (l ++ a :: r).Nodup) (hb : b ∈ r) : a ≠ b := by
  rw [List.nodup_append] at h
  have := h.2.1
  rw [List.nodup_cons] at this
  exact fun e => this.1 (e ▸ hb)

/-- The arena's words have changed, and nothing else of the blocks. -/
theorem Rep.withWords {w w' : World} {pb : Nat} {L : Lay} {S : BS} (h : Rep w pb L S) (k : Kept (fun b => b = L.pa ∨ b = L.wb) w w') {ws : List Nat} (ha : Arena w' L.pa L.wb ws) (hl : ws.length = S.ws.length) : Rep w' pb L { S with ws := ws } := by
  have hn := h.apart
  have rest (b : Nat) (hb : b ∈ L.bm :: L.fm :: (L.xs ++ L.vs.filterMap Value.ownBlock)) : ¬ (b = L.pa ∨ b = L.wb) := by
    rintro (rfl | rfl)
    · exact nodup_ne (l := [pb]) (r := L.wb :: L.bm :: L.fm :: (L.xs ++ L.vs.filterMap Value.ownBlock)) hn (List.mem_cons_of_mem _ hb) rfl
    · exact nodup_ne (l := [pb, L.pa]) (r := L.bm :: L.fm :: (L.xs ++ L.vs.filterMap Value.ownBlock)) hn hb rfl
  have hpb : ¬ (pb = L.pa ∨ pb = L.wb) := by
    rintro (e | e)
    · exact nodup_ne (l := []) hn (List.mem_cons_self ..) e
    · exact nodup_ne (l := []) hn (List.mem_cons_of_mem _ (List.mem_cons_self ..)) e
  refine ⟨h.main.kept k hpb, ha, h.bmap.kept k (rest _ (by simp)), h.fmap.kept k (rest _ (by simp)), h.xlen, h.vlen, ?_, ?_, h.apart, ⟨by simpa [hl] using h.ok.top, by simpa [hl] using h.ok.len, h.ok.fits, h.ok.frees, h.ok.once, ha.fit⟩⟩
  · intro i p x hp hx
    have hm : x ∈ L.xs := List.mem_of_getElem? hx
    exact (h.blks i p x hp hx : Cells _ _ _ _).kept k (rest _ (by simp [hm]))
  · intro i p v hp hv
    have hm : v ∈ L.vs := List.mem_of_getElem? hv
    refine ownsRow_kept (h.rows i p v hp hv) k fun b hb => rest _ ?_
    simp only [List.mem_cons, List.mem_append, List.mem_filterMap]
    exact Or.inr (Or.inr (Or.inr ⟨v, hm, hb⟩))

theorem find_fits {S : BS} (ho : Ok S) {ref p : Nat} {b : Blk} (hf : find S ref = some (p, b)) : aget p S.bl = some b ∧ p = ref % 4294967296 ∧ p + 1 + b.n ≤ S.top ∧ b.n ≤ 64 := by
  unfold find at hf
  cases hg : aget (ref % 4294967296) S.bl with
  | none => rw [hg] at hf; simp at hf
  | some b' =>
    rw [hg] at hf
    simp only at hf
    split at hf
    · obtain ⟨rfl, rfl⟩ := Prod.mk.inj (Option.some.inj hf)
      have := ho.fits _ _ hg
      exact ⟨hg, rfl, this.1, this.2.2.1⟩
    · cases hf
theorem word_lt {S : BS} (ho : Ok S) {ref k : Nat} {i : Int} (hw : word S ref i = .ok k) : k < S.ws.length := by
  unfold word at hw
  cases hf : find S ref with
  | none => rw [hf] at hw; cases hw
  | some q =>
    obtain ⟨p, b⟩ := q
    rw [hf] at hw
    simp only at hw
    split at hw
    · have := find_fits ho hf
      have := ho.top
      cases hw
      omega
    · cases hw

set_option maxHeartbeats 400000 in
theorem bword_nil (ref i : Int) (w : World) : Calls Tryz.prog 37 #[.pointer none, .int .u64 ref, .int .i64 i] w fun e w' => e = .returned (.tuple #[.int .i64 0, .iface 99 (.int .i64 1)]) ∧ w = w' := by
  go_enter Tryz.func37, Tryz.ntmps37
  go_wp2_with (go_at_call 64; refine (find_nil _ _).mono ?_; rintro e w' ⟨rfl, rfl⟩)
  go_ret2
  exact ⟨rfl, rfl⟩

set_option maxHeartbeats 400000 in
theorem bword_ok {w : World} {pb : Nat} {L : Lay} {S : BS} (h : Rep w pb L S) (ref : Nat) (hr : ref < 18446744073709551616) (i : Int) {k : Nat} (hw : word S ref i = .ok k) :
    Calls Tryz.prog 37 #[.pointer (some ⟨pb, 0, none⟩), .int .u64 ref, .int .i64 i] w fun e w' => e = .returned (.tuple #[.int .i64 k, .nilIface]) ∧ w = w' := by
  unfold word at hw
  cases hf : find S ref with
  | none => rw [hf] at hw; cases hw
  | some q =>
    obtain ⟨p, b⟩ := q
    rw [hf] at hw
    simp only at hw
    by_cases hi : 0 ≤ i ∧ i < b.n
    · rw [if_pos hi] at hw
      obtain rfl := Except.ok.inj hw
      have hfi := find_fits h.ok hf
      have hlen := h.ok.top
      have hle := h.ok.len
      have hc := find_ok h ref hr hf
      have hat := spot_at p S.bl L.xs
      have hblk := h.blks
      obtain ⟨j, rfl⟩ := Int.eq_ofNat_of_zero_le hi.1
      have g0 : decide ((j : Int) < 0) = false := by simp
      have g1 : decide ((b.n : Int) ≤ (j : Int)) = false := by simp; omega
      have g2 : decide (b.n ≤ j) = false := by simp; omega
      have g3 : j < b.n := by omega
      have b1 : p ≤ 20000 := by omega
      have b2 : j ≤ 64 := by omega
      rw [Int.toNat_natCast]
      have HC := Lib.hid hc; have HA := Lib.hid hat; have HB := Lib.hid hblk
      clear hc hat hblk h hf hw hi hfi hlen hle
      go_enter Tryz.func37, Tryz.ntmps37
      go_wp2_with fail
      refine HC.out.mono ?_
      rintro e w' ⟨⟨x, rfl, hx⟩, rfl⟩
      obtain ⟨y, hy1, hy2⟩ := HA.out _ hx
      have qb := (HB.out y _ _ hy1 hy2 : Cells _ _ _ _).cell
      clear hy1 hy2 hx
      go_wp2
      go_ret2
      exact ⟨ret_pr (by omega), rfl⟩
    · rw [if_neg hi] at hw; cases hw

/-- What Word answers where there is none. -/
def WordBad (v0 : Value) (no : Int) (w : World) (e : Ending) (w' : World) : Prop :=
  ∃ v a, e = .returned (.tuple #[v0, v]) ∧ FaultNew w w' v a no ∧ Below w.heap.size w w'

set_option maxHeartbeats 400000 in
theorem bword_bad {w : World} {pb : Nat} {L : Lay} {S : BS} (h : Rep w pb L S) (ref : Nat) (hr : ref < 18446744073709551616) (i : Int) {n : Nat} (hw : word S ref i = .error n) :
    Calls Tryz.prog 37 #[.pointer (some ⟨pb, 0, none⟩), .int .u64 ref, .int .i64 i] w (WordBad (.int .i64 0) n w) := by
  unfold word at hw
  cases hf : find S ref with
  | none =>
    rw [hf] at hw
    obtain rfl := Except.error.inj hw
    have HC := Lib.hid (find_bad h ref hr hf)
    clear h hf hw
    go_enter Tryz.func37, Tryz.ntmps37
    go_wp2_with fail
    refine HC.out.mono ?_
    rintro e w1 ⟨v, rfl, hv, hb⟩
    obtain ⟨f, rfl, hc⟩ := hv
    have HF := Lib.hid hc; have HB := Lib.hid hb
    clear hc hb
    go_wp2
    go_ret2
    exact ⟨_, _, rfl, ⟨f, rfl, HF.out⟩, HB.out⟩
  | some q =>
    obtain ⟨p, b⟩ := q
    rw [hf] at hw
    simp only at hw
    by_cases hi : 0 ≤ i ∧ i < b.n
    · rw [if_pos hi] at hw; cases hw
    · rw [if_neg hi] at hw
      obtain rfl := Except.error.inj hw
      have hc := find_ok h ref hr hf
      have hat := spot_at p S.bl L.xs
      have hblk := h.blks
      have HC := Lib.hid hc; have HA := Lib.hid hat; have HB := Lib.hid hblk
      have hi' : i < 0 ∨ (0 ≤ i ∧ (b.n : Int) ≤ i) := by omega
      clear hc hat hblk h hf hw hi
      rcases hi' with hi | ⟨h0, hi⟩
      · have g0 : decide (i < 0) = true := by simpa using hi
        clear hi
        go_enter Tryz.func37, Tryz.ntmps37
        go_wp2_with fail
        refine HC.out.mono ?_
        rintro e w' ⟨⟨x, rfl, hx⟩, rfl⟩
        clear hx
        go_wp2
        go_ret2
        exact ⟨_, _, rfl, ⟨_, rfl, Cells.new _ _ _, Nat.le_refl _⟩, (Below.refl _ _).alloc (Nat.le_refl _) _⟩
      · have g0 : decide (i < 0) = false := by simpa using h0
        have g1 : decide ((b.n : Int) ≤ i) = true := by simpa using hi
        clear hi h0
        go_enter Tryz.func37, Tryz.ntmps37
        go_wp2_with fail
        refine HC.out.mono ?_
        rintro e w' ⟨⟨x, rfl, hx⟩, rfl⟩
        obtain ⟨y, hy1, hy2⟩ := HA.out _ hx
        have qb := (HB.out y _ _ hy1 hy2 : Cells _ _ _ _).cell
        clear hy1 hy2 hx
        go_wp2
        go_ret2
        exact ⟨_, _, rfl, ⟨_, rfl, Cells.new _ _ _, Nat.le_refl _⟩, (Below.refl _ _).alloc (Nat.le_refl _) _⟩

set_option maxHeartbeats 400000 in
theorem bload_nil (ref i : Int) (w : World) : Calls Tryz.prog 16 #[.pointer none, .int .u64 ref, .int .i64 i] w fun e w' => e = .returned (.tuple #[.int .u64 0, .iface 99 (.int .i64 1)]) ∧ w = w' := by
  go_enter Tryz.func16, Tryz.ntmps16
  go_wp2_with (go_at_call 37; refine (bword_nil _ _ _).mono ?_; rintro e w' ⟨rfl, rfl⟩)
  go_ret2
  exact ⟨rfl, rfl⟩
set_option maxHeartbeats 400000 in
theorem bload_bad {w : World} {pb : Nat} {L : Lay} {S : BS} (h : Rep w pb L S) (ref : Nat) (hr : ref < 18446744073709551616) (i : Int) {n : Nat} (hw : word S ref i = .error n) :
    Calls Tryz.prog 16 #[.pointer (some ⟨pb, 0, none⟩), .int .u64 ref, .int .i64 i] w (WordBad (.int .u64 0) n w) := by
  have HC := Lib.hid (bword_bad h ref hr i hw)
  clear h hw
  go_enter Tryz.func16, Tryz.ntmps16
  go_wp2_with fail
  refine HC.out.mono ?_
  rintro e w1 ⟨v, a, rfl, ⟨f, rfl, hc⟩, hb⟩
  have HF := Lib.hid hc; have HB := Lib.hid hb
  clear hc hb
  go_wp2
  go_ret2
  exact ⟨_, _, rfl, ⟨f, rfl, HF.out⟩, HB.out⟩
set_option maxHeartbeats 400000 in
theorem bload_ok {w : World} {pb : Nat} {L : Lay} {S : BS} (h : Rep w pb L S) (ref : Nat) (hr : ref < 18446744073709551616) (i : Int) {k : Nat} (hw : word S ref i = .ok k) :
    Calls Tryz.prog 16 #[.pointer (some ⟨pb, 0, none⟩), .int .u64 ref, .int .i64 i] w fun e w' => e = .returned (.tuple #[.int .u64 (S.ws.getD k 0 : Nat), .nilIface]) ∧ Rep w' pb L S ∧ Kept (fun b => b = L.pa ∨ b = L.wb) w w' := by
  have HC := Lib.hid (bword_ok h ref hr i hw)
  have q := h.main.cell
  have HA := Lib.hid (arena_load h.arena k (word_lt h.ok hw))
  have H := Lib.hid h
  clear h hw
  generalize S.ws.getD k 0 = x at *
  go_enter Tryz.func16, Tryz.ntmps16
  go_wp2_with fail
  refine HC.out.mono ?_
  rintro e w1 ⟨rfl, rfl⟩
  go_wp2_with fail
  refine HA.out.mono ?_
  rintro e w1 ⟨rfl, ha, hk⟩
  have HK : Hid (Kept (fun b => b = L.pa ∨ b = L.wb) w w1) := Lib.hid (hk.mono fun j _ hj => Or.inl hj)
  have HR := Lib.hid (H.out.withWords HK.out ha rfl)
  clear ha hk q
  go_wp2
  go_ret2
  exact ⟨rfl, HR.out, HK.out⟩

set_option maxHeartbeats 400000 in
theorem bstore_nil (ref i x : Int) (w : World) : Calls Tryz.prog 114 #[.pointer none, .int .u64 ref, .int .i64 i, .int .u64 x] w fun e w' => e = .returned (.iface 99 (.int .i64 1)) ∧ w = w' := by
  go_enter Tryz.func114, Tryz.ntmps114
  go_wp2_with (go_at_call 37; refine (bword_nil _ _ _).mono ?_; rintro e w' ⟨rfl, rfl⟩)
  go_ret
  exact ⟨rfl, rfl⟩
/-- A lone error. -/
def OneBad (no : Int) (w : World) (e : Ending) (w' : World) : Prop :=
  ∃ v a, e = .returned v ∧ FaultNew w w' v a no ∧ Below w.heap.size w w'
set_option maxHeartbeats 400000 in
theorem bstore_bad {w : World} {pb : Nat} {L : Lay} {S : BS} (h : Rep w pb L S) (ref : Nat) (hr : ref < 18446744073709551616) (i x : Int) {n : Nat} (hw : word S ref i = .error n) :
    Calls Tryz.prog 114 #[.pointer (some ⟨pb, 0, none⟩), .int .u64 ref, .int .i64 i, .int .u64 x] w (OneBad n w) := by
  have HC := Lib.hid (bword_bad h ref hr i hw)
  clear h hw
  go_enter Tryz.func114, Tryz.ntmps114
  go_wp2_with fail
  refine HC.out.mono ?_
  rintro e w1 ⟨v, a, rfl, ⟨f, rfl, hc⟩, hb⟩
  have HF := Lib.hid hc; have HB := Lib.hid hb
  clear hc hb
  go_wp2
  go_ret
  exact ⟨_, _, rfl, ⟨f, rfl, HF.out⟩, HB.out⟩
set_option maxHeartbeats 400000 in
theorem bstore_ok {w : World} {pb : Nat} {L : Lay} {S : BS} (h : Rep w pb L S) (ref : Nat) (hr : ref < 18446744073709551616) (i : Int) (x : Nat) (hx : x < 18446744073709551616) {k : Nat} (hw : word S ref i = .ok k) :
    Calls Tryz.prog 114 #[.pointer (some ⟨pb, 0, none⟩), .int .u64 ref, .int .i64 i, .int .u64 x] w fun e w' => e = .returned .nilIface ∧ Rep w' pb L { S with ws := S.ws.set k x } ∧ Kept (fun b => b = L.pa ∨ b = L.wb) w w' := by
  have HC := Lib.hid (bword_ok h ref hr i hw)
  have q := h.main.cell
  have HA := Lib.hid (arena_store h.arena k (word_lt h.ok hw) x hx)
  have H := Lib.hid h
  clear h hw
  go_enter Tryz.func114, Tryz.ntmps114
  go_wp2_with fail
  refine HC.out.mono ?_
  rintro e w1 ⟨rfl, rfl⟩
  go_wp2_with fail
  refine HA.out.mono ?_
  rintro e w1 ⟨rfl, ha, hk⟩
  have HK := Lib.hid hk
  have HR := Lib.hid (H.out.withWords hk ha (by simp))
  clear ha hk q
  go_wp2
  go_ret
  exact ⟨rfl, HR.out, HK.out⟩

set_option maxHeartbeats 400000 in
theorem bcas_nil (ref i o x : Int) (w : World) : Calls Tryz.prog 129 #[.pointer none, .int .u64 ref, .int .i64 i, .int .u64 o, .int .u64 x] w fun e w' => e = .returned (.tuple #[.bool false, .iface 99 (.int .i64 1)]) ∧ w = w' := by
  go_enter Tryz.func129, Tryz.ntmps129
  go_wp2_with (go_at_call 37; refine (bword_nil _ _ _).mono ?_; rintro e w' ⟨rfl, rfl⟩)
  go_ret2
  exact ⟨rfl, rfl⟩
set_option maxHeartbeats 400000 in
theorem bcas_bad {w : World} {pb : Nat} {L : Lay} {S : BS} (h : Rep w pb L S) (ref : Nat) (hr : ref < 18446744073709551616) (i o x : Int) {n : Nat} (hw : word S ref i = .error n) :
    Calls Tryz.prog 129 #[.pointer (some ⟨pb, 0, none⟩), .int .u64 ref, .int .i64 i, .int .u64 o, .int .u64 x] w (WordBad (.bool false) n w) := by
  have HC := Lib.hid (bword_bad h ref hr i hw)
  clear h hw
  go_enter Tryz.func129, Tryz.ntmps129
  go_wp2_with fail
  refine HC.out.mono ?_
  rintro e w1 ⟨v, a, rfl, ⟨f, rfl, hc⟩, hb⟩
  have HF := Lib.hid hc; have HB := Lib.hid hb
  clear hc hb
  go_wp2
  go_ret2
  exact ⟨_, _, rfl, ⟨f, rfl, HF.out⟩, HB.out⟩
set_option maxHeartbeats 400000 in
theorem bcas_ok {w : World} {pb : Nat} {L : Lay} {S : BS} (h : Rep w pb L S) (ref : Nat) (hr : ref < 18446744073709551616) (i : Int) (o x : Nat) (hx : x < 18446744073709551616) {k : Nat} (hw : word S ref i = .ok k) :
    Calls Tryz.prog 129 #[.pointer (some ⟨pb, 0, none⟩), .int .u64 ref, .int .i64 i, .int .u64 o, .int .u64 x] w fun e w' => e = .returned (.tuple #[.bool (decide (S.ws.getD k 0 = o)), .nilIface]) ∧ Rep w' pb L { S with ws := if S.ws.getD k 0 = o then S.ws.set k x else S.ws } ∧ Kept (fun b => b = L.pa ∨ b = L.wb) w w' := by
  have HC := Lib.hid (bword_ok h ref hr i hw)
  have q := h.main.cell
  have HA := Lib.hid (arena_cas h.arena k (word_lt h.ok hw) o x hx)
  have H := Lib.hid h
  clear h hw
  generalize decide (S.ws.getD k 0 = o) = d at *
  have hlen : (if S.ws.getD k 0 = o then S.ws.set k x else S.ws).length = S.ws.length := by split <;> simp
  generalize (if S.ws.getD k 0 = o then S.ws.set k x else S.ws) = ws' at *
  have HL := Lib.hid hlen; clear hlen
  go_enter Tryz.func129, Tryz.ntmps129
  go_wp2_with fail
  refine HC.out.mono ?_
  rintro e w1 ⟨rfl, rfl⟩
  go_wp2_with fail
  refine HA.out.mono ?_
  rintro e w1 ⟨rfl, ha, hk⟩
  have HK := Lib.hid hk
  have HR := Lib.hid (H.out.withWords hk ha HL.out)
  clear ha hk q
  go_wp2
  go_ret2
  exact ⟨rfl, HR.out, HK.out⟩

end Go.Proofs.YtmdganpealbmpaaGreatDoor
