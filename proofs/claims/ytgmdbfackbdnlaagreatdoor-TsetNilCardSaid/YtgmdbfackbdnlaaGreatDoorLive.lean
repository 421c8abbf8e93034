/- Layer 2 (blocks): Live and Used. -/
import Derived.Test.YtgmdbfackbdnlaaGreatDoorBlocks4
import Derived.Test.YtgmdbfackbdnlaaGreatDoorHeap
import Derived.Test.YtgmdbfackbdnlaaGreatDoorSortL
import Derived.Test.YtgmdbfackbdnlaaGreatDoorLivePlain
import Derived.Maps.RangeWalk
import Derived.Maps.AppendAt
import Derived.Test.YtgmdbfackbdnlaaGreatDoorSortNone
namespace Go.Proofs.YtgmdbfackbdnlaaGreatDoor
open Go.RowKit Bl Go.Shelf Go.Sort
set_option maxRecDepth 10000

set_option maxHeartbeats 400000 in
theorem live_nil (w : World) : Calls Tryz.prog 106 #[.pointer none] w fun e w' => e = .returned (.slice none 0 0) ∧ w = w' := by
  go_enter Tryz.func106, Tryz.ntmps106
  go_wp2_with (go_at_call 170; refine (made_nil _).mono ?_; rintro e w' ⟨rfl, rfl⟩)
  go_ret
  exact ⟨rfl, rfl⟩

/-- The comparison of two refs: by their places. -/
def cfL (x y : Nat) : Int := ((x % 4294967296 : Nat) : Int) - ((y % 4294967296 : Nat) : Int)
def encL (x : Nat) : Value := .int .u64 ((x % 18446744073709551616 : Nat) : Int)
theorem ltL (x y : Nat) : ltOf cfL x y = decide (x % 4294967296 < y % 4294967296) := by
  unfold ltOf cfL
  by_cases h : x % 4294967296 < y % 4294967296
  · have : ((x % 4294967296 : Nat) : Int) - ((y % 4294967296 : Nat) : Int) < 0 := by omega
    simp only [h, this]
  · have : ¬ ((x % 4294967296 : Nat) : Int) - ((y % 4294967296 : Nat) : Int) < 0 := by omega
    simp only [h, this]
theorem swoL : SWO (ltOf cfL) where
  irrefl x := by rw [ltL]; simp
  trans x y z h1 h2 := by rw [ltL] at *; simp at *; omega
  ntrans x y z h1 h2 := by rw [ltL] at *; simp at *; omega
theorem oneCellL : OneCell encL := fun _ => rfl

theorem cmp_form (A B : Nat) (hA : A < 4294967296) (hB : B < 4294967296) : wrap64 (wrap64 (A : Int) - wrap64 (B : Int)) = (A : Int) - (B : Int) := by
  rw [wrap64_small A (by omega), wrap64_small B (by omega)]
  exact IntWalk.wrap64_in _ (by omega)
theorem mod_two (x X : Nat) (h : x % 18446744073709551616 = X) : x % 4294967296 = X % 4294967296 := by omega

set_option maxHeartbeats 1000000 in
theorem closureL (x y : Nat) (W : World) : Calls Tryz.prog 172 #[encL x, encL y] W fun e w' => e = .returned (.int .i64 (cfL x y)) ∧ ∃ q, w' = W.drewN q := by
  unfold encL
  obtain ⟨X, hX⟩ : ∃ X : Nat, x % 18446744073709551616 = X := ⟨_, rfl⟩
  obtain ⟨Y, hY⟩ : ∃ Y : Nat, y % 18446744073709551616 = Y := ⟨_, rfl⟩
  rw [hX, hY]
  go_enter Tryz.func172, Tryz.ntmps172
  go_wp2
  go_ret
  refine ⟨ret_one ?_, 0, rfl⟩
  rw [and_mask32 X (by omega), and_mask32 Y (by omega)]
  unfold cfL
  rw [mod_two x X hX, mod_two y Y hY]
  exact cmp_form _ _ (Nat.mod_lt _ (by decide)) (Nat.mod_lt _ (by decide))

/-- How many entries an iterator has handed out. -/
def iterSeen (w : World) (r : Nat) : Nat := match w.heap[r]? with | some (.mapIter _ _ seen _) => seen.size | _ => 0
theorem IterAt.count {w : World} {r b s c : Nat} {seen : List Nat} (h : IterAt w r b s seen c) : iterSeen w r = seen.length := by
  unfold iterSeen; rw [show w.heap[r]? = _ from h]; simp

theorem entsB_mem : ∀ (bl : List (Nat × Blk)) (xs : List Nat) (i : Nat) (x : Ent), x ∈ entsB bl xs i → ∃ j p b a, i ≤ j ∧ bl[j - i]? = some (p, b) ∧ xs[j - i]? = some a ∧ x = ⟨(p : Int), .pointer (some ⟨a, 0, none⟩), j⟩
  | [], xs, i, x, h => by cases xs <;> simp [entsB] at h
  | _ :: _, [], i, x, h => by simp [entsB] at h
  | p :: bl, a :: xs, i, x, h => by
    simp only [entsB, List.mem_cons] at h
    rcases h with rfl | h
    · exact ⟨i, p.1, p.2, a, Nat.le_refl _, by simp, by simp, rfl⟩
    · obtain ⟨j, p', b', a', h1, h2, h3, h4⟩ := entsB_mem bl xs (i + 1) x h
      refine ⟨j, p', b', a', by omega, ?_, ?_, h4⟩
      · rw [show j - i = (j - (i + 1)) + 1 by omega]; simpa using h2
      · rw [show j - i = (j - (i + 1)) + 1 by omega]; simpa using h3
theorem entsB_born : ∀ (bl : List (Nat × Blk)) (xs : List Nat) (i : Nat), xs.length = bl.length → (entsB bl xs i).map (·.born) = List.range' i bl.length
  | [], [], _, _ => rfl
  | [], _ :: _, _, h => by simp at h
  | _ :: _, [], _, h => by simp at h
  | p :: bl, a :: xs, i, h => by simp [entsB, List.range'_succ, entsB_born bl xs (i + 1) (by simpa using h)]

/-- The frame of Live's loop. -/
structure Gath (pb : Nat) (L : Lay) (S : BS) (w : World) (out : Value) (wr : World) (seen : List Nat) : Prop where
  below : Below w.heap.size w wr
  iter : IterAt wr w.heap.size L.bm S.bl.length seen S.bl.length
  row : wr.ownsRow (w.heap.size + 1) 24 1 out (seen.filterMap (refAt S.bl)).length ((seen.filterMap (refAt S.bl)).map fun (k : Nat) => .int .u64 (k : Int))
  nodup : seen.Nodup
  inside : ∀ i ∈ seen, i < S.bl.length

/-- In the order of places. -/
def Asc (l : List Nat) : Prop := ∀ (i j : Nat) (x y : Nat), i < j → l[i]? = some x → l[j]? = some y → x % 4294967296 ≤ y % 4294967296
/-- What Live answers, with its order. -/
def LivedS (S : BS) (w : World) (e : Ending) (w' : World) : Prop :=
  ∃ (p : Option Addr) (cap : Nat) (l : List Nat), e = .returned (.slice p l.length cap) ∧ l.Perm (liveRefs S.bl) ∧ Below w.heap.size w w' ∧
    (∀ (j : Nat) (r : Nat), l[j]? = some r → ∃ g, p = some ⟨g, 0, none⟩ ∧ w'.cell? ⟨g, j, none⟩ = some (.int .u64 (r : Int))) ∧ Asc l ∧
    w'.ownsRow (w.heap.size + 1) 24 1 (.slice p l.length cap) l.length (l.map fun (k : Nat) => .int .u64 (k : Int))
/-- What Live answers. -/
def Lived (S : BS) (w : World) (e : Ending) (w' : World) : Prop :=
  ∃ (p : Option Addr) (cap : Nat) (l : List Nat), e = .returned (.slice p l.length cap) ∧ l.Perm (liveRefs S.bl) ∧ Below w.heap.size w w' ∧
    ∀ (j : Nat) (r : Nat), l[j]? = some r → ∃ g, p = some ⟨g, 0, none⟩ ∧ w'.cell? ⟨g, j, none⟩ = some (.int .u64 (r : Int))

theorem refs_small {S : BS} (ho : Ok S) (hu : Uniq S) : ∀ r ∈ liveRefs S.bl, r < 18446744073709551616 := by
  intro r hr
  obtain ⟨q, hq, hl, rfl⟩ := mem_liveRefs hr
  obtain ⟨i, hi⟩ := List.getElem?_of_mem hq
  have hf := ho.fits q.1 q.2 (aget_of_get S.bl i q.1 q.2 hu hi)
  have ht := ho.top
  have hl := ho.len
  unfold refOf
  omega

theorem row_cells {w : World} {base : Nat} {e : TypeId} {v : Value} {n : Nat} {xs : List Value} (h : w.ownsRow base e 1 v n xs) (hn : 0 < n) :
    ∃ g cap, v = .slice (some ⟨g, 0, none⟩) n cap ∧ base ≤ g ∧ g < w.heap.size ∧ ∀ j, j < n → w.cell? ⟨g, j, none⟩ = xs[j]? ∧ w.frozen? ⟨g, j, none⟩ = false := by
  rcases h.2 with ⟨_, h0⟩ | ⟨g, cap, cur, rfl, hb, hg, h1, h2, h3, h4⟩
  · omega
  · refine ⟨g, cap, rfl, hb, lt_of_block hg, fun j hj => ?_⟩
    have hj' : j < n * 1 := by omega
    constructor
    · simp only [World.cell?, hg]
      rw [← h4, List.getElem?_take_of_lt hj']
      simp
    · simp [World.frozen?, hg]

theorem sortWorld_below {w : World} {B blk : Nat} (hB : B ≤ blk) (hB' : B ≤ w.heap.size) (n : Nat) (d : Array Nat) (os : Array Obj) : Below B w (sortWorld encL w blk 0 n d os) := by
  unfold sortWorld
  refine ⟨rfl, rfl, rfl, ?_, ?_⟩
  · rw [Go.Sort.size_grow, Go.Sort.size_putRow]; exact Nat.le_add_right _ _
  · intro k hk
    rw [heap_grow_old _ _ (by rw [Go.Sort.size_putRow]; show k < w.heap.size; omega)]
    unfold putRow mapBlock
    rw [Array.getElem?_modify]
    rw [if_neg (by omega)]
    rfl
theorem sortWorld_cells {w : World} {blk : Nat} (hb : blk < w.heap.size) (n : Nat) (d d' : Array Nat) (os : Array Obj) (h : Holds encL w blk 0 d) (hs : d'.size = d.size) : ∀ j, j < d'.size → (sortWorld encL w blk 0 n d' os).cell? ⟨blk, j, none⟩ = some (encL d'[j]!) := by
  intro j hj
  have h1 : Holds encL (Sort.ahead w n) blk 0 d := fun j hj => h j hj
  have h2 := holds_putRow encL (Sort.ahead w n) blk 0 d d' h1 hs
  have h3 := holds_grow encL _ os blk 0 d' (by rw [Go.Sort.size_putRow]; exact hb) h2 j hj
  rw [Nat.zero_add] at h3
  exact h3.1

/-- The sort of Live's slice. -/
theorem sort_live {w : World} {base : Nat} {e : TypeId} {v : Value} {l : List Nat} (hl : ∀ r ∈ l, r < 18446744073709551616) (hlen : l.length < 4611686018427387904) (h : w.ownsRow base e 1 v l.length (l.map fun (k : Nat) => .int .u64 (k : Int))) (hB : base ≤ w.heap.size) :
    Calls Tryz.prog 171 #[v, .func (.func 172) #[] #[]] w fun en w' => en = .returned (.tuple #[]) ∧ Below base w w' ∧ ∃ (p : Option Addr) (cap : Nat) (l' : List Nat), v = .slice p l'.length cap ∧ l'.Perm l ∧ (∀ (j : Nat) (r : Nat), l'[j]? = some r → ∃ g, p = some ⟨g, 0, none⟩ ∧ w'.cell? ⟨g, j, none⟩ = some (.int .u64 (r : Int))) ∧ Asc l' ∧ w'.ownsRow base e 1 v l'.length (l'.map fun (k : Nat) => .int .u64 (k : Int)) := by
  by_cases hn : l = []
  · subst hn
    obtain ⟨p, cap, rfl⟩ : ∃ p cap, v = .slice p 0 cap := by
      rcases h.2 with ⟨rfl, _⟩ | ⟨g, cap, cur, rfl, _⟩
      · exact ⟨_, _, rfl⟩
      · exact ⟨_, _, rfl⟩
    refine (sort_none p cap (.func (.func 172) #[] #[]) w).mono ?_
    rintro e w' ⟨rfl, rfl⟩
    exact ⟨rfl, Below.refl _ _, p, cap, [], rfl, List.Perm.refl _, fun j r hj => by simp at hj, fun i j x y _ hi _ => by simp at hi, h⟩
  · have hpos : 0 < l.length := by cases l with | nil => exact absurd rfl hn | cons => simp
    obtain ⟨g, cap, cur, hv, hb, hgc, hnc, hmx, hcs⟩ : ∃ g cap cur, v = .slice (some ⟨g, 0, none⟩) l.length cap ∧ base ≤ g ∧ w.heap[g]? = some (.cells cur e (0, 0)) ∧ l.length ≤ cap ∧ cap ≤ maxLen ∧ cur.size = cap * 1 := by
      rcases h.2 with ⟨_, h0⟩ | ⟨g, cap, cur, hv, a, b, c, d, e, _⟩
      · omega
      · exact ⟨g, cap, cur, hv, a, b, c, d, e⟩
    subst hv
    have hg : g < w.heap.size := lt_of_block hgc
    have hc : ∀ j, j < l.length → w.cell? ⟨g, j, none⟩ = (l.map fun (k : Nat) => Value.int .u64 (k : Int))[j]? ∧ w.frozen? ⟨g, j, none⟩ = false := by
      obtain ⟨g', cap', hv', _, _, hc⟩ := row_cells h hpos
      cases hv'
      exact hc
    have eg : ∀ args w, (callFunc 172 args).run Tryz.prog w = .ok (.enter 172 args) w := enters_of Tryz.func172 (by kernel_rfl) rfl
    have hH : Holds encL w g 0 l.toArray := by
      intro j hj
      have hj' : j < l.length := by simpa using hj
      have := hc j hj'
      simp only [Nat.zero_add]
      refine ⟨?_, this.2⟩
      rw [this.1, List.getElem?_map, List.getElem?_eq_getElem hj']
      simp only [Option.map_some, encL]
      have hm : l[j] ∈ l := List.getElem_mem hj'
      rw [getElem!_pos l.toArray j hj]
      simp only [List.getElem_toArray]
      rw [Nat.mod_eq_of_lt (hl _ hm)]
    have hcmp : CmpReads Tryz.prog 172 #[] encL cfL g 0 l.toArray.size w := fun _ _ _ _ x y => closureL x y _
    have hS := Any.slices_SortFunc Tryz.sortL encL oneCellL cfL swoL 172 #[] g 0 cap l.toArray w eg hcmp.lays hH hg (by simpa using hlen)
    change Calls Tryz.prog 171 _ _ _ at hS
    simp only [List.size_toArray] at hS
    refine hS.mono ?_
    rintro e w' ⟨rfl, d', n, os, hp, hso, rfl⟩
    have hsz : d'.size = l.length := by simpa using hp.1
    have hperm : d'.toList.Perm l := by
      have := hp.2.2
      rw [Array.toList_extract, Array.toList_extract] at this
      simp only [List.extract_eq_take_drop, List.drop_zero, Nat.sub_zero] at this
      rwa [List.take_of_length_le (l := l) (Nat.le_refl _), List.take_of_length_le (by rw [Array.length_toList, hsz]; exact Nat.le_refl _)] at this
    have hlt64 : ∀ t (ht : t < d'.size), encL d'[t]! = .int .u64 (d'[t] : Int) := fun t ht => by
      have hm : d'[t] ∈ l := hperm.mem_iff.1 (by rw [← Array.getElem_toList]; exact List.getElem_mem _)
      rw [getElem!_pos d' t ht]
      unfold encL
      rw [Nat.mod_eq_of_lt (hl _ hm)]
    have hrow : (sortWorld encL w g 0 n d' os).ownsRow base e 1 (.slice (some ⟨g, 0, none⟩) l.length cap) d'.toList.length (d'.toList.map fun (k : Nat) => .int .u64 (k : Int)) := by
      obtain ⟨cur', hcur, hcs'⟩ : ∃ cur', (sortWorld encL w g 0 n d' os).heap[g]? = some (.cells cur' e (0, 0)) ∧ cur'.size = cur.size := by
        unfold sortWorld
        rw [heap_grow_old _ _ (by rw [Go.Sort.size_putRow]; exact hg)]
        unfold putRow mapBlock
        rw [Array.getElem?_modify, if_pos rfl]
        rw [show (Sort.ahead w n).heap[g]? = w.heap[g]? from rfl, hgc]
        exact ⟨_, rfl, by simp [Go.Sort.putCells]⟩
      refine ⟨by simp, .inr ⟨g, cap, cur', by simp [hsz], hb, hcur, by simp [hsz, hnc], hmx, by omega, ?_⟩⟩
      refine List.ext_getElem? fun t => ?_
      rw [Array.length_toList, Nat.mul_one]
      by_cases ht : t < d'.size
      · have c0 := sortWorld_cells hg n l.toArray d' os hH (by simpa using hsz) t ht
        rw [cell_of_row _ g t cur' e (0, 0) hcur, hlt64 t ht] at c0
        rw [List.getElem?_take, if_pos ht, Array.getElem?_toList, c0, List.getElem?_map, Array.getElem?_toList, Array.getElem?_eq_getElem ht]
        rfl
      · rw [List.getElem?_eq_none (by rw [List.length_take]; omega), List.getElem?_eq_none (by simp; omega)]
    refine ⟨rfl, sortWorld_below hb hB n d' os, some ⟨g, 0, none⟩, cap, d'.toList, by simp [hsz], hperm, fun j r hj => ⟨g, rfl, ?_⟩, ?_, hrow⟩
    have hj' : j < d'.size := by have := (List.getElem?_eq_some_iff.1 hj).1; simpa using this
    rw [sortWorld_cells hg n l.toArray d' os hH (by simpa using hsz) j hj']
    have e1 : d'[j]! = r := by
      rw [getElem!_pos d' j hj']
      have := (List.getElem?_eq_some_iff.1 hj).2
      simpa using this
    have hm : r ∈ l := hperm.mem_iff.1 (List.mem_of_getElem? hj)
    rw [e1]
    unfold encL
    rw [Nat.mod_eq_of_lt (hl _ hm)]
    intro i j x y hij hx hy
    have hi' : i < d'.size := by have := (List.getElem?_eq_some_iff.1 hx).1; simpa using this
    have hj' : j < d'.size := by have := (List.getElem?_eq_some_iff.1 hy).1; simpa using this
    have h1 : d'[i]! = x := by
      rw [getElem!_pos d' i hi']
      have := (List.getElem?_eq_some_iff.1 hx).2
      simpa using this
    have h2 : d'[j]! = y := by
      rw [getElem!_pos d' j hj']
      have := (List.getElem?_eq_some_iff.1 hy).2
      simpa using this
    have := hso i j (Nat.zero_le _) hij (by omega)
    rw [h1, h2, ltL] at this
    simpa using this

theorem uintInfo : (Tryz.prog.info? 24).map (fun i => (i.zero, i.size, i.bytes)) = some (some (.int .u64 0), 1, 8) := by kernel_rfl
theorem born_lt {S : BS} {xs : List Nat} (hx : xs.length = S.bl.length) : ∀ x ∈ entsB S.bl xs 0, x.born < S.bl.length := by
  intro x h
  have : x.born ∈ (entsB S.bl xs 0).map (·.born) := List.mem_map.2 ⟨x, h, rfl⟩
  rw [entsB_born S.bl xs 0 hx, List.mem_range'_1] at this
  omega
theorem born_all {S : BS} {xs seen : List Nat} (hx : xs.length = S.bl.length) (h : ∀ x ∈ entsB S.bl xs 0, x.born ∈ seen) : ∀ i, i < S.bl.length → i ∈ seen := by
  intro i hi
  have : i ∈ (entsB S.bl xs 0).map (·.born) := by rw [entsB_born S.bl xs 0 hx, List.mem_range'_1]; omega
  obtain ⟨x, hx, rfl⟩ := List.mem_map.1 this
  exact h x hx
theorem bl_len {S : BS} (ho : Ok S) (hu : Uniq S) : S.bl.length ≤ 16384 := by
  have h2 := nodup_bound 16384 (S.bl.map fun q : Nat × Blk => q.1) hu (by
    intro p hp
    obtain ⟨q, hq, rfl⟩ := List.mem_map.1 hp
    obtain ⟨i, hi⟩ := List.getElem?_of_mem hq
    have hf := ho.fits q.1 q.2 (aget_of_get S.bl i q.1 q.2 hu hi)
    have ht := ho.top
    have hl := ho.len
    omega)
  rwa [List.length_map] at h2
theorem live_len {S : BS} (ho : Ok S) (hu : Uniq S) : (liveRefs S.bl).length ≤ 16384 := by
  have h1 : (liveRefs S.bl).length ≤ S.bl.length := List.length_filterMap_le _ _
  have h2 := bl_len ho hu
  omega
theorem nodup_snoc {seen : List Nat} {j : Nat} (h : seen.Nodup) (hj : ¬ j ∈ seen) : (seen ++ [j]).Nodup := by
  rw [List.nodup_append]
  refine ⟨h, by simp, ?_⟩
  intro a ha b hb
  simp only [List.mem_cons, List.not_mem_nil, or_false] at hb
  subst hb
  rintro rfl
  exact hj ha
theorem inside_snoc {S : BS} {seen : List Nat} {j : Nat} {q : Nat × Blk} (h : ∀ i ∈ seen, i < S.bl.length) (hj : S.bl[j]? = some q) : ∀ i ∈ seen ++ [j], i < S.bl.length := by
  intro i hi
  simp only [List.mem_append, List.mem_cons, List.not_mem_nil, or_false] at hi
  rcases hi with hi | rfl
  · exact h i hi
  · exact (List.getElem?_eq_some_iff.1 hj).1
theorem seen_less {pb : Nat} {L : Lay} {S : BS} {w wr w2 : World} {out : Value} {seen : List Nat} {j : Nat} {q : Nat × Blk} (h : Gath pb L S w out wr seen) (hi : IterAt w2 w.heap.size L.bm S.bl.length (seen ++ [j]) S.bl.length) (hn : ¬ j ∈ seen) (hj : S.bl[j]? = some q) :
    S.bl.length - iterSeen w2 w.heap.size < S.bl.length - iterSeen wr w.heap.size := by
  rw [hi.count, h.iter.count]
  have := nodup_bound S.bl.length (seen ++ [j]) (nodup_snoc h.nodup hn) (inside_snoc h.inside hj)
  rw [List.length_append] at this ⊢
  simp only [List.length_cons, List.length_nil] at this ⊢
  omega
theorem row_base {pb : Nat} {L : Lay} {S : BS} {w wr : World} {out : Value} {seen : List Nat} (h : Gath pb L S w out wr seen) : w.heap.size + 1 ≤ wr.heap.size := by
  have := lt_of_block h.iter
  omega

set_option maxHeartbeats 2000000 in
theorem live_oks {w : World} {pb : Nat} {L : Lay} {S : BS} (h : Rep w pb L S) (hu : Uniq S) : Calls Tryz.prog 106 #[.pointer (some ⟨pb, 0, none⟩)] w (LivedS S w) := by
  have HR := Lib.hid h
  have HM := Lib.hid (made_ok h)
  have q := h.main.cell
  clear h
  go_enter Tryz.func106, Tryz.ntmps106
  go_wp2_with (first
    | (go_at_call 170; refine HM.out.mono ?_; rintro e w' ⟨rfl, rfl⟩)
    | (at_range; refine wpList_range_at _ rfl _ 241 rfl 3 245 .i64 Tryz.underlying241 L.bm _ _ rfl HR.out.bmap ?_; intro w0 hi0 hb0 hs0)
    | go_in)
  have hsz := HR.out.bmap.lt
  have G0 := Lib.hid (show Gath pb L S w (.slice none 0 0) w0 [] from ⟨hb0, hi0, World.ownsRow_nil _ _ _ _, by simp, by simp⟩)
  have hbo := Lib.hid (entsB_born S.bl L.xs 0 HR.out.xlen)
  clear hb0 hi0 hs0 q
  go_frame
  go_loopw [3] (fun out wr => ∃ seen, Gath pb L S w out wr seen) (fun _ wr => S.bl.length - iterSeen wr w.heap.size)
  case atStart => exact ⟨[], G0.out⟩
  case round =>
    obtain ⟨seen, hg⟩ := hrel
    have HG := Lib.hid hg
    have hmap : MapAt wr L.bm .i64 (entsB S.bl L.xs 0) S.bl.length := (hg.below.block _ hsz).trans HR.out.bmap
    clear hg
    go_wp2_with (first
      | (at_next; refine wpList_next_at _ rfl _ rfl .i64 w.heap.size L.bm S.bl.length (entsB S.bl L.xs 0) seen S.bl.length rfl HG.out.iter hmap ?c1 (Nat.le_refl _) ?c2 ?c3 ?c4)
      | go_in)
    case c1 => exact born_lt HR.out.xlen
    case c2 => rw [hbo.out]; exact List.nodup_range'
    case c3 =>
      intro hall
      have hp := refs_perm S.bl seen HG.out.nodup HG.out.inside (born_all HR.out.xlen hall)
      have hsm : ∀ r ∈ seen.filterMap (refAt S.bl), r < 18446744073709551616 := fun r hr => refs_small HR.out.ok hu r (hp.mem_iff.1 hr)
      have hlen : (seen.filterMap (refAt S.bl)).length < 4611686018427387904 := by
        have h1 := hp.length_eq
        have h2 := live_len HR.out.ok hu
        omega
      have HS := Lib.hid (sort_live hsm hlen HG.out.row (row_base HG.out))
      have HP := Lib.hid hp
      clear hp hsm hlen hall hmap
      go_wp2_with fail
      refine HS.out.mono ?_
      rintro e w2 ⟨rfl, hb2, p, cap, l', rfl, hperm, hcells, hasc, hrow⟩
      have HF := Lib.hid (show Below w.heap.size w w2 from HG.out.below.trans (hb2.mono (Nat.le_succ _)))
      have HC := Lib.hid hcells
      have HAS := Lib.hid hasc
      have HRO := Lib.hid hrow
      clear hb2 hcells hasc hrow
      go_wp2
      go_ret
      exact ⟨p, cap, l', rfl, hperm.trans HP.out, HF.out, HC.out, HAS.out, HRO.out⟩
    case c4 =>
      intro x w1 hx hns hi1 hk1 hs1 hen
      obtain ⟨j, p, b, a, _, hbl, hxs, rfl⟩ := entsB_mem _ _ _ _ hx
      rw [Nat.sub_zero] at hbl hxs
      have hcl : Cells w a _ _ := HR.out.blks j _ _ hbl hxs
      have hal := hcl.lt
      have HC1 : Cells w1 a [.int .i64 (b.n : Int), .int .u64 (b.gen : Int), .bool b.live] 247 := Cells.kept ((HG.out.below.block _ hal).trans hcl) hk1 (by omega)
      have q := HC1.cell
      have HB1 := Lib.hid (show Below w.heap.size w w1 from HG.out.below.trans (hk1.below (by have := HG.out.iter; exact Nat.le_of_lt (lt_of_block this)) (by omega)))
      have HI1 := Lib.hid hi1
      have HN := Lib.hid hns
      have HBL := Lib.hid hbl
      have HC1' := Lib.hid HC1
      have HK1 := Lib.hid hk1
      have HS1 := Lib.hid hs1
      clear hi1 hx hxs hbl HC1 hcl hk1 hmap hns hs1
      dsimp only at hen ⊢
      have hno : seen.Nodup := HG.out.nodup
      by_cases hlv : b.live = true
      · have hfit := HR.out.ok.fits p b (aget_of_get S.bl j p b hu HBL.out)
        have htop := HR.out.ok.top
        have hlen := HR.out.ok.len
        have hrf := ref_form b.gen p (by omega) (by omega)
        have hra : refAt S.bl j = some (b.gen * 4294967296 + p) := by unfold refAt; rw [HBL.out]; simp [refIf, hlv, refOf]
        obtain ⟨rf, hrr⟩ : ∃ rf : Nat, b.gen * 4294967296 + p = rf := ⟨_, rfl⟩
        rw [hrr] at hrf hra
        have hgen : (b.gen : Int) ≤ 4294967295 := by omega
        have hpp : (p : Int) ≤ 16384 := by omega
        have HRA := Lib.hid hra
        have HRW := Lib.hid (ownsRow_kept HG.out.row HK1.out (by intro k hk; have := (HG.out.row.lt k hk).1; omega))
        have hcnt : (seen.filterMap (refAt S.bl)).length ≤ 16384 := by
          have h1 : (seen.filterMap (refAt S.bl)).length ≤ seen.length := List.length_filterMap_le _ _
          have h2 := nodup_bound S.bl.length seen hno HG.out.inside
          have h3 := bl_len HR.out.ok hu
          omega
        obtain ⟨cnt, hcn⟩ : ∃ cnt, (seen.filterMap (refAt S.bl)).length = cnt := ⟨_, rfl⟩
        have HCN := Lib.hid hcn
        rw [hcn] at hcnt
        have hbs := row_base HG.out
        obtain ⟨i0, hi0, hz0, hz1, hz2⟩ := info_parts uintInfo
        clear hra hcn hrr hfit htop hlen
        go_wp2_with (first
          | (at_builtin; refine wpList_append_own_at _ rfl _ _ 25 rfl (w.heap.size + 1) 24 i0 (.int .u64 0) 1 8 Tryz.underlying25 hi0 hz0 hz1 hz2 rfl (by omega) _ cnt _ rfl ((HCN.out ▸ HRW.out).alloc _) ⟨w1.heap.size, 0, none⟩ 1 1 [.int .u64 (rf : Int)] rfl rfl (cell_one_new _ _ _) (ints_oneCell .u64 [(rf : Int)]) (by unfold maxLen; omega) (by omega) (by have := HS1.out; simp; omega) ?_; intro v' w2 hown' hgrow2 hnil2 hob)
          | go_in)
        have hnew : Gath pb L S w v' w2 (seen ++ [j]) := by
          have e1 : (seen ++ [j]).filterMap (refAt S.bl) = seen.filterMap (refAt S.bl) ++ [rf] := by simp [HRA.out]
          refine ⟨?_, ?_, ?_, nodup_snoc hno HN.out, inside_snoc HG.out.inside HBL.out⟩
          · refine (HB1.out.alloc (by have := HS1.out; omega) _).grown hgrow2 (by have := HS1.out; simp; omega) ?_
            intro k hk
            have := (HG.out.row.lt k hk).1
            omega
          · refine (hgrow2.block w.heap.size (by have := HS1.out; simp; omega) ?_).trans ?_
            · intro hk
              have := (HG.out.row.lt _ hk.symm).1
              omega
            · exact (Below.heap_alloc w1 _ _ (by have := HS1.out; omega)).trans HI1.out
          · rw [e1, List.length_append, HCN.out, List.map_append]
            exact hown'
        have HNEW := Lib.hid hnew
        clear hnew hown' hgrow2 hnil2 hob
        go_wp2
        go_roundw
        case rel => exact ⟨_, HNEW.out⟩
        case measure => exact seen_less HG.out HNEW.out.iter HN.out HBL.out
      · have hlv' : b.live = false := by simpa using hlv
        have hra : refAt S.bl j = none := by unfold refAt; rw [HBL.out]; simp [refIf, hlv]
        have HRA := Lib.hid hra
        clear hra hlv
        go_wp2
        go_roundw
        case rel =>
          have e1 : (seen ++ [j]).filterMap (refAt S.bl) = seen.filterMap (refAt S.bl) := by simp [HRA.out]
          refine ⟨seen ++ [j], HB1.out, HI1.out, ?_, nodup_snoc hno HN.out, inside_snoc HG.out.inside HBL.out⟩
          rw [e1]
          exact ownsRow_kept HG.out.row HK1.out (by intro k hk; have := (HG.out.row.lt k hk).1; omega)
        case measure => exact seen_less HG.out HI1.out HN.out HBL.out

theorem live_ok' {w : World} {pb : Nat} {L : Lay} {S : BS} (h : Rep w pb L S) (hu : Uniq S) : Calls Tryz.prog 106 #[.pointer (some ⟨pb, 0, none⟩)] w (Lived S w) :=
  (live_oks h hu).mono fun _ _ ⟨p, cap, l, he, hp, hb, hc, _⟩ => ⟨p, cap, l, he, hp, hb, hc⟩
end Go.Proofs.YtgmdbfackbdnlaaGreatDoor
