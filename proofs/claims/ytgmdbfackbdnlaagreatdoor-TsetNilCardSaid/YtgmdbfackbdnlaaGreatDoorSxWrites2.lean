/- SxWrites2: SxWrites, SxWrites2. -/
import Derived.Test.YtgmdbfackbdnlaaGreatDoorSxPrim
import Derived.Test.YtgmdbfackbdnlaaGreatDoorSetsLook
import Derived.Test.YtgmdbfackbdnlaaGreatDoorHeap
import Derived.Test.YtgmdbfackbdnlaaGreatDoorSortK
import Derived.Laws.OwnMore
import Derived.Maps.RangeWalk
import Derived.Maps.AppendAt
import Derived.WalkSpells
import Derived.StillTailTactics

/- The executor: Sets.Writes, of cells as they are. -/
namespace Go.Proofs.YtgmdbfackbdnlaaGreatDoor
open Go.RowKit Bl Th Go.Shelf Go.Sort
set_option maxRecDepth 10000

/-- A block of new cells, at an address. -/
theorem cells_news (w : World) (cs : List Value) (t : TypeId) : ∀ j u, cs[j]? = some u → (w.alloc (.cells cs.toArray t)).cell? ((⟨w.heap.size, 0, none⟩ : Addr).add j) = some u := by
  intro j u hj
  have h2 := (Cells.new w cs t).cell j
  rw [hj] at h2
  have h3 : (⟨w.heap.size, 0, none⟩ : Addr).add j = ⟨w.heap.size, j, none⟩ := by
    rw [Addr.add_lit, Nat.zero_add]
  rw [h3]
  exact h2

theorem five {w : World} {b : Nat} {t : TypeId} {a0 a1 a2 a3 a4 : Value} (h : Cells w b [a0, a1, a2, a3, a4] t) :
    w.cell? ⟨b, 0, none⟩ = some a0 ∧ w.cell? ⟨b, 1, none⟩ = some a1 ∧ w.cell? ⟨b, 2, none⟩ = some a2 ∧ w.cell? ⟨b, 3, none⟩ = some a3 ∧ w.cell? ⟨b, 4, none⟩ = some a4 ∧
    w.frozen? ⟨b, 0, none⟩ = false ∧ w.frozen? ⟨b, 1, none⟩ = false ∧ w.frozen? ⟨b, 2, none⟩ = false ∧ w.frozen? ⟨b, 3, none⟩ = false ∧ w.frozen? ⟨b, 4, none⟩ = false :=
  ⟨h.cell 0, h.cell 1, h.cell 2, h.cell 3, h.cell 4, h.free 0, h.free 1, h.free 2, h.free 3, h.free 4⟩

def encW (x : Nat × Nat) : List Value := [.int .u64 (x.1 : Int), .int .u64 (x.2 : Int)]
theorem isAggW (w : World) : (isAgg 364).run Tryz.prog w = .ok true w := by kernel_rfl
theorem sizeOfW (w : World) : (Go.sizeOf 364).run Tryz.prog w = .ok 2 w := by kernel_rfl
def cfW (x y : Nat × Nat) : Int := if x.1 < y.1 then -1 else if y.1 < x.1 then 1 else 0
theorem ltW (x y : Nat × Nat) : ltOf cfW x y = decide (x.1 < y.1) := by
  unfold ltOf cfW
  by_cases h1 : x.1 < y.1
  · simp [h1]
  · by_cases h2 : y.1 < x.1 <;> simp [h1, h2]
theorem swoW : SWO (ltOf cfW) where
  irrefl x := by rw [ltW]; simp
  trans x y z h1 h2 := by rw [ltW] at *; simp at *; omega
  ntrans x y z h1 h2 := by rw [ltW] at *; simp at *; omega

theorem isNaN_ok (x : Nat) (w : World) : Calls Tryz.prog 344 #[.int .u64 (x : Int)] w fun e w' => e = .returned (.bool false) ∧ w = w' := by
  have g1 : ((x : Int) != (x : Int)) = false := by simp
  have g2 : (x != x) = false := by simp
  go_enter Tryz.func344, Tryz.ntmps344
  go_wp2
  go_ret
  exact ⟨rfl, rfl⟩
set_option maxHeartbeats 400000 in
theorem compare_ok (x y : Nat) (w : World) : Calls Tryz.prog 316 #[.int .u64 (x : Int), .int .u64 (y : Int)] w fun e w' => e = .returned (.int .i64 (if x < y then -1 else if y < x then 1 else 0)) ∧ w = w' := by
  rcases Nat.lt_trichotomy x y with h | h | h
  · rw [if_pos h]
    have g1 : decide ((x : Int) < (y : Int)) = true := by simp; omega
    have g2 : decide (x < y) = true := by simp [h]
    clear h
    go_enter Tryz.func316, Tryz.ntmps316
    go_wp2_with (go_at_call 344; refine (isNaN_ok _ _).mono ?_; rintro e w' ⟨rfl, rfl⟩)
    go_ret
    exact ⟨rfl, rfl⟩
  · subst h
    rw [if_neg (Nat.lt_irrefl _), if_neg (Nat.lt_irrefl _)]
    have g1 : decide ((x : Int) < (x : Int)) = false := by simp
    have g2 : decide (x < x) = false := by simp
    go_enter Tryz.func316, Tryz.ntmps316
    go_wp2_with (go_at_call 344; refine (isNaN_ok _ _).mono ?_; rintro e w' ⟨rfl, rfl⟩)
    go_ret
    exact ⟨rfl, rfl⟩
  · rw [if_neg (by omega), if_pos h]
    have g1 : decide ((x : Int) < (y : Int)) = false := by simp; omega
    have g2 : decide (x < y) = false := by simp; omega
    have g3 : decide ((y : Int) < (x : Int)) = true := by simp; omega
    have g4 : decide (y < x) = true := by simp [h]
    clear h
    go_enter Tryz.func316, Tryz.ntmps316
    go_wp2_with (go_at_call 344; refine (isNaN_ok _ _).mono ?_; rintro e w' ⟨rfl, rfl⟩)
    go_ret
    exact ⟨rfl, rfl⟩
set_option maxHeartbeats 400000 in
theorem closureW (x y : Nat × Nat) (w : World) : Calls Tryz.prog 315 #[.agg #[.int .u64 (x.1 : Int), .int .u64 (x.2 : Int)], .agg #[.int .u64 (y.1 : Int), .int .u64 (y.2 : Int)]] w fun e w' => e = .returned (.int .i64 (cfW x y)) ∧ ∃ q os', w' = grow (w.drewN q) os' := by
  have hcon := fun w' => compare_ok x.1 y.1 w'
  unfold cfW
  generalize (if x.1 < y.1 then (-1 : Int) else if y.1 < x.1 then 1 else 0) = r at hcon ⊢
  have HC := Lib.hid hcon
  clear hcon
  go_enter Tryz.func315, Tryz.ntmps315
  go_wp2_with (go_at_call 316; refine (HC.out _).mono ?_; rintro e w' ⟨rfl, rfl⟩)
  go_ret
  exact ⟨rfl, 0, _, by rw [alloc_eq_grow, alloc_eq_grow, grow_grow]; rfl⟩
theorem putCells_size {enc : Value → Value} (off : Nat) (d cur : Array Value) : (Go.Sort.putCells enc off d cur).size = cur.size := by
  simp [Go.Sort.putCells]
theorem sortIns_noneW (p : Option Addr) (cap : Nat) (fv : Value) (w : World) :
    Calls Tryz.prog 351 #[.slice p 0 cap, .int .i64 0, .int .i64 0, fv] w fun e w' => e = .returned (.tuple #[]) ∧ w = w' := by
  go_enter Tryz.func351, Tryz.ntmps351
  go_wp2
  refine wp_loop_rounds 1 ?_
  rw [rounds_succ]
  go_wp2
  go_end0
  exact ⟨rfl, rfl⟩
theorem sortPdq_noneW (p : Option Addr) (cap : Nat) (lim : Int) (fv : Value) (w : World) :
    Calls Tryz.prog 343 #[.slice p 0 cap, .int .i64 0, .int .i64 0, .int .i64 lim, fv] w fun e w' => e = .returned (.tuple #[]) ∧ w = w' := by
  go_enter Tryz.func343, Tryz.ntmps343
  go_wp2
  refine wp_loop_rounds 1 ?_
  rw [rounds_succ]
  go_wp2_with (go_at_call 351; refine (sortIns_noneW _ _ _ _).mono ?_; rintro e w' ⟨rfl, rfl⟩)
  (try simp only [Exit.inBlock, Exit.then])
  refine bodyPost_ret (results_none rfl _ _ _) rfl ?_
  exact ⟨rfl, rfl⟩
theorem sort_noneW (p : Option Addr) (cap : Nat) (fv : Value) (w : World) :
    Calls Tryz.prog 314 #[.slice p 0 cap, fv] w fun e w' => e = .returned (.tuple #[]) ∧ w = w' := by
  have hl : ∀ W, Calls Tryz.prog 122 #[.int .u64 0] W fun e w' => e = .returned (.int .i64 (Lib.bitLen 0 : Nat)) ∧ w' = W := fun W => by
    have h := Any.bits_Len (SlLaysF0.n15.bits (P := Tryz.prog) (ρ := Tryz.sortK_ren) { Tryz.sortK with }) 0 W (by omega) (by omega)
    exact h
  have HL := Lib.hid hl
  clear hl
  go_enter Tryz.func314, Tryz.ntmps314
  go_wp2_with fail
  refine (HL.out _).mono ?_
  rintro e w' ⟨rfl, rfl⟩
  go_wp2_with fail
  refine (sortPdq_noneW _ _ _ _ _).mono ?_
  rintro e w' ⟨rfl, rfl⟩
  go_wp2
  go_end0
  exact ⟨rfl, rfl⟩

theorem flatW_at (l : List (Nat × Nat)) (k : Nat) (x : Nat × Nat) (hx : l[k]? = some x) : ∀ j, j < 2 → (l.flatMap encW)[k * 2 + j]? = (encW x)[j]? := by
  induction l generalizing k with
  | nil => simp at hx
  | cons y l ih =>
    intro j hj
    have hy : (encW y).length = 2 := rfl
    cases k with
    | zero =>
      simp only [List.getElem?_cons_zero, Option.some.injEq] at hx
      subst hx
      rw [List.flatMap_cons, List.getElem?_append_left (by omega)]
      simp
    | succ k =>
      simp only [List.getElem?_cons_succ] at hx
      rw [List.flatMap_cons, List.getElem?_append_right (by omega), ← ih k hx j hj]
      congr 1
      omega

/-- In the order of cells. -/
def AscW (l : List (Nat × Nat)) : Prop := ∀ (i j : Nat) (x y : Nat × Nat), i < j → l[i]? = some x → l[j]? = some y → x.1 ≤ y.1

theorem sortW_ok {w : World} {base : Nat} {v : Value} {l : List (Nat × Nat)} (hl : l.length < 4611686018427387904) (h : w.ownsRow base 364 2 v l.length (l.flatMap encW)) (hB : base ≤ w.heap.size) :
    Calls Tryz.prog 314 #[v, .func (.func 315) #[] #[]] w fun e w' => e = .returned (.tuple #[]) ∧ Below base w w' ∧ ∃ l', l'.Perm l ∧ AscW l' ∧ w'.ownsRow base 364 2 v l'.length (l'.flatMap encW) := by
  by_cases hn : l = []
  · subst hn
    obtain ⟨p, cap, rfl⟩ : ∃ p cap, v = .slice p 0 cap := by
      rcases h.2 with ⟨rfl, _⟩ | ⟨g, cap, cur, rfl, _⟩
      · exact ⟨_, _, rfl⟩
      · exact ⟨_, _, rfl⟩
    refine (sort_noneW p cap (.func (.func 315) #[] #[]) w).mono ?_
    rintro e w' ⟨rfl, rfl⟩
    exact ⟨rfl, Below.refl _ _, [], List.Perm.refl _, fun i j x y _ hi _ => by simp at hi, h⟩
  · have hpos : 0 < l.length := by cases l with | nil => exact absurd rfl hn | cons => simp
    obtain ⟨g, cap, cur, rfl, hb, hg, hnc, hm, hc, ht⟩ : ∃ g cap cur, v = .slice (some ⟨g, 0, none⟩) l.length cap ∧ base ≤ g ∧ w.heap[g]? = some (.cells cur 364 (0, 0)) ∧ l.length ≤ cap ∧ cap ≤ maxLen ∧ cap * 2 = cur.size ∧ cur.toList.take (l.length * 2) = l.flatMap encW := by
      rcases h.2 with ⟨_, h0⟩ | ⟨g, cap, cur, rfl, hb, hg, hn, hm, hc, ht⟩
      · omega
      · exact ⟨g, cap, cur, rfl, hb, hg, hn, hm, by omega, ht⟩
    have eg : ∀ args w, (callFunc 315 args).run Tryz.prog w = .ok (.enter 315 args) w := enters_of Tryz.func315 (by kernel_rfl) rfl
    have hgl : g < w.heap.size := lt_of_block hg
    have hlen2 : l.length * 2 ≤ cur.size := by omega
    have hH : HoldsK encW 2 w g 0 l.toArray := by
      intro t ht'
      have ht2 : t < l.length * 2 := by simpa using ht'
      have hk : t / 2 < l.length := by omega
      have hx : l[t / 2]? = some l[t / 2] := List.getElem?_eq_getElem hk
      have h1 := flatW_at l (t / 2) _ hx (t % 2) (by omega)
      rw [show t / 2 * 2 + t % 2 = t by omega, ← ht, List.getElem?_take, if_pos ht2] at h1
      rw [get_flatK _ _ _ _ (by simpa using ht2), Nat.zero_add]
      have e1 : l.toArray[t / 2]! = l[t / 2] := by rw [getElem!_pos l.toArray (t / 2) (by simpa using hk)]; simp
      rw [e1]
      refine ⟨?_, by simp [World.frozen?, hg]⟩
      rw [cell_of_row w g t cur 364 (0, 0) hg, ← Array.getElem?_toList, h1]
      have hl2 : t % 2 < (encW l[t / 2]).length := by simp [encW]; omega
      rw [List.getElem?_eq_getElem hl2, getElem!_pos (encW l[t / 2]) (t % 2) hl2]
      rfl
    have hcmp : CmpLays Tryz.prog 315 #[] encW 2 cfW g 0 l.toArray.size w := fun _ _ _ _ x y => closureW x y _
    have hS := AnyQ.slices_SortFunc Tryz.sortK 2 isAggW sizeOfW encW (fun _ => rfl) (fun x v hv => by simp [encW] at hv; rcases hv with rfl | rfl <;> rfl) cfW swoW 315 #[] g 0 cap l.toArray w eg hcmp hH hgl (by simpa using hl)
    change Calls Tryz.prog 314 _ _ _ at hS
    simp only [List.size_toArray] at hS
    refine hS.mono ?_
    rintro e w' ⟨rfl, d', n, os, hp, hso, rfl⟩
    have hsz : d'.size = l.length := by simpa using hp.1
    have hperm : d'.toList.Perm l := by
      have := hp.2.2
      rw [Array.toList_extract, Array.toList_extract] at this
      simp only [List.extract_eq_take_drop, List.drop_zero, Nat.sub_zero] at this
      rwa [List.take_of_length_le (l := l) (Nat.le_refl _), List.take_of_length_le (by rw [Array.length_toList, hsz]; exact Nat.le_refl _)] at this
    have hH2 : HoldsK encW 2 (sortWorldK encW 2 w g 0 n d' os) g 0 d' := by
      unfold sortWorldK
      refine holdsK_grow _ _ _ _ _ _ _ ?_ (holdsK_putRowK _ _ _ _ _ l.toArray d' hH (by simpa using hsz))
      rw [size_putRowK]; exact hgl
    refine ⟨rfl, ?_, d'.toList, hperm, ?_, ?_⟩
    · unfold sortWorldK
      refine ⟨rfl, rfl, rfl, ?_, ?_⟩
      · rw [Go.Sort.size_grow, size_putRowK]; exact Nat.le_add_right _ _
      · intro k hk
        rw [heap_grow_old _ _ (by rw [size_putRowK]; show k < w.heap.size; omega)]
        unfold putRowK putRow mapBlock
        rw [Array.getElem?_modify]
        rw [if_neg (by omega)]
        rfl
    · intro i j x y hij hx hy
      have hi' : i < d'.size := by have := (List.getElem?_eq_some_iff.1 hx).1; simpa using this
      have hj' : j < d'.size := by have := (List.getElem?_eq_some_iff.1 hy).1; simpa using this
      have h1 : d'[i]! = x := by
        rw [getElem!_pos d' i hi']
        have := (List.getElem?_eq_some_iff.1 hx).2
        simpa using this
      have h2 : d'[j]! = y := by
        rw [getElem!_pos d' j hj']
        have := (List.getElem?_eq_some_iff.1 hy).2
        simpa using this
      have := hso i j (Nat.zero_le _) hij (by omega)
      rw [h1, h2, ltW] at this
      simpa using this
    · obtain ⟨cur', hcur, hcs⟩ : ∃ cur', (sortWorldK encW 2 w g 0 n d' os).heap[g]? = some (.cells cur' 364 (0, 0)) ∧ cur'.size = cur.size := by
        unfold sortWorldK
        rw [heap_grow_old _ _ (by rw [size_putRowK]; exact hgl)]
        unfold putRowK putRow mapBlock
        rw [Array.getElem?_modify, if_pos rfl]
        rw [show (Sort.ahead w n).heap[g]? = w.heap[g]? from rfl, hg]
        exact ⟨_, rfl, by simp [putCells_size]⟩
      have hlenw : (d'.toList.flatMap encW).length = d'.size * 2 := by
        have : ∀ l : List (Nat × Nat), (l.flatMap encW).length = l.length * 2 := by
          intro l
          induction l with
          | nil => rfl
          | cons z l ih => rw [List.flatMap_cons, List.length_append, ih, List.length_cons]; simp [encW]; omega
        rw [this, Array.length_toList]
      refine ⟨by rw [hlenw, Array.length_toList], .inr ⟨g, cap, cur', by simp [hsz], hb, hcur, by simp [hsz, hnc], hm, by omega, ?_⟩⟩
      rw [Array.length_toList]
      refine List.ext_getElem? fun t => ?_
      by_cases ht : t < d'.size * 2
      · have hk : t / 2 < d'.size := by omega
        have hx : d'.toList[t / 2]? = some d'[t / 2]! := by
          rw [getElem!_pos d' (t / 2) hk]
          simp [hk]
        have h1 := flatW_at d'.toList (t / 2) _ hx (t % 2) (by omega)
        rw [show t / 2 * 2 + t % 2 = t by omega] at h1
        have c0 := (hH2.cell hk (show t % 2 < 2 by omega)).1
        rw [show 0 + t / 2 * 2 + t % 2 = t by omega] at c0
        rw [cell_of_row _ g t cur' 364 (0, 0) hcur] at c0
        rw [h1, List.getElem?_take, if_pos ht, Array.getElem?_toList, c0]
        have hl2 : t % 2 < (encW d'[t / 2]!).length := by simp [encW]; omega
        rw [List.getElem?_eq_getElem hl2, getElem!_pos (encW d'[t / 2]!) (t % 2) hl2]
      · rw [List.getElem?_eq_none (by rw [List.length_take]; omega), List.getElem?_eq_none (by rw [hlenw]; omega)]
def encEnt (e : Ent) : List Value := [.int .u64 e.key, e.val]
def entPair (e : Ent) : Nat × Nat := (e.key.toNat, match e.val with | .int _ n => n.toNat | _ => 0)
theorem ent_look {es : List Ent} (hk : (es.map (·.key)).Nodup) : ∀ e ∈ es, look e.key es = some e.val := by
  induction es with
  | nil => simp
  | cons x es ih =>
    intro e he
    simp only [List.map_cons, List.nodup_cons] at hk
    unfold look
    rcases List.mem_cons.1 he with q | q
    · rw [if_pos (by rw [q]), q]
    · have : x.key ≠ e.key := fun c => hk.1 (by rw [c]; exact List.mem_map.2 ⟨e, q, rfl⟩)
      rw [if_neg this]
      exact ih hk.2 e q
theorem WMap.ent {ws : List (Nat × Nat)} {es : List Ent} {c : Nat} (h : WMap ws es c) {e : Ent} (he : e ∈ es) : ∃ k v : Nat, e.key = (k : Int) ∧ e.val = .int .u64 (v : Int) ∧ (k, v) ∈ ws := by
  obtain ⟨k, hk⟩ := h.nat e.key (List.mem_map.2 ⟨e, he, rfl⟩)
  have hl := ent_look h.keys e he
  rw [hk, h.look k] at hl
  cases hw : wget k ws with
  | none => rw [hw] at hl; simp at hl
  | some v =>
    rw [hw] at hl
    simp only [Option.map_some, Option.some.injEq] at hl
    exact ⟨k, v, hk, hl.symm, wget_mem k v ws hw⟩
theorem WMap.enc {ws : List (Nat × Nat)} {es : List Ent} {c : Nat} (h : WMap ws es c) {e : Ent} (he : e ∈ es) : encEnt e = encW (entPair e) := by
  obtain ⟨k, v, hk, hv, _⟩ := h.ent he
  simp [encEnt, encW, entPair, hk, hv]
theorem sorted_pairwise : ∀ l : List (Nat × Nat), Th.Sorted l → l.Pairwise (fun x y => x.1 < y.1)
  | [], _ => .nil
  | _ :: l, ⟨h1, h2⟩ => .cons h1 (sorted_pairwise l h2)
theorem WMap.perm {ws : List (Nat × Nat)} {es : List Ent} {c : Nat} (h : WMap ws es c) : (es.map entPair).Perm ws := by
  have n1 : ws.Nodup := (sorted_pairwise ws h.sorted).imp fun hxy e => by rw [e] at hxy; exact Nat.lt_irrefl _ hxy
  have n2 : (es.map entPair).Nodup := by
    have := h.keys
    have hp : es.Pairwise (fun a b => a.key ≠ b.key) := List.pairwise_map.1 this
    rw [List.Nodup, List.pairwise_map]
    refine hp.imp_of_mem fun {a b} ha hb hab e => hab ?_
    obtain ⟨k, _, hk, _⟩ := h.ent ha
    obtain ⟨j, _, hj, _⟩ := h.ent hb
    have := congrArg Prod.fst e
    simp only [entPair, hk, hj, Int.toNat_natCast] at this
    rw [hk, hj, this]
  rw [List.perm_ext_iff_of_nodup n2 n1]
  intro x
  constructor
  · intro hx
    obtain ⟨e, he, rfl⟩ := List.mem_map.1 hx
    obtain ⟨k, v, hk, hv, hm⟩ := h.ent he
    simpa [entPair, hk, hv] using hm
  · intro hx
    have hw := wget_of_mem ws h.sorted x hx
    have hl := h.look x.1
    rw [hw] at hl
    simp only [Option.map_some] at hl
    have hk : (x.1 : Int) ∈ es.map (·.key) := by
      by_cases q : (x.1 : Int) ∈ es.map (·.key)
      · exact q
      · rw [(look_key _ es).2 q] at hl; cases hl
    obtain ⟨e, he, hek⟩ := List.mem_map.1 hk
    have h2 := ent_look h.keys e he
    rw [hek, hl] at h2
    simp only [Option.some.injEq] at h2
    exact List.mem_map.2 ⟨e, he, by simp [entPair, hek, ← h2]⟩
theorem nodup_sub_len : ∀ (l m : List Nat), l.Nodup → (∀ x ∈ l, x ∈ m) → l.length ≤ m.length
  | [], _, _, _ => Nat.zero_le _
  | x :: l, m, hn, hs => by
    have hx := hs x (by simp)
    have := nodup_sub_len l (m.erase x) (List.nodup_cons.1 hn).2 fun y hy => by
      refine (List.mem_erase_of_ne ?_).2 (hs y (by simp [hy]))
      rintro rfl
      exact (List.nodup_cons.1 hn).1 hy
    rw [List.length_erase_of_mem hx] at this
    have hp : 0 < m.length := List.length_pos_of_mem hx
    simp only [List.length_cons]
    omega
theorem asc_unique {ws l : List (Nat × Nat)} (hs : Th.Sorted ws) (hp : l.Perm ws) (ha : AscW l) : l = ws := by
  have p1 : l.Pairwise (fun x y => x.1 ≤ y.1) := List.pairwise_iff_getElem.2 fun i j hi hj hij => ha i j _ _ hij (List.getElem?_eq_getElem hi) (List.getElem?_eq_getElem hj)
  have p2 : ws.Pairwise (fun x y => x.1 ≤ y.1) := (sorted_pairwise ws hs).imp fun h => Nat.le_of_lt h
  refine List.Perm.eq_of_pairwise ?_ p1 p2 hp
  intro x y hx hy h1 h2
  have e : x.1 = y.1 := Nat.le_antisymm h1 h2
  have w1 := wget_of_mem ws hs x (hp.mem_iff.1 hx)
  have w2 := wget_of_mem ws hs y hy
  rw [e, w2] at w1
  exact Prod.ext e (Option.some.inj w1).symm

/-- The frame of the loop of Writes. -/
structure GathW (bw : Nat) (ew : List Ent) (cw : Nat) (w : World) (out : Value) (wr : World) (done : List Ent) : Prop where
  below : Below w.heap.size w wr
  iter : IterAt wr w.heap.size bw cw (done.map (·.born)) cw
  row : wr.ownsRow (w.heap.size + 1) 364 2 out done.length (done.flatMap encEnt)
  mem : ∀ x ∈ done, x ∈ ew
  nodup : (done.map (·.born)).Nodup
  none' : done = [] → out = .slice none 0 0
def iterSeenW (w : World) (r : Nat) : Nat := match w.heap[r]? with | some (.mapIter _ _ seen _) => seen.size | _ => 0
theorem IterAt.countW {w : World} {r b s c : Nat} {seen : List Nat} (h : IterAt w r b s seen c) : iterSeenW w r = seen.length := by
  unfold iterSeenW; rw [show w.heap[r]? = _ from h]; simp
theorem GathW.few {bw : Nat} {ew : List Ent} {cw : Nat} {w wr : World} {out : Value} {done : List Ent} (h : GathW bw ew cw w out wr done) : done.length ≤ ew.length := by
  have := nodup_sub_len (done.map (·.born)) (ew.map (·.born)) h.nodup fun x hx => by
    obtain ⟨e, he, rfl⟩ := List.mem_map.1 hx
    exact List.mem_map.2 ⟨e, h.mem e he, rfl⟩
  simpa using this
theorem wroteInfo : (Tryz.prog.info? 364).map (fun i => (i.zero, i.size, i.bytes)) = some (some (.agg #[.int .u64 0, .int .u64 0]), 2, 16) := by kernel_rfl
theorem smade_raw {ps : Nat} {w : World} {a0 a2 a3 a4 : Value} {ba : Nat} {te : TypeId} (h : Cells w ps [a0, .map (some ba), a2, a3, a4] te) : Calls Tryz.prog 253 #[.pointer (some ⟨ps, 0, none⟩)] w fun e w' => e = .returned (.bool true) ∧ w = w' := by
  obtain ⟨p0, p1, p2, p3, p4, -⟩ := five h
  have hn := fun w => run_neq_map_nil (P := Tryz.prog) w 163 24 3 (some ba) Tryz.underlying163
  simp only [Option.isNone_some, Bool.not_false] at hn
  clear h
  go_enter Tryz.func253, Tryz.ntmps253
  go_wp2
  go_ret
  exact ⟨rfl, rfl⟩
/-- What Writes answers. -/
def WritesPost (ws : List (Nat × Nat)) (w : World) (e : Ending) (w' : World) : Prop := ∃ v, e = .returned v ∧ (ws = [] → v = .slice none 0 0) ∧ w'.ownsRow (w.heap.size + 1) 364 2 v ws.length (ws.flatMap encW) ∧ Below w.heap.size w w'

theorem writesPost_mk {ws : List (Nat × Nat)} {w w2 : World} {out : Value} (h1 : ws = [] → out = .slice none 0 0) (h2 : w2.ownsRow (w.heap.size + 1) 364 2 out ws.length (ws.flatMap encW)) (h3 : Below w.heap.size w w2) : WritesPost ws w (.returned out) w2 := ⟨_, rfl, h1, h2, h3⟩
set_option maxHeartbeats 2000000 in
theorem swrites_raw {ps : Nat} {w : World} {a0 a3 a4 : Value} {ba bw : Nat} {te : TypeId} {ws : List (Nat × Nat)} {ew : List Ent} {cw : Nat} (h : Cells w ps [a0, .map (some ba), .map (some bw), a3, a4] te) (hwr : MapAt w bw .u64 ew cw) (hwm : WMap ws ew cw) (hfew : ws.length ≤ 500) : Calls Tryz.prog 274 #[.pointer (some ⟨ps, 0, none⟩)] w (WritesPost ws w) := by
  have HM := Lib.hid (smade_raw h)
  obtain ⟨p0, p1, p2, p3, p4, -⟩ := five h
  have HWR := Lib.hid hwr; have HWM := Lib.hid hwm; have HFEW := Lib.hid hfew
  have hsz := hwr.lt
  clear h hwr hwm hfew
  go_enter Tryz.func274, Tryz.ntmps274
  go_wp2_with (first
    | (go_at_call 253; refine HM.out.mono ?_; rintro e w' ⟨rfl, rfl⟩)
    | (at_range; refine wpList_range_at _ rfl _ 339 rfl 24 24 .u64 Tryz.underlying339 bw _ _ rfl HWR.out ?_; intro w0 hi0 hb0 hs0)
    | go_in)
  have G0 := Lib.hid (show GathW bw ew cw w (.slice none 0 0) w0 [] from ⟨hb0, hi0, World.ownsRow_nil _ _ _ _, by simp, by simp, fun _ => rfl⟩)
  clear hb0 hi0 hs0 p0 p1 p2 p3 p4
  go_frame
  go_loopw [3] (fun out wr => ∃ done, GathW bw ew cw w out wr done) (fun _ wr => ew.length - iterSeenW wr w.heap.size)
  case atStart => exact ⟨[], G0.out⟩
  case round =>
    obtain ⟨done, hg⟩ := hrel
    have HG := Lib.hid hg
    have hmap : MapAt wr bw .u64 ew cw := (hg.below.block _ hsz).trans HWR.out
    clear hg
    go_wp2_with (first
      | (at_next; refine wpList_next_at _ rfl _ rfl .u64 w.heap.size bw cw ew (done.map (·.born)) cw rfl HG.out.iter hmap ?c1 (Nat.le_refl _) HWM.out.born ?c3 ?c4)
      | go_in)
    case c1 => exact fun x hx => HWM.out.old _ (List.mem_map.2 ⟨x, hx, rfl⟩)
    case c3 =>
      intro hall
      have hperm : done.Perm ew := by
        have nb : done.Nodup := by
          have := List.pairwise_map.1 HG.out.nodup
          exact this.imp fun h e => h (by rw [e])
        have ne : ew.Nodup := by
          have := List.pairwise_map.1 HWM.out.born
          exact this.imp fun h e => h (by rw [e])
        rw [List.perm_ext_iff_of_nodup nb ne]
        intro x
        refine ⟨HG.out.mem x, fun hx => ?_⟩
        obtain ⟨y, hy, hyb⟩ := hall x hx
        have hp := List.pairwise_map.1 HWM.out.born
        have : y = x := by
          by_cases q : y = x
          · exact q
          · exfalso
            have hboth : ∀ (l : List Ent), l.Pairwise (fun a b => a.born ≠ b.born) → y ∈ l → x ∈ l → False := by
              intro l hl
              induction l with
              | nil => intro a; simp at a
              | cons z l ih =>
                intro h1 h2
                rw [List.pairwise_cons] at hl
                rcases List.mem_cons.1 h1 with e1 | e1
                · rcases List.mem_cons.1 h2 with e2 | e2
                  · exact q (e1.trans e2.symm)
                  · exact hl.1 x e2 (by rw [← e1]; exact hyb)
                · rcases List.mem_cons.1 h2 with e2 | e2
                  · exact hl.1 y e1 (by rw [← e2]; exact hyb.symm)
                  · exact ih hl.2 e1 e2
            exact hboth ew hp (HG.out.mem y hy) hx
        exact this ▸ hy
      have henc : done.flatMap encEnt = (done.map entPair).flatMap encW := by
        rw [List.flatMap_map]
        have : ∀ l : List Ent, (∀ x ∈ l, x ∈ ew) → l.flatMap encEnt = l.flatMap fun e => encW (entPair e) := by
          intro l hl
          induction l with
          | nil => rfl
          | cons z l ih => rw [List.flatMap_cons, List.flatMap_cons, HWM.out.enc (hl z (by simp)), ih fun x hx => hl x (by simp [hx])]
        exact this done HG.out.mem
      have hpw : (done.map entPair).Perm ws := (hperm.map entPair).trans HWM.out.perm
      have hrow := HG.out.row
      rw [henc, show done.length = (done.map entPair).length by simp] at hrow
      have hle : (done.map entPair).length < 4611686018427387904 := by
        rw [hpw.length_eq]; have := HFEW.out; omega
      have hsize : w.heap.size + 1 ≤ wr.heap.size := by have := lt_of_block HG.out.iter; omega
      have HS := Lib.hid (sortW_ok hle hrow hsize)
      have HPW := Lib.hid hpw
      clear hperm henc hpw hrow hle hsize hall hmap
      go_wp2_with fail
      refine HS.out.mono ?_
      rintro e w2 ⟨rfl, hb2, l', hp', hasc, hrow2⟩
      have hl' : l' = ws := asc_unique HWM.out.sorted (hp'.trans HPW.out) hasc
      subst hl'
      have hnil := fun (e : l' = []) => HG.out.none' (by
        have := HPW.out.length_eq
        rw [e, List.length_map] at this
        exact List.eq_nil_of_length_eq_zero this)
      obtain ⟨p, cap, hout⟩ := ownsRow_shape hrow2
      have HF := Lib.hid (writesPost_mk hnil hrow2 (HG.out.below.trans (hb2.mono (Nat.le_succ _))))
      subst hout
      clear hb2 hp' hasc hrow2 hnil
      go_wp2
      go_ret
      exact HF.out
    case c4 =>
      intro x w1 hx hns hi1 hk1 hs1 hen
      obtain ⟨k, v, hkey, hval, hmem⟩ := HWM.out.ent hx
      have hsz1 : w.heap.size < wr.heap.size := lt_of_block HG.out.iter
      have HB1 := Lib.hid (show Below w.heap.size w w1 from HG.out.below.trans (hk1.below (Nat.le_of_lt hsz1) (by omega)))
      have HI1 := Lib.hid hi1
      have HN := Lib.hid hns
      have HX := Lib.hid hx
      have HS1 := Lib.hid (show w.heap.size + 1 ≤ w1.heap.size by omega)
      have HRW := Lib.hid (ownsRow_kept HG.out.row hk1 (by intro b hb; have := (HG.out.row.lt b hb).1; omega))
      have hcnt : done.length ≤ 500 := by
        have h1 := HG.out.few
        have h2 := HWM.out.len
        have h3 := HFEW.out
        omega
      obtain ⟨cnt, hcn⟩ : ∃ cnt, done.length = cnt := ⟨_, rfl⟩
      have HCN := Lib.hid hcn
      rw [hcn] at hcnt
      have hshape := ownsRow_shape HRW.out
      obtain ⟨pp, capp, hpp⟩ := hshape
      rw [hcn] at hpp
      subst hpp
      have HKEY := Lib.hid hkey; have HVAL := Lib.hid hval
      rw [hkey, hval] at hen
      rw [hkey, hval]
      obtain ⟨i0, hi0, hz0, hz1, hz2⟩ := info_parts wroteInfo
      clear hi1 hx hns hk1 hs1 hcn hkey hval hmem hmap
      go_wp2_with (first
        | (at_builtin; refine wpList_append_own_at _ rfl _ _ 302 rfl (w.heap.size + 1) 364 i0 (.agg #[.int .u64 0, .int .u64 0]) 2 16 Tryz.underlying302 hi0 hz0 hz1 hz2 rfl (by omega) (.slice pp cnt capp) cnt _ rfl ((HCN.out ▸ HRW.out).alloc _) ⟨w1.heap.size, 0, none⟩ 1 1 (encW (k, v)) rfl rfl (cells_news w1 [.int .u64 (k : Int), .int .u64 (v : Int)] _) (by intro u hu; simp [encW] at hu; rcases hu with rfl | rfl <;> rfl) (by unfold maxLen; omega) (by omega) (by have := HS1.out; simp; omega) ?_; intro v' w2 hown2 hgrow2 hnil2 hob2)
        | go_in)
      have hnew : GathW bw ew cw w v' w2 (done ++ [x]) := by
        have hx2 : encEnt x = encW (k, v) := by simp [encEnt, encW, HKEY.out, HVAL.out]
        refine ⟨?_, ?_, ?_, ?_, ?_, fun e => by simp at e⟩
        · refine (HB1.out.alloc (by have := HS1.out; omega) _).grown hgrow2 (by have := HS1.out; simp; omega) ?_
          intro b hb
          have := (HRW.out.lt b hb).1
          omega
        · have : (done ++ [x]).map (·.born) = done.map (·.born) ++ [x.born] := by simp
          rw [this]
          refine (hgrow2.block w.heap.size (by have := HS1.out; simp; omega) ?_).trans ?_
          · intro hb
            have := (HRW.out.lt _ hb.symm).1
            omega
          · exact (Below.heap_alloc w1 _ _ (by have := HS1.out; omega)).trans HI1.out
        · rw [List.length_append, HCN.out, List.flatMap_append]
          simpa [hx2] using hown2
        · intro y hy
          rcases List.mem_append.1 hy with q | q
          · exact HG.out.mem y q
          · simp only [List.mem_singleton] at q
            exact q ▸ HX.out
        · rw [List.map_append, List.nodup_append]
          refine ⟨HG.out.nodup, by simp, ?_⟩
          intro a ha b hb
          simp only [List.map_cons, List.map_nil, List.mem_singleton] at hb
          intro e
          obtain ⟨y, hy, hyb⟩ := List.mem_map.1 ha
          exact HN.out y hy (by rw [hyb, e, hb])
      have HNEW := Lib.hid hnew
      have HSEEN := Lib.hid (show ew.length - iterSeenW w2 w.heap.size < ew.length - iterSeenW wr w.heap.size by
        rw [hnew.iter.countW, HG.out.iter.countW]
        have := hnew.few
        simp only [List.length_append, List.length_map, List.length_cons, List.length_nil] at this ⊢
        omega)
      clear hnew hown2 hgrow2 hnil2 hob2
      go_wp2
      go_roundw
      case rel => exact ⟨_, HNEW.out⟩
      case measure => exact HSEEN.out

open Go.Sx
variable {E : Env} {G : Gh} {ρ : Ren} {m : Mem}
/-- A block that came since, at a number that nothing stands at. -/
theorem Conc.name {w w' : World} (h : Conc E G ρ m w) (hb : Below w.heap.size w w') {i : Nat} (hi : ρ i = none) (hl : i < lim) {nx : Nat} (hnx : m.nx ≤ nx) (hin : i < nx) (o : SObj) {g K : Nat} (hgs : w.heap.size ≤ g)
    (ho : ObjC E (ρ.put i (g, K)) w' (g, K) o) :
    Conc E G (ρ.put i (g, K)) { (m.newAt i o) with nx := nx } w' ∧ HeldBy G.X w w' := by
  have hg : ∀ j, ({ (m.newAt i o) with nx := nx } : Mem).tr.get? j = if j = i then some o else m.tr.get? j := fun j => Tr.get_set20 o m.tr i j (by unfold lim at hl; omega)
  refine h.turn (Ren.le_put hi) ⟨rfl, rfl, rfl, rfl⟩ ⟨rfl, rfl⟩ ((Kept.of_below hb).mono fun b h1 h2 => by omega) (fun j q hj => ?_) (fun j o' hj => ?_) (fun a b oa ob' qa qb ha hb' hoa hob hqa hqb e => ?_)
  · show j < nx ∧ j < lim
    by_cases e : j = i
    · exact ⟨by omega, by omega⟩
    · rw [Ren.put_ne _ _ e] at hj
      have := h.dom j q hj
      exact ⟨by omega, this.2⟩
  · rw [hg] at hj
    by_cases e : j = i
    · rw [if_pos e] at hj; cases hj; subst e
      refine ⟨_, Ren.put_self _ _ _, ho, fun _ => ⟨Nat.le_trans h.below.size hgs, fun hm => ?_⟩, fun _ => .inr hgs⟩
      have := h.xlt _ hm
      simp at this
      omega
    · rw [if_neg e] at hj
      obtain ⟨q, a, b, c⟩ := h.rows j o' hj
      exact ⟨q, (Ren.put_ne _ _ e).trans a, b.to (Ren.le_put hi) fun hi' => hb.block _ (b.lt hi'), c, fun hi' => .inl ⟨j, o', hj, hi', a⟩⟩
  · rw [hg] at ha hb'
    have key : ∀ c oc qc, (if c = i then some o else m.tr.get? c) = some oc → isObj oc = true → (ρ.put i (g, K)) c = some qc → (c = i ∧ qc.1 = g) ∨ (c ≠ i ∧ m.tr.get? c = some oc ∧ ρ c = some qc ∧ qc.1 < w.heap.size) := by
      intro c oc qc h1 h2 h3
      by_cases e : c = i
      · subst e; rw [Ren.put_self] at h3; cases h3; exact .inl ⟨rfl, rfl⟩
      · rw [if_neg e] at h1
        rw [Ren.put_ne _ _ e] at h3
        obtain ⟨q, a, b, _⟩ := h.rows c oc h1
        rw [h3] at a; cases a
        exact .inr ⟨e, h1, h3, b.lt h2⟩
    rcases key a oa qa ha hoa hqa with ⟨e1, e2⟩ | ⟨e1, e2, e3, e4⟩ <;> rcases key b ob' qb hb' hob hqb with ⟨f1, f2⟩ | ⟨f1, f2, f3, f4⟩
    · omega
    · omega
    · omega
    · exact h.inj a b oa ob' qa qb e2 f2 hoa hob e3 f3 e
end Go.Proofs.YtgmdbfackbdnlaaGreatDoor

/- The executor: Sets.Writes. -/
namespace Go.Proofs.YtgmdbfackbdnlaaGreatDoor
open Go.RowKit Bl Th Go.Sx
set_option maxRecDepth 10000

section
variable {E : Env} {G : Gh} {ρ : Ren} {m : Mem} {w : World}
theorem u64v_some {β : Type} {f : Nat → Option β} {v : Value} {r : β} (h : u64v f v = some r) : ∃ n : Nat, v = .int .u64 (n : Int) ∧ f n = some r := by
  unfold u64v at h
  split at h
  · exact ⟨_, rfl, h⟩
  · cases h
theorem allR_ok {α : Type} {f : α → Bool} : ∀ {l : List α}, allR f l = true → ∀ x ∈ l, f x = true
  | [], _, x, hx => by cases hx
  | y :: l, h, x, hx => by
    have h : (f y && allR f l) = true := h
    rw [Bool.and_eq_true] at h
    rcases List.mem_cons.1 hx with rfl | hx
    · exact h.1
    · exact allR_ok h.2 x hx
theorem insK_perm {α : Type} (k : Nat) (v : α) : ∀ l : List (Nat × α), (insK k v l).Perm ((k, v) :: l)
  | [] => .refl _
  | x :: l => by
    show (bif' (Nat.blt k x.1) ((k, v) :: x :: l) (x :: insK k v l)).Perm _
    rw [bif_eq]
    split
    · exact .refl _
    · exact ((insK_perm k v l).cons x).trans (.swap _ _ _)
theorem mapP_some {β : Type} {f : Nat → Option β} {v : Value} {r : β} (h : mapP f v = some r) : ∃ i, v = .map (some i) ∧ f i = some r := by
  unfold mapP at h
  split at h
  · exact ⟨_, rfl, h⟩
  · cases h
theorem list5 : ∀ {l : List Value}, l.length = 5 → ∃ a0 a1 a2 a3 a4, l = [a0, a1, a2, a3, a4]
  | [a0, a1, a2, a3, a4], _ => ⟨a0, a1, a2, a3, a4, rfl⟩
theorem wordV_some {β : Type} {f : Nat → Option β} {v : Value} {r : β} (h : wordV f v = some r) : ∃ n : Nat, (v = .int .u64 (n : Int) ∨ v = .float .f32 n) ∧ f n = some r := by
  unfold wordV at h
  split at h
  · exact ⟨_, .inl rfl, h⟩
  · exact ⟨_, .inr rfl, h⟩
  · cases h
def keyOf : Value → Int
  | .int _ n => n
  | _ => 0
def valN : Value → Nat
  | .int _ n => n.toNat
  | .float _ n => n
  | _ => 0
def entOf (e : Value × Value × Nat) : Ent := ⟨keyOf e.1, .int .u64 (valN e.2.1 : Int), e.2.2⟩
def entP (e : Value × Value × Nat) : Nat × Nat × Value := ((keyOf e.1).toNat, valN e.2.1, e.2.1)
theorem sortK_ok : ∀ {es : List (Value × Value × Nat)} {l : List (Nat × Nat × Value)}, sortK es = some l → (∀ e ∈ es, ∃ k v : Nat, e.1 = .int .u64 (k : Int) ∧ (e.2.1 = .int .u64 (v : Int) ∨ e.2.1 = .float .f32 v)) ∧ l.Perm (es.map entP)
  | [], l, h => by cases h; exact ⟨fun _ h => (by cases h), .refl _⟩
  | e :: es, l, h => by
    obtain ⟨k, h1, h⟩ := u64v_some (show u64v (fun k => wordV (fun v => ob (sortK es) fun s => some (insK k (v, e.2.1) s)) e.2.1) e.1 = some l from h)
    obtain ⟨v, h2, h⟩ := wordV_some h
    obtain ⟨s, h3, h⟩ := ob_some h
    cases h
    obtain ⟨a, b⟩ := sortK_ok h3
    refine ⟨fun x hx => ?_, (insK_perm k (v, e.2.1) s).trans ?_⟩
    · rcases List.mem_cons.1 hx with rfl | hx
      · exact ⟨k, v, h1, h2⟩
      · exact a x hx
    · have : entP e = (k, v, e.2.1) := by
        unfold entP
        rw [h1]
        rcases h2 with h2 | h2 <;> rw [h2] <;> simp [keyOf, valN]
      rw [List.map_cons, this]
      exact b.cons _
theorem ascK_ok {α : Type} {f : α → Nat} : ∀ {l : List (Nat × α)}, ascK l = true → Th.Sorted (l.map fun x => (x.1, f x.2))
  | [], _ => trivial
  | x :: l, h => by
    have h : (allR (fun y => Nat.blt x.1 y.1) l && ascK l) = true := h
    rw [Bool.and_eq_true] at h
    refine ⟨fun y hy => ?_, ascK_ok h.2⟩
    obtain ⟨z, z1, rfl⟩ := List.mem_map.1 hy
    have := allR_ok h.1 z z1
    rwa [Nat.blt_eq] at this
theorem bornK_ok {cl : Nat} : ∀ {es : List (Value × Value × Nat)}, bornK cl es = true → (es.map (·.2.2)).Nodup ∧ ∀ e ∈ es, e.2.2 < cl
  | [], _ => ⟨by simp, fun _ h => (by cases h)⟩
  | x :: l, h => by
    have h : (Nat.blt x.2.2 cl && allR (fun y => !(Nat.beq x.2.2 y.2.2)) l && bornK cl l) = true := h
    simp only [Bool.and_eq_true] at h
    obtain ⟨⟨h1, h2⟩, h3⟩ := h
    rw [Nat.blt_eq] at h1
    obtain ⟨a, b⟩ := bornK_ok h3
    refine ⟨?_, fun e he => ?_⟩
    · rw [List.map_cons, List.nodup_cons]
      refine ⟨fun hm => ?_, a⟩
      obtain ⟨y, y1, y2⟩ := List.mem_map.1 hm
      have := allR_ok h2 y y1
      rw [y2, show Nat.beq x.2.2 x.2.2 = true from Nat.beq_refl _] at this
      cases this
    · rcases List.mem_cons.1 he with rfl | he
      · exact h1
      · exact b e he
def pairsOf (l : List (Nat × Nat × Value)) : List (Nat × Nat) := l.map fun x => (x.1, x.2.1)
theorem wmap_ok {es : List (Value × Value × Nat)} {cl : Nat} {L : List (Nat × Nat × Value)} (h1 : sortK es = some L) (h2 : ascK L = true) (h3 : bornK cl es = true) : WMap (pairsOf L) (es.map entOf) cl := by
  obtain ⟨a, b0⟩ := sortK_ok h1
  have hs : Th.Sorted (pairsOf L) := by unfold pairsOf; exact ascK_ok (f := fun x : Nat × Value => x.1) h2
  obtain ⟨c, d⟩ := bornK_ok h3
  obtain ⟨l, hl⟩ : ∃ l, pairsOf L = l := ⟨_, rfl⟩
  have hpair : ∀ e ∈ es, ∃ k v : Nat, (entOf e).key = (k : Int) ∧ (entOf e).val = .int .u64 (v : Int) ∧ entPair (entOf e) = (k, v) := fun e he => by
    obtain ⟨k, v, x, y⟩ := a e he
    have hv : valN e.2.1 = v := by rcases y with y | y <;> rw [y] <;> simp [valN]
    refine ⟨k, v, ?_, ?_, ?_⟩
    · unfold entOf; rw [x]; rfl
    · unfold entOf; rw [hv]
    · unfold entPair entOf; rw [x, hv]; simp [keyOf]
  have b : l.Perm (es.map fun e => entPair (entOf e)) := by
    rw [← hl]
    refine (b0.map _).trans ?_
    rw [List.map_map]
    refine List.Perm.of_eq (List.map_congr_left fun e he => ?_)
    obtain ⟨k, v, x, y⟩ := a e he
    simp [entP, entPair, entOf, x, keyOf]
  rw [hl] at hs ⊢
  have hkeys : ((es.map entOf).map (·.key)).Nodup := by
    have hp : (es.map fun e => entPair (entOf e)).Pairwise (fun x y => x.1 ≠ y.1) :=
      b.pairwise_iff (fun {x y} hxy e => hxy e.symm) |>.1 ((sorted_pairwise l hs).imp fun hxy => Nat.ne_of_lt hxy)
    rw [List.pairwise_map] at hp
    rw [List.Nodup, List.pairwise_map, List.pairwise_map]
    refine hp.imp_of_mem fun {x y} hx hy hxy e => hxy ?_
    obtain ⟨k, v, k1, k2, k3⟩ := hpair x hx
    obtain ⟨k', v', l1, l2, l3⟩ := hpair y hy
    rw [k3, l3]
    rw [k1, l1] at e
    exact Int.ofNat.inj e
  have hmem : ∀ k v : Nat, (k, v) ∈ l → ∃ e ∈ es, (entOf e).key = (k : Int) ∧ (entOf e).val = .int .u64 (v : Int) := fun k v hkv => by
    obtain ⟨e, he, hep⟩ := List.mem_map.1 (b.mem_iff.1 hkv)
    obtain ⟨k', v', l1, l2, l3⟩ := hpair e he
    rw [l3] at hep
    cases hep
    exact ⟨e, he, l1, l2⟩
  refine ⟨fun k => ?_, ?_, ?_, ?_, hkeys, ?_, hs⟩
  · by_cases hk : (k : Int) ∈ (es.map entOf).map (·.key)
    · obtain ⟨t, ht, hte⟩ := List.mem_map.1 hk
      obtain ⟨e, he, rfl⟩ := List.mem_map.1 ht
      obtain ⟨k', v', l1, l2, l3⟩ := hpair e he
      have hkk : k' = k := by rw [l1] at hte; exact Int.ofNat.inj hte
      subst hkk
      have := ent_look hkeys _ ht
      rw [hte] at this
      rw [this, l2]
      have hin : (k', v') ∈ l := b.mem_iff.2 (List.mem_map.2 ⟨e, he, l3⟩)
      rw [wget_of_mem l hs _ hin]
      rfl
    · rw [(look_key _ _).2 hk]
      cases hw : wget k l with
      | none => rfl
      | some v =>
        obtain ⟨e, he, l1, _⟩ := hmem k v (wget_mem k v l hw)
        exact absurd (List.mem_map.2 ⟨entOf e, List.mem_map.2 ⟨e, he, rfl⟩, l1⟩) hk
  · rw [List.length_map, b.length_eq, List.length_map]
  · rw [List.map_map]; exact c
  · intro x hx
    rw [List.map_map] at hx
    obtain ⟨e, he, rfl⟩ := List.mem_map.1 hx
    exact d e he
  · intro k hk
    obtain ⟨t, ht, rfl⟩ := List.mem_map.1 hk
    obtain ⟨e, he, rfl⟩ := List.mem_map.1 ht
    obtain ⟨k', v', l1, _⟩ := hpair e he
    exact ⟨k', l1⟩
theorem flatK_rel : ∀ l : List (Nat × Nat × Value), (∀ x ∈ l, Rel ρ x.2.2 (.int .u64 (x.2.1 : Int))) → RelL ρ (flatK l) ((pairsOf l).flatMap encW)
  | [], _ => .nil ρ
  | x :: l, h => .cons (.int _ _) (.cons (h x (by simp)) (flatK_rel l fun y hy => h y (by simp [hy])))
theorem flatK_len : ∀ l : List (Nat × Nat × Value), (flatK l).length = l.length * 2
  | [] => rfl
  | _ :: l => by
    show (flatK l).length + 1 + 1 = _
    rw [flatK_len l, List.length_cons]; omega
theorem pWrites_ok (hsz : E.size 364 = some 2) {args : List Value} {v : Value} {m' : Mem} (h : pWrites 364 args m = some (v, m')) {args' : List Value} (hc : Conc E G ρ m w) (hr : RelL ρ args args') :
    Calls Tryz.prog 274 ⟨args'⟩ w fun e w' => ∃ v', e = .returned v' ∧ EffPost E G ρ m w v m' v' w' := by
  unfold pWrites at h
  split at h
  · rename_i b
    obtain ⟨x', c1, rfl, p1, k⟩ := hr.cons_inv
    obtain rfl := k.nil_inv
    obtain ⟨n, c, d, e, op, ro, g1, h⟩ := row_some h
    obtain ⟨g2, h⟩ := ifo_some h
    rw [Bool.and_eq_true] at g2
    have hn : n = 5 := Nat.eq_of_beq_eq_true g2.1
    have hop : op = false := by cases op with | false => rfl | true => cases g2.2
    subst hn hop
    obtain ⟨v1, k1, h⟩ := ob_some h
    obtain ⟨ba, rfl, h⟩ := mapP_some h
    obtain ⟨v2, k2, h⟩ := ob_some h
    obtain ⟨r, rfl, h⟩ := mapP_some h
    obtain ⟨es, cl, ro2, g3, h⟩ := map_some h
    obtain ⟨l, s1, h⟩ := ob_some h
    obtain ⟨g4, h⟩ := ifo_some h
    simp only [Bool.and_eq_true] at g4
    obtain ⟨⟨s2, s3⟩, s4⟩ := g4
    have s4 : l.length ≤ 500 := Nat.le_of_ble_eq_true s4
    cases p1 with
    | ptr _ _ q hq =>
    obtain ⟨q', arr, a1, a2, a3, a4, a5⟩ := row_at hc g1
    rw [hq] at a1; cases a1
    obtain ⟨u1, x1, y1⟩ := a5 1 _ k1
    obtain ⟨u2, x2, y2⟩ := a5 2 _ k2
    obtain ⟨b0, b1, b2, b3, b4, rfl⟩ := list5 (a4 rfl)
    simp only [List.getElem?_cons_zero, List.getElem?_cons_succ, Option.some.injEq] at x1 x2
    subst x1 x2
    cases y1 with
    | map _ qa hqa =>
    cases y2 with
    | map _ qr hqr =>
    obtain ⟨q2, z1, z2, _⟩ := hc.rows r _ g3
    rw [hqr] at z1; cases z1
    obtain ⟨ma, z2, z3, z4⟩ := z2
    have hval : ∀ (i : Nat) (e : Value × Value × Nat) (a : MapEntry), es[i]? = some e → ma[i]? = some a → a.val = .int .u64 (valN e.2.1 : Int) := fun i e a he ha => by
      obtain ⟨_, w2, _⟩ := z4 i e a he ha
      obtain ⟨k, v, _, j2⟩ := (sortK_ok s1).1 e (List.mem_of_getElem? he)
      rcases j2 with j2 | j2
      · rw [j2] at w2 ⊢
        rw [rel_int w2]
        simp [valN]
      · rw [j2] at w2 ⊢
        obtain ⟨av, hav⟩ : ∃ av, a.val = av := ⟨_, rfl⟩
        rw [hav] at w2 ⊢
        cases w2 with
        | wrd _ _ => rfl
    have hrel : ∀ x ∈ l, Rel ρ x.2.2 (.int .u64 (x.2.1 : Int)) := fun x hx => by
      obtain ⟨e, e1, rfl⟩ := List.mem_map.1 ((sortK_ok s1).2.mem_iff.1 hx)
      obtain ⟨i, hi⟩ := List.getElem?_of_mem e1
      obtain ⟨a, ha⟩ : ∃ a, ma[i]? = some a := ⟨_, Array.getElem?_eq_getElem (by have := (List.getElem?_eq_some_iff.1 hi).1; omega)⟩
      have := (z4 i e a hi ha).2.1
      rw [hval i e a hi ha] at this
      exact this
    have hpl : (pairsOf l).length = l.length := by unfold pairsOf; rw [List.length_map]
    have hmap : MapAt w qr.1 .u64 (es.map entOf) cl := by
      unfold MapAt
      rw [z2]
      congr 2
      apply Array.toList_inj.1
      refine List.ext_getElem? fun i => ?_
      rw [List.map_map, List.getElem?_map]
      cases he : es[i]? with
      | none =>
        have := List.getElem?_eq_none_iff.1 he
        simp only [Option.map_none]
        exact List.getElem?_eq_none (by rw [Array.length_toList]; omega)
      | some e =>
        have hlt := (List.getElem?_eq_some_iff.1 he).1
        obtain ⟨a, ha⟩ : ∃ a, ma[i]? = some a := ⟨_, Array.getElem?_eq_getElem (by omega)⟩
        obtain ⟨w1, w2, w3⟩ := z4 i e a he ha
        obtain ⟨k, v, j1, _⟩ := (sortK_ok s1).1 e (List.mem_of_getElem? he)
        rw [Array.getElem?_toList, ha]
        have x2 := hval i e a he ha
        rw [j1] at w1
        have x1 := rel_int w1
        clear w1 w2 ha
        simp only [Option.map_some, Function.comp, Option.some.injEq]
        obtain ⟨ak, av, ab⟩ := a
        simp only at x1 x2 w3
        rw [x1, x2, w3]
        simp [Ent.mk', entOf, j1, keyOf]
    refine (swrites_raw a2 hmap (wmap_ok s1 s2 s3) (by rw [hpl]; exact s4)).mono ?_
    rintro e w' ⟨v', rfl, hnil, hrow, hb⟩
    obtain ⟨hu, hx⟩ := hc.under hb
    unfold rowK at h
    split at h
    · cases h
      rw [hnil rfl]
      exact ⟨_, rfl, eff_same (.sl0 0 0 (by unfold big; omega)) hu hx (Nat.le_refl _)⟩
    · rename_i hne
      obtain ⟨h1, h2⟩ := ifo_some h
      simp only [Bool.and_eq_true] at h1
      obtain ⟨⟨t1, t2⟩, t3⟩ := h1
      have t1 : l.length * 2 ≤ lim := Nat.le_of_ble_eq_true t1
      rw [Nat.blt_eq] at t2
      cases h2
      rcases hrow.2 with ⟨_, e0⟩ | ⟨g, cap, cur, rfl, f1, f2, f3, f4, f5, f6⟩
      · exact absurd (List.eq_nil_of_length_eq_zero (hpl.symm.trans e0)) hne
      · have hi := hc.fresh
        have hcur : ∀ i, i < l.length * 2 → cur.toList[i]? = ((pairsOf l).flatMap encW)[i]? := fun i hi => by
          rw [← f6, List.getElem?_take, if_pos (by rw [hpl]; exact hi)]
        have hcells : Cells w' g cur.toList 364 := by
          unfold Cells
          rw [f2]
        obtain ⟨c1, c2⟩ := hc.name hb hi t2 (Nat.le_succ m.nx) (Nat.lt_succ_self _) (.row (l.length * 2) (Tr.ofList (flatK l) 0 .nil) none 364 true false) (g := g) (K := cap) (by omega)
          ⟨cur.toList, hcells, (by rw [show cur.toList.length = cap * 2 from (Array.length_toList).trans f5]; exact Nat.mul_le_mul_right 2 (hpl ▸ f3)), t1, (fun e => by cases e), fun _ => ⟨2, hsz, by omega, (Array.length_toList).trans f5, by unfold maxLen at f4; unfold big; omega⟩, fun i u hu => by
            have hu' := list_cells (ρ := ρ.put m.nx (g, cap)) (flatK_rel l fun x hx => (hrel x hx).mono (Ren.le_put hi)) (by rw [flatK_len]; omega) i u (by rw [flatK_len]; exact hu)
            obtain ⟨u', x, y⟩ := hu'
            have hlt := (List.getElem?_eq_some_iff.1 x).1
            have hfl := (flatK_rel l hrel).1
            rw [flatK_len] at hfl
            exact ⟨u', (hcur i (by omega)).trans x, y⟩⟩
        exact ⟨_, rfl, _, ⟨Ren.le_put hi, fun j hj => Ren.put_ne _ _ (by omega), c2⟩, Nat.le_succ _, by rw [hpl]; exact .slo m.nx 0 l.length _ _ (Ren.put_self _ _ _) ⟨fun _ => rfl, by omega⟩, c1⟩
  · cases h
theorem pWrites_grow {tw : Nat} {args : List Value} {m m' : Mem} {v : Value} (h : pWrites tw args m = some (v, m')) (_ : m.mode = 1) : m'.mode = m.mode ∧ m'.tl = m.tl := by
  unfold pWrites at h
  split at h
  · obtain ⟨n, c, d, e, op, ro, g1, h⟩ := row_some h
    obtain ⟨_, h⟩ := ifo_some h
    obtain ⟨v1, k1, h⟩ := ob_some h
    obtain ⟨ba, rfl, h⟩ := mapP_some h
    obtain ⟨v2, k2, h⟩ := ob_some h
    obtain ⟨r, rfl, h⟩ := mapP_some h
    obtain ⟨es, cl, ro2, g3, h⟩ := map_some h
    obtain ⟨l, s1, h⟩ := ob_some h
    obtain ⟨_, h⟩ := ifo_some h
    unfold rowK at h
    split at h
    · cases h; exact ⟨rfl, rfl⟩
    · obtain ⟨_, h2⟩ := ifo_some h
      cases h2; exact ⟨rfl, rfl⟩
  · cases h
end
end Go.Proofs.YtgmdbfackbdnlaaGreatDoor
