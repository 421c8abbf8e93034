/- Layer 7 (sets): Writes. -/
import Derived.Test.YtmdganpealbmpaaGreatDoorSets4
namespace Go.Proofs.YtmdganpealbmpaaGreatDoor
open Go.RowKit Bl Th Go.Shelf Go.Sort
set_option maxRecDepth 10000

theorem sortIns_none (p : Option Addr) (cap : Nat) (fv : Value) (w : World) :
    Calls Tryz.prog 135 #[.slice p 0 cap, .int .i64 0, .int .i64 0, fv] w fun e w' => e = .returned (.tuple #[]) ∧ w = w' := by
  go_enter Tryz.func135, Tryz.ntmps135
  go_wp2
  refine wp_loop_rounds 1 ?_
  rw [rounds_succ]
  go_wp2
  go_end0
  exact ⟨rfl, rfl⟩
theorem sortPdq_none (p : Option Addr) (cap : Nat) (lim : Int) (fv : Value) (w : World) :
    Calls Tryz.prog 122 #[.slice p 0 cap, .int .i64 0, .int .i64 0, .int .i64 lim, fv] w fun e w' => e = .returned (.tuple #[]) ∧ w = w' := by
  go_enter Tryz.func122, Tryz.ntmps122
  go_wp2
  refine wp_loop_rounds 1 ?_
  rw [rounds_succ]
  go_wp2_with (go_at_call 135; refine (sortIns_none _ _ _ _).mono ?_; rintro e w' ⟨rfl, rfl⟩)
  (try simp only [Exit.inBlock, Exit.then])
  refine bodyPost_ret (results_none rfl _ _ _) rfl ?_
  exact ⟨rfl, rfl⟩
theorem sort_none (p : Option Addr) (cap : Nat) (fv : Value) (w : World) :
    Calls Tryz.prog 102 #[.slice p 0 cap, fv] w fun e w' => e = .returned (.tuple #[]) ∧ w = w' := by
  have hl : ∀ W, Calls Tryz.prog 123 #[.int .u64 0] W fun e w' => e = .returned (.int .i64 (Lib.bitLen 0 : Nat)) ∧ w' = W := fun W => by
    have h := Any.bits_Len (SlLaysF0.n15.bits (P := Tryz.prog) (ρ := Tryz.sortL_ren) { Tryz.sortL with }) 0 W (by omega) (by omega)
    exact h
  have HL := Lib.hid hl
  clear hl
  go_enter Tryz.func102, Tryz.ntmps102
  go_wp2_with fail
  refine (HL.out _).mono ?_
  rintro e w' ⟨rfl, rfl⟩
  go_wp2_with fail
  refine (sortPdq_none _ _ _ _ _).mono ?_
  rintro e w' ⟨rfl, rfl⟩
  go_wp2
  go_end0
  exact ⟨rfl, rfl⟩

theorem flatW_at (l : List (Nat × Nat)) (k : Nat) (x : Nat × Nat) (hx : l[k]? = some x) : ∀ j, j < 2 → (l.flatMap encW)[k * 2 + j]? = (encW x)[j]? := by
  induction l generalizing k with
  | nil => simp at hx
  | cons y l ih =>
    intro j hj
    have hy : (encW y).length = 2 := rfl
    cases k with
    | zero =>
      simp only [List.getElem?_cons_zero, Option.some.injEq] at hx
      subst hx
      rw [List.flatMap_cons, List.getElem?_append_left (by omega)]
      simp
    | succ k =>
      simp only [List.getElem?_cons_succ] at hx
      rw [List.flatMap_cons, List.getElem?_append_right (by omega), ← ih k hx j hj]
      congr 1
      omega

/-- A slice of pairs in blocks that came since w: its cells. -/
def PairsAt (base : Nat) (w' : World) (v : Value) (l : List (Nat × Nat)) : Prop :=
  ∃ p cap, v = .slice p l.length cap ∧ (l.length ≤ cap ∧ cap ≤ maxLen) ∧ ∀ (j : Nat) (x : Nat × Nat), l[j]? = some x → ∃ g, p = some ⟨g, 0, none⟩ ∧ base ≤ g ∧ w'.cell? ⟨g, j * 2, none⟩ = some (.int .u64 (x.1 : Int)) ∧ w'.cell? ⟨g, j * 2 + 1, none⟩ = some (.int .u64 (x.2 : Int))
/-- In the order of cells. -/
def AscW (l : List (Nat × Nat)) : Prop := ∀ (i j : Nat) (x y : Nat × Nat), i < j → l[i]? = some x → l[j]? = some y → x.1 ≤ y.1

theorem sortW_ok {w : World} {base : Nat} {v : Value} {l : List (Nat × Nat)} (hl : l.length < 4611686018427387904) (h : w.ownsRow base 159 2 v l.length (l.flatMap encW)) (hB : base ≤ w.heap.size) :
    Calls Tryz.prog 102 #[v, .func (.func 103) #[] #[]] w fun e w' => e = .returned (.tuple #[]) ∧ Below base w w' ∧ ∃ l', l'.Perm l ∧ AscW l' ∧ PairsAt base w' v l' := by
  by_cases hn : l = []
  · subst hn
    obtain ⟨p, cap, rfl, hcm⟩ : ∃ p cap, v = .slice p 0 cap ∧ cap ≤ maxLen := by
      rcases h.2 with ⟨rfl, _⟩ | ⟨g, cap, cur, rfl, _, _, _, hm, _⟩
      · exact ⟨_, _, rfl, Nat.zero_le _⟩
      · exact ⟨_, _, rfl, hm⟩
    refine (sort_none p cap (.func (.func 103) #[] #[]) w).mono ?_
    rintro e w' ⟨rfl, rfl⟩
    exact ⟨rfl, Below.refl _ _, [], List.Perm.refl _, fun i j x y _ hi _ => by simp at hi, p, cap, rfl, ⟨Nat.zero_le _, hcm⟩, fun j r hj => by simp at hj⟩
  · have hpos : 0 < l.length := by cases l with | nil => exact absurd rfl hn | cons => simp
    obtain ⟨g, cap, cur, rfl, hb, hg, hnc, hm, hc, ht⟩ : ∃ g cap cur, v = .slice (some ⟨g, 0, none⟩) l.length cap ∧ base ≤ g ∧ w.heap[g]? = some (.cells cur 159 (0, 0)) ∧ l.length ≤ cap ∧ cap ≤ maxLen ∧ cap * 2 = cur.size ∧ cur.toList.take (l.length * 2) = l.flatMap encW := by
      rcases h.2 with ⟨_, h0⟩ | ⟨g, cap, cur, rfl, hb, hg, hn, hm, hc, ht⟩
      · omega
      · exact ⟨g, cap, cur, rfl, hb, hg, hn, hm, by omega, ht⟩
    have eg : ∀ args w, (callFunc 103 args).run Tryz.prog w = .ok (.enter 103 args) w := enters_of Tryz.func103 (by kernel_rfl) rfl
    have hgl : g < w.heap.size := lt_of_block hg
    have hlen2 : l.length * 2 ≤ cur.size := by omega
    have hH : HoldsK encW 2 w g 0 l.toArray := by
      intro t ht'
      have ht2 : t < l.length * 2 := by simpa using ht'
      have hk : t / 2 < l.length := by omega
      have hx : l[t / 2]? = some l[t / 2] := List.getElem?_eq_getElem hk
      have h1 := flatW_at l (t / 2) _ hx (t % 2) (by omega)
      rw [show t / 2 * 2 + t % 2 = t by omega, ← ht, List.getElem?_take, if_pos ht2] at h1
      rw [get_flatK _ _ _ _ (by simpa using ht2), Nat.zero_add]
      have e1 : l.toArray[t / 2]! = l[t / 2] := by rw [getElem!_pos l.toArray (t / 2) (by simpa using hk)]; simp
      rw [e1]
      refine ⟨?_, by simp [World.frozen?, hg]⟩
      rw [cell_of_row w g t cur 159 (0, 0) hg, ← Array.getElem?_toList, h1]
      have hl2 : t % 2 < (encW l[t / 2]).length := by simp [encW]; omega
      rw [List.getElem?_eq_getElem hl2, getElem!_pos (encW l[t / 2]) (t % 2) hl2]
      rfl
    have hcmp : CmpLays Tryz.prog 103 #[] encW 2 cfW g 0 l.toArray.size w := fun _ _ _ _ x y => closureW x y _
    have hS := AnyQ.slices_SortFunc Tryz.sortL 2 isAggW sizeOfW encW (fun _ => rfl) (fun x v hv => by simp [encW] at hv; rcases hv with rfl | rfl <;> rfl) cfW swoW 103 #[] g 0 cap l.toArray w eg hcmp hH hgl (by simpa using hl)
    change Calls Tryz.prog 102 _ _ _ at hS
    simp only [List.size_toArray] at hS
    refine hS.mono ?_
    rintro e w' ⟨rfl, d', n, os, hp, hso, rfl⟩
    have hsz : d'.size = l.length := by simpa using hp.1
    have hperm : d'.toList.Perm l := by
      have := hp.2.2
      rw [Array.toList_extract, Array.toList_extract] at this
      simp only [List.extract_eq_take_drop, List.drop_zero, Nat.sub_zero] at this
      rwa [List.take_of_length_le (l := l) (Nat.le_refl _), List.take_of_length_le (by rw [Array.length_toList, hsz]; exact Nat.le_refl _)] at this
    have hH2 : HoldsK encW 2 (sortWorldK encW 2 w g 0 n d' os) g 0 d' := by
      unfold sortWorldK
      refine holdsK_grow _ _ _ _ _ _ _ ?_ (holdsK_putRowK _ _ _ _ _ l.toArray d' hH (by simpa using hsz))
      rw [size_putRowK]; exact hgl
    refine ⟨rfl, ?_, d'.toList, hperm, ?_, some ⟨g, 0, none⟩, cap, by simp [hsz], ⟨by simp [hsz, hnc], hm⟩, ?_⟩
    · unfold sortWorldK
      refine ⟨rfl, rfl, rfl, ?_, ?_⟩
      · rw [Go.Sort.size_grow, size_putRowK]; exact Nat.le_add_right _ _
      · intro k hk
        rw [heap_grow_old _ _ (by rw [size_putRowK]; show k < w.heap.size; omega)]
        unfold putRowK putRow mapBlock
        rw [Array.getElem?_modify]
        rw [if_neg (by omega)]
        rfl
    · intro i j x y hij hx hy
      have hi' : i < d'.size := by have := (List.getElem?_eq_some_iff.1 hx).1; simpa using this
      have hj' : j < d'.size := by have := (List.getElem?_eq_some_iff.1 hy).1; simpa using this
      have h1 : d'[i]! = x := by
        rw [getElem!_pos d' i hi']
        have := (List.getElem?_eq_some_iff.1 hx).2
        simpa using this
      have h2 : d'[j]! = y := by
        rw [getElem!_pos d' j hj']
        have := (List.getElem?_eq_some_iff.1 hy).2
        simpa using this
      have := hso i j (Nat.zero_le _) hij (by omega)
      rw [h1, h2, ltW] at this
      simpa using this
    · intro j x hj
      have hj' : j < d'.size := by have := (List.getElem?_eq_some_iff.1 hj).1; simpa using this
      have e1 : d'[j]! = x := by
        rw [getElem!_pos d' j hj']
        have := (List.getElem?_eq_some_iff.1 hj).2
        simpa using this
      have c0 := (hH2.cell hj' (show 0 < 2 by omega)).1
      have c1 := (hH2.cell hj' (show 1 < 2 by omega)).1
      rw [e1] at c0 c1
      simp only [Nat.zero_add, Nat.add_zero] at c0 c1
      exact ⟨g, rfl, hb, c0, c1⟩
end Go.Proofs.YtmdganpealbmpaaGreatDoor
