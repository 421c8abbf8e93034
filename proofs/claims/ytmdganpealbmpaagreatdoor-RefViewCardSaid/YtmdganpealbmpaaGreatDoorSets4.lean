/- Layer 7 (sets): Reads, Writes. -/
import Derived.Test.YtmdganpealbmpaaGreatDoorSets3
import Derived.Test.YtmdganpealbmpaaGreatDoorHeap
import Derived.Test.YtmdganpealbmpaaGreatDoorSortK
import Derived.Laws.OwnMore
import Derived.Maps.RangeWalk
namespace Go.Proofs.YtmdganpealbmpaaGreatDoor
open Go.RowKit Bl Th Go.Shelf Go.Sort
set_option maxRecDepth 10000

set_option maxHeartbeats 1000000 in
theorem cloneSeen_ok {w : World} {base : Nat} {v : Value} {l : List (Nat × Int)} (h : w.ownsRow base 164 2 v l.length (l.flatMap encSeen)) (hl : l.length ≤ 6000) :
    Calls Tryz.prog 125 #[v] w fun e w' => ∃ v', e = .returned v' ∧ w'.ownsRow w.heap.size 164 2 v' l.length (l.flatMap encSeen) ∧ Below w.heap.size w w' := by
  have hen := fun w p n cap => Lib.run_eql_slice_nil (P := Tryz.prog) w 156 164 p n cap 0 0 Tryz.underlying156
  rcases h.2 with ⟨rfl, h0⟩ | ⟨g, cap, cur, rfl, hb, hg, hn, hm, hc, ht⟩
  · have hnil : l = [] := List.eq_nil_of_length_eq_zero h0
    subst hnil
    clear h
    go_enter Tryz.func125, Tryz.ntmps125
    go_wp2
    go_ret
    exact ⟨_, rfl, World.ownsRow_nil _ _ _ _, Below.refl _ _⟩
  · obtain ⟨i0, hi0, hz0, hz1, hz2⟩ := info_parts seenInfo
    have hlen : (l.flatMap encSeen).length = l.length * 2 := h.1
    have hcells : ∀ j u, (l.flatMap encSeen)[j]? = some u → w.cell? ⟨g, j, none⟩ = some u := by
      intro j u hj
      have hj' : j < l.length * 2 := by rw [← hlen]; exact (List.getElem?_eq_some_iff.1 hj).1
      rw [cell_of_row w g j cur 164 (0, 0) hg]
      rw [← ht, List.getElem?_take, if_pos hj'] at hj
      simpa using hj
    have hone : ∀ u ∈ l.flatMap encSeen, u.oneCell' = true := by
      intro u hu
      obtain ⟨x, _, hx⟩ := List.mem_flatMap.1 hu
      simp [encSeen] at hx
      rcases hx with rfl | rfl <;> rfl
    have lg := lt_of_block hg
    have HL := Lib.hid hlen; have HCE := Lib.hid hcells; have HO := Lib.hid hone
    obtain ⟨xs, hxs⟩ : ∃ xs, l.flatMap encSeen = xs := ⟨_, rfl⟩
    rw [hxs] at HL HCE HO
    have HXS := Lib.hid hxs
    obtain ⟨n, hln⟩ : ∃ n, l.length = n := ⟨_, rfl⟩
    rw [hln] at HL hl hn
    have HLN := Lib.hid hln
    clear h hlen hcells hone hxs hg hc ht hb
    rw [hln]
    clear hln
    go_enter Tryz.func125, Tryz.ntmps125
    have hown : (w.alloc (.cells #[] 164)).ownsRow w.heap.size 164 2 (.slice (some ⟨w.heap.size, 0, none⟩) 0 0) 0 [] :=
      ⟨rfl, Or.inr ⟨w.heap.size, 0, #[], rfl, Nat.le_refl _, heap_alloc_new w _, Nat.le_refl _, Nat.zero_le _, rfl, rfl⟩⟩
    have hnews : ∀ j u, xs[j]? = some u → (w.alloc (.cells #[] 164)).cell? ((⟨g, 0, none⟩ : Addr).add j) = some u := by
      intro j u hj
      have e : (⟨g, 0, none⟩ : Addr).add j = ⟨g, j, none⟩ := by unfold Addr.add; split <;> simp_all
      rw [e, World.cell?_alloc_lt _ _ ⟨g, j, none⟩ lg]
      exact HCE.out j u hj
    have HN := Lib.hid hnews; have HOW := Lib.hid hown
    clear hnews hown
    go_wp2_with (first
      | (at_builtin; refine wpList_append_own _ rfl _ _ 156 rfl w.heap.size 164 i0 _ 2 16 Tryz.underlying156 hi0 hz0 hz1 hz2 rfl (by omega) _ 0 [] rfl HOW.out ⟨g, 0, none⟩ n cap xs rfl HL.out HN.out HO.out (by unfold maxLen; omega) (by omega) (by simp) ?_; intro v' w2 hown2 hgrow2 hnil2)
      | go_in)
    have HB := Lib.hid (show Below w.heap.size w w2 from ((Kept.refl (fun b => some b = (Value.slice (some ⟨w.heap.size, 0, none⟩) 0 0).ownBlock) w).alloc _ |>.trans (Kept.of_grown hgrow2)).below (Nat.le_refl _) (fun k hk e => by simp [Value.ownBlock] at e; omega))
    have HOW2 := Lib.hid hown2
    clear hown2 hgrow2 hnil2
    go_wp2
    go_ret
    refine ⟨_, rfl, ?_, HB.out⟩
    have := HOW2.out
    rw [Nat.zero_add, List.nil_append, ← HXS.out] at this
    exact this


/-- Reads. -/
theorem sreads_ok {W : World} {ps : Nat} {s : Sets} {B : List Nat} {w : World} (h : SetsAt W ps s B w) : Calls Tryz.prog 105 #[.pointer (some ⟨ps, 0, none⟩)] w fun e w' => ∃ v', e = .returned v' ∧ w'.ownsRow w.heap.size 164 2 v' s.reads.length (s.reads.flatMap encSeen) ∧ Below w.heap.size w w' := by
  have HM := Lib.hid (smade_ok h)
  obtain ⟨rv, lv, mv, ba, bw, ea, ew, ca, cw, rfl, h⟩ := h
  obtain ⟨p0, p1, p2, p3, p4, -⟩ := five h.main
  have HC := Lib.hid (cloneSeen_ok h.reads (by have := h.fewR; omega))
  obtain ⟨p, cap, rfl⟩ := ownsRow_shape h.reads
  clear h
  go_enter Tryz.func105, Tryz.ntmps105
  go_wp2_with (go_at_call 101; refine HM.out.mono ?_; rintro e w' ⟨rfl, rfl⟩)
  refine HC.out.mono ?_
  rintro e w1 ⟨v', rfl, ho, hb⟩
  obtain ⟨p', cap', rfl⟩ := ownsRow_shape ho
  have HO := Lib.hid ho; have HB := Lib.hid hb
  clear ho hb HC
  go_wp2
  go_ret
  exact ⟨_, rfl, HO.out, HB.out⟩

def encW (x : Nat × Nat) : List Value := [.int .u64 (x.1 : Int), .int .u64 (x.2 : Int)]
theorem isAggW (w : World) : (isAgg 159).run Tryz.prog w = .ok true w := by kernel_rfl
theorem sizeOfW (w : World) : (Go.sizeOf 159).run Tryz.prog w = .ok 2 w := by kernel_rfl
def cfW (x y : Nat × Nat) : Int := if x.1 < y.1 then -1 else if y.1 < x.1 then 1 else 0
theorem ltW (x y : Nat × Nat) : ltOf cfW x y = decide (x.1 < y.1) := by
  unfold ltOf cfW
  by_cases h1 : x.1 < y.1
  · simp [h1]
  · by_cases h2 : y.1 < x.1 <;> simp [h1, h2]
theorem swoW : SWO (ltOf cfW) where
  irrefl x := by rw [ltW]; simp
  trans x y z h1 h2 := by rw [ltW] at *; simp at *; omega
  ntrans x y z h1 h2 := by rw [ltW] at *; simp at *; omega

theorem isNaN_ok (x : Nat) (w : World) : Calls Tryz.prog 124 #[.int .u64 (x : Int)] w fun e w' => e = .returned (.bool false) ∧ w = w' := by
  have g1 : ((x : Int) != (x : Int)) = false := by simp
  have g2 : (x != x) = false := by simp
  go_enter Tryz.func124, Tryz.ntmps124
  go_wp2
  go_ret
  exact ⟨rfl, rfl⟩
set_option maxHeartbeats 400000 in
theorem compare_ok (x y : Nat) (w : World) : Calls Tryz.prog 104 #[.int .u64 (x : Int), .int .u64 (y : Int)] w fun e w' => e = .returned (.int .i64 (if x < y then -1 else if y < x then 1 else 0)) ∧ w = w' := by
  rcases Nat.lt_trichotomy x y with h | h | h
  · rw [if_pos h]
    have g1 : decide ((x : Int) < (y : Int)) = true := by simp; omega
    have g2 : decide (x < y) = true := by simp [h]
    clear h
    go_enter Tryz.func104, Tryz.ntmps104
    go_wp2_with (go_at_call 124; refine (isNaN_ok _ _).mono ?_; rintro e w' ⟨rfl, rfl⟩)
    go_ret
    exact ⟨rfl, rfl⟩
  · subst h
    rw [if_neg (Nat.lt_irrefl _), if_neg (Nat.lt_irrefl _)]
    have g1 : decide ((x : Int) < (x : Int)) = false := by simp
    have g2 : decide (x < x) = false := by simp
    go_enter Tryz.func104, Tryz.ntmps104
    go_wp2_with (go_at_call 124; refine (isNaN_ok _ _).mono ?_; rintro e w' ⟨rfl, rfl⟩)
    go_ret
    exact ⟨rfl, rfl⟩
  · rw [if_neg (by omega), if_pos h]
    have g1 : decide ((x : Int) < (y : Int)) = false := by simp; omega
    have g2 : decide (x < y) = false := by simp; omega
    have g3 : decide ((y : Int) < (x : Int)) = true := by simp; omega
    have g4 : decide (y < x) = true := by simp [h]
    clear h
    go_enter Tryz.func104, Tryz.ntmps104
    go_wp2_with (go_at_call 124; refine (isNaN_ok _ _).mono ?_; rintro e w' ⟨rfl, rfl⟩)
    go_ret
    exact ⟨rfl, rfl⟩
set_option maxHeartbeats 400000 in
theorem closureW (x y : Nat × Nat) (w : World) : Calls Tryz.prog 103 #[.agg #[.int .u64 (x.1 : Int), .int .u64 (x.2 : Int)], .agg #[.int .u64 (y.1 : Int), .int .u64 (y.2 : Int)]] w fun e w' => e = .returned (.int .i64 (cfW x y)) ∧ ∃ q os', w' = grow (w.drewN q) os' := by
  have hcon := fun w' => compare_ok x.1 y.1 w'
  unfold cfW
  generalize (if x.1 < y.1 then (-1 : Int) else if y.1 < x.1 then 1 else 0) = r at hcon ⊢
  have HC := Lib.hid hcon
  clear hcon
  go_enter Tryz.func103, Tryz.ntmps103
  go_wp2_with (go_at_call 104; refine (HC.out _).mono ?_; rintro e w' ⟨rfl, rfl⟩)
  go_ret
  exact ⟨rfl, 0, _, by rw [alloc_eq_grow, alloc_eq_grow, grow_grow]; rfl⟩
end Go.Proofs.YtmdganpealbmpaaGreatDoor
