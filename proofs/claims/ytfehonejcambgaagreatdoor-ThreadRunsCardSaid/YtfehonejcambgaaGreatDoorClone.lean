/- Layer 5 (thread): Log. -/
import Derived.Test.YtfehonejcambgaaGreatDoorStep
import Derived.Laws.OwnMore
import Derived.Outline
namespace Go.Proofs.YtfehonejcambgaaGreatDoor
open Go.RowKit Bl Th
set_option maxRecDepth 10000

set_option maxHeartbeats 1000000 in
theorem clone_ok {w : World} {base : Nat} {v : Value} {l : List Ntry} (h : w.ownsRow base 70 6 v l.length (l.flatMap encE)) (hl : l.length ≤ 6000) :
    Calls Tryz.prog 31 #[v] w fun e w' => ∃ v', e = .returned v' ∧ w'.ownsRow w.heap.size 70 6 v' l.length (l.flatMap encE) ∧ Below w.heap.size w w' := by
  have hen := fun w p n cap => Lib.run_eql_slice_nil (P := Tryz.prog) w 41 70 p n cap 0 0 Tryz.underlying41
  rcases h.2 with ⟨rfl, h0⟩ | ⟨g, cap, cur, rfl, hb, hg, hn, hm, hc, ht⟩
  · have hnil : l = [] := List.eq_nil_of_length_eq_zero h0
    subst hnil
    clear h
    go_enter Tryz.func31, Tryz.ntmps31
    go_wp2
    go_ret
    exact ⟨_, rfl, World.ownsRow_nil _ _ _ _, Below.refl _ _⟩
  · obtain ⟨i0, hi0, hz0, hz1, hz2⟩ := info_parts entryInfo
    have hlen : (l.flatMap encE).length = l.length * 6 := h.1
    have hcells : ∀ j u, (l.flatMap encE)[j]? = some u → w.cell? ⟨g, j, none⟩ = some u := by
      intro j u hj
      have hj' : j < l.length * 6 := by rw [← hlen]; exact (List.getElem?_eq_some_iff.1 hj).1
      rw [cell_of_row w g j cur 70 (0, 0) hg]
      rw [← ht, List.getElem?_take, if_pos hj'] at hj
      simpa using hj
    have hone : ∀ u ∈ l.flatMap encE, u.oneCell' = true := by
      intro u hu
      obtain ⟨x, _, hx⟩ := List.mem_flatMap.1 hu
      simp [encE] at hx
      rcases hx with rfl | rfl | rfl | rfl | rfl | rfl <;> rfl
    have lg := lt_of_block hg
    have HL := Lib.hid hlen; have HCE := Lib.hid hcells; have HO := Lib.hid hone
    obtain ⟨xs, hxs⟩ : ∃ xs, l.flatMap encE = xs := ⟨_, rfl⟩
    rw [hxs] at HL HCE HO
    have HXS := Lib.hid hxs
    obtain ⟨n, hln⟩ : ∃ n, l.length = n := ⟨_, rfl⟩
    rw [hln] at HL hl hn
    have HLN := Lib.hid hln
    clear h hlen hcells hone hxs hg hc ht hb
    rw [hln]
    clear hln
    go_enter Tryz.func31, Tryz.ntmps31
    have hown : (w.alloc (.cells #[] 70)).ownsRow w.heap.size 70 6 (.slice (some ⟨w.heap.size, 0, none⟩) 0 0) 0 [] :=
      ⟨rfl, Or.inr ⟨w.heap.size, 0, #[], rfl, Nat.le_refl _, heap_alloc_new w _, Nat.le_refl _, Nat.zero_le _, rfl, rfl⟩⟩
    have hnews : ∀ j u, xs[j]? = some u → (w.alloc (.cells #[] 70)).cell? ((⟨g, 0, none⟩ : Addr).add j) = some u := by
      intro j u hj
      have e : (⟨g, 0, none⟩ : Addr).add j = ⟨g, j, none⟩ := by unfold Addr.add; split <;> simp_all
      rw [e, World.cell?_alloc_lt _ _ ⟨g, j, none⟩ lg]
      exact HCE.out j u hj
    have HN := Lib.hid hnews; have HOW := Lib.hid hown
    clear hnews hown
    go_wp2_with (first
      | (at_builtin; refine wpList_append_own _ rfl _ _ 41 rfl w.heap.size 70 i0 _ 6 48 Tryz.underlying41 hi0 hz0 hz1 hz2 rfl (by omega) _ 0 [] rfl HOW.out ⟨g, 0, none⟩ n cap xs rfl HL.out HN.out HO.out (by unfold maxLen; omega) (by omega) (by simp) ?_; intro v' w2 hown2 hgrow2 hnil2)
      | go_in)
    have HB := Lib.hid (show Below w.heap.size w w2 from ((Kept.refl (fun b => some b = (Value.slice (some ⟨w.heap.size, 0, none⟩) 0 0).ownBlock) w).alloc _ |>.trans (Kept.of_grown hgrow2)).below (Nat.le_refl _) (fun k hk e => by simp [Value.ownBlock] at e; omega))
    have HOW2 := Lib.hid hown2
    clear hown2 hgrow2 hnil2
    go_wp2
    go_ret
    refine ⟨_, rfl, ?_, HB.out⟩
    have := HOW2.out
    rw [Nat.zero_add, List.nil_append, ← HXS.out] at this
    exact this

/-- Log. -/
theorem tlog_ok {σ : Type} {W : World} {pb pt : Nat} {fv : Value} {A : Aux σ} {t : TS σ} {B : List Nat} {w : World} (h : Thr W pb pt fv A t B w) : Calls Tryz.prog 14 #[.pointer (some ⟨pt, 0, none⟩)] w fun e w' => ∃ v', e = .returned v' ∧ w'.ownsRow w.heap.size 70 6 v' t.log.length (t.log.flatMap encE) ∧ Below w.heap.size w w' := by
  obtain ⟨lv, ev, E, Q, rfl, h⟩ := h
  obtain ⟨p0, p1, p2, p3, p4, p5, p6, -⟩ := seven h.cells
  have HC := Lib.hid (clone_ok h.row h.few)
  obtain ⟨p, cap, rfl⟩ := ownsRow_shape h.row
  clear h
  go_enter Tryz.func14, Tryz.ntmps14
  go_wp2_with fail
  refine HC.out.mono ?_
  rintro e w1 ⟨v', rfl, ho, hb⟩
  obtain ⟨p', cap', rfl⟩ := ownsRow_shape ho
  have HO := Lib.hid ho; have HB := Lib.hid hb
  clear ho hb HC
  go_wp2
  go_ret
  exact ⟨_, rfl, HO.out, HB.out⟩
end Go.Proofs.YtfehonejcambgaaGreatDoor
