/- RnTail: RnAlive, RnRight, RnTail. -/
import Derived.Test.YtkpdacfiglpgeaaGreatDoorRnRun
import Derived.Test.YtkpdacfiglpgeaaGreatDoorScene
import Derived.Test.YtkpdacfiglpgeaaGreatDoorRnOne
import Derived.Test.YtkpdacfiglpgeaaGreatDoorRnGoes
import Derived.Test.YtkpdacfiglpgeaaGreatDoorPlain14
import Derived.Test.YtkpdacfiglpgeaaGreatDoorStRead
import Derived.Test.YtkpdacfiglpgeaaGreatDoorStRight

/- Layer 14's laws: the chapter's example. -/
namespace Go.Proofs.YtkpdacfiglpgeaaGreatDoor
open Go.RowKit Bl Th Tx
open Lib (intOf)
set_option maxRecDepth 10000

set_option maxHeartbeats 1000000 in
theorem sameI_ok {w : World} {v1 v2 : Value} {l : List Int} (h1 : IntsAt w v1 l) (h2 : IntsAt w v2 l) (hl : l.length ≤ 200000) :
    Calls Tryz.prog 28 #[v1, v2] w fun e w' => e = .returned (.bool true) ∧ ∃ m, w' = w.drewN m := by
  obtain ⟨p1, c1, rfl, e1⟩ := h1
  obtain ⟨p2, c2, rfl, e2⟩ := h2
  obtain ⟨len, hlen⟩ : ∃ len, l.length = len := ⟨_, rfl⟩
  rw [hlen] at hl ⊢
  have H1 := Lib.hid e1; have H2 := Lib.hid e2
  have HLEN := Lib.hid hlen
  clear e1 e2 hlen
  have g0 : ((len : Int) != (len : Int)) = false := by simp
  have g1 : (len != len) = false := by simp
  go_enter Tryz.func28, Tryz.ntmps28
  go_wp2
  go_loopw [5] (fun i wr => ∃ k n : Nat, k ≤ len ∧ i = .int .i64 (k : Int) ∧ wr = w.drewN n) (fun i _ => len - (intOf i).toNat)
  case atStart => exact ⟨0, 0, Nat.zero_le _, rfl, rfl⟩
  case round =>
    obtain ⟨k, n, hk, rfl, rfl⟩ := hrel
    by_cases hlt : k < len
    · have hlt' : (k : Int) < (len : Int) := by omega
      obtain ⟨x, hx⟩ : ∃ x, l[k]? = some x := ⟨l[k]'(by rw [HLEN.out]; exact hlt), List.getElem?_eq_getElem _⟩
      have hne : l ≠ [] := fun e => by simp [e] at hx
      obtain ⟨ga, rfl, qa⟩ := H1.out hne
      obtain ⟨gb, rfl, qb⟩ := H2.out hne
      have ha := qa k x hx
      have hb := qb k x hx
      have g2 : (x != x) = false := by simp
      clear hx hne qa qb
      go_wp2
      go_quiet (fail)
      go_wp2
      go_roundw
      case rel => exact ⟨k + 1, _, by omega, by go_num, rfl⟩
      case measure => simp [intOf]; omega
    · obtain rfl : k = len := by omega
      have g3 : decide ((k : Int) < (k : Int)) = false := by simp
      go_wp2
      go_ret
      exact ⟨rfl, _, rfl⟩
/-- Rows that are made in one piece. -/
theorem RowQ.new {Q : List Nat} {w : World} {b n cap : Nat} {xs : List Value} {t : TypeId} (h : Cells w b xs t) (hb : b ∈ Q) : RowQ Q w (.slice (some ⟨b, 0, none⟩) n cap) n xs :=
  ⟨_, _, rfl, .inr ⟨b, 0, rfl, hb, fun j x hx => by rw [Nat.zero_add]; exact (h.cell j).trans hx⟩⟩
theorem RowQ.none (Q : List Nat) (w : World) : RowQ Q w (.slice Option.none 0 0) 0 [] := ⟨_, _, rfl, .inl rfl⟩
theorem StQ.leaf (Q : List Nat) (w : World) (h : Sh) (z : Int) (hz : z.toNat = h.kind) : StQ Q w (.mk h [] []) (stL z h (.slice none 0 0) (.slice none 0 0)) := by
  unfold StQ
  exact ⟨z, _, _, [], [], hz, rfl, by unfold StsQ; rfl, RowQ.none _ _, by unfold StsQ; rfl, RowQ.none _ _⟩
theorem StsQ.cons {Q : List Nat} {w : World} {s : St} {l : List St} {c : List Value} {cs : List (List Value)} (h1 : StQ Q w s c) (h2 : StsQ Q w l cs) : StsQ Q w (s :: l) (c :: cs) := by
  unfold StsQ
  exact ⟨c, cs, rfl, h1, h2⟩
theorem StsQ.nil (Q : List Nat) (w : World) : StsQ Q w [] [] := by unfold StsQ; rfl

def stPut (x : Int) : St := .mk ⟨2, 0, 0, (0, 0), (0, x)⟩ [] []
def al14 : List St := [stPut 1, .mk ⟨13, 0, 0, (0, 0), (0, 0)⟩ [stPut 2, stEnd 16] [], .mk ⟨1, 0, 1, (0, 0), (0, 0)⟩ [] []]
def al14Run : Nat × TS (Rsl × List Int) × BS := Th.run (treeBody fun _ => bodyX al14 1 (sceneCells 1)) 100 (0, Th.start (Rsl.zero, []), sceneS 1)
theorem al14_run : al14Run.1 = 0 ∧ al14Run.2.1.round = 0 ∧ al14Run.2.1.done = true ∧ al14Run.2.1.err = 0 ∧ al14Run.2.1.aux = (⟨1, 1, true, false⟩, [1]) := ⟨by kernel_rfl, by kernel_rfl, by kernel_rfl, by kernel_rfl, by kernel_rfl⟩
theorem al14_e : Th.run (treeBody fun _ => bodyX al14 1 (sceneCells 1)) 100 (0, Th.start (Rsl.zero, ([] : List Int)), sceneS 1) = (0, ⟨al14Run.2.1.log, 0, al14Run.2.1.steps, true, 0, (⟨1, 1, true, false⟩, [1])⟩, al14Run.2.2) := by
  obtain ⟨h1, h2, h3, h4, h5⟩ := al14_run
  show al14Run = _
  obtain ⟨x, hx⟩ : ∃ x, al14Run = x := ⟨_, rfl⟩
  rw [hx] at h1 h2 h3 h4 h5 ⊢
  obtain ⟨a, ⟨l, r, st, d, e, au⟩, bs⟩ := x
  simp only at h1 h2 h3 h4 h5 ⊢
  subst h1 h2 h3 h4 h5
  rfl
theorem aput_ok (x : Int) (w : World) : Calls Tryz.prog 37 #[.int .i64 x] w fun e w' => e = .returned (stV 2 ⟨2, 0, 0, (0, 0), (0, x)⟩ (.slice none 0 0) (.slice none 0 0)) ∧ Below w.heap.size w w' := by
  unfold stV
  go_enter Tryz.func37, Tryz.ntmps37
  go_wp2_with fail
  refine bodyPost_ret (v := .agg #[.int .i64 2, .int .i64 0, .int .i64 0, .int .i64 0, .int .i64 0, .int .i64 0, .int .i64 x, .slice none 0 0, .slice none 0 0]) (by simp [results, Tryz.results37, go_sem]) rfl ?_
  exact ⟨rfl, (Below.refl _ _).alloc (Nat.le_refl _) _⟩
def al14W (w : World) : World := (w.alloc (.cells #[.int .i64 2, .int .i64 0, .int .i64 0, .int .i64 0, .int .i64 0, .int .i64 0, .int .i64 2, .slice none 0 0, .slice none 0 0, .int .i64 16, .int .i64 0, .int .i64 0, .int .i64 0, .int .i64 0, .int .i64 0, .int .i64 0, .slice none 0 0, .slice none 0 0] 50)).alloc (.cells #[.int .i64 2, .int .i64 0, .int .i64 0, .int .i64 0, .int .i64 0, .int .i64 0, .int .i64 1, .slice none 0 0, .slice none 0 0, .int .i64 13, .int .i64 0, .int .i64 0, .int .i64 0, .int .i64 0, .int .i64 0, .int .i64 0, .slice (some ⟨w.heap.size, 0, none⟩) 2 2, .slice none 0 0, .int .i64 1, .int .i64 0, .int .i64 1, .int .i64 0, .int .i64 0, .int .i64 0, .int .i64 0, .slice none 0 0, .slice none 0 0] 50)
theorem al14_sl (w : World) : SlQ [w.heap.size, w.heap.size + 1] (al14W w) al14 (.slice (some ⟨w.heap.size + 1, 0, none⟩) 3 3) := by
  have C1 := (Cells.new w [.int .i64 2, .int .i64 0, .int .i64 0, .int .i64 0, .int .i64 0, .int .i64 0, .int .i64 2, .slice none 0 0, .slice none 0 0, .int .i64 16, .int .i64 0, .int .i64 0, .int .i64 0, .int .i64 0, .int .i64 0, .int .i64 0, .slice none 0 0, .slice none 0 0] 50).alloc (.cells #[.int .i64 2, .int .i64 0, .int .i64 0, .int .i64 0, .int .i64 0, .int .i64 0, .int .i64 1, .slice none 0 0, .slice none 0 0, .int .i64 13, .int .i64 0, .int .i64 0, .int .i64 0, .int .i64 0, .int .i64 0, .int .i64 0, .slice (some ⟨w.heap.size, 0, none⟩) 2 2, .slice none 0 0, .int .i64 1, .int .i64 0, .int .i64 1, .int .i64 0, .int .i64 0, .int .i64 0, .int .i64 0, .slice none 0 0, .slice none 0 0] 50)
  have C2 := Cells.new (w.alloc (.cells #[.int .i64 2, .int .i64 0, .int .i64 0, .int .i64 0, .int .i64 0, .int .i64 0, .int .i64 2, .slice none 0 0, .slice none 0 0, .int .i64 16, .int .i64 0, .int .i64 0, .int .i64 0, .int .i64 0, .int .i64 0, .int .i64 0, .slice none 0 0, .slice none 0 0] 50)) [.int .i64 2, .int .i64 0, .int .i64 0, .int .i64 0, .int .i64 0, .int .i64 0, .int .i64 1, .slice none 0 0, .slice none 0 0, .int .i64 13, .int .i64 0, .int .i64 0, .int .i64 0, .int .i64 0, .int .i64 0, .int .i64 0, .slice (some ⟨w.heap.size, 0, none⟩) 2 2, .slice none 0 0, .int .i64 1, .int .i64 0, .int .i64 1, .int .i64 0, .int .i64 0, .int .i64 0, .int .i64 0, .slice none 0 0, .slice none 0 0] 50
  rw [show (w.alloc (.cells #[.int .i64 2, .int .i64 0, .int .i64 0, .int .i64 0, .int .i64 0, .int .i64 0, .int .i64 2, .slice none 0 0, .slice none 0 0, .int .i64 16, .int .i64 0, .int .i64 0, .int .i64 0, .int .i64 0, .int .i64 0, .int .i64 0, .slice none 0 0, .slice none 0 0] 50)).heap.size = w.heap.size + 1 by simp] at C2
  refine ⟨[stL 2 ⟨2, 0, 0, (0, 0), (0, 1)⟩ (.slice none 0 0) (.slice none 0 0), stL 13 ⟨13, 0, 0, (0, 0), (0, 0)⟩ (.slice (some ⟨w.heap.size, 0, none⟩) 2 2) (.slice none 0 0), stL 1 ⟨1, 0, 1, (0, 0), (0, 0)⟩ (.slice none 0 0) (.slice none 0 0)], ?_, RowQ.new C2 (by simp)⟩
  refine .cons (.leaf _ _ _ _ rfl) (.cons ?_ (.cons (.leaf _ _ _ _ rfl) (.nil _ _)))
  unfold StQ
  exact ⟨13, .slice (some ⟨w.heap.size, 0, none⟩) 2 2, .slice none 0 0, [stL 2 ⟨2, 0, 0, (0, 0), (0, 2)⟩ (.slice none 0 0) (.slice none 0 0), stL 16 ⟨16, 0, 0, (0, 0), (0, 0)⟩ (.slice none 0 0) (.slice none 0 0)], [], rfl, rfl, .cons (.leaf _ _ _ _ rfl) (.cons (.leaf _ _ _ _ rfl) (.nil _ _)), RowQ.new C1 (by simp), .nil _ _, RowQ.none _ _⟩
theorem five_cells {w : World} {b : Nat} {t : TypeId} {x0 x1 x2 x3 x4 : Value} (h : Cells w b [x0, x1, x2, x3, x4] t) :
    w.cell? ⟨b, 0, none⟩ = some x0 ∧ w.cell? ⟨b, 1, none⟩ = some x1 ∧ w.cell? ⟨b, 2, none⟩ = some x2 ∧ w.cell? ⟨b, 3, none⟩ = some x3 ∧ w.cell? ⟨b, 4, none⟩ = some x4 :=
  ⟨h.cell 0, h.cell 1, h.cell 2, h.cell 3, h.cell 4⟩
set_option maxHeartbeats 8000000 in
theorem alive14_ok (w : World) (hg : Handle w) : Calls Tryz.prog 15 #[] w fun e w' => e = .returned (.bool true) ∧ Below w.heap.size w w' := by
  have HSC := Lib.hid (scene_ok hg (n := 1) (by omega) (by omega) w rfl)
  have HG := Lib.hid hg
  clear hg
  go_enter Tryz.func15, Tryz.ntmps15
  go_wp2_with fail
  refine HSC.out.mono ?_
  rintro e w1 ⟨pa, pb, g, rfl, hh, hc, hgW⟩
  have B1 := (Below.refl w1.heap.size w1).alloc (Nat.le_refl _) (.cells #[.int .i64 0, .int .i64 0, .bool false, .bool false, .slice none 0 0] 60)
  have C1 := Cells.new w1 [.int .i64 0, .int .i64 0, .bool false, .bool false, .slice none 0 0] 60
  have hh1 := hh.came B1 [w1.heap.size] (by simp)
  have hc1 := hc.heldBy (HeldBy.of_below (R := [g]) B1 hh.held) (by simp)
  have hgl := hh.held g (by simp)
  obtain ⟨wo, hwo⟩ : ∃ wo, w1.alloc (.cells #[.int .i64 0, .int .i64 0, .bool false, .bool false, .slice none 0 0] 60) = wo := ⟨_, rfl⟩
  obtain ⟨po, hpo⟩ : ∃ po, w1.heap.size = po := ⟨_, rfl⟩
  have hpW : w.heap.size ≤ po := by rw [← hpo]; exact hh.below.size
  rw [hpo] at hgl
  rw [hwo] at hh1 hc1 B1 C1
  rw [hpo] at hh1 C1
  have HH := Lib.hid hh1; have HC := Lib.hid hc1; have HC1 := Lib.hid C1; have HWO := Lib.hid hwo; have HPO := Lib.hid hpo; have HPW := Lib.hid hpW; have HGL := Lib.hid hgl
  have HPUT1 := Lib.hid (fun w : World => aput_ok 1 w)
  have HPUT2 := Lib.hid (fun w : World => aput_ok 2 w)
  clear hh hc HSC hh1 hc1 B1 C1 hwo hpo hpW hgl
  go_wp2_with fail
  rw [HWO.out, HPO.out]
  refine (HPUT1.out _).mono ?_
  rintro e w2 ⟨rfl, hb2⟩
  have HB2 := Lib.hid hb2
  clear hb2
  unfold stV
  go_wp2_with fail
  refine (HPUT2.out _).mono ?_
  rintro e w3 ⟨rfl, hb3⟩
  have h13 := HB2.out.trans (hb3.mono HB2.out.size)
  have HK13 := Lib.hid (HeldBy.of_below (R := [po, g]) h13 HH.out.held)
  have hh3 := HH.out.below' h13
  have B4 : Below w3.heap.size w3 (al14W w3) := ((Below.refl w3.heap.size w3).alloc (Nat.le_refl _) _).alloc (by simp) _
  have hz4 : (al14W w3).heap.size = w3.heap.size + 2 := by simp [al14W]
  have hk4 := HeldBy.of_below (R := [po, g]) B4 hh3.held
  have hh4 := hh3.came B4 [w3.heap.size, w3.heap.size + 1] (by simp [hz4])
  have hlt3 := hh3.held po (by simp)
  have hlt3g := hh3.held g (by simp)
  have HN := Lib.hid (newX_ok (g := g) (R := [g, w3.heap.size, w3.heap.size + 1]) (Q := [w3.heap.size, w3.heap.size + 1]) (n := 1) (cap := 1) (clock := 1) (cells := sceneCells 1) (p := al14) HG.out (by decide) rfl (by decide) (by decide) (by decide) (by decide) (by simp [al14, stPut, stEnd, rgL, rgS, rgH]) (by decide)
    (hh4.less (by intro b hb; simp at hb ⊢; omega)) (by have := HGL.out; simp; omega) HPW.out (by simp) (by intro b hb; simp at hb ⊢; omega) (fun k x hx => by
      have := ((HC.out.heldBy HK13.out (by simp)).heldBy hk4 (by simp)).cell k
      rw [this, List.getElem?_map, hx]; rfl) (al14_sl w3) ((HC1.out.heldBy HK13.out (by simp)).heldBy hk4 (by simp)) al14_e (by decide))
  have HZ4 := Lib.hid hz4
  have HW4 := Lib.hid (show al14W w3 = _ from rfl)
  clear hb3 h13 hh3 B4 hz4 hk4 hh4 hlt3 hlt3g HPUT1 HPUT2
  unfold stV
  go_wp2_with fail
  refine (body14_ok _ _ _ _ _ _ _ _ (al14W w3)).mono ?_
  rintro e w5 ⟨rfl, rfl⟩
  go_wp2_with fail
  refine HN.out.mono ?_
  rintro e w6 ⟨pt, rfl, hpo6, hrun⟩
  have HRUN := Lib.hid hrun
  clear hrun HN hpo6
  go_wp2_with (first
    | (go_at_call 23; refine HRUN.out.mono ?_; rintro e w7 ⟨lv, L, nn, B', rfl, hc, hi, hh, hk, ht⟩; obtain ⟨y0, y1, y2, y3, y4⟩ := five_cells hc; have HHE := Lib.hid hh; have HIN := Lib.hid hi; clear hc hi hh hk ht HRUN)
    | (go_at_call 22; refine (no_nil _).mono ?_; rintro e w' ⟨rfl, rfl⟩)
    | (go_at_call 28; refine (sameI_ok (l := [1]) (IntsAt.heldBy (R := lv.ownBlock.toList) HIN.out (HeldBy.of_below ((Below.refl _ _).alloc (Nat.le_refl _) _) (fun b hb => HHE.out.held b (by simp [hb]))) (fun b hb => hb)) (IntsAt.one _ 1) (by decide)).mono ?_; rintro e w' ⟨rfl, k, rfl⟩))
  go_ret
  exact ⟨rfl, HHE.out.below.trans ((((Below.refl _ _).alloc (Nat.le_refl _) _).trans (below_drewN (Below.refl _ _) _)).mono HHE.out.below.size)⟩
end Go.Proofs.YtkpdacfiglpgeaaGreatDoor

/- Layer 14's laws: what the document's answer tells; the scene. -/
namespace Go.Proofs.YtkpdacfiglpgeaaGreatDoor
open Bl Th Tx
set_option maxRecDepth 10000

theorem judge_none {ks : List Int} : ∀ (ls : List (St × Nat)) (n : Nat), judge ks ls n = none → ∀ x ∈ ls, ∃ m, judge1 ks x m = none
  | [], _, _, x, hx => by cases hx
  | y :: l, n, h, x, hx => by
    unfold judge at h
    cases hj : judge1 ks y n with
    | some z => rw [hj] at h; cases h
    | none =>
      rw [hj] at h
      simp only at h
      rcases List.mem_cons.1 hx with rfl | hx
      · exact ⟨n, hj⟩
      · exact judge_none l (n + 1) h x hx
theorem judge1_none {ks : List Int} {h : Sh} {b e : List St} {d m : Nat} (hj : judge1 ks (.mk h b e, d) m = none) : d ≤ 8 ∧ oneK ks h b.isEmpty e.isEmpty = true := by
  unfold judge1 at hj
  simp only at hj
  split at hj
  · cases hj
  split at hj
  · cases hj
  split at hj
  · cases hj
  · rename_i h1 h2 h3
    exact ⟨by omega, by simpa using h3⟩
theorem judge_code {ks : List Int} : ∀ (ls : List (St × Nat)) (n : Nat) (y : Int × Nat), judge ks ls n = some y → y.1 ≠ 0
  | [], _, _, h => by simp [judge] at h
  | ⟨.mk h b e, d⟩ :: l, n, y, hh => by
    unfold judge at hh
    cases hj : judge1 ks (.mk h b e, d) n with
    | some z =>
      rw [hj] at hh
      simp only [Option.some.injEq] at hh
      subst hh
      unfold judge1 at hj
      simp only at hj
      split at hj
      · simp only [Option.some.injEq] at hj; rw [← hj]; simp
      split at hj
      · simp only [Option.some.injEq] at hj; rw [← hj]; simp
      split at hj
      · simp only [Option.some.injEq] at hj; rw [← hj]; simp
      · cases hj
    | none =>
      rw [hj] at hh
      exact judge_code l (n + 1) y hh
/-- What is right. -/
theorem right_all {ks : List Int} {l : List St} (h : (rightV ks l).1 = 0) : ∀ x ∈ flatL 1 l, x.2 ≤ 8 ∧ ∀ (h0 : Sh) (b e : List St), x.1 = .mk h0 b e → oneK ks h0 b.isEmpty e.isEmpty = true := by
  have hn : judge ks (flatL 1 l) 0 = none := by
    cases hj : judge ks (flatL 1 l) 0 with
    | none => rfl
    | some y =>
      unfold rightV at h
      rw [hj] at h
      exact absurd h (judge_code _ _ _ hj)
  intro x hx
  obtain ⟨m, hm⟩ := judge_none _ _ hn x hx
  obtain ⟨⟨h0, b, e⟩, d⟩ := x
  obtain ⟨q1, q2⟩ := judge1_none hm
  refine ⟨q1, fun h1 b1 e1 he => ?_⟩
  simp only [St.mk.injEq] at he
  obtain ⟨rfl, rfl, rfl⟩ := he
  exact q2
theorem one_rgH {ks : List Int} {h : Sh} {nb ne : Bool} (ho : oneK ks h nb ne = true) : rgH h.kind h.reg h.a.2 := by
  unfold oneK at ho
  simp only [Bool.and_eq_true] at ho
  obtain ⟨⟨⟨⟨⟨⟨⟨-, -⟩, -⟩, -⟩, hl⟩, hr⟩, -⟩, -⟩ := ho
  refine ⟨fun hk => ?_, fun hk => ?_⟩
  · unfold regR hasReg at hr
    rw [if_pos (by rcases hk with e | e | e <;> simp [e])] at hr
    simpa using hr
  · unfold loopR at hl
    rw [hk] at hl
    simp only [bne_self_eq_false, Bool.false_or, Bool.and_eq_true, decide_eq_true_eq] at hl
    omega
mutual
theorem flat_rgS : ∀ (s : St) (d : Nat), (∀ x ∈ flatS d s, ∀ (h0 : Sh) (b e : List St), x.1 = .mk h0 b e → rgH h0.kind h0.reg h0.a.2) → rgS s
  | .mk h b e, d, hf => by
    unfold rgS
    refine ⟨hf (.mk h b e, d) (by unfold flatS; simp) h b e rfl, flat_rgL b (d + 1) fun x hx => hf x ?_, flat_rgL e (d + 1) fun x hx => hf x ?_⟩
    · unfold flatS; simp [hx]
    · unfold flatS; simp [hx]
theorem flat_rgL : ∀ (l : List St) (d : Nat), (∀ x ∈ flatL d l, ∀ (h0 : Sh) (b e : List St), x.1 = .mk h0 b e → rgH h0.kind h0.reg h0.a.2) → rgL l
  | [], d, _ => by unfold rgL; trivial
  | s :: l, d, hf => by
    unfold rgL
    exact ⟨flat_rgS s d fun x hx => hf x (by unfold flatL; exact List.mem_append_left _ hx), flat_rgL l d fun x hx => hf x (by unfold flatL; exact List.mem_append_right _ hx)⟩
end
theorem right_rgL {ks : List Int} {l : List St} (h : (rightV ks l).1 = 0) : rgL l := flat_rgL l 1 fun x hx h0 b e he => one_rgH ((right_all h x hx).2 h0 b e he)
theorem flat_app (d : Nat) : ∀ l1 l2 : List St, flatL d (l1 ++ l2) = flatL d l1 ++ flatL d l2
  | [], l2 => by rw [show flatL d [] = [] from by rw [flatL]]; rfl
  | s :: l, l2 => by rw [List.cons_append, flatL, flatL, flat_app d l l2, List.append_assoc]
mutual
theorem wlog_cntS : ∀ s : St, endsS s = false → wlogS s ≤ cntS s
  | .mk h b e, he => by
    unfold endsS at he
    simp only [Bool.or_eq_false_iff, beq_eq_false_iff_ne] at he
    obtain ⟨⟨⟨⟨h15, h16⟩, h12⟩, hb⟩, hee⟩ := he
    have := wlog_cntL b hb
    have := wlog_cntL e hee
    rw [show cntS (.mk h b e) = 1 + cntL b + cntL e from by rw [cntS]]
    unfold wlogS wlogH
    repeat' split
    all_goals omega
theorem wlog_cntL : ∀ l : List St, endsL l = false → wlogL l ≤ cntL l
  | [], _ => by unfold wlogL; exact Nat.zero_le _
  | s :: l, he => by
    have he' : (endsS s || endsL l) = false := by rw [← he, endsL]
    simp only [Bool.or_eq_false_iff] at he'
    have := wlog_cntS s he'.1
    have := wlog_cntL l he'.2
    rw [show cntL (s :: l) = cntS s + cntL l from by rw [cntL], show wlogL (s :: l) = wlogS s + wlogL l from by rw [wlogL]]
    omega
end
theorem wlog_app : ∀ l1 l2 : List St, wlogL (l1 ++ l2) = wlogL l1 + wlogL l2
  | [], l2 => by rw [show wlogL [] = 0 from by rw [wlogL]]; simp
  | s :: l, l2 => by rw [List.cons_append, wlogL, wlogL, wlog_app l l2]; omega
/-- A number below 4: each case. -/
theorem below4 {p : Nat → Prop} {n : Nat} (hn : n ≤ 4) (h0 : 0 < n → p 0) (h1 : 1 < n → p 1) (h2 : 2 < n → p 2) (h3 : 3 < n → p 3) : ∀ i, i < n → p i := by
  intro i hi
  rcases (by omega : i = 0 ∨ i = 1 ∨ i = 2 ∨ i = 3) with rfl | rfl | rfl | rfl
  · exact h0 hi
  · exact h1 hi
  · exact h2 hi
  · exact h3 hi
theorem scene4_sc {n : Nat} (h1 : 1 ≤ n) (h4 : n ≤ 4) : Sc n (sceneS n) 0 (fun _ => rest 0) (fun i => 10 + i) := by
  rcases (by omega : n = 1 ∨ n = 2 ∨ n = 3 ∨ n = 4) with rfl | rfl | rfl | rfl
  all_goals
    refine ⟨by kernel_rfl, below4 (by omega) ?_ ?_ ?_ ?_, below4 (by omega) ?_ ?_ ?_ ?_, by kernel_rfl, below4 (by omega) ?_ ?_ ?_ ?_, below4 (by omega) ?_ ?_ ?_ ?_, by decide +kernel, below4 (by omega) ?_ ?_ ?_ ?_⟩
    all_goals intro h; first | (exact absurd h (by decide)) | kernel_rfl | (decide +kernel)
end Go.Proofs.YtkpdacfiglpgeaaGreatDoor

/- Layer 14's laws: a list of statements behind which something is put. -/
namespace Go.Proofs.YtkpdacfiglpgeaaGreatDoor
open Go.RowKit Bl Th Tx
open Lib (intOf)
set_option maxRecDepth 10000

theorem Held.old {W : World} {R R' : List Nat} {pa pb : Nat} {S : BS} {wr : World} (h : Held W R pa pb S wr) (hr : ∀ b ∈ R', b ∈ R ∨ b < W.heap.size) : Held W R' pa pb S wr := by
  obtain ⟨L, h0, h1, h2⟩ := h.lay
  refine ⟨h.uniq, h.below, fun b hb => ?_, L, h0, h1, fun b hb => ⟨(h2 b hb).1, fun hm => ?_⟩⟩
  · rcases hr b hb with q | q
    · exact h.held b q
    · have := h.below.size; omega
  · rcases hr b hm with q | q
    · exact (h2 b hb).2 q
    · have := (h2 b hb).1; omega
theorem SlQ.toR {Q : List Nat} {B : Nat} {w : World} {l : List St} {v : Value} (h : SlQ Q w l v) (hQ : ∀ g ∈ Q, g < B ∧ g < w.heap.size) : SlR B w l v := by
  obtain ⟨cs, h1, p, c, rfl, h2⟩ := h
  exact ⟨cs, StsQ.toR hQ l cs h1, p, c, rfl, h2.imp_right fun ⟨g, o, q1, q2, q3⟩ => ⟨g, o, q1, (hQ g q2).1, (hQ g q2).2, q3⟩⟩
theorem empty_st (w : World) : (w.alloc (.cells #[] 50)).ownsRow w.heap.size 50 9 (.slice (some ⟨w.heap.size, 0, none⟩) 0 0) 0 [] :=
  ⟨rfl, .inr ⟨w.heap.size, 0, #[], rfl, Nat.le_refl _, Cells.new w [] _, Nat.le_refl _, Nat.zero_le _, rfl, rfl⟩⟩
def endV (en : Nat) : List Value := stL (en : Int) ⟨en, 0, 0, (0, 0), (0, 0)⟩ (.slice none 0 0) (.slice none 0 0)
theorem end_st (en : Nat) (w : World) : StsR (w.alloc (.cells #[.int .i64 (en : Int), .int .i64 0, .int .i64 0, .int .i64 0, .int .i64 0, .int .i64 0, .int .i64 0, .slice none 0 0, .slice none 0 0] 50)).heap.size (w.alloc (.cells #[.int .i64 (en : Int), .int .i64 0, .int .i64 0, .int .i64 0, .int .i64 0, .int .i64 0, .int .i64 0, .slice none 0 0, .slice none 0 0] 50)) [stEnd en] [endV en] ∧ RowR (w.alloc (.cells #[.int .i64 (en : Int), .int .i64 0, .int .i64 0, .int .i64 0, .int .i64 0, .int .i64 0, .int .i64 0, .slice none 0 0, .slice none 0 0] 50)).heap.size (w.alloc (.cells #[.int .i64 (en : Int), .int .i64 0, .int .i64 0, .int .i64 0, .int .i64 0, .int .i64 0, .int .i64 0, .slice none 0 0, .slice none 0 0] 50)) (.slice (some ⟨w.heap.size, 0, none⟩) 1 1) 1 [endV en].flatten := by
  have C := Cells.new w (endV en) 50
  refine ⟨StsQ.toR (Q := []) (by simp) _ _ (.cons (.leaf _ _ _ _ (by simp)) (.nil _ _)), _, _, rfl, .inr ⟨w.heap.size, 0, rfl, C.lt, C.lt, fun j x hx => ?_⟩⟩
  rw [Nat.zero_add]
  exact (C.cell j).trans (by simpa using hx)
theorem sts_parts {Q : List Nat} {w : World} {l : List St} {v : Value} (h : SlQ Q w l v) (hQ : ∀ g ∈ Q, g < w.heap.size) : ∃ cs, StsQ Q w l cs ∧ StsR (w.alloc (.cells #[] 50)).heap.size (w.alloc (.cells #[] 50)) l cs ∧ RowR (w.alloc (.cells #[] 50)).heap.size (w.alloc (.cells #[] 50)) v l.length cs.flatten := by
  have B := (Below.refl w.heap.size w).alloc (Nat.le_refl _) (.cells #[] 50)
  have k := HeldBy.of_below (R := Q) B hQ
  have hs := B.size
  have hQ' : ∀ g ∈ Q, g < (w.alloc (.cells #[] 50)).heap.size ∧ g < (w.alloc (.cells #[] 50)).heap.size := fun g hg => by have := hQ g hg; omega
  obtain ⟨cs, h1, h2⟩ := h
  obtain ⟨p, c, rfl, h3⟩ := h2.heldBy k (fun _ h => h)
  exact ⟨cs, h1, StsQ.toR hQ' _ _ (StsQ.heldBy k (fun _ h => h) _ _ h1), p, c, rfl, h3.imp_right fun ⟨g, o, q1, q2, q3⟩ => ⟨g, o, q1, (hQ' g q2).1, (hQ' g q2).2, q3⟩⟩
/-- A list behind which an end was put. -/
theorem app_mid {w w4 w6 : World} {Q : List Nat} {l : List St} {cs : List (List Value)} {v4 v6 : Value} {en : Nat} (hs : StsQ Q w l cs) (hQ : ∀ g ∈ Q, g < w.heap.size)
    (hg4 : (w.alloc (.cells #[] 50)).grownBy w4 (some w.heap.size)) (hob4 : ∀ b, v4.ownBlock = some b → w.heap.size ≤ b)
    (hg6 : (w4.alloc (.cells #[.int .i64 (en : Int), .int .i64 0, .int .i64 0, .int .i64 0, .int .i64 0, .int .i64 0, .int .i64 0, .slice none 0 0, .slice none 0 0] 50)).grownBy w6 v4.ownBlock) (hrow6 : w6.ownsRow w.heap.size 50 9 v6 (l.length + 1) (cs.flatten ++ [endV en].flatten)) :
    Below w.heap.size w w6 ∧ SlQ (v6.ownBlock.toList ++ Q) w6 (l ++ [stEnd en]) v6 ∧ ∀ b ∈ v6.ownBlock.toList, w.heap.size ≤ b ∧ b < w6.heap.size := by
  have k1 : Kept (fun b => w.heap.size ≤ b) w (w.alloc (.cells #[] 50)) := (Kept.refl _ w).alloc _
  have k2 : Kept (fun b => w.heap.size ≤ b) (w.alloc (.cells #[] 50)) w4 := (Kept.of_grown hg4).mono fun k _ e => by
    have := Option.some.inj e
    omega
  have k3 : Kept (fun b => w.heap.size ≤ b) w4 (w4.alloc (.cells #[.int .i64 (en : Int), .int .i64 0, .int .i64 0, .int .i64 0, .int .i64 0, .int .i64 0, .int .i64 0, .slice none 0 0, .slice none 0 0] 50)) := (Kept.refl _ w4).alloc _
  have k4 : Kept (fun b => w.heap.size ≤ b) (w4.alloc (.cells #[.int .i64 (en : Int), .int .i64 0, .int .i64 0, .int .i64 0, .int .i64 0, .int .i64 0, .int .i64 0, .slice none 0 0, .slice none 0 0] 50)) w6 := (Kept.of_grown hg6).mono fun k _ e => hob4 k e.symm
  have B := (((k1.trans k2).trans k3).trans k4).below (Nat.le_refl _) (fun k h1 h2 => by omega)
  refine ⟨B, ⟨cs ++ [endV en], StsQ.more (fun b hb => by simp [hb]) _ _ (StsQ.snoc (.leaf _ _ _ _ (by simp)) (StsQ.heldBy (HeldBy.of_below B hQ) (fun _ h => h) _ _ hs)), ?_⟩, fun b hb => hrow6.lt b (by simpa using hb)⟩
  obtain ⟨pt, cap, hv, hq⟩ := row_read hrow6
  rw [List.length_append, List.length_singleton, List.flatten_append]
  rcases hq with hq | ⟨g, off, rfl, h1, h2, h3⟩
  · exact ⟨pt, cap, hv, .inl hq⟩
  · exact ⟨_, cap, hv, .inr ⟨g, off, rfl, by rw [hv]; simp [Value.ownBlock], h3⟩⟩
end Go.Proofs.YtkpdacfiglpgeaaGreatDoor
