/- TqueueFull: the law's walk. -/
import Derived.Test.YtdpamhhadpckpaaGreatDoorTqAlive
import Derived.Test.YtdpamhhadpckpaaGreatDoorTqScene0
namespace Go.Proofs.YtdpamhhadpckpaaGreatDoor
open Go.RowKit Bl Th
set_option maxRecDepth 10000

/-- From 1 to 40. -/
theorem forty (a : Int) : ∃ n : Nat, 1 ≤ n ∧ n ≤ 40 ∧ IntKind.i64.wrap (a.tmod 40 + 40) = a.tmod 40 + 40 ∧ IntKind.i64.wrap (1 + (a.tmod 40 + 40).tmod 40) = (n : Int) := by
  have g1 : -(40 : Int) < a.tmod 40 := Int.lt_tmod_of_pos a (by omega)
  have g2 : a.tmod 40 < 40 := Int.tmod_lt_of_pos a (by omega)
  have g3 : 0 ≤ (a.tmod 40 + 40).tmod 40 := Int.tmod_nonneg _ (by omega)
  have g4 : (a.tmod 40 + 40).tmod 40 < 40 := Int.tmod_lt_of_pos _ (by omega)
  refine ⟨(1 + (a.tmod 40 + 40).tmod 40).toNat, by omega, by omega, IntWalk.i64_in _ (by omega), ?_⟩
  rw [IntWalk.i64_in _ (by omega)]
  omega
theorem actInfo : (Tryz.prog.info? 32).map (fun i => (i.zero, i.size, i.bytes)) = some (some (.agg #[.int .i64 0, .int .u64 0, .bool false]), 3, 24) := by kernel_rfl
theorem SomeAt.heldBy {w w' : World} {v : Value} {x R : List Nat} (h : SomeAt w v x) (k : HeldBy R w w') (hv : ∀ b ∈ v.ownBlock.toList, b ∈ R) : SomeAt w' v x := by
  obtain ⟨p, c, rfl, h⟩ := h
  refine ⟨p, c, rfl, fun hn => ?_⟩
  obtain ⟨g, rfl, hc⟩ := h hn
  exact ⟨g, rfl, hc.heldBy k (hv g (by simp [Value.ownBlock]))⟩
theorem flat3_at {j : Nat} (hj : j < 3) : ∀ (l : List ActQ) (k : Nat) (m : ActQ), l[k]? = some m → (l.flatMap encAct)[k * 3 + j]? = (encAct m)[j]?
  | [], k, m, hk => by simp at hk
  | a :: l, 0, m, hk => by
    simp only [List.getElem?_cons_zero, Option.some.injEq] at hk
    subst hk
    rw [List.flatMap_cons, List.getElem?_append_left (by simp [encAct]; omega)]
    simp
  | a :: l, k + 1, m, hk => by
    simp only [List.getElem?_cons_succ] at hk
    rw [List.flatMap_cons, List.getElem?_append_right (by simp [encAct]; omega)]
    simp only [encAct, List.length_cons, List.length_nil]
    rw [show (k + 1) * 3 + j - (0 + 1 + 1 + 1) = k * 3 + j by omega]
    exact flat3_at hj l k m hk
/-- A row of calls, and its beginnings. -/
theorem acts_row {W w : World} {base n : Nat} {v : Value} {l : List ActQ} (h : w.ownsRow base 32 3 v n (l.flatMap encAct)) (hl : l.length = n) (hn : 1 ≤ n) (hn2 : n ≤ 1000) (hx : ∀ a ∈ l, a.x < 18446744073709551616) : ∃ g cap, v = .slice (some ⟨g, 0, none⟩) n cap ∧ n ≤ cap ∧ base ≤ g ∧ g < w.heap.size ∧ ∀ m cap', m ≤ n → ActsIn W w (.slice (some ⟨g, 0, none⟩) m cap') [g] (l.take m) := by
  obtain ⟨p, cap, rfl⟩ := ownsRow_shape h
  rcases h.2 with ⟨-, h0⟩ | ⟨g, c, cur, hv, -, -, hle, -⟩
  · omega
  · simp only [Value.slice.injEq] at hv
    obtain ⟨rfl, -, rfl⟩ := hv
    refine ⟨g, cap, rfl, hle, (h.lt g rfl).1, (h.lt g rfl).2, fun m cap' hm => ⟨⟨_, cap', by rw [List.length_take, hl, Nat.min_eq_left hm], fun _ => ⟨g, 0, rfl, fun k a hk => ?_⟩⟩, by rw [List.length_take]; omega⟩⟩
    have hk' : l[k]? = some a := by
      rw [List.getElem?_take] at hk
      split at hk
      · exact hk
      · cases hk
    refine ⟨hx a (List.mem_of_getElem? hk'), fun j hj => .inl ⟨by simp, ?_⟩⟩
    have hkn : k < n := by rw [← hl]; exact (List.getElem?_eq_some_iff.1 hk').1
    rw [Nat.zero_add, h.cellAt (k * 3 + j) (by omega), flat3_at hj l k a hk']
theorem plF (n : Nat) (hn : n ≤ 40) (k : Bool) : plOf n 1 k ≤ 40 := by cases k <;> simp [plOf] <;> omega
/-- What holds at each call's head. -/
def FullJ (n : Nat) (w2 : World) (lv wv iv : Value) (wr : World) : Prop :=
  ∃ k, k ≤ n ∧ iv = .int .i64 (k : Int) ∧ Below w2.heap.size w2 wr ∧ wr.ownsRow w2.heap.size 32 3 lv k ((putsQ k).flatMap encAct) ∧ wr.ownsRow w2.heap.size 23 1 wv k (encU (List.range k)) ∧ ∀ b ∈ lv.ownBlock.toList, b ∉ wv.ownBlock.toList
set_option maxHeartbeats 16000000 in
theorem tqueueFull_ok (a0 : Int) (w : World) (hg : Handle w) : Calls Tryz.prog 3 #[.int .i64 a0] w fun e w' => e = .returned (.bool true) ∧ Below w.heap.size w w' := by
  obtain ⟨n, hn1, hn40, e1, e2⟩ := forty a0
  have HSC := Lib.hid (sceneQ_ok hg (n := n) (m := 1) (by omega) (by omega) (by omega))
  have HG := Lib.hid hg
  obtain ⟨i0, hi0, hz0, hz1, hz2⟩ := info_parts u64info
  obtain ⟨j0, hj0, hy0, hy1, hy2⟩ := info_parts actInfo
  clear hg
  go_enter Tryz.func3, Tryz.ntmps3
  go_wp2_with fail
  refine HSC.out.mono ?_
  rintro e w1 ⟨pa, pb, g0, cap0, g1, cap1, S, rfl, hh, ha0, ha1, hp⟩
  have hp0 : QP w [g0, g1] pa pb g0 cap0 g1 cap1 (plOf n 1) 0 0 (fun _ => []) S w1 := ⟨hh, by simp, by simp, ha0, ha1, hp⟩
  obtain ⟨rb, hrb⟩ : ∃ rb, w1.heap.size = rb := ⟨_, rfl⟩
  have B2 := (Below.refl w1.heap.size w1).alloc (Nat.le_refl _) (.cells #[.int .u64 ((ringQ (plOf n 1) false).ins : Int), .int .u64 ((ringQ (plOf n 1) false).outs : Int), .slice (some ⟨g0, 0, none⟩) n cap0, .int .u64 ((ringQ (plOf n 1) true).ins : Int), .int .u64 ((ringQ (plOf n 1) true).outs : Int), .slice (some ⟨g1, 0, none⟩) 1 cap1] 27)
  have C2 := Cells.new w1 (ringV (ringQ (plOf n 1) false) g0 n cap0 ++ ringV (ringQ (plOf n 1) true) g1 1 cap1) 27
  obtain ⟨w2, hw2⟩ : ∃ w2, w1.alloc (.cells #[.int .u64 ((ringQ (plOf n 1) false).ins : Int), .int .u64 ((ringQ (plOf n 1) false).outs : Int), .slice (some ⟨g0, 0, none⟩) n cap0, .int .u64 ((ringQ (plOf n 1) true).ins : Int), .int .u64 ((ringQ (plOf n 1) true).outs : Int), .slice (some ⟨g1, 0, none⟩) 1 cap1] 27) = w2 := ⟨_, rfl⟩
  have C2' : Cells w2 rb (ringV (ringQ (plOf n 1) false) g0 n cap0 ++ ringV (ringQ (plOf n 1) true) g1 1 cap1) 27 := by rw [← hw2, ← hrb]; exact C2
  rw [hw2] at B2
  have hp2 := hp0.came B2 [rb] (by have := C2'.lt; simp; omega)
  have HW2 := Lib.hid hw2; have HRB := Lib.hid hrb
  have HP2 := Lib.hid hp2; have HCR := Lib.hid C2'
  have HWW := Lib.hid (hp2.held.below.size)
  have HJ := Lib.hid (show FullJ n w2 (.slice none 0 0) (.slice none 0 0) (.int .i64 0) w2 from ⟨0, Nat.zero_le _, rfl, Below.refl _ _, World.ownsRow_nil _ _ _ _, World.ownsRow_nil _ _ _ _, by simp [Value.ownBlock]⟩)
  have HN1 := Lib.hid hn1; have HN40 := Lib.hid hn40
  clear hh ha0 ha1 hp hp0 HSC B2 C2 C2' hw2 hrb hp2
  unfold ringsV
  go_upto_region 5 with (fail)
  rw [HW2.out, HRB.out]
  clear HW2 HRB
  go_wp2
  go_loopw [6, 7, 8] (FullJ n w2) (fun _ _ i _ => n - (intOf i).toNat)
  case atStart => exact HJ.out
  case round =>
    clear HJ
    obtain ⟨k, hk, rfl, hb, hrl, hrw, hdj⟩ := hrel
    obtain ⟨lp, lcap, rfl⟩ := ownsRow_shape hrl
    obtain ⟨wp', wcap, rfl⟩ := ownsRow_shape hrw
    by_cases hlt : k < n
    · have hlt' : (k : Int) < (n : Int) := by omega
      have gw : IntKind.u64.wrap (k : Int) = (k : Int) := by show (k : Int) % 18446744073709551616 = _; omega
      have HB := Lib.hid hb; have HRL := Lib.hid hrl; have HRW := Lib.hid hrw; have HDJ := Lib.hid hdj
      have HS := Lib.hid hb.size
      clear hb hrl hrw hdj
      go_wp2_with (first
        | (at_builtin; refine wpList_append_own_at _ rfl _ _ 30 rfl w2.heap.size 32 j0 (.agg #[.int .i64 0, .int .u64 0, .bool false]) 3 24 Tryz.underlying30 hj0 hy0 hy1 hy2 rfl (by omega) (.slice lp k lcap) k ((putsQ k).flatMap encAct) rfl (HRL.out.alloc _) ⟨wr.heap.size, 0, none⟩ 1 1 [.int .i64 1, .int .u64 (k : Int), .bool false] rfl rfl (cells_news wr [.int .i64 1, .int .u64 (k : Int), .bool false] _) (by intro u hu; simp at hu; rcases hu with rfl | rfl | rfl <;> rfl) (by unfold maxLen; omega) (by omega) (by have := HS.out; simp; omega) ?_; intro v5 w5 hown5 hgrow5 hnil5 hat5; obtain ⟨p5, c5, rfl⟩ := ownsRow_shape hown5; have hk5 : Kept (fun b => b ∈ (Value.slice lp k lcap).ownBlock.toList) wr w5 := ((Kept.refl _ wr).alloc (.cells #[.int .i64 1, .int .u64 (k : Int), .bool false] 32)).then (Kept.of_grown hgrow5) (fun i _ e => by simp [← e]); have HK5 := Lib.hid hk5; have HO5 := Lib.hid hown5; have HAT5 := Lib.hid hat5; have HRW5 := Lib.hid (ownsRow_kept HRW.out hk5 (fun b hb e => HDJ.out b e (by simpa using hb))); clear hown5 hgrow5 hnil5 hat5 hk5)
        | (at_builtin; refine wpList_append_own_at _ rfl _ _ 24 rfl w2.heap.size 23 i0 (.int .u64 0) 1 8 Tryz.underlying24 hi0 hz0 hz1 hz2 rfl (by omega) (.slice wp' k wcap) k (encU (List.range k)) rfl (HRW5.out.alloc _) ⟨w5.heap.size, 0, none⟩ 1 1 [.int .u64 (k : Int)] rfl rfl (newsU (Cells.new w5 [.int .u64 (k : Int)] 23)) (by intro u hu; simp at hu; subst hu; rfl) (by unfold maxLen; omega) (by omega) (by have := HS.out; have := HK5.out.size; simp; omega) ?_; intro v6 w6 hown6 hgrow6 hnil6 hat6; obtain ⟨p6, c6, rfl⟩ := ownsRow_shape hown6; have hk6 : Kept (fun b => b ∈ (Value.slice wp' k wcap).ownBlock.toList) w5 w6 := ((Kept.refl _ w5).alloc (.cells #[.int .u64 (k : Int)] 23)).then (Kept.of_grown hgrow6) (fun i _ e => by simp [← e]); have HK6 := Lib.hid hk6; have HO6 := Lib.hid hown6; have HAT6 := Lib.hid hat6; clear hown6 hgrow6 hnil6 hat6 hk6)
        | go_in)
      have hz5 := HK5.out.size
      have hz6 := HK6.out.size
      have hl5 : ∀ b ∈ (Value.slice p5 (k + 1) c5).ownBlock.toList, b ∈ (Value.slice lp k lcap).ownBlock.toList ∨ wr.heap.size ≤ b := fun b hb => by
        rcases HAT5.out with q | q
        · exact .inl (by rw [← q]; exact hb)
        · right; rw [q] at hb; simp at hb; omega
      have hl6 : ∀ b ∈ (Value.slice p6 (k + 1) c6).ownBlock.toList, b ∈ (Value.slice wp' k wcap).ownBlock.toList ∨ w5.heap.size ≤ b := fun b hb => by
        rcases HAT6.out with q | q
        · exact .inl (by rw [← q]; exact hb)
        · right; rw [q] at hb; simp at hb; omega
      have hlo5 : ∀ b ∈ (Value.slice p5 (k + 1) c5).ownBlock.toList, b < w5.heap.size := fun b hb => (HO5.out.lt b (by simpa using hb)).2
      have hdj5 : ∀ b ∈ (Value.slice p5 (k + 1) c5).ownBlock.toList, b ∉ (Value.slice wp' k wcap).ownBlock.toList := fun b hb hm => by
        rcases hl5 b hb with q | q
        · exact HDJ.out b q hm
        · have := (HRW.out.lt b (by simpa using hm)).2
          omega
      have hrow5 := ownsRow_kept HO5.out HK6.out (fun b hb e => hdj5 b (by simpa using hb) e)
      have hB5 : Below w2.heap.size w2 w5 := HB.out.trans (HK5.out.below HB.out.size (fun b hb e => by
        have := (HRL.out.lt b (by simpa using e)).1
        omega))
      have hB6 : Below w2.heap.size w2 w6 := hB5.trans (HK6.out.below hB5.size (fun b hb e => by
        have := (HRW.out.lt b (by simpa using e)).1
        omega))
      have HREL := Lib.hid (show FullJ n w2 (.slice p5 (k + 1) c5) (.slice p6 (k + 1) c6) (.int .i64 ((k + 1 : Nat) : Int)) w6 from ⟨k + 1, by omega, rfl, hB6, by rw [putsQ_succ, List.flatMap_append]; exact hrow5, by rw [List.range_succ]; simpa [encU] using HO6.out, fun b hb hm => by
        rcases hl6 b hm with q | q
        · exact hdj5 b hb q
        · have := hlo5 b hb
          omega⟩)
      have g9 : IntKind.i64.wrap ((k : Int) + 1) = ((k + 1 : Nat) : Int) := by rw [IntWalk.i64_in _ (by omega)]; rfl
      clear hz5 hz6 hl5 hl6 hlo5 hdj5 hrow5 hB5 hB6
      go_wp2
      go_roundw
      case rel => first | exact HREL.out | (rw [show ((k : Int) + 1) = ((k + 1 : Nat) : Int) from rfl]; exact HREL.out)
      case measure => simp [intOf]; omega
    · obtain rfl : k = n := by omega
      have hki : decide ((k : Int) < (k : Int)) = false := by simp
      have hplen := putsQ_length k
      have HB := Lib.hid hb
      obtain ⟨gl, lcap, hlv, hle, hgl0, hgl1, hacts⟩ := acts_row (W := w) hrl hplen hn1 (by omega) (by intro a ha; simp only [putsQ, List.mem_map, List.mem_range] at ha; obtain ⟨i, hi, rfl⟩ := ha; simp only; omega)
      simp only [Value.slice.injEq, true_and] at hlv
      obtain ⟨rfl, rfl⟩ := hlv
      have hsw : SomeAt wr (.slice wp' k wcap) (List.range k) := SomeAt.row (base := w2.heap.size) (by simpa using hrw)
      obtain ⟨ow, how⟩ : ∃ ow, (Value.slice wp' k wcap).ownBlock.toList = ow := ⟨_, rfl⟩
      have hpr := HP2.out.came hb (gl :: ow) (by
        intro b hb
        rcases List.mem_cons.1 hb with q | q
        · subst q; exact ⟨hgl0, hgl1⟩
        · rw [← how] at q
          exact hrw.lt b (by simpa using q))
      have HCR1 := Lib.hid (HCR.out.heldBy (HeldBy.of_below (R := [rb]) hb (by have := HCR.out.lt; simp; omega)) (by simp))
      have hq1 : (putsQ k).take k = putsQ k := by rw [List.take_of_length_le (by rw [hplen]; exact Nat.le_refl _)]
      have ha1 := hacts k lcap (Nat.le_refl _)
      rw [hq1] at ha1
      have hq2 : (putsQ k).take 1 = [⟨1, 0, false⟩] := by
        cases k with
        | zero => omega
        | succ k => simp [putsQ, List.range_succ_eq_map]
      have ha2 := hacts 1 lcap hn1
      rw [hq2] at ha2
      have HRN1 := Lib.hid (run_next HG.out hpr (M := 40) (l := putsQ k) (lp := some ⟨gl, 0, none⟩) (lcap := lcap) (Qo := [gl]) (by rw [hplen]; exact ha1) (by simp) (plF k hn40) (by omega) (by rw [hplen]; omega) (by rw [putsQ_cost]; omega) (by intro a ha; simp only [putsQ, List.mem_map, List.mem_range] at ha; obtain ⟨i, hi, rfl⟩ := ha; simp) (mdl_puts k k (Nat.le_refl _)))
      rw [hplen] at HRN1
      have HA2 := Lib.hid ha2; have HSW := Lib.hid hsw; have HOW := Lib.hid how
      have hc1 : (1 : Int) ≤ (lcap : Int) := by omega
      have hc1' : 1 ≤ lcap := by omega
      obtain ⟨⟨y0, y1, y2, y3, y4, y5⟩, -⟩ := six6 HCR1.out
      clear hb hrl hrw hdj hgl0 hgl1 hacts hsw hpr hq1 ha1 hq2 ha2 hplen how hle
      go_wp2_with fail
      refine HRN1.out.mono ?_
      rintro e wx1 ⟨clk1, lv1, S1, rfl, hp1, hk1, -, p1, cc1, rfl⟩
      have HCR2 := Lib.hid (HCR1.out.heldBy hk1 (by simp))
      have HP1 := Lib.hid (show QP w _ pa pb g0 cap0 g1 cap1 (plOf k 1) (0 + k + 1) clk1 (fullQ k) S1 wx1 from hp1)
      have HSW1 := Lib.hid (HSW.out.heldBy hk1 (by intro b hb; rw [HOW.out] at hb; simp [hb]))
      have HA21 := Lib.hid (HA2.out.heldBy (R := [gl]) (hk1.less (by simp)) (by simp))
      clear hp1 hk1 y0 y1 y2 y3 y4 y5 HRN1 HCR1 HSW HA2
      have HCRD := Lib.hid (fun (w' : World) (h : Cells w' rb (ringV (ringQ (plOf k 1) false) g0 k cap0 ++ ringV (ringQ (plOf k 1) true) g1 1 cap1) 27) => (six6 h).1)
      obtain ⟨y0, y1, y2, y3, y4, y5⟩ := HCRD.out wx1 HCR2.out
      have HRN2 := Lib.hid (run_next HG.out (HP1.out.came (below_drewN (Below.refl _ _) 1) [] (by simp)) (M := 40) (l := [⟨1, 0, false⟩]) (lp := some ⟨gl, 0, none⟩) (lcap := lcap) (Qo := [gl]) (HA21.out.heldBy (R := [gl]) ⟨Nat.le_refl _, fun _ _ => rfl⟩ (by simp)) (by simp) (plF k hn40) (by omega) (by simp) (by simp [costA]) (by simp) (mdl_more k))
      go_wp2
      go_region_held3 (fun w' => w'.cell? ⟨rb, 0, none⟩ = some (.int .u64 ((ringQ (plOf k 1) false).ins : Int)) ∧ w'.cell? ⟨rb, 1, none⟩ = some (.int .u64 ((ringQ (plOf k 1) false).outs : Int)) ∧ w'.cell? ⟨rb, 2, none⟩ = some (.slice (some ⟨g0, 0, none⟩) k cap0) ∧ w'.cell? ⟨rb, 3, none⟩ = some (.int .u64 ((ringQ (plOf k 1) true).ins : Int)) ∧ w'.cell? ⟨rb, 4, none⟩ = some (.int .u64 ((ringQ (plOf k 1) true).outs : Int)) ∧ w'.cell? ⟨rb, 5, none⟩ = some (.slice (some ⟨g1, 0, none⟩) 1 cap1))
        (first | with_reducible exact ⟨y0, y1, y2, y3, y4, y5⟩ | with_reducible exact ⟨x0, x1, x2, x3, x4, x5⟩ | go_keep)
        (first | (go_at_call 9; refine HRN2.out.mono ?_; rintro e wx2 ⟨clk2, lv2, S2, rfl, hp2, hk2, -, p2, cc2, rfl⟩; have hcr3 := HCR2.out.heldBy (R := [rb]) (hk2.less (by simp)) (by simp); obtain ⟨x0, x1, x2, x3, x4, x5⟩ := HCRD.out wx2 hcr3; have HCR3 := Lib.hid hcr3; have HP2' := Lib.hid (show QP w _ pa pb g0 cap0 g1 cap1 (plOf k 1) (0 + k + 1 + 1 + 1) clk2 (fullQ k) S2 wx2 from hp2); have HK2 := Lib.hid hk2; clear hp2 hk2 hcr3))
      have HSW2 := Lib.hid (HSW1.out.heldBy (R := ow) (HK2.out.less (by intro b hb; simp [hb])) (by intro b hb; rw [HOW.out] at hb; exact hb))
      clear y0 y1 y2 y3 y4 y5 x0 x1 x2 x3 x4 x5 HRN2 HCR2 HSW1 HA21 HK2
      have B3 := (Below.refl wx2.heap.size wx2).alloc (Nat.le_refl _) (.cells (([⟨7, 0, false⟩] : List ActQ).flatMap encAct).toArray 32)
      have CA3 := Cells.new wx2 (([⟨7, 0, false⟩] : List ActQ).flatMap encAct) 32
      obtain ⟨ba3, hba3⟩ : ∃ ba, wx2.heap.size = ba := ⟨_, rfl⟩
      obtain ⟨wa3, hwa3⟩ : ∃ wa, wx2.alloc (.cells (([⟨7, 0, false⟩] : List ActQ).flatMap encAct).toArray 32) = wa := ⟨_, rfl⟩
      rw [hwa3] at B3 CA3
      rw [hba3] at CA3
      have hpa3 := HP2'.out.came B3 [ba3] (by have := CA3.lt; simp; omega)
      have hl3 := ActsIn.new w [⟨7, 0, false⟩] 1 _ (by decide) (by decide) CA3
      have HRN3 := Lib.hid (run_next HG.out hpa3 (M := 40) hl3 (by simp) (plF k hn40) (by omega) (by decide) (by decide) (by decide) (mdl_drain k))
      have HCA3 := Lib.hid (HCR3.out.heldBy (HeldBy.of_below (R := [rb]) B3 (by have := HCR3.out.lt; simp; omega)) (by simp))
      have HSA3 := Lib.hid (HSW2.out.below B3)
      have HWA3 := Lib.hid (show wx2.alloc (.cells #[.int .i64 7, .int .u64 0, .bool false] 32) = wa3 from hwa3); have HBA3 := Lib.hid hba3
      have HBB3 := Lib.hid B3
      clear B3 CA3 hwa3 hba3 hpa3 hl3
      obtain ⟨y0, y1, y2, y3, y4, y5⟩ := HCRD.out wx2 HCR3.out
      go_wp2_with fail
      rw [HWA3.out, HBA3.out]
      refine HRN3.out.mono ?_
      rintro e wx3 ⟨clk3, lv3, S3, rfl, hpx3, hk3, hs3, p3, cc3, rfl⟩
      have HCR4 := Lib.hid (HCA3.out.heldBy (R := [rb]) (hk3.less (by simp)) (by simp))
      have HSW3 := Lib.hid (HSA3.out.heldBy (R := ow) (hk3.less (by intro b hb; simp [hb])) (by intro b hb; rw [HOW.out] at hb; exact hb))
      have HPX3 := Lib.hid (show QP w _ pa pb g0 cap0 g1 cap1 (plOf k 1) (0 + k + 1 + 1 + 1 + 1 + 1) clk3 (fullQ 0) S3 wx3 from hpx3)
      have HS3 := Lib.hid hs3; have HK3 := Lib.hid hk3
      clear hpx3 hk3 hs3 y0 y1 y2 y3 y4 y5 HRN3 HCA3 HSA3
      have B4 := (Below.refl wx3.heap.size wx3).alloc (Nat.le_refl _) (.cells (([⟨5, 0, false⟩, ⟨6, 0, false⟩, ⟨0, 0, false⟩] : List ActQ).flatMap encAct).toArray 32)
      have CA4 := Cells.new wx3 (([⟨5, 0, false⟩, ⟨6, 0, false⟩, ⟨0, 0, false⟩] : List ActQ).flatMap encAct) 32
      obtain ⟨ba4, hba4⟩ : ∃ ba, wx3.heap.size = ba := ⟨_, rfl⟩
      obtain ⟨wa4, hwa4⟩ : ∃ wa, wx3.alloc (.cells (([⟨5, 0, false⟩, ⟨6, 0, false⟩, ⟨0, 0, false⟩] : List ActQ).flatMap encAct).toArray 32) = wa := ⟨_, rfl⟩
      rw [hwa4] at B4 CA4
      rw [hba4] at CA4
      have hpa4 := HPX3.out.came B4 [ba4] (by have := CA4.lt; simp; omega)
      have hl4 := ActsIn.new w [⟨5, 0, false⟩, ⟨6, 0, false⟩, ⟨0, 0, false⟩] 3 _ (by decide) (by decide) CA4
      have HRN4 := Lib.hid (run_next HG.out hpa4 (M := 40) hl4 (by simp) (plF k hn40) (by omega) (by decide) (by decide) (by decide) (mdl_empty k))
      have HCA4 := Lib.hid (HCR4.out.heldBy (HeldBy.of_below (R := [rb]) B4 (by have := HCR4.out.lt; simp; omega)) (by simp))
      have HSA4 := Lib.hid (HSW3.out.below B4)
      have HWA4 := Lib.hid (show wx3.alloc (.cells #[.int .i64 5, .int .u64 0, .bool false, .int .i64 6, .int .u64 0, .bool false, .int .i64 0, .int .u64 0, .bool false] 32) = wa4 from hwa4); have HBA4 := Lib.hid hba4
      have HBB4 := Lib.hid B4
      clear B4 CA4 hwa4 hba4 hpa4 hl4
      obtain ⟨y0, y1, y2, y3, y4, y5⟩ := HCRD.out wx3 HCR4.out
      go_wp2_with fail
      rw [HWA4.out, HBA4.out]
      refine HRN4.out.mono ?_
      rintro e wx4 ⟨clk4, lv4, S4, rfl, hpx4, hk4, hs4, p4, cc4, rfl⟩
      have HCR5 := Lib.hid (HCA4.out.heldBy (R := [rb]) (hk4.less (by simp)) (by simp))
      have HSW4 := Lib.hid (HSA4.out.heldBy (R := ow) (hk4.less (by intro b hb; simp [hb])) (by intro b hb; rw [HOW.out] at hb; exact hb))
      have HPX4 := Lib.hid (show QP w _ pa pb g0 cap0 g1 cap1 (plOf k 1) (0 + k + 1 + 1 + 1 + 1 + 1 + 3 + 1) clk4 (fullQ 0) S4 wx4 from hpx4)
      have HS4 := Lib.hid hs4; have HK4 := Lib.hid hk4
      clear hpx4 hk4 hs4 y0 y1 y2 y3 y4 y5 HRN4 HCA4 HSA4
      have HS34 := Lib.hid ((HS3.out.below HBB4.out).heldBy HK4.out (by intro b hb; simp only [List.mem_append, List.mem_cons]; right; left; exact hb))
      have HTOP := Lib.hid (HPX4.out.held.below)
      have HTB := Lib.hid (HG.out.below HG.out.lt HTOP.out)
      have HAL := Lib.hid (fun (w' : World) (hb : Below wx4.heap.size wx4 w') => alive29_ok w' (HTB.out.below HTB.out.lt hb))
      have hs34 := HS34.out
      rw [List.length_range] at hs34
      have HSAME1 := Lib.hid (sameQ_ok hs34 HSW4.out (by simp; omega))
      have HSAME2 := Lib.hid (fun (m : Nat) => sameQ_ok (w := (wx4.drewN m).alloc (.cells #[.int .u64 0] 23)) (v1 := .slice p4 1 cc4) (v2 := .slice (some ⟨(wx4.drewN m).heap.size, 0, none⟩) 1 1) (l := [0]) ((HS4.out.below (below_drewN (Below.refl _ _) m)).below ((Below.refl _ _).alloc (Nat.le_refl _) _)) (SomeAt.new (cap := 1) (l := [0]) (Cells.new (wx4.drewN m) (encU [0]) 23)) (by simp))
      have HAL2 := Lib.hid (fun (m m2 : Nat) => HAL.out (((wx4.drewN m).alloc (.cells #[.int .u64 0] 23)).drewN m2) (below_drewN ((below_drewN (Below.refl wx4.heap.size wx4) m).alloc (Nat.le_refl _) _) m2))
      clear hs34 HAL HTB HS34 HSW4 HS4 HS3 HK3 HK4 HPX3 HPX4 HP2' HP1 HP2 HCR HCR3 HCR4 HCR5 HCRD HSW2 HSW3 HWA3 HWA4 HBA3 HBA4 HBB3 HBB4 HOW HB
      go_wp2_with (first
        | (go_at_call 11; refine (HAL2.out m1 m2).mono ?_; rintro e w9 ⟨rfl, hb9⟩)
        | (go_at_call 10; refine (HSAME2.out m1).mono ?_; rintro e w8 ⟨rfl, m2, rfl⟩)
        | (go_at_call 10; refine HSAME1.out.mono ?_; rintro e w7 ⟨rfl, m1, rfl⟩))
      go_ret
      have hb0 := below_drewN ((below_drewN (Below.refl wx4.heap.size wx4) m1).alloc (Nat.le_refl _) (.cells #[.int .u64 0] 23)) m2
      have hb := hb0.trans (hb9.mono hb0.size)
      exact ⟨rfl, HTOP.out.trans (hb.mono HTOP.out.size)⟩
end Go.Proofs.YtdpamhhadpckpaaGreatDoor
