/- RefOrder: the law's walk. -/
import Derived.Test.YtmdganpealbmpaaGreatDoorOrder13
namespace Go.Proofs.YtmdganpealbmpaaGreatDoor
open Go.RowKit Bl Th
set_option maxRecDepth 10000

theorem opLoad_sameX (r : Nat) (i : Int) (S : BS) : (opLoad r i S).2 = S := by
  unfold opLoad
  cases word S r i <;> rfl
theorem doOps_congr {n : Nat} (hn : 1 ≤ n) : ∀ (l : List Op13) (acc : Nat) (f f' : Nat → Nat) (told : List Nat), (∀ j, j < n → f j = f' j) → (doOps n l acc f told).1 = (doOps n l acc f' told).1 ∧ ∀ j, j < n → (doOps n l acc f told).2 j = (doOps n l acc f' told).2 j
  | [], _, _, _, _, h => ⟨rfl, h⟩
  | o :: l, acc, f, f', told, h => by
    have hj : (o.a % (n : Int)).toNat < n := by
      have h1 := Int.emod_nonneg o.a (b := (n : Int)) (by omega)
      have h2 := Int.emod_lt_of_pos o.a (b := (n : Int)) (by omega)
      omega
    unfold doOps
    rw [h _ hj]
    split
    · exact doOps_congr hn l _ _ _ _ h
    · split
      · refine doOps_congr hn l _ _ _ _ fun j hj' => ?_
        unfold Th.upd
        split
        · rfl
        · exact h j hj'
      · exact doOps_congr hn l _ _ _ _ h
section
variable {W : World} {X : List Nat} {pa pb pp g : Nat} {cells : List Nat} {L : List (List Op13)} {lv bv ev tv ov : Value} {its : List It} {sn : Nat → Pass} {Bs : List (List Nat)} {y : Th.Sys} {w : World}
/-- A word of a cell. -/
theorem PlayX.load (h : PlayX W X pa pb pp g cells L lv bv ev tv ov its sn Bs y w) {r q : Nat} {i : Int} (hr : r < 18446744073709551616) (hw : word y.S r i = .ok q) :
    Calls Tryz.prog 16 #[.pointer (some ⟨pb, 0, none⟩), .int .u64 (r : Int), .int .i64 i] w fun e w' => e = .returned (.tuple #[.int .u64 ((y.S.ws.getD q 0 : Nat) : Int), .nilIface]) ∧ PlayX W X pa pb pp g cells L lv bv ev tv ov its sn Bs y w' ∧ HeldBy X w w' := by
  have e1 : (opLoad r i y.S).1.word = y.S.ws.getD q 0 := by unfold opLoad; rw [hw]
  have e2 : (opLoad r i y.S).1.err = 0 := by unfold opLoad; rw [hw]
  have hl := held_load h.held hr i
  rw [e1, e2, opLoad_sameX] at hl
  refine hl.mono ?_
  rintro e w' ⟨v, rfl, E, he, -, hh, hk⟩
  obtain ⟨rfl, rfl⟩ := he.isNil rfl
  exact ⟨rfl, h.keep (hh.less fun b hb => by simpa using hb) h.nd h.bs (hk.less fun b hb => by
    simp only [fixR, List.nil_append, List.mem_append, List.mem_cons] at hb ⊢
    rcases hb with q | q
    · exact .inl (.inr q)
    · exact .inr q), hk.less fun b hb => by simp [fixR, hb]⟩
end
theorem order_le (y : Th.Sys) (N : Nat) : (orderK y N).length ≤ N := by
  unfold orderK
  rw [List.length_map, sort_len, atts_len]
  exact which_len y N
theorem listFn_at {nl : List Nat} {j : Nat} (h : j < nl.length) : nl[j]? = some (listFn nl j) := by
  unfold listFn
  rw [List.getD_eq_getElem?_getD, List.getElem?_eq_getElem h]
  rfl
def PickJ (W : World) (pa pb pp g n : Nat) (L : List (List Op13)) (lv bv ev tv ov : Value) (its : List It) (sn : Nat → Pass) (g0 : Gh) (m : Nat) (iv : Value) (wr : World) : Prop :=
  ∃ (k : Nat) (P : Nat → Nat) (y : Th.Sys), k ≤ m ∧ iv = .int .i64 (k : Int) ∧ y.now = k ∧ (∀ j, P j ≤ 40040) ∧ AtX W [] pa pb pp g n L lv bv ev tv ov its sn g0 P y wr
theorem begun_at {W : World} {pa pb pp g n : Nat} {L : List (List Op13)} {lv bv ev tv ov : Value} {its : List It} {w : World} (hn1 : 1 ≤ n) (hn3 : n ≤ 3) (h : PlayAt W (bv.ownBlock.toList ++ ev.ownBlock.toList) pa pb pp g (sceneCells n) L lv bv ev tv ov its 0 (sceneS n) w) (hil : its.length = L.length) (hb : zeroRow W L.length bv w) (he : zeroRow W L.length ev w) :
    AtX W [] pa pb pp g n L lv bv ev tv ov its (fun _ => pass0) (gh0 (sceneS n)) (fun _ => 40040) (startS L.length (sceneS n)) w :=
  ⟨_, _, _, h.begun hil hb he, sys_start (scene_sc hn1 hn3), GV.refl _, fun k s hs => by
    simp only [startS, List.getElem?_replicate] at hs
    split at hs
    · obtain rfl := Option.some.inj hs; exact Nat.le_refl _
    · cases hs⟩
/-- What holds at each round's head of the last loops. -/
def DoneJ (n : Nat) (w1 : World) (y : Th.Sys) (L : List (List Op13)) (snap : Nat → Nat) (ord : List Nat) (nv iv : Value) (wr : World) : Prop :=
  ∃ (k : Nat) (nl : List Nat) (fn : Nat → Nat), k ≤ ord.length ∧ iv = .int .i64 (k : Int) ∧ nl.length = n ∧ (∀ j, j < n → listFn nl j = fn j) ∧ GoodO (fun k f => doOps n (L.getD k []) 0 f []) (tdK y) (ord.drop k) fn ∧ lastO (fun k f => doOps n (L.getD k []) 0 f []) (ord.drop k) fn = snap ∧ Below w1.heap.size w1 wr ∧ wr.ownsRow w1.heap.size 41 1 nv n (encT nl)
set_option maxHeartbeats 16000000 in
theorem refOrder_ok (v pv : Value) (a1 : Int) (L : List (List Op13)) (ps : List Int) (W : World) (hT : Handle W) (hL : OpssAt W v L) (hps : CameL W pv (ps.map (.int .i64))) :
    Calls Tryz.prog 3 #[v, .int .i64 a1, pv] W fun e w' => e = .returned (.bool true) ∧ Below W.heap.size W w' := by
  obtain ⟨p, cap, hv, hm, hp⟩ := id hL
  subst hv
  obtain ⟨pp', pc, hpv, hpm⟩ := hps.shape
  rw [List.length_map] at hpv hpm
  subst hpv
  obtain ⟨n, hn1, hn3, e1, e2⟩ := three13 a1
  have HT := Lib.hid hT; have HL := Lib.hid hL; have HPS := Lib.hid hps
  have HN1 := Lib.hid hn1; have HN3 := Lib.hid hn3
  obtain ⟨len, hlen⟩ : ∃ len, L.length = len := ⟨_, rfl⟩
  obtain ⟨pl, hpl⟩ : ∃ pl, ps.length = pl := ⟨_, rfl⟩
  have HLN := Lib.hid hlen; have HPL := Lib.hid hpl; have HPP := Lib.hid hp
  obtain ⟨fb, hfb⟩ : ∃ fb, fewB L = fb := ⟨_, rfl⟩
  have HFW := Lib.hid (few13_ok hL)
  rw [hlen] at hm
  rw [hlen, hfb] at HFW
  rw [hlen] at HL ⊢
  rw [hpl] at HPS hpm ⊢
  clear hL hp hT hn1 hn3 hlen hpl hps
  go_enter Tryz.func3, Tryz.ntmps3
  go_wp2_with fail
  refine HFW.out.mono ?_
  rintro e w' ⟨rfl, rfl⟩
  cases fb with
  | false =>
    go_wp2_with (go_at_call 8; refine (alive13_ok _ HT.out).mono ?_; rintro e w' ⟨rfl, hb⟩)
    go_ret
    exact ⟨rfl, hb⟩
  | true =>
    by_cases h300 : pl ≤ 300
    · have g300 : decide (300 < (pl : Int)) = false := by simp; omega
      obtain ⟨hall, hl1, hl4⟩ := few_all hfb
      obtain ⟨g0, o0, rfl, -⟩ := HPP.out (fun e => by simp [e] at hl1)
      have HBEG := Lib.hid (begins13x_ok HT.out HL.out hfb HN1.out HN3.out)
      have HALL := Lib.hid hall
      rw [HLN.out] at hl1 hl4
      clear hall hfb HPP HFW hm
      go_wp2_with fail
      refine HBEG.out.mono ?_
      rintro e w1 ⟨pa, pb, pp, g, lv, bv, ev, tv, ov, its, rfl, hp, hil, hzb, hze⟩
      have HJ := Lib.hid (show PickJ W pa pb pp g n L lv bv ev tv ov its (fun _ => pass0) (gh0 (sceneS n)) pl (.int .i64 0) w1 from ⟨0, _, _, Nat.zero_le _, rfl, rfl, fun _ => Nat.le_refl _, begun_at HN1.out HN3.out hp hil hzb hze⟩)
      clear hp hil hzb hze HBEG
      go_wp2
      go_loopw [43] (PickJ W pa pb pp g n L lv bv ev tv ov its (fun _ => pass0) (gh0 (sceneS n)) pl) (fun i _ => pl - (intOf i).toNat)
      case atStart => exact HJ.out
      case round =>
        clear HJ
        obtain ⟨k, P, y, hk, rfl, hnow, hP, hat⟩ := hrel
        obtain ⟨Bs, H, gh, hp, hs, hv, hst⟩ := id hat
        have HAT := Lib.hid hat
        by_cases hlt : k < pl
        · have hlt' : (k : Int) < (pl : Int) := by omega
          obtain ⟨x, hx⟩ : ∃ x, ps[k]? = some x := ⟨ps[k]'(by rw [HPL.out]; exact hlt), List.getElem?_eq_getElem _⟩
          obtain ⟨ad, rfl, hcell⟩ := HPS.out.cell hp.held.below (i := k) (x := .int .i64 x) (by rw [List.getElem?_map, hx]; rfl)
          have hyl : y.ts.length = len := hp.lens.2.1.trans HLN.out
          have hkn : (x % (L.length : Int)).toNat < y.ts.length := by
            rw [hyl, HLN.out]
            have h1 := Int.emod_nonneg x (b := (len : Int)) (by omega)
            have h2 := Int.emod_lt_of_pos x (b := (len : Int)) (by omega)
            omega
          have hn2 : (pstep L (sceneCells n) (x % (L.length : Int)).toNat y).now = y.now + 1 := pstep_now hkn
          have HST := Lib.hid (stepX_ok HT.out HAT.out HN1.out HN3.out HALL.out (by rw [HLN.out]; exact hl1) (by rw [HLN.out]; exact hl4) (by omega) x)
          have HN2 := Lib.hid hn2; have HPQ := Lib.hid hP
          clear hp hs hv hst hx hyl hkn hn2 hP
          go_wp2_with fail
          refine HST.out.mono ?_
          rintro e w2 ⟨v2, rfl, hat2⟩
          go_wp2
          go_roundw
          case rel => exact ⟨k + 1, _, _, by omega, by go_num, by rw [HN2.out, hnow], fun j => by unfold less1; have := HPQ.out j; split <;> omega, hat2⟩
          case measure => simp [intOf]; omega
        · obtain rfl : k = pl := by omega
          have g3 : decide ((k : Int) < (k : Int)) = false := by simp
          have HFIN := Lib.hid (finishX_ok HT.out HAT.out HN1.out HN3.out HALL.out (by rw [HLN.out]; exact hl1) (by rw [HLN.out]; exact hl4) (by omega) hP)
          clear hp hs hv hst hP
          go_wp2_with fail
          refine HFIN.out.mono ?_
          rintro e w2 ⟨rfl, y2, P2, ⟨Bs2, H2, gh2, hp2, hs2, -, -⟩, hd2, -⟩
          have hfair := hs2.fair hd2
          have hin := hs2.inOrder hd2
          have hsc := hs2.scene hd2
          have HORD := Lib.hid (orderX_ok hp2 hfair (by rw [HLN.out]; exact hl1) (by rw [HLN.out]; exact hl4))
          obtain ⟨ord, hord⟩ : ∃ ord, orderK y2 L.length = ord := ⟨_, rfl⟩
          have hom : ∀ i ∈ ord, i < len := fun i hi => by rw [← hord] at hi; have h := (order_mem.1 hi).1; rw [HLN.out] at h; exact h
          have hol : ord.length ≤ 4 := by rw [← hord]; exact Nat.le_trans (order_le y2 L.length) (by rw [HLN.out]; exact hl4)
          rw [hord] at hin HORD
          obtain ⟨hgood, hlast, -⟩ := hin
          obtain ⟨snap, hsnap⟩ : ∃ snap, snapG IniF gh2 gh2.clk = snap := ⟨_, rfl⟩
          rw [hsnap] at hlast hsc
          have HP2 := Lib.hid hp2; have HGOOD := Lib.hid hgood; have HLAST := Lib.hid hlast; have HSC := Lib.hid hsc; have HOM := Lib.hid hom
          clear hp2 hs2 hd2 hfair hsc hord hgood hlast hsnap hom HFIN HAT
          go_wp2_with fail
          refine HORD.out.mono ?_
          rintro e w3 ⟨ordv, rfl, hor, hb3⟩
          have HF := Lib.hid (first13_ok (n := n) (Nat.le_trans HN3.out (by omega)) w3)
          have HOR := Lib.hid hor; have HB3 := Lib.hid hb3
          clear hor hb3 HORD
          go_wp2_with fail
          refine HF.out.mono ?_
          rintro e w4 ⟨nv, rfl, hnr, hb4⟩
          obtain ⟨m, hm⟩ : ∃ m, ord.length = m := ⟨_, rfl⟩
          have HJ := Lib.hid (show DoneJ n w3 y2 L snap ord nv (.int .i64 0) w4 from ⟨0, (List.range n).map (10 + ·), IniF, Nat.zero_le _, rfl, by simp, fun j hj => by simp [listFn, List.getD_eq_getElem?_getD, hj, IniF], HGOOD.out, HLAST.out, hb4, hnr⟩)
          have hm4 : m ≤ 4 := by rw [← hm]; exact hol
          have HM := Lib.hid hm
          obtain ⟨pord, cord, rfl⟩ := ownsRow_shape HOR.out
          rw [hm]
          clear hnr hb4 HF HGOOD HLAST hm hol
          go_wp2
          go_loopw [12, 65] (DoneJ n w3 y2 L snap ord) (fun _ i _ => m - (intOf i).toNat)
          case atStart => exact HJ.out
          case round =>
            clear HJ
            obtain ⟨k, nl, fn, hk, rfl, hnl, hfe, hgd, hls, hb, hnr⟩ := hrel
            rw [HM.out] at hk
            have hB2 := HB3.out.trans (hb.mono HB3.out.size)
            have HPL2 := Lib.hid (HP2.out.under hB2)
            by_cases hlt : k < m
            · have hlt' : (k : Int) < (m : Int) := by omega
              obtain ⟨i, hi⟩ : ∃ i, ord[k]? = some i := ⟨ord[k]'(by rw [HM.out]; exact hlt), List.getElem?_eq_getElem _⟩
              have hil := HOM.out i (List.mem_of_getElem? hi)
              have hil' : (i : Int) < (len : Int) := by omega
              have hor := ownsRow_kept HOR.out (Kept.of_below hb) (fun b hb e => by have := (HOR.out.lt b hb).2; omega)
              rw [HM.out] at hor
              obtain ⟨go1, rfl, q1⟩ := ptr_at (k := k) (x := .int .i64 (i : Int)) hor (by simp [encN, hi])
              obtain ⟨l, hx⟩ : ∃ l, L[i]? = some l := ⟨L[i]'(by rw [HLN.out]; exact hil), List.getElem?_eq_getElem _⟩
              have hl10 := HALL.out l (List.mem_of_getElem? hx)
              have eL : L.getD i [] = l := by rw [List.getD_eq_getElem?_getD, hx]; rfl
              have hdrop : ord.drop k = i :: ord.drop (k + 1) := by
                have hkl := (List.getElem?_eq_some_iff.1 hi).1
                rw [List.drop_eq_getElem_cons hkl]
                rw [List.getElem?_eq_getElem hkl] at hi
                rw [Option.some.inj hi]
              rw [hdrop] at hgd hls
              obtain ⟨hg1, hg2⟩ := hgd
              have hls2 : lastO (fun k f => doOps n (L.getD k []) 0 f []) (ord.drop (k + 1)) (doOps n (L.getD i []) 0 fn []).2 = snap := hls
              have hg2' : GoodO (fun k f => doOps n (L.getD k []) 0 f []) (tdK y2) (ord.drop (k + 1)) (doOps n (L.getD i []) 0 fn []).2 := hg2
              have hg1' : (doOps n (L.getD i []) 0 fn []).1 = tdK y2 i := hg1
              rw [eL] at hls2 hg2' hg1'
              obtain ⟨hc1, hc2⟩ := doOps_congr HN1.out l 0 (listFn nl) fn [] hfe
              obtain ⟨go', oo', q, c, he, q6, hops⟩ := opss_at (p := some ⟨g0, o0, none⟩) (m := len) (cap := cap) HL.out HPL2.out.held.below hx
              obtain ⟨rfl, rfl⟩ : g0 = go' ∧ o0 = oo' := by simpa using he
              have hdo := do13_ok (W := W) (hops.2.2 wr [] (by omega)) HPL2.out.held.below (by simp) (now := nl) (by rw [hnl]; exact hnr) (by rw [hnl]; exact HN1.out) (by rw [hnl]; have := HN3.out; omega)
              rw [hnl, hc1, hg1'] at hdo
              have htl : (tdK y2 i).length ≤ 1000 := by
                rw [← hg1']
                have h1 := doOps_length n l 0 fn []
                simp only [List.length_nil] at h1
                omega
              have HDO := Lib.hid hdo; have HTL := Lib.hid htl; have HG2 := Lib.hid hg2'; have HLS := Lib.hid hls2; have HC2 := Lib.hid hc2; have HB := Lib.hid hb
              obtain ⟨lo, hlo⟩ : ∃ lo, l.length = lo := ⟨_, rfl⟩
              rw [hlo] at q6 HDO
              clear hdo htl hg2' hls2 hc2 hc1 hg1 hg2 hg1' hls hfe hnr hor hops he hdrop hlo hx hi hB2
              go_wp2_with fail
              refine HDO.out.mono ?_
              rintro e w5 ⟨v1, v2, next, rfl, r1, r2, hnx, hfn, hb5⟩
              have hp5 := HPL2.out.under hb5
              obtain ⟨t, ht⟩ : ∃ t, its[i]? = some t := ⟨its[i]'(by rw [hp5.lens.1, HLN.out]; exact hil), List.getElem?_eq_getElem _⟩
              obtain ⟨uv, hc, hur⟩ := hp5.outAt ht
              obtain ⟨c0, -⟩ := four hc
              obtain ⟨pov, cov, eov⟩ := ownsRow_shape hp5.outs
              have hpo := hp5.outs
              rw [eov] at hpo
              obtain ⟨gov, hgov, q8⟩ := ptr_at (k := i) (x := .pointer (some ⟨t.po, 0, none⟩)) hpo (by rw [outV, List.getElem?_map, ht]; rfl)
              subst hgov
              have q7 := hp5.main.cell 4
              simp only [List.getElem?_cons_succ, List.getElem?_cons_zero] at q7
              rw [eov] at q7
              have hitl : (i : Int) < (its.length : Int) := by rw [hp5.lens.1, HLN.out]; exact hil'
              have HSAME := Lib.hid (same13q_ok (w := w5) (b1 := wr.heap.size) (b2 := W.heap.size) (v1 := v1) (v2 := uv) (l := tdK y2 i) r1 hur HTL.out)
              have HB5 := Lib.hid (HB.out.trans (hb5.mono HB.out.size)); have HR2 := Lib.hid r2; have HNX := Lib.hid hnx
              have HFN := Lib.hid (show ∀ j, j < n → listFn next j = (doOps n l 0 fn []).2 j from fun j hj => by rw [← hfn]; exact HC2.out j hj)
              have HW3 := Lib.hid HB.out.size
              clear hp5 hc hur hpo r1 r2 hnx hfn hb5 HDO q1 q6
              go_wp2_with (go_at_call 15; refine HSAME.out.mono ?_; rintro e w' ⟨rfl, md, rfl⟩)
              go_roundw
              case rel => exact ⟨k + 1, next, _, by rw [HM.out]; omega, by go_num, by have := HNX.out; omega, HFN.out, HG2.out, HLS.out, below_drewN HB5.out md, ownsRow_mono (ownsRow_kept (k := Kept.of_below (below_drewN (Below.refl w5.heap.size w5) md)) HR2.out (fun b hb e => by have := (HR2.out.lt b hb).2; omega)) HW3.out⟩
              case measure => simp [intOf]; omega
            · obtain rfl : k = m := by omega
              have g3 : decide ((k : Int) < (k : Int)) = false := by simp
              have hd0 : ord.drop k = [] := List.drop_eq_nil_of_le (by rw [HM.out]; exact Nat.le_refl _)
              rw [hd0] at hls
              have hsn : fn = snap := hls
              have hnl2 : ∀ j, j < n → listFn nl j = snap j := fun j hj => by rw [hfe j hj, hsn]
              obtain ⟨pn, cn, rfl⟩ := ownsRow_shape hnr
              obtain ⟨XN, hXN⟩ : ∃ XN, (Value.slice pn n cn).ownBlock.toList = XN := ⟨_, rfl⟩
              have hpx := HP2.out.came hB2 XN (fun b hb => by
                rw [← hXN] at hb
                have h1 := hnr.lt b (by simpa using hb)
                have h2 := HB3.out.size
                exact ⟨by omega, h1.2⟩) (by rw [← hXN]; exact own_nodup _)
              rw [List.append_nil] at hpx
              have HPX := Lib.hid hpx; have HNR := Lib.hid hnr; have HXN := Lib.hid hXN; have HNL := Lib.hid hnl2; have HNLL := Lib.hid hnl
              have q2 := hpx.main.cell 2
              simp only [List.getElem?_cons_succ, List.getElem?_cons_zero] at q2
              rw [len_scene] at q2
              clear hd0 hls hsn hnl2 hpx hnr hXN hB2 hgd hfe hb hnl HPL2
              go_wp2
              go_loopw [98] (fun iv wx => ∃ j : Nat, j ≤ n ∧ iv = .int .i64 (j : Int) ∧ PlayX W XN pa pb pp g (sceneCells n) L lv bv ev tv ov its (fun _ => pass0) Bs2 y2 wx ∧ HeldBy XN wr wx) (fun i _ => n - (intOf i).toNat)
              case atStart => exact ⟨0, Nat.zero_le _, rfl, HPX.out, HeldBy.refl _ _⟩
              case round =>
                obtain ⟨j, hj, rfl, hpj, hkj⟩ := hrel
                have hn3' := HN3.out
                by_cases hjn : j < n
                · have hjn' : (j : Int) < (n : Int) := by omega
                  obtain ⟨rr, hrr⟩ : ∃ rr, 3 + 3 * j = rr := ⟨_, rfl⟩
                  have HAJ := Lib.hid (show ((sceneCells n).map fun x : Nat => Value.int .u64 (x : Int))[j]? = some (.int .u64 (rr : Int)) by rw [← hrr]; simp [sceneCells, hjn])
                  have HLV := Lib.hid (fun (wy : World) (hy : PlayX W XN pa pb pp g (sceneCells n) L lv bv ev tv ov its (fun _ => pass0) Bs2 y2 wy) => (show Calls Tryz.prog 16 #[.pointer (some ⟨pb, 0, none⟩), .int .u64 (rr : Int), .int .i64 1] wy fun e w' => e = .returned (.tuple #[.int .u64 ((snap j : Nat) : Int), .nilIface]) ∧ PlayX W XN pa pb pp g (sceneCells n) L lv bv ev tv ov its (fun _ => pass0) Bs2 y2 w' ∧ HeldBy XN wy w' from by
                    have := hy.load (r := rr) (i := 1) (by omega) (by rw [← hrr]; exact HSC.out.wv j hjn)
                    rw [HSC.out.vs j hjn] at this
                    exact this))
                  obtain ⟨vr, hvr⟩ : ∃ vr, gh2.ver j = vr := ⟨_, rfl⟩
                  have HLM := Lib.hid (fun (wy : World) (hy : PlayX W XN pa pb pp g (sceneCells n) L lv bv ev tv ov its (fun _ => pass0) Bs2 y2 wy) => (show Calls Tryz.prog 16 #[.pointer (some ⟨pb, 0, none⟩), .int .u64 (rr : Int), .int .i64 0] wy fun e w' => e = .returned (.tuple #[.int .u64 ((rest vr : Nat) : Int), .nilIface]) ∧ PlayX W XN pa pb pp g (sceneCells n) L lv bv ev tv ov its (fun _ => pass0) Bs2 y2 w' ∧ HeldBy XN wy w' from by
                    have := hy.load (r := rr) (i := 0) (by omega) (by rw [← hrr]; exact HSC.out.wm j hjn)
                    rw [HSC.out.ms j hjn, hvr] at this
                    exact this))
                  obtain ⟨rv, hrv⟩ : ∃ rv, rest vr = rv := ⟨_, rfl⟩
                  have gm : ((rv : Nat) : Int).tmod 2 = 0 := by rw [← hrv, Int.tmod_eq_emod_of_nonneg (by omega)]; unfold rest; omega
                  rw [hrv] at HLM
                  obtain ⟨sj, hsj⟩ : ∃ sj, snap j = sj := ⟨_, rfl⟩
                  rw [hsj] at HLV
                  have gs : ((sj : Int) != (sj : Int)) = false := by simp
                  have q0 := hpj.main.cell 0
                  have q2 := hpj.main.cell 2
                  have qg := hpj.arr.cell j
                  simp only [List.getElem?_cons_succ, List.getElem?_cons_zero] at q0 q2
                  rw [len_scene] at q2
                  rw [HAJ.out] at qg
                  have HPJ := Lib.hid hpj; have HKJ := Lib.hid hkj
                  have HNJ := Lib.hid (show nl[j]? = some sj by rw [← hsj, ← HNL.out j hjn]; exact listFn_at (by rw [HNLL.out]; exact hjn))
                  clear hpj hkj hrr hvr hrv hsj
                  go_wp2_with fail
                  go_region_held3 (fun wx => wx.cell? ⟨pp, 0, none⟩ = some (.pointer (some ⟨pb, 0, none⟩)) ∧ wx.cell? ⟨pp, 2, none⟩ = some (.slice (some ⟨g, 0, none⟩) n n) ∧ wx.cell? ⟨g, j, none⟩ = some (.int .u64 (rr : Int)))
                    (first | exact ⟨q0, q2, qg⟩ | exact ⟨zw60, zw62, zw6g⟩ | go_keep)
                    (first | (go_at_call 16; refine (HLV.out wr.drew (HPJ.out.under (w' := wr.drew) ⟨rfl, rfl, rfl, Nat.le_refl _, fun _ _ => rfl⟩)).mono ?_; rintro e w6 ⟨rfl, hpw6, hkw6⟩; have zw60 := hpw6.main.cell 0; have zw62 := hpw6.main.cell 2; have zw6g := hpw6.arr.cell j; simp only [List.getElem?_cons_succ, List.getElem?_cons_zero] at zw60 zw62; rw [len_scene] at zw62; rw [HAJ.out] at zw6g; have HPw6 := Lib.hid hpw6; have HKw6 := Lib.hid hkw6; clear hpw6 hkw6))
                  clear q0 q2 qg
                  go_wp2_with fail
                  go_region_held3 (fun wx => wx.cell? ⟨pp, 0, none⟩ = some (.pointer (some ⟨pb, 0, none⟩)) ∧ wx.cell? ⟨pp, 2, none⟩ = some (.slice (some ⟨g, 0, none⟩) n n) ∧ wx.cell? ⟨g, j, none⟩ = some (.int .u64 (rr : Int)))
                    (first | exact ⟨zw60, zw62, zw6g⟩ | exact ⟨zw70, zw72, zw7g⟩ | go_keep)
                    (first | (go_at_call 16; refine (HLM.out w6.drew (HPw6.out.under (w' := w6.drew) ⟨rfl, rfl, rfl, Nat.le_refl _, fun _ _ => rfl⟩)).mono ?_; rintro e w7 ⟨rfl, hpw7, hkw7⟩; have zw70 := hpw7.main.cell 0; have zw72 := hpw7.main.cell 2; have zw7g := hpw7.arr.cell j; simp only [List.getElem?_cons_succ, List.getElem?_cons_zero] at zw70 zw72; rw [len_scene] at zw72; rw [HAJ.out] at zw7g; have HPw7 := Lib.hid hpw7; have HKw7 := Lib.hid hkw7; clear hpw7 hkw7))
                  have hkk := HKJ.out.trans ((show HeldBy XN wr w6 from HKw6.out).trans (show HeldBy XN w6 w7 from HKw7.out))
                  have hn7 := ownsRow_heldBy HNR.out hkk (fun b hb => by rw [← HXN.out]; simp [hb])
                  obtain ⟨gn, rfl, qn⟩ := row_at hn7 HNJ.out
                  have HKK := Lib.hid hkk
                  clear hkk hn7 zw60 zw62 zw6g zw70 zw72 zw7g
                  go_wp2_with (go_at_call 17; refine (no_nil _).mono ?_; rintro e w' ⟨rfl, rfl⟩)
                  go_roundw
                  case rel => exact ⟨j + 1, by omega, by go_num, HPw7.out, HKK.out⟩
                  case measure => simp [intOf]; omega
                · obtain rfl : j = n := by omega
                  have g4 : decide ((j : Int) < (j : Int)) = false := by simp
                  have HB := Lib.hid hpj.held.below
                  have HTB := Lib.hid (HT.out.below HT.out.lt HB.out)
                  clear hpj hkj
                  go_wp2_with (go_at_call 8; refine (alive13_ok _ HTB.out).mono ?_; rintro e w' ⟨rfl, hb⟩; have HBE := Lib.hid (HB.out.trans (hb.mono HB.out.size)); clear hb)
                  go_ret
                  exact ⟨rfl, HBE.out⟩
    · have g300 : decide (300 < (pl : Int)) = true := by simp; omega
      go_wp2_with (go_at_call 8; refine (alive13_ok _ HT.out).mono ?_; rintro e w' ⟨rfl, hb⟩)
      go_ret
      exact ⟨rfl, hb⟩
end Go.Proofs.YtmdganpealbmpaaGreatDoor
