/- Layer 9 (prog): walk. -/
import Derived.Test.YtikgbgminhgpdaaGreatDoorTxtWalk
import Derived.Test.YtikgbgminhgpdaaGreatDoorSeg
import Derived.StillTailTactics
namespace Go.Proofs.YtikgbgminhgpdaaGreatDoor
open Go.RowKit Tx
set_option maxRecDepth 10000

mutual
def cntS : St → Nat
  | .mk _ b e => 1 + cntL b + cntL e
def cntL : List St → Nat
  | [] => 0
  | s :: l => cntS s + cntL l
end
/-- A walker that asks Right's visit; n statements were gone over. -/
structure WalkAt (w : World) (wb eb xb kb cap n : Nat) : Prop where
  wk : Cells w wb [.int .i64 (n : Int), .func (.func 29) #[] #[.pointer (some ⟨eb, 0, none⟩), .pointer (some ⟨xb, 0, none⟩)]] 76
  er : Cells w eb [.nilIface] 26
  ki : Cells w xb [.slice (some ⟨kb, 0, none⟩) 8 cap] 57
  kk : KindsAt w kb
  ne : wb ≠ eb ∧ wb ≠ xb ∧ eb ≠ xb ∧ kb ≠ wb ∧ kb ≠ eb
def WalkPost (l : List St) (d n wb eb xb kb cap : Nat) (w : World) (e : Ending) (w' : World) : Prop :=
  Kept (fun k => k = wb ∨ k = eb) w w' ∧ match walkL l d n with
    | .ok m => e = .returned (.bool true) ∧ WalkAt w' wb eb xb kb cap m ∧ m ≤ 100
    | .error x => e = .returned (.bool false) ∧ ∃ v, Cells w' eb [v] 26 ∧ Flt w.heap.size w' v (x.2 : Int) x.1
theorem ef_visit (args : Array Value) (w : World) : (callFunc 29 args).run Tryz.prog w = .ok (.enter 29 args) w := enters_of Tryz.func29 (by kernel_rfl) rfl args w
mutual
theorem walkS_le : ∀ (s : St) (d n m : Nat), walkS s d n = .ok m → n + 1 ≤ m
  | .mk h b e, d, n, m, hw => by
    unfold walkS at hw
    split at hw
    · cases hw
    · split at hw
      · cases hw
      · split at hw
        · cases hw
        · split at hw
          · cases hw
          · rename_i n1 hb
            have h1 := walkL_le b _ _ _ hb
            have h2 := walkL_le e _ _ _ hw
            omega
theorem walkL_le : ∀ (l : List St) (d n m : Nat), walkL l d n = .ok m → n ≤ m
  | [], _, n, m, hw => by
    unfold walkL at hw
    cases hw
    exact Nat.le_refl _
  | s :: l, d, n, m, hw => by
    unfold walkL at hw
    split at hw
    · cases hw
    · rename_i n1 hs
      have h1 := walkS_le s _ _ _ hs
      have h2 := walkL_le l _ _ _ hw
      omega
end
theorem len_empty (b : List St) : decide (b.length = 0) = b.isEmpty := by cases b <;> simp
theorem cnt_get : ∀ {l : List St} {k : Nat} {h : Sh} {b e : List St}, l[k]? = some (.mk h b e) → 1 + cntL b + cntL e ≤ cntL l
  | [], _, _, _, _, h => by simp at h
  | s :: l, k, h, b, e, hk => by
    rw [show cntL (s :: l) = cntS s + cntL l from by rw [cntL]]
    cases k with
    | zero =>
      simp only [List.getElem?_cons_zero, Option.some.injEq] at hk
      subst hk
      rw [show cntS (.mk h b e) = 1 + cntL b + cntL e from by rw [cntS]]
      omega
    | succ k =>
      have := cnt_get (l := l) (k := k) (by simpa using hk)
      omega
theorem walk_round {l : List St} {k d m : Nat} {h : Sh} {b e : List St} (hk : l[k]? = some (.mk h b e)) :
    walkL (l.drop k) d m = match visitR (m + 1) d h b.isEmpty e.isEmpty with
      | some no => .error ((no : Int), m + 1)
      | none => match walkL b (d + 1) (m + 1) with
        | .error x => .error x
        | .ok n1 => match walkL e (d + 1) n1 with
          | .error x => .error x
          | .ok n2 => walkL (l.drop (k + 1)) d n2 := by
  obtain ⟨hl, he⟩ := List.getElem?_eq_some_iff.1 hk
  rw [List.drop_eq_getElem_cons hl, he]
  conv => lhs; unfold walkL; unfold walkS
  unfold visitR
  by_cases h1 : 100 < m + 1
  · rw [if_pos h1, if_pos h1]; rfl
  · rw [if_neg h1, if_neg h1]
    by_cases h2 : 8 < d
    · rw [if_pos h2, if_pos h2]; rfl
    · rw [if_neg h2, if_neg h2]
      by_cases h3 : oneR h b.isEmpty e.isEmpty = false
      · rw [if_pos h3, if_pos h3]; rfl
      · rw [if_neg h3, if_neg h3]
        simp only
        cases walkL b (d + 1) (m + 1) with
        | error x => rfl
        | ok n1 =>
          simp only
          cases walkL e (d + 1) n1 <;> rfl
theorem WalkAt.other {S : Nat → Prop} {w w' : World} {wb eb xb kb cap n : Nat} (h : WalkAt w wb eb xb kb cap n) (k : Kept S w w') (h1 : ¬ S wb) (h2 : ¬ S xb) (h3 : ¬ S kb) (he : Cells w' eb [.nilIface] 26) : WalkAt w' wb eb xb kb cap n :=
  ⟨h.wk.kept k h1, he, h.ki.kept k h2, h.kk.kept k h3, h.ne⟩
theorem visit_none {n d : Nat} {h : Sh} {nb ne : Bool} (hv : visitR n d h nb ne = none) : n ≤ 100 ∧ d ≤ 8 := by
  unfold visitR at hv
  split at hv
  · cases hv
  · split at hv
    · cases hv
    · omega
theorem WalkAt.drew {w : World} {wb eb xb kb cap n : Nat} (h : WalkAt w wb eb xb kb cap n) : WalkAt w.drew wb eb xb kb cap n := ⟨h.wk.drew, h.er.drew, h.ki.drew, h.kk, h.ne⟩
theorem walk_bad {l : List St} {d n wb eb xb kb cap : Nat} {w w' : World} {e : Ending} {x : Int × Nat} {v : Value} (h : walkL l d n = .error x) (hk : Kept (fun k => k = wb ∨ k = eb) w w') (hc : Cells w' eb [v] 26) {B : Nat} (hf : Flt B w' v (x.2 : Int) x.1) (hB : w.heap.size ≤ B) (he : e = .returned (.bool false)) : WalkPost l d n wb eb xb kb cap w e w' := by
  unfold WalkPost
  refine ⟨hk, ?_⟩
  rw [h]
  exact ⟨he, v, hc, hf.low hB⟩
set_option maxHeartbeats 3000000 in
theorem walk_ok (wb eb xb kb cap : Nat) : ∀ (N : Nat) (l : List St) (v : Value) (B : Nat) (w : World) (d n : Nat), cntL l < N → SlR B w l v → B ≤ wb → B ≤ eb → n ≤ 100 → d ≤ 9 → WalkAt w wb eb xb kb cap n →
    Calls Tryz.prog 31 #[.pointer (some ⟨wb, 0, none⟩), v, .int .i64 (d : Int)] w (WalkPost l d n wb eb xb kb cap w)
  | 0, l, v, B, w, d, n, hN, _, _, _, _, _, _ => by omega
  | N + 1, l, v, B, w, d, n, hN, hl, hBw, hBe, hn, hd, hw => by
    have IH := Lib.hid (walk_ok wb eb xb kb cap N)
    obtain ⟨pt, cp, rfl⟩ := hl.shape
    have HL := Lib.hid hl; have HW := Lib.hid hw
    clear hl hw
    go_enter Tryz.func31, Tryz.ntmps31
    go_wp2
    go_loopg [11] (l.length + 1) (fun gf i wx => ∃ (k m : Nat), i = .int .i64 (k : Int) ∧ k ≤ l.length ∧ k ≤ m ∧ m ≤ 100 ∧ WalkAt wx wb eb xb kb cap m ∧ Kept (fun k => k = wb ∨ k = eb) w wx ∧ walkL l d n = walkL (l.drop k) d m ∧ l.length + 1 ≤ k + gf)
    case atStart => exact ⟨0, n, rfl, Nat.zero_le _, Nat.zero_le _, hn, HW.out, Kept.refl _ _, rfl, by omega⟩
    case round =>
      obtain ⟨k, m, rfl, hk, hkm, hm, hwk, hkp, hwl, hfu⟩ := hrel
      by_cases hlt : k < l.length
      · obtain ⟨gk', rfl⟩ : ∃ g', gk = g' + 1 := ⟨gk - 1, by omega⟩
        obtain ⟨⟨h, b, e⟩, hs⟩ : ∃ s, l[k]? = some s := ⟨_, List.getElem?_eq_getElem hlt⟩
        have hlr := HL.out.kept (B' := B) hkp (fun q h1 h2 => ⟨by omega, h1⟩)
        obtain ⟨g, off, cp', z, bv, ev, hv, hgB, hgl, hz, hcell, hb, he⟩ := hlr.get hs
        simp only [Value.slice.injEq] at hv
        obtain ⟨rfl, -, rfl⟩ := hv
        obtain ⟨bp, bc, rfl⟩ := hb.shape
        obtain ⟨ep, ec, rfl⟩ := he.shape
        have g1 : decide ((k : Int) < (l.length : Int)) = true := decide_eq_true (by omega)
        have g1' : (k : Int) < (l.length : Int) := by omega
        have y0 : wr.cell? ⟨g, off + k * 9, none⟩ = _ := hcell 0 _ rfl; have y1 := hcell 1 _ rfl; have y2 := hcell 2 _ rfl; have y3 := hcell 3 _ rfl; have y4 := hcell 4 _ rfl; have y5 := hcell 5 _ rfl; have y6 := hcell 6 _ rfl; have y7 := hcell 7 _ rfl; have y8 := hcell 8 _ rfl
        have c0 := hwk.wk.cell 0; have c1 := hwk.wk.cell 1; have f0 := hwk.wk.free 0; have clt := hwk.wk.lt
        simp only [List.getElem?_cons_zero, List.getElem?_cons_succ] at c0 c1
        have hw1 : IntKind.i64.wrap ((m : Int) + 1) = (m : Int) + 1 := IntWalk.i64_in _ (by omega)
        have HB := Lib.hid hb; have HE := Lib.hid he; have HWK := Lib.hid hwk; have HK := Lib.hid hkp; have HWL := Lib.hid hwl
        clear hlr hcell hb he hwk hkp hwl
        go_wp2_with fail
        have hb' := HB.out; have he' := HE.out; have hwk' := HWK.out
        have HK1 := Lib.hid (show k + 1 ≤ l.length from hlt); have HFU := Lib.hid (show l.length + 1 ≤ k + 1 + gk' by omega)
        have hsb0 : wb < wr.heap.size ∧ eb < wr.heap.size := ⟨hwk'.wk.lt, hwk'.er.lt⟩
        obtain ⟨W, hW⟩ : ∃ W, (wr.setCell ⟨wb, 0, none⟩ (.int .i64 ((m : Int) + 1))).alloc (.cells #[.int .i64 z, .int .i64 h.coll, .int .i64 h.reg, .int .i64 h.a.1, .int .i64 h.a.2, .int .i64 h.b.1, .int .i64 h.b.2, .slice bp b.length bc, .slice ep e.length ec] 45) = W := ⟨_, rfl⟩
        rw [hW]
        have hSB : Cells W wr.heap.size (stL z h (.slice bp b.length bc) (.slice ep e.length ec)) 45 := by
          rw [← hW]
          have := Cells.new (wr.setCell ⟨wb, 0, none⟩ (.int .i64 ((m : Int) + 1))) (stL z h (.slice bp b.length bc) (.slice ep e.length ec)) 45
          rw [World.size_setCell] at this
          exact this
        have hkw : Kept (fun k => k = wb) wr W := by
          rw [← hW]
          exact Kept.alloc (Kept.setCell (S := fun k => k = wb) (p := ⟨wb, 0, none⟩) (Kept.refl _ wr) (fun _ => rfl) _) _
        have hWK : WalkAt W wb eb xb kb cap (m + 1) := by
          refine ⟨?_, hwk'.er.kept hkw (fun q => hwk'.ne.1 q.symm), hwk'.ki.kept hkw (fun q => hwk'.ne.2.1 q.symm), hwk'.kk.kept hkw hwk'.ne.2.2.2.1, hwk'.ne⟩
          rw [← hW]
          exact (hwk'.wk.set 0 (.int .i64 ((m + 1 : Nat) : Int))).alloc _
        have hKW : Kept (fun k => k = wb ∨ k = eb) wr W := hkw.mono fun k _ q => .inl q
        obtain ⟨sb, hsb⟩ : ∃ sb, wr.heap.size = sb := ⟨_, rfl⟩
        rw [hsb] at hSB hsb0 ⊢
        have hBW := hb'.kept (B' := B) hKW (fun q h1 h2 => ⟨by omega, h1⟩)
        have hEW := he'.kept (B' := B) hKW (fun q h1 h2 => ⟨by omega, h1⟩)
        have hFK := HK.out.trans hKW
        have HBW := Lib.hid hBW; have HEW := Lib.hid hEW; have HFK := Lib.hid hFK
        have HSB := Lib.hid hSB; have HWK2 := Lib.hid hWK
        obtain ⟨⟨s0, s1, s2, s3, s4, s5, s6, s7, s8⟩, -⟩ := nine_cells hSB
        have d0 := hWK.wk.cell 0; have d1 := hWK.wk.cell 1
        simp only [List.getElem?_cons_zero, List.getElem?_cons_succ] at d0 d1
        have hm1 : ((m + 1 : Nat) : Int) = (m : Int) + 1 := by omega
        rw [hm1] at d0
        clear y0 y1 y2 y3 y4 y5 y6 y7 y8 c0 c1 f0 clt hSB hWK hKW hkw hW hm1 hsb hBW hEW hFK hb' he' hwk'
        refine seg_begin (f := 30) (by kernel_rfl) (by rfl) ?_
        refine seg_lit (g := 20) 0 10 (by kernel_rfl) ?_
        simp only [List.take_succ_cons, List.take_zero, List.drop_zero]
        repeat still_step
        refine wpStill_nil ?_
        have HVI := Lib.hid (visit_ok (n := m + 1) (d := d) (w := W.drew) hz HWK2.out.kk HWK2.out.ne.2.2.2.2 (HWK2.out.ki.drew) (fun q => HWK2.out.ne.2.2.1 q.symm) HWK2.out.er.drew bp ep b.length bc e.length ec)
        refine seg_one (g := 19) 10 rfl (by kernel_rfl) fun K10 HK10 => ?_
        go_wp2_with fail
        refine HVI.out.mono ?_
        rintro e2 w2 hvp
        unfold VisitPost at hvp
        obtain ⟨hk2, hvp⟩ := hvp
        rw [len_empty, len_empty] at hvp
        have HRD := Lib.hid (walk_round (d := d) (m := m) hs)
        have hsb2 := HSB.out.drew.kept hk2 (fun q => by omega)
        have HFK2 := Lib.hid (HFK.out.drew.trans (hk2.mono (T := fun k => k = wb ∨ k = eb) fun k _ q => Or.inr q))
        have hsz2 := hk2.size
        cases hvr : visitR (m + 1) d h b.isEmpty e.isEmpty with
        | some no =>
          rw [hvr] at hvp HRD
          obtain ⟨rfl, vv, hcv, hfl⟩ := hvp
          have HCV := Lib.hid hcv; have HFL := Lib.hid hfl; have HSB2 := Lib.hid hsb2; have HK2 := Lib.hid hk2
          clear hcv hfl hsb2 hk2 hvr s0 s1 s2 s3 s4 s5 s6 s7 s8 d0 d1
          go_wp2
          refine HK10.out _ _ ?_
          refine seg_lit (g := 1) 11 18 (by kernel_rfl) ?_
          simp only [List.take_succ_cons, List.take_zero, List.drop_zero, List.drop_succ_cons]
          iterate 2 (((with_reducible refine still_want (by kernel_rfl) (fun K hK => ?_)); go_simp; refine hK _ ?_; clear hK K))
          iterate 7 (with_reducible refine still_skip (by kernel_rfl) ?_)
          iterate 2 (((with_reducible refine still_want (by kernel_rfl) (fun K hK => ?_)); go_simp; refine hK _ ?_; clear hK K))
          iterate 7 (with_reducible refine still_skip (by kernel_rfl) ?_)
          with_reducible refine wpStill_nil ?_
          refine seg_one (g := 0) 29 rfl (by kernel_rfl) fun K29 HK29 => ?_
          go_wp2
          refine HK29.out _ _ ?_
          refine seg_end (by kernel_rfl) ?_ 0
          go_wp2
          go_ret
          exact walk_bad (HWL.out.trans HRD.out) HFK2.out HCV.out HFL.out HFK.out.size rfl
        | none =>
          rw [hvr] at hvp HRD
          obtain ⟨rfl, hnil⟩ := hvp
          obtain ⟨hm100, hd8⟩ := visit_none hvr
          have hwk2 := HWK2.out.drew.other hk2 HWK2.out.ne.1 (fun q => HWK2.out.ne.2.2.1 q.symm) HWK2.out.ne.2.2.2.2 hnil
          have hb2 := HBW.out.kept (B' := B) ((Kept.refl (fun k => k = eb) W).drew.trans hk2) (fun q h1 _ => ⟨fun hq => by have hq' : q = eb := hq; omega, h1⟩)
          have he2 := HEW.out.kept (B' := B) ((Kept.refl (fun k => k = eb) W).drew.trans hk2) (fun q h1 _ => ⟨fun hq => by have hq' : q = eb := hq; omega, h1⟩)
          have hcn := cnt_get hs
          have HCALL := Lib.hid (IH.out b _ B w2 (d + 1) (m + 1) (by omega) hb2 hBw hBe hm100 (by omega) hwk2)
          have HE2 := Lib.hid he2; have HSB2 := Lib.hid hsb2
          have hsbl2 := hsb2.lt
          obtain ⟨⟨s0, s1, s2, s3, s4, s5, s6, s7, s8⟩, -⟩ := nine_cells hsb2
          have hwd : IntKind.i64.wrap ((d : Int) + 1) = (d : Int) + 1 := IntWalk.i64_in _ (by omega)
          clear hnil hwk2 hb2 he2 hsb2 hk2 hvr
          go_wp2
          refine HK10.out _ _ ?_
          refine seg_lit (g := 12) 11 7 (by kernel_rfl) ?_
          simp only [List.take_succ_cons, List.take_zero, List.drop_zero, List.drop_succ_cons]
          iterate 7 (((with_reducible refine still_want (by kernel_rfl) (fun K hK => ?_)); go_simp; refine hK _ ?_; clear hK K))
          with_reducible refine wpStill_nil ?_
          refine seg_one (g := 11) 18 rfl (by kernel_rfl) fun K18 HK18 => ?_
          go_wp2_with fail
          refine HCALL.out.mono ?_
          rintro e3 w3 hwp
          unfold WalkPost at hwp
          obtain ⟨hk3, hwp⟩ := hwp
          have HFK3 := Lib.hid (HFK2.out.trans hk3)
          have hsb3 := HSB2.out.kept hk3 (fun q => by omega)
          have hsz3 := hk3.size
          clear s0 s1 s2 s3 s4 s5 s6 s7 s8 HCALL
          cases hwb : walkL b (d + 1) (m + 1) with
          | error x =>
            rw [hwb] at hwp HRD
            obtain ⟨rfl, vv, hcv, hfl⟩ := hwp
            have HCV := Lib.hid hcv; have HFL := Lib.hid hfl
            clear hcv hfl hwb hsb3 hk3
            go_wp2
            refine HK18.out _ _ ?_
            refine seg_lit (g := 1) 19 10 (by kernel_rfl) ?_
            simp only [List.take_succ_cons, List.take_zero, List.drop_zero, List.drop_succ_cons]
            iterate 3 (((with_reducible refine still_want (by kernel_rfl) (fun K hK => ?_)); go_simp; refine hK _ ?_; clear hK K))
            iterate 7 (with_reducible refine still_skip (by kernel_rfl) ?_)
            with_reducible refine wpStill_nil ?_
            refine seg_one (g := 0) 29 rfl (by kernel_rfl) fun K29 HK29 => ?_
            go_wp2
            refine HK29.out _ _ ?_
            refine seg_end (by kernel_rfl) ?_ 0
            go_wp2
            go_ret
            exact walk_bad (HWL.out.trans HRD.out) HFK3.out HCV.out HFL.out (Nat.le_trans HFK.out.size hsz2) rfl
          | ok n1 =>
            rw [hwb] at hwp HRD
            obtain ⟨rfl, hwk3, hn1⟩ := hwp
            have he3 := HE2.out.kept (B' := B) hk3 (fun q h1 h2 => ⟨by omega, h1⟩)
            have HCALL3 := Lib.hid (IH.out e _ B w3 (d + 1) n1 (by omega) he3 hBw hBe hn1 (by omega) hwk3)
            obtain ⟨⟨s0, s1, s2, s3, s4, s5, s6, s7, s8⟩, -⟩ := nine_cells hsb3
            have hwb' := Lib.hid hwb
            clear he3 hwk3 hwb hsb3 hk3
            go_wp2
            refine HK18.out _ _ ?_
            refine seg_lit (g := 3) 19 8 (by kernel_rfl) ?_
            simp only [List.take_succ_cons, List.take_zero, List.drop_zero, List.drop_succ_cons]
            iterate 8 (((with_reducible refine still_want (by kernel_rfl) (fun K hK => ?_)); go_simp; refine hK _ ?_; clear hK K))
            with_reducible refine wpStill_nil ?_
            refine seg_one (g := 2) 27 rfl (by kernel_rfl) fun K27 HK27 => ?_
            go_wp2_with fail
            refine HCALL3.out.mono ?_
            rintro e4 w4 hwp
            unfold WalkPost at hwp
            obtain ⟨hk4, hwp⟩ := hwp
            have HFK4 := Lib.hid (HFK3.out.trans hk4)
            have hsz4 := hk4.size
            clear s0 s1 s2 s3 s4 s5 s6 s7 s8 HCALL3 hk4
            cases hwe : walkL e (d + 1) n1 with
            | error x =>
              rw [hwe] at hwp HRD
              obtain ⟨rfl, vv, hcv, hfl⟩ := hwp
              have HCV := Lib.hid hcv; have HFL := Lib.hid hfl
              clear hcv hfl hwe
              go_wp2
              refine HK27.out _ _ ?_
              refine seg_lit (g := 1) 28 1 (by kernel_rfl) ?_
              simp only [List.take_succ_cons, List.take_zero, List.drop_zero, List.drop_succ_cons]
              iterate 1 (((with_reducible refine still_want (by kernel_rfl) (fun K hK => ?_)); go_simp; refine hK _ ?_; clear hK K))
              with_reducible refine wpStill_nil ?_
              refine seg_one (g := 0) 29 rfl (by kernel_rfl) fun K29 HK29 => ?_
              go_wp2
              refine HK29.out _ _ ?_
              refine seg_end (by kernel_rfl) ?_ 0
              go_wp2
              go_ret
              exact walk_bad (HWL.out.trans HRD.out) HFK4.out HCV.out HFL.out (Nat.le_trans HFK.out.size (Nat.le_trans hsz2 hsz3)) rfl
            | ok n2 =>
              rw [hwe] at hwp HRD
              obtain ⟨rfl, hwk4, hn2⟩ := hwp
              have HWK4 := Lib.hid hwk4
              have hm1 := walkL_le b _ _ _ hwb'.out
              have hm2 := walkL_le e _ _ _ hwe
              have HKM := Lib.hid (show k + 1 ≤ n2 by omega)
              have hk100 : k + 1 ≤ 100 := by omega
              clear hwk4 hwe
              go_wp2
              refine HK27.out _ _ ?_
              refine seg_lit (g := 1) 28 1 (by kernel_rfl) ?_
              simp only [List.take_succ_cons, List.take_zero, List.drop_zero, List.drop_succ_cons]
              iterate 1 (((with_reducible refine still_want (by kernel_rfl) (fun K hK => ?_)); go_simp; refine hK _ ?_; clear hK K))
              with_reducible refine wpStill_nil ?_
              refine seg_one (g := 0) 29 rfl (by kernel_rfl) fun K29 HK29 => ?_
              go_wp2
              refine HK29.out _ _ ?_
              refine seg_end (by kernel_rfl) ?_ 0
              go_wp2
              go_roundg gk'
              case measure => omega
              case rel => exact ⟨k + 1, n2, by go_num, HK1.out, HKM.out, hn2, HWK4.out, HFK4.out, HWL.out.trans HRD.out, HFU.out⟩
      · obtain rfl : k = l.length := by omega
        have g1 : decide ((l.length : Int) < (l.length : Int)) = false := decide_eq_false (by omega)
        have HWK := Lib.hid hwk; have HK := Lib.hid hkp
        have HWL := Lib.hid (show walkL l d n = .ok m by rw [hwl, List.drop_length]; rfl)
        clear hwk hkp hwl
        go_wp2
        go_ret
        unfold WalkPost
        refine ⟨HK.out, ?_⟩
        rw [HWL.out]
        exact ⟨rfl, HWK.out, hm⟩
end Go.Proofs.YtikgbgminhgpdaaGreatDoor
