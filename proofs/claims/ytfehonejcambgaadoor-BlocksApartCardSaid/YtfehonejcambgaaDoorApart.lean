/- BlocksApart: the walk. -/
import Derived.Test.YtfehonejcambgaaDoorTwo
import Derived.Test.YtfehonejcambgaaDoorApartPlain
import Derived.Test.YtfehonejcambgaaDoorCame
namespace Go.Proofs.YtfehonejcambgaaDoor
open Go.RowKit Bl
set_option maxRecDepth 100000

/-- What the first loop has. -/
def ApartAt (W : World) (pb : Nat) (v u : Value) (k : Nat) (wr : World) : Prop :=
  ∃ (rs : List (Nat × Nat)) (S : BS), rs.length ≤ k ∧ Two W pb S v u (rs.map (·.1)) (rs.map (·.2)) wr ∧ Apart rs k k S

set_option maxHeartbeats 2000000 in
theorem blocksApart_ok (v u : Value) (l : List Int) (fr : List Bool) (w : World) (hg : Handle w) (hv : Came w v (l.map (.int .i64))) (hu : Came w u (fr.map .bool)) :
    Calls Tryd.prog 5 #[v, u] w fun e w' => e = .returned (.bool true) ∧ Below w.heap.size w w' := by
  have HA := Lib.hid hg
  have hgl := Lib.hid hg.lt
  obtain ⟨p, cap, rfl, hlm⟩ := hv.shape
  obtain ⟨pf, capf, rfl, hfm⟩ := hu.shape
  simp only [List.length_map] at hv hlm hu hfm ⊢
  unfold maxLen at hlm hfm
  have HCL := Lib.hid hv
  have HCF := Lib.hid hu
  clear hg hv hu
  obtain ⟨Z, hZ⟩ : ∃ Z, l.length = Z := ⟨_, rfl⟩
  obtain ⟨Y, hY⟩ : ∃ Y, fr.length = Y := ⟨_, rfl⟩
  have HZ := Lib.hid hZ
  have HY := Lib.hid hY
  rw [hZ] at hlm HCL
  rw [hY] at hfm HCF
  rw [hZ, hY]
  clear hZ hY
  go_enter Tryd.func5, Tryd.ntmps5
  go_wp2_with fail
  refine (on_ok 600 0 (by omega) (by omega) (by omega) w).mono ?_
  rintro e w1 ⟨pa, pb, rfl, h0⟩
  have H0 := Lib.hid h0
  clear h0
  by_cases hs : Z ≤ 30
  · have hd : decide ((30 : Int) < (Z : Int)) = false := decide_eq_false (by omega)
    go_wp2_with fail
    have HB0 := Lib.hid (show ApartAt w pb (.slice none 0 0) (.slice none 0 0) 0 w1 from ⟨[], _, Nat.le_refl _, ⟨H0.out, Row.nil _ _ _, Row.nil _ _ _, fun b hb => by simp [Value.ownBlock] at hb⟩, Apart.start⟩)
    clear H0
    go_loopw [7, 8, 39] (fun v u i wr => ∃ k : Nat, k ≤ Z ∧ i = .int .i64 (k : Int) ∧ ApartAt w pb v u k wr) (fun _ _ i _ => Z - (intOf i).toNat)
    case atStart => exact ⟨0, Nat.zero_le _, rfl, HB0.out⟩
    case round =>
      obtain ⟨k, hk, rfl, rs, S, hle, hb, hap⟩ := hrel
      obtain ⟨p2, cap2, hv2⟩ := hb.row.shape
      obtain ⟨p3, cap3, hv3⟩ := hb.rowS.shape
      simp only [List.length_map] at hv2 hv3
      subst hv2 hv3
      obtain ⟨Q, hQ⟩ : ∃ Q, rs.length = Q := ⟨_, rfl⟩
      rw [hQ] at hb hle ⊢
      have HQ := Lib.hid hQ
      have HOK := Lib.hid (two_ok hb)
      have HAP := Lib.hid hap
      have HB := Lib.hid hb
      clear hb hap hQ
      by_cases hlt : k < Z
      · have hx : (l.map (Value.int .i64))[k]? = some (.int .i64 (l[k]'(by have := HZ.out; omega))) := by rw [List.getElem?_map, List.getElem?_eq_getElem]; rfl
        obtain ⟨a, rfl, hcell⟩ := HCL.out.cell HB.out.own.below hx
        clear hx
        obtain ⟨x, hxx⟩ : ∃ x, l[k]'(by have := HZ.out; omega) = x := ⟨_, rfl⟩
        rw [hxx] at hcell
        clear hxx
        have hlt' : (k : Int) < (Z : Int) := by omega
        go_wp2_with fail
        obtain ⟨N, hN1, hN8, hN⟩ := in_eight x
        rw [hN]
        clear hN
        obtain ⟨ref, S', hal, href, hr'⟩ := HAP.out.alloc HOK.out hN1 hN8 (by omega) (by omega)
        have HC := Lib.hid (two_alloc HB.out hal)
        have HR' := Lib.hid hr'
        have HREF := Lib.hid href
        clear hal hr' href
        refine HC.out.mono ?_
        rintro e w2 ⟨rfl, h2⟩
        have H2 := Lib.hid h2
        have hW2 := Lib.hid h2.own.below.size
        clear h2 HC
        go_wp2_with fail
        refine (no_nil _).mono ?_
        rintro e w' ⟨rfl, rfl⟩
        obtain ⟨i0, hi0, hz0, hz1, hz2⟩ := info_parts uintInfo
        obtain ⟨i1, hi1, hy0, hy1, hy2⟩ := info_parts intInfo
        have hROW : Row (w2.alloc (.cells #[.int .u64 (ref : Int)] 22)) w.heap.size 22 (.slice p2 Q cap2) ((rs.map (·.1)).map encR) := (H2.out.cell _ _).row
        have HROW := Lib.hid hROW
        have hlen : ((rs.map (·.1)).map encR).length = Q := by simpa using HQ.out
        have hlenS : ((rs.map (·.2)).map encI).length = Q := by simpa using HQ.out
        obtain ⟨xs, hxs⟩ : ∃ xs, (rs.map (·.1)).map encR = xs := ⟨_, rfl⟩
        obtain ⟨ys, hys⟩ : ∃ ys, (rs.map (·.2)).map encI = ys := ⟨_, rfl⟩
        rw [hxs] at HROW hlen
        rw [hys] at hlenS
        have HXS := Lib.hid hxs
        have HYS := Lib.hid hys
        have HLEN := Lib.hid hlen
        have HLENS := Lib.hid hlenS
        clear hROW hxs hlen hys hlenS
        have hkk : decide ((k : Int) < (Y : Int)) = decide (k < Y) := by congr 1; exact propext (by omega)
        have HMAP1 := Lib.hid (show (rs ++ [(ref, N)]).map (·.1) = rs.map (·.1) ++ [ref] by simp)
        have HMAP2 := Lib.hid (show (rs ++ [(ref, N)]).map (·.2) = rs.map (·.2) ++ [N] by simp)
        cases hfr : fr[k]? with
        | none =>
          have hYk : Y ≤ k := by have := List.getElem?_eq_none_iff.1 hfr; have := HY.out; omega
          have hd1 : decide ((k : Int) < (Y : Int)) = false := decide_eq_false (by omega)
          clear hfr hkk
          go_wp2_with (first
              | (at_builtin; refine wpList_append_row _ rfl _ _ 50 rfl w.heap.size 22 i0 (.int .u64 0) 8 Tryd.underlying50 hi0 hz0 hz1 hz2 rfl _ xs rfl HROW.out ⟨w2.heap.size, 0, none⟩ 1 (.int .u64 (ref : Int)) rfl (by simp) rfl (by have := HLEN.out; unfold maxLen; omega) (by have := HLEN.out; omega) (by have := hW2.out; simp; omega) ?_; intro g2 o2 cap4 w5 hrow2 hgrow2 hob hlt2; have H3 := Lib.hid ((H2.out.cell (.int .u64 (ref : Int)) 22).app (x := ref) (by rw [HXS.out]; exact hrow2) hgrow2 hob hlt2); have hcap4 := Lib.hid hrow2; clear hrow2 hgrow2 hob hlt2; have HROWS := Lib.hid (H3.out.cell (.int .i64 (N : Int)) 3).rowS; rw [HYS.out] at HROWS; have hW5 := Lib.hid H3.out.own.below.size)
              | (at_builtin; refine wpList_append_row _ rfl _ _ 52 rfl w.heap.size 3 i1 (.int .i64 0) 8 Tryd.underlying52 hi1 hy0 hy1 hy2 rfl _ ys rfl HROWS.out ⟨w5.heap.size, 0, none⟩ 1 (.int .i64 (N : Int)) rfl (by simp) rfl (by have := HLENS.out; unfold maxLen; omega) (by have := HLENS.out; omega) (by have := hW5.out; simp; omega) ?_; intro g3 o3 cap5 w6 hrow3 hgrow3 hob3 hlt3; have H4 := Lib.hid ((H3.out.cell (.int .i64 (N : Int)) 3).appS (x := N) (by rw [HYS.out]; exact hrow3) hgrow3 hob3 hlt3); clear hrow3 hgrow3 hob3 hlt3)
              | go_in)
          have hnew : ApartAt w pb (.slice (some ⟨g2, o2, none⟩) (xs.length + 1) cap4) (.slice (some ⟨g3, o3, none⟩) (ys.length + 1) cap5) (k + 1) w6 := by
            refine ⟨rs ++ [(ref, N)], S', ?_, ?_, HR'.out.more⟩
            · have := HQ.out; rw [List.length_append]; simp only [List.length_cons, List.length_nil]; omega
            · rw [HMAP1.out, HMAP2.out]; exact H4.out
          refine ⟨⟨k + 1, by omega, by go_num, hnew⟩, ?_⟩
          simp [intOf]; omega
        | some fb =>
          have hYk : k < Y := by have := (List.getElem?_eq_some_iff.1 hfr).1; have := HY.out; omega
          have hd1 : decide ((k : Int) < (Y : Int)) = true := decide_eq_true (by omega)
          have hYk' : (k : Int) < (Y : Int) := by omega
          have hxf : (fr.map Value.bool)[k]? = some (.bool fb) := by rw [List.getElem?_map, hfr]; rfl
          obtain ⟨af, rfl, _⟩ := HCF.out.cell HB.out.own.below hxf
          have HCE := Lib.hid fun (w' : World) (hw : Below w.heap.size w w') => show w'.cell? (af.add k) = some (.bool fb) from by
            obtain ⟨a', ha', hc'⟩ := HCF.out.cell hw hxf
            cases ha'
            exact hc'
          clear hfr hkk hxf
          cases fb with
          | false =>
            go_wp2_with (first
                | (at_builtin; refine wpList_append_row _ rfl _ _ 50 rfl w.heap.size 22 i0 (.int .u64 0) 8 Tryd.underlying50 hi0 hz0 hz1 hz2 rfl _ xs rfl HROW.out ⟨w2.heap.size, 0, none⟩ 1 (.int .u64 (ref : Int)) rfl (by simp) rfl (by have := HLEN.out; unfold maxLen; omega) (by have := HLEN.out; omega) (by have := hW2.out; simp; omega) ?_; intro g2 o2 cap4 w5 hrow2 hgrow2 hob hlt2; have H3 := Lib.hid ((H2.out.cell (.int .u64 (ref : Int)) 22).app (x := ref) (by rw [HXS.out]; exact hrow2) hgrow2 hob hlt2); have hcap4 := Lib.hid hrow2; clear hrow2 hgrow2 hob hlt2; have HROWS := Lib.hid (H3.out.cell (.int .i64 (N : Int)) 3).rowS; rw [HYS.out] at HROWS; have hW5 := Lib.hid H3.out.own.below.size)
                | (at_builtin; refine wpList_append_row _ rfl _ _ 52 rfl w.heap.size 3 i1 (.int .i64 0) 8 Tryd.underlying52 hi1 hy0 hy1 hy2 rfl _ ys rfl HROWS.out ⟨w5.heap.size, 0, none⟩ 1 (.int .i64 (N : Int)) rfl (by simp) rfl (by have := HLENS.out; unfold maxLen; omega) (by have := HLENS.out; omega) (by have := hW5.out; simp; omega) ?_; intro g3 o3 cap5 w6 hrow3 hgrow3 hob3 hlt3; have H4 := Lib.hid ((H3.out.cell (.int .i64 (N : Int)) 3).appS (x := N) (by rw [HYS.out]; exact hrow3) hgrow3 hob3 hlt3); clear hrow3 hgrow3 hob3 hlt3; have hcf := HCE.out _ H4.out.own.below)
                | go_in)
            have hnew : ApartAt w pb (.slice (some ⟨g2, o2, none⟩) (xs.length + 1) cap4) (.slice (some ⟨g3, o3, none⟩) (ys.length + 1) cap5) (k + 1) w6 := by
              refine ⟨rs ++ [(ref, N)], S', ?_, ?_, HR'.out.more⟩
              · have := HQ.out; rw [List.length_append]; simp only [List.length_cons, List.length_nil]; omega
              · rw [HMAP1.out, HMAP2.out]; exact H4.out
            refine ⟨⟨k + 1, by omega, by go_num, hnew⟩, ?_⟩
            simp [intOf]; omega
          | true =>
            go_wp2_with (first
                | (at_builtin; refine wpList_append_row _ rfl _ _ 50 rfl w.heap.size 22 i0 (.int .u64 0) 8 Tryd.underlying50 hi0 hz0 hz1 hz2 rfl _ xs rfl HROW.out ⟨w2.heap.size, 0, none⟩ 1 (.int .u64 (ref : Int)) rfl (by simp) rfl (by have := HLEN.out; unfold maxLen; omega) (by have := HLEN.out; omega) (by have := hW2.out; simp; omega) ?_; intro g2 o2 cap4 w5 hrow2 hgrow2 hob hlt2; have H3 := Lib.hid ((H2.out.cell (.int .u64 (ref : Int)) 22).app (x := ref) (by rw [HXS.out]; exact hrow2) hgrow2 hob hlt2); have hcap4 := Lib.hid hrow2; clear hrow2 hgrow2 hob hlt2; have HROWS := Lib.hid (H3.out.cell (.int .i64 (N : Int)) 3).rowS; rw [HYS.out] at HROWS; have hW5 := Lib.hid H3.out.own.below.size)
                | (at_builtin; refine wpList_append_row _ rfl _ _ 52 rfl w.heap.size 3 i1 (.int .i64 0) 8 Tryd.underlying52 hi1 hy0 hy1 hy2 rfl _ ys rfl HROWS.out ⟨w5.heap.size, 0, none⟩ 1 (.int .i64 (N : Int)) rfl (by simp) rfl (by have := HLENS.out; unfold maxLen; omega) (by have := HLENS.out; omega) (by have := hW5.out; simp; omega) ?_; intro g3 o3 cap5 w6 hrow3 hgrow3 hob3 hlt3; have H4 := Lib.hid ((H3.out.cell (.int .i64 (N : Int)) 3).appS (x := N) (by rw [HYS.out]; exact hrow3) hgrow3 hob3 hlt3); clear hrow3 hgrow3 hob3 hlt3; have hcf := HCE.out _ H4.out.own.below)
                | (go_at_call 28; obtain ⟨S2, hfree, hr2⟩ := HR'.out.free; refine (two_free H4.out HREF.out hfree).mono ?_; rintro e w7 ⟨rfl, h7⟩; have H7 := Lib.hid h7; have HR2 := Lib.hid hr2; obtain ⟨hq1, hq2⟩ := h7.row.caps; obtain ⟨hq3, hq4⟩ := h7.rowS.caps; clear h7 hr2 hfree)
                | (go_at_call 14; refine (no_nil _).mono ?_; rintro e w' ⟨rfl, rfl⟩)
                | go_in)
            have e1 := HLEN.out
            have e2 := HLENS.out
            rw [e1] at hq1 H7 ⊢
            rw [e2] at hq3 H7 ⊢
            clear e1 e2
            have u1 : IntKind.i64.wrap ((Q : Int) + 1 - 1) = (Q : Int) := by rw [show (Q : Int) + 1 - 1 = (Q : Int) by omega]; exact IntWalk.i64_in _ (by omega)
            have u2 : IntKind.i64.wrap (((Q + 1 : Nat) : Int) - 1) = (Q : Int) := by rw [show ((Q + 1 : Nat) : Int) - 1 = (Q : Int) by omega]; exact IntWalk.i64_in _ (by omega)
            have u3 : (Q : Int) ≤ (cap4 : Int) := by omega
            have u4 : (Q : Int) ≤ (cap5 : Int) := by omega
            have u5 : Q ≤ cap4 := by omega
            have u6 : Q ≤ cap5 := by omega
            have u7 : (0 : Int) ≤ (Q : Int) := by omega
            go_quiet (fail)
            go_wp2
            have hnew : ApartAt w pb (.slice (some ⟨g2, o2, none⟩) Q cap4) (.slice (some ⟨g3, o3, none⟩) Q cap5) (k + 1) (w7.drewN nq) := by
              refine ⟨rs, S2, ?_, ?_, HR2.out⟩
              · have := HQ.out; omega
              · exact H7.out.init.drewN nq
            refine ⟨⟨k + 1, by omega, by go_num, hnew⟩, ?_⟩
            simp [intOf]; omega
      · obtain rfl : Z = k := by omega
        have HB1 := Lib.hid (show Two w pb { S with ws := S.ws } (.slice p2 Q cap2) (.slice p3 Q cap3) (rs.map (·.1)) (rs.map (·.2)) wr from HB.out)
        have HLW := Lib.hid HAP.out.len
        clear HB
        have hQ30 : Q ≤ 30 := by omega
        go_wp2_with fail
        go_loopw [94] (fun i wr => ∃ (k : Nat) (ws : List Nat), k ≤ Q ∧ i = .int .i64 (k : Int) ∧ ws.length = 600 ∧ Two w pb { S with ws := ws } (.slice p2 Q cap2) (.slice p3 Q cap3) (rs.map (·.1)) (rs.map (·.2)) wr ∧ Filled rs ws k 0) (fun i _ => Q - (intOf i).toNat)
        case atStart => exact ⟨0, _, Nat.zero_le _, rfl, HLW.out, HB1.out, Filled.start _ _⟩
        case round =>
          obtain ⟨k, ws, hk, rfl, hws, hb, hfl⟩ := hrel
          have HB := Lib.hid hb
          have HWS := Lib.hid hws
          have HFL := Lib.hid hfl
          clear hb hws hfl
          by_cases hkQ : k < Q
          · obtain ⟨r, hr⟩ : ∃ r, rs[k]? = some r := ⟨_, List.getElem?_eq_getElem (by have := HQ.out; omega)⟩
            have hsz := HAP.out.size r (List.mem_of_getElem? hr)
            have hsm := HAP.out.small r (List.mem_of_getElem? hr)
            have HRK := Lib.hid hr
            obtain ⟨g, o, g', o', rfl, rfl, hc1, hc2⟩ := HB.out.at hr
            have hkQ' : (k : Int) < (Q : Int) := by omega
            have HSZ := Lib.hid hsz
            have HSM := Lib.hid hsm
            clear hr hsz hsm hc2
            go_wp2_with fail
            go_loopw [15] (fun i wr => ∃ (m : Nat) (ws : List Nat), m ≤ r.2 ∧ i = .int .i64 (m : Int) ∧ ws.length = 600 ∧ Two w pb { S with ws := ws } (.slice (some ⟨g, o, none⟩) Q cap2) (.slice (some ⟨g', o', none⟩) Q cap3) (rs.map (·.1)) (rs.map (·.2)) wr ∧ Filled rs ws k m) (fun i _ => r.2 - (intOf i).toNat)
            case atStart => exact ⟨0, ws, Nat.zero_le _, rfl, HWS.out, HB.out, HFL.out⟩
            case round =>
              obtain ⟨m, ws2, hm, rfl, hws, hb, hfl⟩ := hrel
              have HB2 := Lib.hid hb
              have HWS2 := Lib.hid hws
              have HFL2 := Lib.hid hfl
              obtain ⟨_, _, _, _, ha1, ha2, _, hc2⟩ := hb.at HRK.out
              cases ha1
              cases ha2
              obtain ⟨R2, hR2⟩ : ∃ R2, r.2 = R2 := ⟨_, rfl⟩
              obtain ⟨R1, hR1⟩ : ∃ R1, r.1 = R1 := ⟨_, rfl⟩
              have HR2 := Lib.hid hR2
              have HR1 := Lib.hid hR1
              have hR8 : R2 ≤ 8 := hR2 ▸ HSZ.out.2
              rw [hR2] at hm hc2 ⊢
              rw [hR1]
              clear hb hws hfl hR1 hR2
              by_cases hmk : m < R2
              · have hmk' : (m : Int) < (R2 : Int) := by omega
                obtain ⟨X, hX⟩ : ∃ X : Nat, 100 * k + m + 1 = X := ⟨_, rfl⟩
                have hX' : 100 * (k : Int) + (m : Int) + 1 = (X : Int) := by omega
                have HX := Lib.hid hX
                have HW := Lib.hid (HAP.out.word HRK.out (by have := HR2.out; omega) ws2 (i := m))
                have HF2 := Lib.hid (HAP.out.fill HOK.out HWS2.out HFL2.out HRK.out (by have := HR2.out; omega))
                rw [HR1.out] at HW HF2
                rw [hX] at HF2
                have HC := Lib.hid (two_store HB2.out (by have := HSM.out; have := HR1.out; omega) (m : Int) (x := X) (by omega) HW.out)
                clear hX
                go_wp2_with fail
                refine HC.out.mono ?_
                rintro e w3 ⟨rfl, h3⟩
                have H3 := Lib.hid h3
                clear h3 HC
                go_wp2_with fail
                refine (no_nil _).mono ?_
                rintro e w' ⟨rfl, rfl⟩
                go_wp2
                go_roundw
                case rel => exact ⟨m + 1, _, by have := HR2.out; omega, by go_num, by rw [List.length_set]; exact HWS2.out, H3.out, HF2.out⟩
                case measure => simp [intOf]; omega
              · obtain rfl : m = R2 := by omega
                go_wp2
                have hfin : Filled rs ws2 (k + 1) 0 := Filled.next (r := r) (by rw [HR2.out]; exact HFL2.out) HRK.out
                refine ⟨⟨k + 1, ws2, by omega, by go_num, HWS2.out, HB2.out, hfin⟩, ?_⟩
                simp [intOf]; omega
          · obtain rfl : Q = k := by omega
            clear HB1 hkQ
            go_wp2_with fail
            go_loopw [122] (fun i wr => ∃ (k : Nat), k ≤ Q ∧ i = .int .i64 (k : Int) ∧ Two w pb { S with ws := ws } (.slice p2 Q cap2) (.slice p3 Q cap3) (rs.map (·.1)) (rs.map (·.2)) wr) (fun i _ => Q - (intOf i).toNat)
            case atStart => exact ⟨0, Nat.zero_le _, rfl, HB.out⟩
            case round =>
              obtain ⟨k, hk, rfl, hb⟩ := hrel
              have HB1 := Lib.hid hb
              clear hb HB
              by_cases hkQ : k < Q
              · obtain ⟨r, hr⟩ : ∃ r, rs[k]? = some r := ⟨_, List.getElem?_eq_getElem (by have := HQ.out; omega)⟩
                have hsz := HAP.out.size r (List.mem_of_getElem? hr)
                have hsm := HAP.out.small r (List.mem_of_getElem? hr)
                have HRK := Lib.hid hr
                obtain ⟨g, o, g', o', rfl, rfl, hc1, hc2⟩ := HB1.out.at hr
                have hkQ' : (k : Int) < (Q : Int) := by omega
                have HSZ := Lib.hid hsz
                have HSM := Lib.hid hsm
                clear hr hsz hsm hc2
                go_wp2_with fail
                go_loopw [18] (fun i wr => ∃ (m : Nat), m ≤ r.2 ∧ i = .int .i64 (m : Int) ∧ Two w pb { S with ws := ws } (.slice (some ⟨g, o, none⟩) Q cap2) (.slice (some ⟨g', o', none⟩) Q cap3) (rs.map (·.1)) (rs.map (·.2)) wr) (fun i _ => r.2 - (intOf i).toNat)
                case atStart => exact ⟨0, Nat.zero_le _, rfl, HB1.out⟩
                case round =>
                  obtain ⟨m, hm, rfl, hb⟩ := hrel
                  have HB2 := Lib.hid hb
                  obtain ⟨_, _, _, _, ha1, ha2, _, hc2⟩ := hb.at HRK.out
                  cases ha1
                  cases ha2
                  obtain ⟨R2, hR2⟩ : ∃ R2, r.2 = R2 := ⟨_, rfl⟩
                  obtain ⟨R1, hR1⟩ : ∃ R1, r.1 = R1 := ⟨_, rfl⟩
                  have HR2 := Lib.hid hR2
                  have HR1 := Lib.hid hR1
                  have hR8 : R2 ≤ 8 := hR2 ▸ HSZ.out.2
                  rw [hR2] at hm hc2 ⊢
                  rw [hR1]
                  clear hb hR1 hR2
                  by_cases hmk : m < R2
                  · have hmk' : (m : Int) < (R2 : Int) := by omega
                    obtain ⟨X, hX⟩ : ∃ X : Nat, 100 * k + m + 1 = X := ⟨_, rfl⟩
                    have hX' : 100 * (k : Int) + (m : Int) + 1 = (X : Int) := by omega
                    have hget := HFL.out k m r HRK.out (by have := HR2.out; omega) (.inl hkQ)
                    rw [HR1.out, hX] at hget
                    have HW := Lib.hid (HAP.out.word HRK.out (by have := HR2.out; omega) ws (i := m))
                    rw [HR1.out] at HW
                    have hC := two_load HB2.out (by have := HSM.out; have := HR1.out; omega) (m : Int) HW.out
                    rw [show ({ S with ws := ws } : BS).ws.getD (R1 % 4294967296 + 1 + m) 0 = X from hget] at hC
                    have HC := Lib.hid hC
                    clear hX hC hget
                    go_wp2_with fail
                    refine HC.out.mono ?_
                    rintro e w3 ⟨rfl, h3⟩
                    have H3 := Lib.hid h3
                    clear h3 HC
                    go_wp2_with fail
                    refine (no_nil _).mono ?_
                    rintro e w' ⟨rfl, rfl⟩
                    go_wp2
                    go_roundw
                    case rel => exact ⟨m + 1, by have := HR2.out; omega, by go_num, H3.out⟩
                    case measure => simp [intOf]; omega
                  · obtain rfl : m = R2 := by omega
                    go_wp2
                    refine ⟨⟨k + 1, by omega, by go_num, HB2.out⟩, ?_⟩
                    simp [intOf]; omega
              · obtain rfl : Q = k := by omega
                have hlv : (liveRefs ({ S with ws := ws } : BS).bl).length = Q := by
                  show (liveRefs S.bl).length = Q
                  rw [live_count, HAP.out.lives, HQ.out]
                have hL := two_live HB1.out
                rw [hlv] at hL
                have HL := Lib.hid hL
                have HAL := Lib.hid fun (w' : World) (h : Below w.heap.size w w') => alive_ok w' (HA.out.below hgl.out h)
                clear hlv hL HB1 HA HAP HOK HFL HLW
                go_wp2_with fail
                refine HL.out.mono ?_
                rintro e w3 ⟨⟨pp, cc, rfl⟩, hb3⟩
                have HB3 := Lib.hid hb3
                clear hb3 HL
                go_wp2_with fail
                refine (HAL.out _ HB3.out).mono ?_
                rintro e w4 ⟨rfl, hb4⟩
                have HB4 := Lib.hid (HB3.out.trans (hb4.mono HB3.out.size))
                clear hb4 HAL HB3
                go_wp2
                go_ret
                exact ⟨rfl, HB4.out⟩
  · have hd : decide ((30 : Int) < (Z : Int)) = true := decide_eq_true (by omega)
    have HAL := Lib.hid (alive_ok w1 (HA.out.below hgl.out H0.out.below))
    have HBL := Lib.hid H0.out.below
    clear H0 HA
    go_wp2_with fail
    refine HAL.out.mono ?_
    rintro e w3 ⟨rfl, hb3⟩
    have HB3 := Lib.hid (HBL.out.trans (hb3.mono HBL.out.size))
    clear hb3 HAL HBL
    go_wp2
    go_ret
    exact ⟨rfl, HB3.out⟩
end Go.Proofs.YtfehonejcambgaaDoor
