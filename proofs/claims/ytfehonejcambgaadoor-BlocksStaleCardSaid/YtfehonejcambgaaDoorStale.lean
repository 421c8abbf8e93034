/- BlocksStale: the walk. -/
import Derived.Test.YtfehonejcambgaaDoorBoth
namespace Go.Proofs.YtfehonejcambgaaDoor
open Go.RowKit Bl
set_option maxRecDepth 100000

theorem zeros_len' (ws : List Nat) (p : Nat) : ∀ n, (zeros ws p n).length = ws.length
  | 0 => rfl
  | n + 1 => by simp [zeros, zeros_len' ws p n]
/-- The ref of round j. -/
def rfOf (j : Nat) : Nat := j * 4294967296 + 3
theorem rfOf_lt {j : Nat} (h : j < 100) : rfOf j < 18446744073709551616 := by unfold rfOf; omega
theorem rfOf_mod (j : Nat) : rfOf j % 4294967296 = 3 := ref_mod j
theorem rfOf_div (j : Nat) : rfOf j / 4294967296 = j := ref_div j

set_option maxHeartbeats 1000000 in
theorem blocksStale_ok (n times : Int) (w : World) (hg : Handle w) : Calls Tryd.prog 6 #[.int .i64 n, .int .i64 times] w fun e w' => e = .returned (.bool true) ∧ Below w.heap.size w w' := by
  have HA := Lib.hid hg
  have hgl := Lib.hid hg.lt
  clear hg
  go_enter Tryd.func6, Tryd.ntmps6
  go_wp2_with fail
  refine (on_ok 100 3 (by omega) (by omega) (by omega) w).mono ?_
  rintro e w1 ⟨pa, pb, rfl, h0⟩
  have H0 := Lib.hid h0
  clear h0
  go_wp2_with fail
  obtain ⟨N, hN1, hN8, hN⟩ := in_eight n
  obtain ⟨T, hT1, hT30, hT⟩ := in_thirty times
  rw [hN, hT]
  have HB0 := Lib.hid (show Both w pb (stBefore N (List.replicate 100 0) 0) (.slice none 0 0) [] w1 from ⟨H0.out, Row.nil _ _ _⟩)
  clear H0 hN hT
  go_loopw [7, 8] (fun v i wr => ∃ k ws, k ≤ T ∧ i = .int .i64 (k : Int) ∧ ws.length = 100 ∧ Both w pb (stBefore N ws k) v ((List.range k).map rfOf) wr) (fun _ i _ => T - (intOf i).toNat)
  case atStart => exact ⟨0, _, Nat.zero_le _, rfl, by simp, HB0.out⟩
  case round =>
    obtain ⟨k, ws, hk, rfl, hws, hb⟩ := hrel
    obtain ⟨p, cap, hv⟩ := hb.row.shape
    rw [List.length_map, List.length_map, List.length_range] at hv
    subst hv
    have HB := Lib.hid hb
    have HWS := Lib.hid hws
    clear hb hws
    by_cases hlt : k < T
    · have hlt' : (k : Int) < (T : Int) := by omega
      obtain ⟨rf, hrf⟩ : ∃ rf : Nat, k * 4294967296 + 3 = rf := ⟨_, rfl⟩
      have HRF := Lib.hid hrf
      have hrk : (k : Int) * 4294967296 + 3 = (rf : Int) := by omega
      have hrl : (rf : Int) < 18446744073709551616 := by omega
      have HC := Lib.hid (both_alloc HB.out (hrf ▸ st_alloc N k ws hN1 hN8 HWS.out))
      clear hrf
      go_wp2_with fail
      refine HC.out.mono ?_
      rintro e w2 ⟨rfl, h2⟩
      have H2 := Lib.hid h2
      clear h2 HC
      go_wp2_with fail
      refine (no_nil _).mono ?_
      rintro e w' ⟨rfl, rfl⟩
      go_wp2_with fail
      obtain ⟨ws1, hw1⟩ : ∃ ws1, zeros (ws.set 3 (headOf ⟨N, k, true⟩)) 4 N = ws1 := ⟨_, rfl⟩
      have HW1 := Lib.hid hw1
      rw [hw1] at H2
      clear hw1
      go_loopw [59] (fun i wr => ∃ m : Nat, m ≤ k ∧ i = .int .i64 (m : Int) ∧ Both w pb (stIn N ws1 k) (.slice p k cap) ((List.range k).map rfOf) wr) (fun i _ => k - (intOf i).toNat)
      case atStart => exact ⟨0, Nat.zero_le _, rfl, H2.out⟩
      case round =>
        obtain ⟨m, hm, rfl, hb⟩ := hrel
        have H3 := Lib.hid hb
        by_cases hmk : m < k
        · obtain ⟨g, o, cap', hv, _, _, hcs⟩ := hb.row.cells (by rw [List.length_map, List.length_map, List.length_range]; omega)
          rw [List.length_map, List.length_map, List.length_range] at hv hcs
          obtain ⟨rfl, _, rfl⟩ := Value.slice.inj hv
          have hcell := (hcs m hmk).1
          rw [List.getElem?_map, List.getElem?_map, List.getElem?_range hmk] at hcell
          simp only [Option.map_some, encR] at hcell
          have hst := st_stale N k m (rfOf m) ws1 hmk (rfOf_mod m) (rfOf_div m)
          have hrm := rfOf_lt (j := m) (by omega)
          obtain ⟨rm, hrmm⟩ : ∃ rm, rfOf m = rm := ⟨_, rfl⟩
          rw [hrmm] at hcell hst hrm
          have HST := Lib.hid hst
          have HRM := Lib.hid hrm
          have hmk' : (m : Int) < (k : Int) := by omega
          clear hb hcs hv hst hrm hrmm
          have HC := Lib.hid (both_load_bad H3.out HRM.out 0 HST.out)
          go_wp2_with fail
          refine HC.out.mono ?_
          rintro e w3 ⟨f1, rfl, hs1⟩
          have S1 := Lib.hid hs1
          have H4 := Lib.hid (H3.out.below' hs1.2)
          have HC1 := Lib.hid (both_cas_bad H4.out HRM.out 0 0 1 HST.out)
          clear hs1 HC
          go_wp2_with fail
          refine HC1.out.mono ?_
          rintro e w4 ⟨f2, rfl, hs2⟩
          have S2 := Lib.hid hs2
          have H5 := Lib.hid (H4.out.below' hs2.2)
          have N1 := Lib.hid (no_err (S1.out.1.below hs2.2) (by omega) (by omega))
          have N2 := Lib.hid (no_err hs2.1 (by omega) (by omega))
          have HC2 := Lib.hid (both_store_bad H5.out HRM.out 0 1 HST.out)
          clear hs2 HC1
          go_wp2_with fail
          refine N1.out.mono ?_
          rintro e w' ⟨rfl, rfl⟩
          go_wp2_with fail
          refine N2.out.mono ?_
          rintro e w' ⟨rfl, rfl⟩
          go_wp2_with fail
          refine HC2.out.mono ?_
          rintro e w5 ⟨f3, rfl, hs3⟩
          have H6 := Lib.hid (H5.out.below' hs3.2)
          have N3 := Lib.hid (no_err hs3.1 (by omega) (by omega))
          have HC3 := Lib.hid (both_free_bad H6.out HRM.out HST.out)
          clear hs3 HC2 N1 N2
          go_wp2_with fail
          refine N3.out.mono ?_
          rintro e w' ⟨rfl, rfl⟩
          go_wp2_with fail
          refine HC3.out.mono ?_
          rintro e w6 ⟨f4, rfl, hs4⟩
          have H7 := Lib.hid (H6.out.below' hs4.2)
          have N4 := Lib.hid (no_err hs4.1 (by omega) (by omega))
          clear hs4 HC3 N3
          go_wp2_with fail
          refine N4.out.mono ?_
          rintro e w' ⟨rfl, rfl⟩
          go_wp2
          go_roundw
          case rel => exact ⟨m + 1, by omega, by go_num, H7.out⟩
          case measure => simp [intOf]; omega
        · obtain rfl : k = m := by omega
          clear hb hm H2
          have e1 : rf % 4294967296 = 3 := by have := HRF.out; omega
          have e2 : rf / 4294967296 = k := by have := HRF.out; omega
          have hz : ws1.getD 4 0 = 0 := by rw [← HW1.out]; exact zeros_getD _ 4 N 4 (Nat.le_refl _) (by omega)
          have hl1 : ws1.length = 100 := by rw [← HW1.out, zeros_len']; simpa using HWS.out
          have HC := Lib.hid (both_load H3.out (ref := rf) (by omega) 0 (st_word N k rf ws1 hN1 e1 e2))
          have HZ := Lib.hid hz
          have HL1 := Lib.hid hl1
          have HF := Lib.hid (st_free N k rf ws1 (by omega) e1 e2)
          clear e1 e2 hz hl1
          go_wp2_with fail
          refine HC.out.mono ?_
          rintro e w3 ⟨rfl, h3⟩
          rw [show (stIn N ws1 k).ws.getD 4 0 = 0 from HZ.out]
          have HC1 := Lib.hid (both_free h3 (by omega) HF.out)
          clear h3 HC HZ
          go_wp2_with fail
          refine (no_nil _).mono ?_
          rintro e w' ⟨rfl, rfl⟩
          go_wp2_with fail
          refine HC1.out.mono ?_
          rintro e w4 ⟨rfl, h4⟩
          have H4 := Lib.hid h4
          have hW4 := Lib.hid h4.own.below.size
          clear h4 HC1
          go_wp2_with fail
          refine (no_nil _).mono ?_
          rintro e w' ⟨rfl, rfl⟩
          obtain ⟨i0, hi0, hz0, hz1, hz2⟩ := info_parts uintInfo
          have hROW : Row (w4.alloc (.cells #[.int .u64 (rf : Int)] 22)) w.heap.size 22 (.slice p k cap) (((List.range k).map rfOf).map encR) := (H4.out.below' ((Below.refl _ _).alloc (Nat.le_refl _) _)).row
          have HROW := Lib.hid hROW
          have hlen : (((List.range k).map rfOf).map encR).length = k := by simp
          obtain ⟨xs, hxs⟩ : ∃ xs, ((List.range k).map rfOf).map encR = xs := ⟨_, rfl⟩
          rw [hxs] at HROW hlen
          have HXS := Lib.hid hxs
          have HLEN := Lib.hid hlen
          clear hROW hxs hlen
          go_wp2_with (first
            | (at_builtin; refine wpList_append_row _ rfl _ _ 50 rfl w.heap.size 22 i0 (.int .u64 0) 8 Tryd.underlying50 hi0 hz0 hz1 hz2 rfl _ xs rfl HROW.out ⟨w4.heap.size, 0, none⟩ 1 (.int .u64 (rf : Int)) rfl (by simp) rfl (by have := HLEN.out; unfold maxLen; omega) (by have := HLEN.out; omega) (by have := hW4.out; simp; omega) ?_; intro g2 o2 cap2 w5 hrow2 hgrow2 hob hlt2)
            | go_in)
          have hnew : Both w pb (stBefore N (ws1.set 3 (headOf ⟨N, k + 1, false⟩)) (k + 1)) (.slice (some ⟨g2, o2, none⟩) (xs.length + 1) cap2) ((List.range (k + 1)).map rfOf) w5 := by
            have e : (List.range (k + 1)).map rfOf = (List.range k).map rfOf ++ [rf] := by
              rw [List.range_succ, List.map_append]
              have : rfOf k = rf := HRF.out
              simp [this]
            rw [e]
            refine (H4.out.below' ((Below.refl _ _).alloc (Nat.le_refl _) _)).app (x := rf) ?_ hgrow2 hob hlt2
            rw [HXS.out]
            exact hrow2
          have hm1 : k + 1 ≤ T := by omega
          refine ⟨⟨k + 1, ws1.set 3 (headOf ⟨N, k + 1, false⟩), hm1, by go_num, by rw [List.length_set]; exact HL1.out, hnew⟩, ?_⟩
          clear hrk
          simp [intOf]; omega
    · obtain rfl : T = k := by omega
      clear HWS
      obtain ⟨j, rfl⟩ : ∃ j, T = j + 1 := ⟨T - 1, by omega⟩
      have HU := Lib.hid (both_used HB.out)
      rw [st_used] at HU
      have HA1 := Lib.hid fun (w' : World) (h : Both w pb (stBefore N ws (j + 1)) (.slice p (j + 1) cap) ((List.range (j + 1)).map rfOf) w') => And.intro (both_top h) (And.intro (alive_ok w' (HA.out.below hgl.out h.own.below)) h.own.below)
      clear HB HA
      go_wp2_with fail
      refine HU.out.mono ?_
      rintro e w2 ⟨rfl, h2⟩
      obtain ⟨ht, hal, hbl⟩ := HA1.out w2 h2
      have HT := Lib.hid ht
      have HAL := Lib.hid hal
      have HBL := Lib.hid hbl
      clear h2 ht hal hbl HU HA1
      go_wp2_with fail
      refine HT.out.mono ?_
      rintro e w' ⟨rfl, rfl⟩
      rw [show (((stBefore N ws (j + 1)).top : Nat) : Int) = 3 + (N : Int) + 1 from by show ((4 + N : Nat) : Int) = _; omega]
      go_wp2_with fail
      refine HAL.out.mono ?_
      rintro e w3 ⟨rfl, hb3⟩
      have HB3 := Lib.hid (HBL.out.trans (hb3.mono HBL.out.size))
      clear hb3 HAL HBL HT
      go_wp2
      go_ret
      exact ⟨rfl, HB3.out⟩
end Go.Proofs.YtfehonejcambgaaDoor
