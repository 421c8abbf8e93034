/- ThreadNil: the walk. -/
import Derived.Test.YtfehonejcambgaaDoorLaw05
namespace Go.Proofs.YtfehonejcambgaaDoor
open Go.RowKit Bl Th
set_option maxRecDepth 100000

theorem no_ev1 (w : World) : Calls Tryd.prog 14 #[errV 1] w fun e w' => e = .returned (.int .i64 1) ∧ w = w' := no_any (n := 1) (errV_err w (by omega))

set_option maxHeartbeats 4000000 in
theorem threadNil_ok (ref i x : Int) (w : World) (hg : Handle w) : Calls Tryd.prog 3 #[.int .u64 ref, .int .i64 i, .int .u64 x] w fun e w' => e = .returned (.bool true) ∧ Below w.heap.size w w' := by
  have HG := Lib.hid hg
  have hgl := Lib.hid hg.lt
  clear hg
  go_enter Tryd.func3, Tryd.ntmps3
  go_wp2_with fail
  refine (on_held 20 1 (by omega) (by omega) (by omega) w).mono ?_
  rintro e w1 ⟨pa, pb, rfl, h1⟩
  have H1 := Lib.hid h1.below
  clear h1
  go_wp2_with fail
  refine (cload_nil _ _ _).mono ?_
  rintro e w2 ⟨rfl, hb⟩
  have H2 := Lib.hid (H1.out.trans (hb.mono H1.out.size))
  clear hb H1
  go_wp2_with fail
  refine (ccas_nil _ _ _ _ _).mono ?_
  rintro e w3 ⟨rfl, hb⟩
  have H3 := Lib.hid (H2.out.trans (hb.mono H2.out.size))
  clear hb H2
  go_wp2_with fail
  refine (calloc_nil _ _).mono ?_
  rintro e w4 ⟨rfl, hb⟩
  have H4 := Lib.hid (H3.out.trans (hb.mono H3.out.size))
  clear hb H3
  go_wp2_with fail
  refine (body_ok _ ⟨_, _, _, rfl⟩ _).mono ?_
  rintro e w5 ⟨rfl, hw⟩
  have H5 := Lib.hid (show Below w.heap.size w w5 from hw ▸ H4.out.alloc H4.out.size _)
  clear hw H4
  go_wp2_with fail
  refine (tnew_nil _ _).mono ?_
  rintro e w' ⟨rfl, rfl⟩
  go_wp2_with fail
  refine (tnew_nobody _ _).mono ?_
  rintro e w' ⟨rfl, rfl⟩
  go_wp2_with fail
  refine (tstep_nil _).mono ?_
  rintro e w' ⟨rfl, rfl⟩
  go_wp2_with fail
  refine (no_ev1 _).mono ?_
  rintro e w' ⟨rfl, rfl⟩
  go_wp2_with fail
  refine (trun_nil _ _).mono ?_
  rintro e w' ⟨rfl, rfl⟩
  go_wp2_with fail
  refine (no_ev1 _).mono ?_
  rintro e w' ⟨rfl, rfl⟩
  go_wp2_with fail
  refine (tdone_nil _).mono ?_
  rintro e w' ⟨rfl, rfl⟩
  go_wp2_with fail
  refine (terr_nil _).mono ?_
  rintro e w' ⟨rfl, rfl⟩
  go_wp2_with fail
  refine (no_nil _).mono ?_
  rintro e w' ⟨rfl, rfl⟩
  go_wp2_with fail
  refine (tround_nil _).mono ?_
  rintro e w' ⟨rfl, rfl⟩
  go_wp2_with fail
  refine (tsteps_nil _).mono ?_
  rintro e w' ⟨rfl, rfl⟩
  go_wp2_with fail
  refine (tlog_nil _).mono ?_
  rintro e w' ⟨rfl, rfl⟩
  go_wp2_with fail
  refine (no_ev1 _).mono ?_
  rintro e w' ⟨rfl, rfl⟩
  go_wp2_with fail
  refine (no_ev1 _).mono ?_
  rintro e w' ⟨rfl, rfl⟩
  go_wp2_with fail
  refine (no_ev1 _).mono ?_
  rintro e w' ⟨rfl, rfl⟩
  go_wp2_with fail
  refine (cstore_nil _ _ _ _).mono ?_
  rintro e w6 ⟨rfl, hb⟩
  have H6 := Lib.hid (H5.out.trans (hb.mono H5.out.size))
  clear hb H5
  go_wp2_with fail
  refine (no_ev1 _).mono ?_
  rintro e w' ⟨rfl, rfl⟩
  go_wp2_with fail
  refine (cfree_nil _ _).mono ?_
  rintro e w7 ⟨rfl, hb⟩
  have H7 := Lib.hid (H6.out.trans (hb.mono H6.out.size))
  clear hb H6
  go_wp2_with fail
  refine (no_ev1 _).mono ?_
  rintro e w' ⟨rfl, rfl⟩
  go_wp2_with fail
  refine (left_nil _).mono ?_
  rintro e w' ⟨rfl, rfl⟩
  go_wp2_with fail
  refine (alive5_ok _ (HG.out.below hgl.out H7.out)).mono ?_
  rintro e w8 ⟨rfl, hb⟩
  have H8 := Lib.hid (H7.out.trans (hb.mono H7.out.size))
  clear hb H7
  go_wp2
  go_ret
  exact ⟨rfl, H8.out⟩
end Go.Proofs.YtfehonejcambgaaDoor
