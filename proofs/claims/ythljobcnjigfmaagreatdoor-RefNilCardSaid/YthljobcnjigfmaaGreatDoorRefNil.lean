/- RefNil: the walk. -/
import Derived.Test.YthljobcnjigfmaaGreatDoorAlive13
namespace Go.Proofs.YthljobcnjigfmaaGreatDoor
open Go.RowKit Bl Th
set_option maxRecDepth 100000

theorem hmf0 (fn : Fn) (first cap : Array Value) (w : World) : (Instr.makeFunc fn first cap).run Tryz.prog w = .ok (.func fn first cap) w := rfl
set_option maxHeartbeats 400000 in
theorem cload_nil (ref i : Int) (w : World) : Calls Tryz.prog 142 #[.pointer none, .int .u64 ref, .int .i64 i] w fun e w' => e = .returned (.tuple #[.int .u64 0, errV 1]) ∧ Below w.heap.size w w' := by
  have hmf := hmf0
  go_enter Tryz.func142, Tryz.ntmps142
  go_wp2_with fail
  refine (access_nil _ _).mono ?_
  rintro e w1 ⟨he, hb⟩
  rw [show (encE Th.blank).toArray = #[.int .i64 0, .int .u64 0, .int .i64 0, .int .u64 0, .bool false, .int .i64 0] from rfl] at he
  subst he
  have HB := Lib.hid hb
  clear hb
  go_wp2
  go_ret2
  exact ⟨rfl, (((((Below.refl _ _).alloc (Nat.le_refl _) _).alloc (by simp) _).alloc (by simp; omega) _).trans (HB.out.mono (by simp; omega))).alloc (by have := HB.out.size; simp at this; omega) _⟩
set_option maxHeartbeats 400000 in
theorem now_nil (clock : Int) (w : World) : Calls Tryz.prog 90 #[.pointer none, .int .u64 clock] w fun e w' => ∃ x v E, e = .returned (.tuple #[.int .i64 x, v]) ∧ Err w' v 1 E ∧ Below w.heap.size w w' := by
  go_enter Tryz.func90, Tryz.ntmps90
  go_wp2_with fail
  refine (cload_nil _ _ _).mono ?_
  rintro e w1 ⟨rfl, hb⟩
  have HB := Lib.hid hb
  have HI := Lib.hid (fun s => in_any s (errV_err w1 (n := 1) (by omega)))
  clear hb
  go_wp2_with fail
  refine (HI.out _).mono ?_
  rintro e w2 ⟨v, E, rfl, he, -, hb, -⟩
  have HE := Lib.hid he; have HB2 := Lib.hid (HB.out.trans (hb.mono HB.out.size))
  clear he hb HI
  go_wp2
  go_ret2
  exact ⟨_, _, _, rfl, HE.out, HB2.out⟩
set_option maxHeartbeats 400000 in
theorem begin_nil (clock owner : Int) (w : World) : Calls Tryz.prog 20 #[.pointer none, .int .u64 clock, .int .i64 owner] w fun e w' => ∃ v E, e = .returned (.tuple #[.pointer none, v]) ∧ Err w' v 1 E ∧ Below w.heap.size w w' := by
  go_enter Tryz.func20, Tryz.ntmps20
  go_wp2_with fail
  refine (now_nil _ _).mono ?_
  rintro e w1 ⟨x, v, E, rfl, he, hb⟩
  have HF := Lib.hid (show ∃ v' E', Ending.returned (.tuple #[.pointer none, v]) = .returned (.tuple #[.pointer none, v']) ∧ Err w1 v' 1 E' ∧ Below w.heap.size w w1 from ⟨v, E, rfl, he, hb⟩)
  obtain ⟨tt, xx, rfl⟩ := he.iface (by omega)
  clear he hb
  go_wp2
  go_ret2
  exact HF.out
set_option maxHeartbeats 400000 in
theorem tread_none (p : Value) (cell : Int) (w : World) : Calls Tryz.prog 23 #[.pointer none, p, .int .u64 cell] w fun e w' => e = .returned (.tuple #[.int .u64 0, errV 1]) ∧ w = w' := by
  go_enter Tryz.func23, Tryz.ntmps23
  go_wp2_with (go_at_call 92; refine (tmade_nil _).mono ?_; rintro e w' ⟨rfl, rfl⟩)
  go_ret2
  exact ⟨rfl, rfl⟩
theorem twrite_none (cell value : Int) (w : World) : Calls Tryz.prog 21 #[.pointer none, .int .u64 cell, .int .u64 value] w fun e w' => e = .returned (errV 1) ∧ w = w' := by
  go_enter Tryz.func21, Tryz.ntmps21
  go_wp2_with (go_at_call 92; refine (tmade_nil _).mono ?_; rintro e w' ⟨rfl, rfl⟩)
  go_ret
  exact ⟨rfl, rfl⟩
theorem no_ev1 (w : World) : Calls Tryz.prog 26 #[errV 1] w fun e w' => e = .returned (.int .i64 1) ∧ w = w' := no_any (n := 1) (errV_err w (by omega))

set_option maxHeartbeats 1000000 in
theorem refNil_ok (cell value : Int) (w : World) (hg : Handle w) : Calls Tryz.prog 5 #[.int .u64 cell, .int .u64 value] w fun e w' => e = .returned (.bool true) ∧ Below w.heap.size w w' := by
  have hgl := Lib.hid hg.lt
  have HG := Lib.hid hg
  clear hg
  go_enter Tryz.func5, Tryz.ntmps5
  go_wp2_with fail
  refine (begin_nil _ _ _).mono ?_
  rintro e w1 ⟨v, E, rfl, he, hb⟩
  have HE := Lib.hid he; have H1 := Lib.hid hb
  clear he hb
  go_wp2_with fail
  refine (tread_none _ _ _).mono ?_
  rintro e w' ⟨rfl, rfl⟩
  go_wp2_with fail
  refine (tcommit_nil _ _).mono ?_
  rintro e w2 ⟨rfl, hb⟩
  have HN := Lib.hid (no_any (HE.out.under hb))
  have H2 := Lib.hid (H1.out.trans (hb.mono H1.out.size))
  have HA := Lib.hid (alive13_ok w2 (HG.out.below hgl.out H2.out))
  clear hb HE H1
  go_wp2_with fail
  refine (HN.out).mono ?_
  rintro e w' ⟨rfl, rfl⟩
  go_wp2_with fail
  refine (no_ev1 _).mono ?_
  rintro e w' ⟨rfl, rfl⟩
  go_wp2_with fail
  refine (twrite_none _ _ _).mono ?_
  rintro e w' ⟨rfl, rfl⟩
  go_wp2_with fail
  refine (no_ev1 _).mono ?_
  rintro e w' ⟨rfl, rfl⟩
  go_wp2_with fail
  refine (tcheck_nil _ _).mono ?_
  rintro e w' ⟨rfl, rfl⟩
  go_wp2_with fail
  refine (no_ev1 _).mono ?_
  rintro e w' ⟨rfl, rfl⟩
  go_wp2_with fail
  refine (no_ev1 _).mono ?_
  rintro e w' ⟨rfl, rfl⟩
  go_wp2_with fail
  refine (treads_nil _).mono ?_
  rintro e w' ⟨rfl, rfl⟩
  go_wp2_with fail
  refine (twrites_nil _).mono ?_
  rintro e w' ⟨rfl, rfl⟩
  go_wp2_with fail
  refine (tstamp_nil _).mono ?_
  rintro e w' ⟨rfl, rfl⟩
  go_wp2_with fail
  refine (HA.out).mono ?_
  rintro e w9 ⟨rfl, hb9⟩
  have H9 := Lib.hid (H2.out.trans (hb9.mono H2.out.size))
  clear hb9
  go_wp2
  go_ret
  exact ⟨rfl, H9.out⟩
end Go.Proofs.YthljobcnjigfmaaGreatDoor
