/- Layer 2 (blocks): the law's example (alive), and what is none. -/
import Derived.Test.YtfehonejcambgaaDoorOwn
namespace Go.Proofs.YtfehonejcambgaaDoor
open Go.RowKit Bl
set_option maxRecDepth 10000

/-- Where errors.As finds the type 'error'. -/
def Handle (w : World) : Prop := w.cell? ⟨0, 0, none⟩ = some (.iface 129 (.agg #[.pointer (some ⟨1, 30, none⟩)]))
theorem Handle.lt {w : World} (h : Handle w) : 0 < w.heap.size := World.block_lt_of_cell? w _ h
theorem Handle.below {B : Nat} {w w' : World} (h : Handle w) (hB : 0 < B) (k : Below B w w') : Handle w' := (k.cell hB).trans h

set_option maxHeartbeats 1000000 in
theorem place_fault {w : World} {v : Value} {a n : Int} (hf : FaultAt w v a n) (hg : Handle w) :
    Calls Tryd.prog 52 #[v] w fun e w' => e = .returned (.int .i64 a) ∧ Below w.heap.size w w' := by
  obtain ⟨f, rfl, hc⟩ := hf
  have hl := hc.lt
  have hc0 : w.cell? ⟨f, 0, none⟩ = some (.int .i64 a) := by simpa using hc.cell 0
  have hgl := hg.lt
  clear hc
  go_enter Tryd.func52, Tryd.ntmps52
  go_wp2_with fail
  refine (as_hit ⟨f, 0, none⟩ ⟨w.heap.size, 0, none⟩ (.pointer none) _ ?_ ?_ ?_).mono ?_
  · exact (World.cell?_alloc_lt _ _ ⟨0, 0, none⟩ hgl).trans hg
  · simp
  · simp
  rintro e w1 ⟨rfl, hw1⟩
  have hB : Below w.heap.size w w1 := by
    rw [hw1]
    refine Below.setCell (((((((Below.refl _ _).alloc (Nat.le_refl _) _).alloc (by simp) _).alloc (by simp; omega) _).alloc (by simp; omega) _).alloc (by simp; omega) _)) (Nat.le_refl _) _
  have q0 : w1.cell? ⟨w.heap.size, 0, none⟩ = some (.pointer (some ⟨f, 0, none⟩)) := by
    rw [hw1]
    refine World.cell?_setCell_same _ _ _ (u := .pointer none) ?_
    rw [World.cell?_alloc_lt _ _ ⟨w.heap.size, 0, none⟩ (by simp; omega), World.cell?_alloc_lt _ _ ⟨w.heap.size, 0, none⟩ (by simp; omega), World.cell?_alloc_lt _ _ ⟨w.heap.size, 0, none⟩ (by simp; omega), World.cell?_alloc_lt _ _ ⟨w.heap.size, 0, none⟩ (by simp)]
    simp
  have q1 : w1.cell? ⟨f, 0, none⟩ = some (.int .i64 a) := (hB.cell hl).trans hc0
  have HB := Lib.hid hB
  clear hB hw1
  go_wp2
  go_ret
  exact ⟨rfl, HB.out⟩

set_option maxHeartbeats 400000 in
theorem bword_stale {w : World} {pb : Nat} {L : Lay} {S : BS} (h : Rep w pb L S) (ref : Nat) (hr : ref < 18446744073709551616) (i : Int) (hf : find S ref = none) :
    Calls Tryd.prog 36 #[.pointer (some ⟨pb, 0, none⟩), .int .u64 ref, .int .i64 i] w fun e w' => ∃ v, e = .returned (.tuple #[.int .i64 0, v]) ∧ FaultAt w' v ((ref % 4294967296 : Nat) : Int) 5 ∧ Below w.heap.size w w' := by
  have HC := Lib.hid (find_bad h ref hr hf)
  clear h hf
  go_enter Tryd.func36, Tryd.ntmps36
  go_wp2_with fail
  refine HC.out.mono ?_
  rintro e w1 ⟨v, rfl, hv, hb⟩
  obtain ⟨f, rfl, hc⟩ := hv
  have HF := Lib.hid hc; have HB := Lib.hid hb
  clear hc hb
  go_wp2
  go_ret2
  exact ⟨_, rfl, ⟨f, rfl, HF.out⟩, HB.out⟩
set_option maxHeartbeats 400000 in
theorem bload_stale {w : World} {pb : Nat} {L : Lay} {S : BS} (h : Rep w pb L S) (ref : Nat) (hr : ref < 18446744073709551616) (i : Int) (hf : find S ref = none) :
    Calls Tryd.prog 32 #[.pointer (some ⟨pb, 0, none⟩), .int .u64 ref, .int .i64 i] w fun e w' => ∃ v, e = .returned (.tuple #[.int .u64 0, v]) ∧ FaultAt w' v ((ref % 4294967296 : Nat) : Int) 5 ∧ Below w.heap.size w w' := by
  have HC := Lib.hid (bword_stale h ref hr i hf)
  clear h hf
  go_enter Tryd.func32, Tryd.ntmps32
  go_wp2_with fail
  refine HC.out.mono ?_
  rintro e w1 ⟨v, rfl, ⟨f, rfl, hc⟩, hb⟩
  have HF := Lib.hid hc; have HB := Lib.hid hb
  clear hc hb
  go_wp2
  go_ret2
  exact ⟨_, rfl, ⟨f, rfl, HF.out⟩, HB.out⟩

set_option maxHeartbeats 400000 in
theorem bnew_nil (i : Int) (w : World) : Calls Tryd.prog 35 #[.pointer none, .int .i64 i] w fun e w' => e = .returned (.tuple #[.pointer none, .iface 64 (.int .i64 1)]) ∧ w = w' := by
  go_enter Tryd.func35, Tryd.ntmps35
  go_wp2_with (go_at_call 61; refine (arena_len_nil _).mono ?_; rintro e w' ⟨rfl, rfl⟩)
  go_ret2
  exact ⟨rfl, rfl⟩

/-- The example's blocks, step by step. -/
def e0 : BS := ⟨List.replicate 8 0, 2, [], []⟩
def e1 : BS := ⟨[0, 0, 5, 0, 0, 0, 0, 0], 5, [(2, ⟨2, 0, true⟩)], []⟩
def e2 : BS := ⟨[0, 0, 4294967300, 0, 0, 0, 0, 0], 5, [(2, ⟨2, 1, false⟩)], [(2, [2])]⟩
def e3 : BS := ⟨[0, 0, 4294967301, 0, 0, 0, 0, 0], 5, [(2, ⟨2, 1, true⟩)], [(2, [])]⟩
theorem alloc_e0 : alloc e0 2 = .ok (2, e1) := by kernel_rfl
theorem free_e1 : free e1 2 = some e2 := by kernel_rfl
theorem alloc_e2 : alloc e2 2 = .ok (4294967298, e3) := by kernel_rfl
theorem find_e3 : find e3 2 = none := by kernel_rfl
theorem used_e3 : usedBy e3.bl = 3 := by kernel_rfl

set_option maxHeartbeats 1000000 in
theorem alive_ok (w : World) (hg : Handle w) : Calls Tryd.prog 26 #[] w fun e w' => e = .returned (.bool true) ∧ Below w.heap.size w w' := by
  have HG := Lib.hid hg
  have hgl := Lib.hid hg.lt
  clear hg
  go_enter Tryd.func26, Tryd.ntmps26
  go_wp2_with fail
  refine (on_ok 8 2 (by omega) (by omega) (by omega) w).mono ?_
  rintro e w1 ⟨pa, pb, rfl, h0⟩
  have HC := Lib.hid (own_alloc (S := e0) h0 alloc_e0)
  clear h0
  go_wp2_with fail
  refine HC.out.mono ?_
  rintro e w2 ⟨rfl, h1, _⟩
  have HC1 := Lib.hid (own_free h1 (by omega) free_e1)
  clear h1 HC
  go_wp2_with fail
  refine HC1.out.mono ?_
  rintro e w3 ⟨rfl, h2, _⟩
  obtain ⟨Y, hY⟩ : ∃ Y : Nat, 4294967298 = Y := ⟨_, rfl⟩
  have gY : decide ((Y : Int) = 4294967298) = true := by rw [← hY]; rfl
  have gY' : ((Y : Int) == 4294967298) = true := by rw [← hY]; rfl
  have HC2 := Lib.hid (own_alloc h2 (hY ▸ alloc_e2))
  clear hY
  clear h2 HC1
  go_wp2_with fail
  refine HC2.out.mono ?_
  rintro e w4 ⟨rfl, h3, _⟩
  have H3 := Lib.hid h3
  obtain ⟨L, hr, _⟩ := h3.lay
  have HC3 := Lib.hid (bload_stale hr 2 (by omega) 0 find_e3)
  clear h3 hr HC2
  go_wp2_with fail
  refine HC3.out.mono ?_
  rintro e w5 ⟨v, rfl, hv0, hb⟩
  have hv : FaultAt w5 v 2 5 := hv0
  clear hv0
  have H4 := Lib.hid (H3.out.below' hb)
  have HN := Lib.hid (no_err hv.err (by omega) (by omega))
  have HP := Lib.hid (place_fault hv (HG.out.below hgl.out H4.out.below))
  clear hv hb HC3 H3
  go_wp2_with fail
  refine (no_nil _).mono ?_
  rintro e w' ⟨rfl, rfl⟩
  go_wp2_with fail
  refine (no_nil _).mono ?_
  rintro e w' ⟨rfl, rfl⟩
  go_wp2_with fail
  refine (no_nil _).mono ?_
  rintro e w' ⟨rfl, rfl⟩
  go_wp2_with fail
  refine HN.out.mono ?_
  rintro e w' ⟨rfl, rfl⟩
  go_wp2_with fail
  refine HP.out.mono ?_
  rintro e w6 ⟨rfl, hb⟩
  have H5 := Lib.hid (H4.out.below' hb)
  have HU := Lib.hid (own_used H5.out)
  clear hb HN HP H4
  go_wp2_with fail
  refine HU.out.mono ?_
  rintro e w7 ⟨rfl, h7, _⟩
  rw [used_e3]
  have H7 := Lib.hid h7.below
  clear h7 HU H5
  go_wp2
  go_ret
  exact ⟨rfl, H7.out⟩

theorem no_one (w : World) : Calls Tryd.prog 14 #[.iface 64 (.int .i64 1)] w fun e w' => e = .returned (.int .i64 1) ∧ w = w' :=
  no_err (k := 1) (Or.inl rfl) (by omega) (by omega)

set_option maxHeartbeats 2000000 in
theorem blocksNil_ok (ref : Int) (i : Int) (x : Int) (w : World) (hg : Handle w) : Calls Tryd.prog 7 #[.int .u64 ref, .int .i64 i, .int .u64 x] w fun e w' => e = .returned (.bool true) ∧ Below w.heap.size w w' := by
  have HA := Lib.hid (alive_ok w hg)
  clear hg
  go_enter Tryd.func7, Tryd.ntmps7
  go_wp2_with fail
  refine (bnew_nil _ _).mono ?_
  rintro e w' ⟨rfl, rfl⟩
  go_wp2_with fail
  refine (bload_nil _ _ _).mono ?_
  rintro e w' ⟨rfl, rfl⟩
  go_wp2_with fail
  refine (alloc_nil _ _).mono ?_
  rintro e w' ⟨rfl, rfl⟩
  go_wp2_with fail
  refine (bword_nil _ _ _).mono ?_
  rintro e w' ⟨rfl, rfl⟩
  go_wp2_with fail
  refine (bsize_nil _ _).mono ?_
  rintro e w' ⟨rfl, rfl⟩
  go_wp2_with fail
  refine (bcas_nil _ _ _ _ _).mono ?_
  rintro e w' ⟨rfl, rfl⟩
  go_wp2_with fail
  refine (no_one _).mono ?_
  rintro e w' ⟨rfl, rfl⟩
  go_wp2_with fail
  refine (no_one _).mono ?_
  rintro e w' ⟨rfl, rfl⟩
  go_wp2_with fail
  refine (no_one _).mono ?_
  rintro e w' ⟨rfl, rfl⟩
  go_wp2_with fail
  refine (no_one _).mono ?_
  rintro e w' ⟨rfl, rfl⟩
  go_wp2_with fail
  refine (no_one _).mono ?_
  rintro e w' ⟨rfl, rfl⟩
  go_wp2_with fail
  refine (no_one _).mono ?_
  rintro e w' ⟨rfl, rfl⟩
  go_wp2_with fail
  refine (bstore_nil _ _ _ _).mono ?_
  rintro e w' ⟨rfl, rfl⟩
  go_wp2_with fail
  refine (no_one _).mono ?_
  rintro e w' ⟨rfl, rfl⟩
  go_wp2_with fail
  refine (bfree_nil _ _).mono ?_
  rintro e w' ⟨rfl, rfl⟩
  go_wp2_with fail
  refine (no_one _).mono ?_
  rintro e w' ⟨rfl, rfl⟩
  go_wp2_with fail
  refine (live_nil _).mono ?_
  rintro e w' ⟨rfl, rfl⟩
  go_wp2_with fail
  refine (used_nil _).mono ?_
  rintro e w' ⟨rfl, rfl⟩
  go_wp2_with fail
  refine (btop_nil _).mono ?_
  rintro e w' ⟨rfl, rfl⟩
  go_wp2_with fail
  refine HA.out.mono ?_
  rintro e w' ⟨rfl, hb⟩
  have HB := Lib.hid hb
  clear hb HA
  go_wp2
  go_ret
  exact ⟨rfl, HB.out⟩
end Go.Proofs.YtfehonejcambgaaDoor
