/- Layer 18's laws: the scene. -/
import Derived.Test.YtdipidiahekpkaaGreatDoorSceneC
import Derived.BigQuiet
import Derived.Deep.QuietTactic
namespace Go.Proofs.YtdipidiahekpkaaGreatDoor
open Go.RowKit Bl Th
set_option maxRecDepth 10000

def cnt4 : List Nat := [3, 6, 9, 12]
def sceneRunC : Nat × TS (Nat × List Nat) × BS := Th.run (fun s _ c => sceneF s c) 7000 (0, Th.start (0, []), ⟨List.replicate 2000 0, 1, [], []⟩)
def sceneSC : BS := sceneRunC.2.2
theorem sceneRunC_ok : sceneRunC.1 = 0 ∧ sceneRunC.2.1.done = true ∧ sceneRunC.2.1.aux = (1, cnt4) := ⟨by kernel_rfl, by kernel_rfl, by kernel_rfl⟩
/-- A number below 4: each case. -/
theorem below4 {p : Nat → Prop} (h0 : p 0) (h1 : p 1) (h2 : p 2) (h3 : p 3) : ∀ i, i < 4 → p i := by
  intro i hi
  rcases (by omega : i = 0 ∨ i = 1 ∨ i = 2 ∨ i = 3) with rfl | rfl | rfl | rfl
  · exact h0
  · exact h1
  · exact h2
  · exact h3
theorem sceneC_sc : Sc 4 sceneSC 0 (fun _ => rest 0) (fun _ => 0) := by
  refine ⟨by kernel_rfl, below4 ?_ ?_ ?_ ?_, below4 ?_ ?_ ?_ ?_, by kernel_rfl, below4 ?_ ?_ ?_ ?_, below4 ?_ ?_ ?_ ?_, by decide +kernel, below4 ?_ ?_ ?_ ?_⟩
  all_goals first | kernel_rfl | (decide +kernel)
theorem cnt4_map : cnt4 = (List.range 4).map (3 + 3 * ·) := by kernel_rfl
theorem cnt4_stripe (a : Int) : stripe cnt4 a = 3 + 3 * (toU a % 4) := by
  have h : toU a % 4 < 4 := Nat.mod_lt _ (by omega)
  unfold stripe
  show cnt4.getD (toU a % 4) 0 = _
  rcases (by omega : toU a % 4 = 0 ∨ toU a % 4 = 1 ∨ toU a % 4 = 2 ∨ toU a % 4 = 3) with q | q | q | q
  all_goals rw [q]; rfl
set_option maxHeartbeats 2000000 in
theorem sceneC_ok {W : World} (hg : Handle W) (w : World) (hW : W = w) :
    Calls Tryz.prog 4 #[] w fun e w' => ∃ pa pb g cap, e = .returned (.tuple #[.pointer (some ⟨pb, 0, none⟩), .int .u64 1, .slice (some ⟨g, 0, none⟩) 4 cap]) ∧ Held W [g] pa pb sceneSC w' ∧ CellsIn w' g cnt4 ∧ w.heap.size ≤ g := by
  subst hW
  have HG := Lib.hid hg
  have hmf : ∀ (fn : Fn) (first cap : Array Value) (w : World), (Instr.makeFunc fn first cap).run Tryz.prog w = .ok (.func fn first cap) w := fun _ _ _ _ => rfl
  clear hg
  go_enter Tryz.func4, Tryz.ntmps4
  go_wp2_with fail
  refine (on_held 2000 1 (by omega) (by omega) (by omega) _).mono ?_
  rintro e w1 ⟨pa, pb, rfl, hh⟩
  have B2 : Below w1.heap.size w1 ((w1.alloc (.cells #[.int .u64 0] 25)).alloc (.cells #[.slice none 0 0] 26)) := ((Below.refl _ _).alloc (Nat.le_refl _) _).alloc (by simp) _
  have c0 := (Cells.new w1 [.int .u64 0] 25).alloc (.cells #[.slice none 0 0] 26)
  have c1 := Cells.new (w1.alloc (.cells #[.int .u64 0] 25)) [.slice none 0 0] 26
  rw [World.size_alloc] at c1
  obtain ⟨w2, hw2⟩ : ∃ w2, (w1.alloc (.cells #[.int .u64 0] 25)).alloc (.cells #[.slice none 0 0] 26) = w2 := ⟨_, rfl⟩
  have hz2 : w2.heap.size = w1.heap.size + 2 := by rw [← hw2]; simp
  rw [hw2] at B2 c0 c1
  have hW := hh.below.size
  have h2 : Held W ([w1.heap.size, w1.heap.size + 1] ++ []) pa pb ⟨List.replicate 2000 0, 1, [], []⟩ w2 := (hh.came B2 [w1.heap.size, w1.heap.size + 1] (by intro b hb; simp at hb; omega))
  have hq : (csAux W w1.heap.size (w1.heap.size + 1)).at' (0, []) [w1.heap.size, w1.heap.size + 1] w2 := ⟨.slice none 0 0, rfl, by omega, by simp [Value.ownBlock], by simp [Value.ownBlock], hW, by omega, c0, c1, World.ownsRow_nil _ _ _ _⟩
  have hrun : Th.run (fun s _ c => sceneF s c) 7000 (0, Th.start (0, []), ⟨List.replicate 2000 0, 1, [], []⟩) = (0, sceneRunC.2.1, sceneRunC.2.2) := Prod.ext (show sceneRunC.1 = 0 from sceneRunC_ok.1) rfl
  have HAL := Lib.hid (alone_ok (sceneC1_ok HG.out) h2 hq (by simp) hrun sceneRunC_ok.2.1)
  clear hh B2 c0 c1 h2 hq hrun hz2 hW
  go_wp2_with fail
  refine HAL.out.mono ?_
  rintro e w3 ⟨Q', rfl, ha, hh, -, -⟩
  rw [sceneRunC_ok.2.2] at ha
  obtain ⟨lv, rfl, -, -, -, -, -, a1, a2, a3⟩ := ha
  have q0 := a1.cell 0
  have q1 := a2.cell 0
  simp only [List.getElem?_cons_zero] at q0 q1
  obtain ⟨p, cap, rfl⟩ := ownsRow_shape a3
  obtain ⟨g, rfl⟩ : ∃ g, p = some ⟨g, 0, none⟩ := by
    rcases a3.2 with ⟨-, h0⟩ | ⟨g, c, cur, hv, -, -⟩
    · simp [cnt4] at h0
    · simp only [Value.slice.injEq] at hv
      exact ⟨g, hv.1⟩
  have HF := Lib.hid (show Held W [g] pa pb sceneSC w3 ∧ CellsIn w3 g cnt4 ∧ W.heap.size ≤ g from ⟨hh.less (fun b hb => by simp at hb; simp [hb, Value.ownBlock]), fun k x hx => by
    have hk := (List.getElem?_eq_some_iff.1 hx).1
    rw [a3.cellAt k (by simp [cnt4] at hk ⊢; omega)]
    simp [encU, List.getElem?_map, hx], (a3.lt g rfl).1⟩)
  clear hh a1 a2 a3 HAL hw2
  go_wp2
  go_quiet (fail)
  go_wp2
  go_ret3
  exact ⟨pa, pb, g, cap, rfl, HF.out.1.drewN _, HF.out.2⟩
end Go.Proofs.YtdipidiahekpkaaGreatDoor
