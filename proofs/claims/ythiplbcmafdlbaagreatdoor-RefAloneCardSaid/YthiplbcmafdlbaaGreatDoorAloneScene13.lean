/- Layer 13's laws: the scene as transactions that run alone find it. -/
import Derived.Test.YthiplbcmafdlbaaGreatDoorAlonePlain13
import Derived.Test.YthiplbcmafdlbaaGreatDoorScene
namespace Go.Proofs.YthiplbcmafdlbaaGreatDoor
open Bl Th
set_option maxRecDepth 10000

/-- A number below 3: each case. -/
theorem below3 {p : Nat → Prop} {n : Nat} (hn : n ≤ 3) (h0 : 0 < n → p 0) (h1 : 1 < n → p 1) (h2 : 2 < n → p 2) : ∀ i, i < n → p i := by
  intro i hi
  rcases (by omega : i = 0 ∨ i = 1 ∨ i = 2) with rfl | rfl | rfl
  · exact h0 hi
  · exact h1 hi
  · exact h2 hi
theorem scene_sc {n : Nat} (h1 : 1 ≤ n) (h3 : n ≤ 3) : Sc n (sceneS n) 0 (fun _ => rest 0) (fun i => 10 + i) := by
  rcases (by omega : n = 1 ∨ n = 2 ∨ n = 3) with rfl | rfl | rfl
  all_goals
    refine ⟨by kernel_rfl, below3 (by omega) ?_ ?_ ?_, below3 (by omega) ?_ ?_ ?_, by kernel_rfl, below3 (by omega) ?_ ?_ ?_, below3 (by omega) ?_ ?_ ?_, by decide +kernel, below3 (by omega) ?_ ?_ ?_⟩
    all_goals intro h; first | (exact absurd h (by decide)) | kernel_rfl | (decide +kernel)
theorem scene_cell {n : Nat} (h1 : 1 ≤ n) (h3 : n ≤ 3) (a : Int) : cellAt (sceneCells n) a = 3 + 3 * (a % (n : Int)).toNat := by
  have hl : (sceneCells n).length = n := by simp [sceneCells]
  have h1' := Int.emod_nonneg a (b := (n : Int)) (by omega)
  have h2' := Int.emod_lt_of_pos a (b := (n : Int)) (by omega)
  unfold cellAt
  rw [hl]
  have hj : (a % (n : Int)).toNat < n := by omega
  simp [sceneCells, List.getD_eq_getElem?_getD, hj]
end Go.Proofs.YthiplbcmafdlbaaGreatDoor
