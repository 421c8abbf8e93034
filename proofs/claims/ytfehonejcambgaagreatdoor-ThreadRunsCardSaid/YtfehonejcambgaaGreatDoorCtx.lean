/- Layer 5 (thread): told, number. -/
import Derived.Test.YtfehonejcambgaaGreatDoorHold
import Derived.StillTailTactics
import Derived.Deep.RegionHeld3
import Derived.Deep.AppendLies
namespace Go.Proofs.YtfehonejcambgaaGreatDoor
open Go.RowKit Bl Th
set_option maxRecDepth 10000

/-- An error by its number. -/
def errV (n : Nat) : Value := if n = 0 then .nilIface else .iface 61 (.int .i64 (n : Int))
theorem errV_err (w : World) {n : Nat} (h : n ≤ 17) : Err w (errV n) n [] := by
  unfold errV
  split
  · rename_i e; subst e; exact .none
  · exact .no n (by omega) h

set_option maxHeartbeats 400000 in
theorem told_any (n : Nat) (hn : n ≤ 17) (w : World) : Calls Tryz.prog 55 #[.int .i64 (n : Int)] w fun e w' => e = .returned (errV n) ∧ w = w' := by
  unfold errV
  by_cases h : n = 0
  · subst h
    rw [if_pos rfl]
    go_enter Tryz.func55, Tryz.ntmps55
    go_wp2
    go_ret
    exact ⟨rfl, rfl⟩
  · rw [if_neg h]
    have h0 : ((n : Int) == 0) = false := by rw [beq_eq_false_iff_ne]; omega
    have h1 : (n == 0) = false := by rw [beq_eq_false_iff_ne]; omega
    clear h
    go_enter Tryz.func55, Tryz.ntmps55
    go_wp2
    go_ret
    exact ⟨rfl, rfl⟩

set_option maxHeartbeats 1000000 in
theorem number_any {w : World} {v : Value} {n : Nat} {E : List Nat} (h : Err w v n E) (hg : Handle w) :
    Calls Tryz.prog 42 #[v] w fun e w' => e = .returned (.int .i64 (n : Int)) ∧ Below w.heap.size w w' := by
  have hgl := hg.lt
  have hB : ∀ (t o v) , Below w.heap.size w (((((w.alloc (.cells #[.int .i64 0] 61)).alloc t).alloc o).alloc o).alloc v) := fun t o v =>
    ((((Below.refl _ _).alloc (Nat.le_refl _) _).alloc (by simp) _).alloc (by simp; omega) _).alloc (by simp; omega) _ |>.alloc (by simp; omega) _
  have HB := Lib.hid hB
  clear hB
  cases h with
  | none =>
    clear hg hgl HB
    go_enter Tryz.func42, Tryz.ntmps42
    go_wp2
    go_ret
    exact ⟨rfl, (Below.refl _ _).alloc (Nat.le_refl _) _⟩
  | no n h1 h2 =>
    clear h1 h2
    go_enter Tryz.func42, Tryz.ntmps42
    go_wp2_with fail
    refine (an_hit (n : Int) ⟨w.heap.size, 0, none⟩ (.int .i64 0) _ ?_ ?_ ?_).mono ?_
    · exact (World.cell?_alloc_lt _ _ ⟨0, 0, none⟩ hgl).trans hg
    · simp
    · simp
    rintro e w1 ⟨rfl, hw1⟩
    have hb : Below w.heap.size w w1 := by
      rw [hw1]
      exact Below.setCell (HB.out _ _ _) (Nat.le_refl _) _
    have q0 : w1.cell? ⟨w.heap.size, 0, none⟩ = some (.int .i64 (n : Int)) := by
      rw [hw1]
      refine World.cell?_setCell_same _ _ _ (u := .int .i64 0) ?_
      rw [World.cell?_alloc_lt _ _ ⟨w.heap.size, 0, none⟩ (by simp; omega), World.cell?_alloc_lt _ _ ⟨w.heap.size, 0, none⟩ (by simp; omega), World.cell?_alloc_lt _ _ ⟨w.heap.size, 0, none⟩ (by simp; omega), World.cell?_alloc_lt _ _ ⟨w.heap.size, 0, none⟩ (by simp)]
      simp
    have HW := Lib.hid hb
    clear hb hw1 HB
    go_wp2
    go_ret
    exact ⟨rfl, HW.out⟩
  | fault f a n h1 h2 hc =>
    have hc1 : w.cell? ⟨f, 0 + 1, none⟩ = some (.int .i64 (n : Int)) := by simpa using hc.cell 1
    have hfl := hc.lt
    have HC := Lib.hid hc1
    clear h1 h2 hc hc1
    go_enter Tryz.func42, Tryz.ntmps42
    go_wp2_with fail
    refine (an_fault f 0 (n : Int) ⟨w.heap.size, 0, none⟩ (.int .i64 0) _ ?_ ?_ ?_ ?_).mono ?_
    · exact (World.cell?_alloc_lt _ _ ⟨0, 0, none⟩ hgl).trans hg
    · exact (World.cell?_alloc_lt _ _ ⟨f, 0 + 1, none⟩ hfl).trans HC.out
    · simp
    · simp
    rintro e w1 ⟨rfl, hw1⟩
    have hb : Below w.heap.size w w1 := by
      rw [hw1]
      exact Below.setCell (HB.out _ _ _) (Nat.le_refl _) _
    have q0 : w1.cell? ⟨w.heap.size, 0, none⟩ = some (.int .i64 (n : Int)) := by
      rw [hw1]
      refine World.cell?_setCell_same _ _ _ (u := .int .i64 0) ?_
      rw [World.cell?_alloc_lt _ _ ⟨w.heap.size, 0, none⟩ (by simp; omega), World.cell?_alloc_lt _ _ ⟨w.heap.size, 0, none⟩ (by simp; omega), World.cell?_alloc_lt _ _ ⟨w.heap.size, 0, none⟩ (by simp; omega), World.cell?_alloc_lt _ _ ⟨w.heap.size, 0, none⟩ (by simp)]
      simp
    have HW := Lib.hid hb
    clear hb hw1 HB HC
    go_wp2
    go_ret
    exact ⟨rfl, HW.out⟩
end Go.Proofs.YtfehonejcambgaaGreatDoor
