/- Layer 10 (text): what errors are told as: No, Place. -/
import Derived.Test.YtikgbgminhgpdaaGreatDoorTxtTree
import Derived.Test.YtikgbgminhgpdaaGreatDoorErr
import Derived.Test.YtikgbgminhgpdaaGreatDoorAs
namespace Go.Proofs.YtikgbgminhgpdaaGreatDoor
open Go.RowKit Tx
set_option maxRecDepth 10000

theorem Flt.err {B : Nat} {w : World} {v : Value} {a n : Int} (h : Flt B w v a n) : ErrNo w v n := by
  obtain ⟨f, rfl, hc, _⟩ := h
  have := hc.cell 1
  first | exact Or.inr ⟨f, 0, rfl, by simpa using this⟩ | exact Or.inr (Or.inr ⟨f, 0, rfl, by simpa using this⟩)
theorem Flt.kept {S : Nat → Prop} {B : Nat} {w w' : World} {v : Value} {a n : Int} (h : Flt B w v a n) (k : Kept S w w') (hs : ∀ b, B ≤ b → b < w.heap.size → ¬ S b) : Flt B w' v a n := by
  obtain ⟨f, h1, h2, h3⟩ := h
  exact ⟨f, h1, h2.kept k (hs f h3 h2.lt), h3⟩
set_option maxHeartbeats 1000000 in
theorem place_flt {B : Nat} {w : World} {v : Value} {a n : Int} (hf : Flt B w v a n) (hg : Handle w) :
    Calls Tryz.prog 12 #[v] w fun e w' => e = .returned (.int .i64 a) ∧ Below w.heap.size w w' := by
  obtain ⟨f, rfl, hc, _⟩ := hf
  have hl := hc.lt
  have hc0 : w.cell? ⟨f, 0, none⟩ = some (.int .i64 a) := by simpa using hc.cell 0
  have hgl := hg.lt
  clear hc
  go_enter Tryz.func12, Tryz.ntmps12
  go_wp2_with fail
  refine (as_hit ⟨f, 0, none⟩ ⟨w.heap.size, 0, none⟩ (.pointer none) _ ?_ ?_ ?_).mono ?_
  · exact (World.cell?_alloc_lt _ _ ⟨0, 0, none⟩ hgl).trans hg
  · simp
  · simp
  rintro e w1 ⟨rfl, hw1⟩
  have hB : Below w.heap.size w w1 := by
    rw [hw1]
    refine Below.setCell (((((((Below.refl _ _).alloc (Nat.le_refl _) _).alloc (by simp) _).alloc (by simp; omega) _).alloc (by simp; omega) _).alloc (by simp; omega) _)) (Nat.le_refl _) _
  have q0 : w1.cell? ⟨w.heap.size, 0, none⟩ = some (.pointer (some ⟨f, 0, none⟩)) := by
    rw [hw1]
    refine World.cell?_setCell_same _ _ _ (u := .pointer none) ?_
    rw [World.cell?_alloc_lt _ _ ⟨w.heap.size, 0, none⟩ (by simp; omega), World.cell?_alloc_lt _ _ ⟨w.heap.size, 0, none⟩ (by simp; omega), World.cell?_alloc_lt _ _ ⟨w.heap.size, 0, none⟩ (by simp; omega), World.cell?_alloc_lt _ _ ⟨w.heap.size, 0, none⟩ (by simp)]
    simp
  have q1 : w1.cell? ⟨f, 0, none⟩ = some (.int .i64 a) := (hB.cell hl).trans hc0
  have HB := Lib.hid hB
  clear hB hw1
  go_wp2
  go_ret
  exact ⟨rfl, HB.out⟩

theorem place_nil (w : World) : Calls Tryz.prog 12 #[.nilIface] w fun e w' => e = .returned (.int .i64 0) ∧ Below w.heap.size w w' := by
  have HA := Lib.hid (as_nil (.iface 62 (.pointer (some ⟨w.heap.size, 0, none⟩))) (w.alloc (.cells #[.pointer none] 60)))
  have HB := Lib.hid ((Below.refl w.heap.size w).alloc (Nat.le_refl _) (.cells #[.pointer none] 60))
  go_enter Tryz.func12, Tryz.ntmps12
  go_wp2_with fail
  refine HA.out.mono ?_
  rintro e w1 ⟨rfl, rfl⟩
  go_wp2
  go_ret
  exact ⟨rfl, HB.out⟩
end Go.Proofs.YtikgbgminhgpdaaGreatDoor
