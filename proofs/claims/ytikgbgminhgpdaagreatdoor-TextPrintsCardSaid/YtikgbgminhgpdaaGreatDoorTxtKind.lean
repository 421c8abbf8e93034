/- Layer 10 (text): word, form, kindOf. -/
import Derived.Test.YtikgbgminhgpdaaGreatDoorTxtBase
import Derived.Test.YtikgbgminhgpdaaGreatDoorTextPlain
import Derived.Test.YtikgbgminhgpdaaGreatDoorRows
import Derived.WalkKit
namespace Go.Proofs.YtikgbgminhgpdaaGreatDoor
open Go.RowKit Tx
set_option maxRecDepth 10000

def wordOf (k : Nat) : Bs := kinds.getD (k - 1) []
theorem word_ok {k : Nat} (h1 : 1 ≤ k) (h2 : k ≤ 16) (w : World) : Calls Tryz.prog 59 #[.int .i64 (k : Int)] w fun e w' => e = .returned (.string ⟨(wordOf k).toArray⟩) ∧ w = w' := by
  rcases (by omega : k = 1 ∨ k = 2 ∨ k = 3 ∨ k = 4 ∨ k = 5 ∨ k = 6 ∨ k = 7 ∨ k = 8 ∨ k = 9 ∨ k = 10 ∨ k = 11 ∨ k = 12 ∨ k = 13 ∨ k = 14 ∨ k = 15 ∨ k = 16) with rfl | rfl | rfl | rfl | rfl | rfl | rfl | rfl | rfl | rfl | rfl | rfl | rfl | rfl | rfl | rfl
  all_goals
    go_enter Tryz.func59, Tryz.ntmps59
    go_wp2
    go_ret
    exact ⟨rfl, rfl⟩
theorem form_ok {k : Nat} (h2 : k ≤ 16) (w : World) : Calls Tryz.prog 37 #[.int .i64 (k : Int)] w fun e w' => e = .returned (.string ⟨(form k).toArray⟩) ∧ w = w' := by
  rcases (by omega : k = 0 ∨ k = 1 ∨ k = 2 ∨ k = 3 ∨ k = 4 ∨ k = 5 ∨ k = 6 ∨ k = 7 ∨ k = 8 ∨ k = 9 ∨ k = 10 ∨ k = 11 ∨ k = 12 ∨ k = 13 ∨ k = 14 ∨ k = 15 ∨ k = 16) with rfl | rfl | rfl | rfl | rfl | rfl | rfl | rfl | rfl | rfl | rfl | rfl | rfl | rfl | rfl | rfl | rfl
  all_goals
    go_enter Tryz.func37, Tryz.ntmps37
    go_wp2
    go_ret
    exact ⟨rfl, rfl⟩
theorem kindFrom_le : ∀ (l : List Bs) (k : Nat) (s : Bs), kindFrom l k s = 0 ∨ (k ≤ kindFrom l k s ∧ kindFrom l k s < k + l.length)
  | [], _, _ => .inl rfl
  | w :: l, k, s => by
    unfold kindFrom
    split
    · right
      simp only [List.length_cons]
      omega
    · rcases kindFrom_le l (k + 1) s with h | h
      · exact .inl h
      · right
        simp only [List.length_cons]
        omega
theorem kindOf_le (s : Bs) : kindOf s ≤ 16 := by
  have := kindFrom_le kinds 1 s
  unfold kindOf
  have e : kinds.length = 16 := rfl
  omega
end Go.Proofs.YtikgbgminhgpdaaGreatDoor
