/- TqueueNil: run by the executor, in three cases of the places: none, too many, or as many as may be (then it is made 0). -/
import Derived.Test.YtidlloojkpeepaaGreatDoorSxEnvOk
namespace Go.Proofs.YtidlloojkpeepaaGreatDoor
open Go.RowKit Bl Th Go.Sx
set_option maxRecDepth 100000
def hintTqueueNil : Nat → List Nat
  | 22 => [18, 19]
  | 52 => [44, 45]
  | 462 => [454, 455]
  | 903 => [895, 896]
  | _ => []
theorem tqueueNil_run2 : trueB (callX (env hintTqueueNil) 1000 5 [.float .f64 0, .float .f64 2] m0) = true := by kernel_rfl
theorem tqueueNil_run3 : trueB (callX (env hintTqueueNil) 1000 5 [.float .f64 0, .float .f64 3] m0) = true := by kernel_rfl
theorem tqueueNil_run4 : trueB (callX (env hintTqueueNil) 1000 5 [.float .f64 0, .float .f64 4] m0) = true := by kernel_rfl
theorem tqueueNil_ok (x n : Int) (w : World) (hg : Handle w) : Calls Tryz.prog 5 #[.int .u64 x, .int .i64 n] w fun e w' => e = .returned (.bool true) ∧ Below w.heap.size w w' := by
  have hx : Rel (fun _ => none) (.float .f64 0) (.int .u64 x) := .unk _ _ ⟨rfl, fun h => by cases h⟩
  by_cases h1 : n ≤ 0
  · exact law_run tqueueNil_run2 (args' := [.int .u64 x, .int .i64 n]) (.cons hx (.cons (.unk _ _ ⟨rfl, fun _ => ⟨n, rfl, fun _ h => (by cases h), fun _ h => (by cases h; exact h1)⟩⟩) (.nil _))) w hg
  · by_cases h2 : 41 ≤ n
    · exact law_run tqueueNil_run3 (args' := [.int .u64 x, .int .i64 n]) (.cons hx (.cons (.unk _ _ ⟨rfl, fun _ => ⟨n, rfl, fun _ h => (by cases h; exact h2), fun _ h => (by cases h)⟩⟩) (.nil _))) w hg
    · exact law_run tqueueNil_run4 (args' := [.int .u64 x, .int .i64 n]) (.cons hx (.cons (.unk _ _ ⟨rfl, fun _ => ⟨n, rfl, fun _ h => (by cases h; omega), fun _ h => (by cases h; omega)⟩⟩) (.nil _))) w hg
end Go.Proofs.YtidlloojkpeepaaGreatDoor
