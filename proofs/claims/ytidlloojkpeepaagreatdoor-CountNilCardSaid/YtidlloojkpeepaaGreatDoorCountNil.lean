/- CountNil: run by the executor. -/
import Derived.Test.YtidlloojkpeepaaGreatDoorSxEnvOk
namespace Go.Proofs.YtidlloojkpeepaaGreatDoor
open Go.RowKit Bl Th Go.Sx
set_option maxRecDepth 100000
def hintCountNil : Nat → List Nat
  | 21 => [17, 18]
  | 45 => [38]
  | _ => []
theorem countNil_run : trueB (callX (env hintCountNil) 1000 3 [.float .f64 1, .float .f64 0] m0) = true := by kernel_rfl
theorem countNil_ok (a : Int) (b : Int) (w : World) (hg : Handle w) : Calls Tryz.prog 3 #[.int .i64 a, .int .i64 b] w fun e w' => e = .returned (.bool true) ∧ Below w.heap.size w w' :=
  law_run countNil_run (args' := [.int .i64 a, .int .i64 b]) (RelL.cons (.unk _ _ _ ⟨rfl, fun _ => ⟨_, rfl⟩⟩) (RelL.cons (.unk _ _ _ ⟨rfl, fun h => by cases h⟩) (RelL.nil _))) w hg
end Go.Proofs.YtidlloojkpeepaaGreatDoor
