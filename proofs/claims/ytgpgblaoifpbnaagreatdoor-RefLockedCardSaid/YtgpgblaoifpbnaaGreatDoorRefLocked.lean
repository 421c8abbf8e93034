/- RefLocked: run by the executor. -/
import Derived.Test.YtgpgblaoifpbnaaGreatDoorSxEnvOk
namespace Go.Proofs.YtgpgblaoifpbnaaGreatDoor
open Go.RowKit Bl Th Go.Sx
set_option maxRecDepth 100000
def hintRefLocked : Nat → List Nat
  | 7 => [3, 4]
  | 29 => [17]
  | 117 => [101]
  | 228 => [224, 225]
  | 243 => [235]
  | _ => []
theorem refLocked_run (a : Nat) : trueB (callX (env hintRefLocked) 1000 3 [.float .f32 a] m0) = true := by kernel_rfl
theorem refLocked_ok (a : Nat) (ha : a < 18446744073709551616) (w : World) (hg : Handle w) : Calls Tryz.prog 3 #[.int .u64 (a : Int)] w fun e w' => e = .returned (.bool true) ∧ Below w.heap.size w w' :=
  law_run (refLocked_run a) (args' := [.int .u64 (a : Int)]) (RelL.cons (.wrd a ha) (RelL.nil _)) w hg
end Go.Proofs.YtgpgblaoifpbnaaGreatDoor
