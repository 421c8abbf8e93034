/- TxnNil: run by the executor. -/
import Derived.Test.YtidlloojkpeepaaGreatDoorSxEnvOk
namespace Go.Proofs.YtidlloojkpeepaaGreatDoor
open Go.RowKit Bl Th Go.Sx
set_option maxRecDepth 100000
def hintTxnNil : Nat → List Nat
  | 14 => [10, 11]
  | 32 => [21]
  | _ => []
theorem txnNil_run : trueB (callX (env hintTxnNil) 1000 4 [.float .f64 0, .float .f64 0] m0) = true := by kernel_rfl
theorem txnNil_ok (a : Int) (b : Int) (w : World) (hg : Handle w) : Calls Tryz.prog 4 #[.int .u64 a, .int .u64 b] w fun e w' => e = .returned (.bool true) ∧ Below w.heap.size w w' :=
  law_run txnNil_run (args' := [.int .u64 a, .int .u64 b]) (RelL.cons (.unk _ _ _ ⟨rfl, fun h => by cases h⟩) (RelL.cons (.unk _ _ _ ⟨rfl, fun h => by cases h⟩) (RelL.nil _))) w hg
end Go.Proofs.YtidlloojkpeepaaGreatDoor
