/- SkipNil: run by the executor. -/
import Derived.Test.YtgmdbfackbdnlaaGreatDoorSxEnvOk
namespace Go.Proofs.YtgmdbfackbdnlaaGreatDoor
open Go.RowKit Bl Th Go.Sx
set_option maxRecDepth 100000
def hintSkipNil : Nat → List Nat
  | 67 => [59]
  | 40 => [37, 36]
  | _ => []
theorem skipNil_run (a : Int) (b : Int) : trueB (callX (envT hintSkipNil) 1000 5 [.int .i64 a, .int .i64 b] m0) = true := by kernel_rfl
theorem skipNil_ok (a : Int) (b : Int) (w : World) (hg : Handle w) (hT : TabG 0 w) : Calls Tryz.prog 5 #[.int .i64 a, .int .i64 b] w fun e w' => e = .returned (.bool true) ∧ Below w.heap.size w w' :=
  law_runT (skipNil_run a b) (args' := [.int .i64 a, .int .i64 b]) (RelL.cons (.int _ _) (RelL.cons (.int _ _) (RelL.nil _))) w hg hT
end Go.Proofs.YtgmdbfackbdnlaaGreatDoor
