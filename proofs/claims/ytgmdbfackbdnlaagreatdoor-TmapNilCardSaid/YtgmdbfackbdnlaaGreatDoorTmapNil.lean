/- TmapNil: run by the executor. -/
import Derived.Test.YtgmdbfackbdnlaaGreatDoorSxEnvOk
namespace Go.Proofs.YtgmdbfackbdnlaaGreatDoor
open Go.RowKit Bl Th Go.Sx
set_option maxRecDepth 100000
def hintTmapNil : Nat → List Nat
  | 41 => [38]
  | 16 => [13, 12]
  | _ => []
theorem tmapNil_run (a : Int) (b : Int) : trueB (callX (env hintTmapNil) 1000 3 [.int .i64 a, .int .i64 b] m0) = true := by kernel_rfl
theorem tmapNil_ok (a : Int) (b : Int) (w : World) (hg : Handle w) : Calls Tryz.prog 3 #[.int .i64 a, .int .i64 b] w fun e w' => e = .returned (.bool true) ∧ Below w.heap.size w w' :=
  law_run (tmapNil_run a b) (args' := [.int .i64 a, .int .i64 b]) (RelL.cons (.int _ _) (RelL.cons (.int _ _) (RelL.nil _))) w hg
end Go.Proofs.YtgmdbfackbdnlaaGreatDoor
