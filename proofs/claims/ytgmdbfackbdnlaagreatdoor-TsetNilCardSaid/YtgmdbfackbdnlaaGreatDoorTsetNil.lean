/- TsetNil: run by the executor. -/
import Derived.Test.YtgmdbfackbdnlaaGreatDoorSxEnvOk
namespace Go.Proofs.YtgmdbfackbdnlaaGreatDoor
open Go.RowKit Bl Th Go.Sx
set_option maxRecDepth 100000
def hintTsetNil : Nat → List Nat
  | 15 => [12, 11]
  | 57 => [54]
  | _ => []
theorem tsetNil_run (a : Int) : trueB (callX (env hintTsetNil) 1000 4 [.int .i64 a] m0) = true := by kernel_rfl
theorem tsetNil_ok (a : Int) (w : World) (hg : Handle w) : Calls Tryz.prog 4 #[.int .i64 a] w fun e w' => e = .returned (.bool true) ∧ Below w.heap.size w w' :=
  law_run (tsetNil_run a) (args' := [.int .i64 a]) (RelL.cons (.int _ _) (RelL.nil _)) w hg
end Go.Proofs.YtgmdbfackbdnlaaGreatDoor
