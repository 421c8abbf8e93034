/- TrieNil: run by the executor. -/
import Derived.Test.YtidlloojkpeepaaGreatDoorSxEnvOk
namespace Go.Proofs.YtidlloojkpeepaaGreatDoor
open Go.RowKit Bl Th Go.Sx
set_option maxRecDepth 100000
def hintTrieNil : Nat → List Nat
  | 34 => [31]
  | 46 => [43]
  | 55 => [52]
  | _ => []
theorem trieNil_run : trueB (callX (env hintTrieNil) 1000 6 [.float .f64 0, .float .f64 0] m0) = true := by kernel_rfl
theorem trieNil_ok (a : Int) (b : Int) (w : World) (hg : Handle w) : Calls Tryz.prog 6 #[.int .i64 a, .int .u64 b] w fun e w' => e = .returned (.bool true) ∧ Below w.heap.size w w' :=
  law_run trieNil_run (args' := [.int .i64 a, .int .u64 b]) (RelL.cons (.unk _ _ _ ⟨rfl, fun h => by cases h⟩) (RelL.cons (.unk _ _ _ ⟨rfl, fun h => by cases h⟩) (RelL.nil _))) w hg
end Go.Proofs.YtidlloojkpeepaaGreatDoor
