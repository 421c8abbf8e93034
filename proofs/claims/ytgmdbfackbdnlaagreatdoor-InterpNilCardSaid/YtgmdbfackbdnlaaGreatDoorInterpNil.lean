/- InterpNil: run by the executor. -/
import Derived.Test.YtgmdbfackbdnlaaGreatDoorSxEnvOk
namespace Go.Proofs.YtgmdbfackbdnlaaGreatDoor
open Go.RowKit Bl Th Go.Sx
set_option maxRecDepth 100000
def hintInterpNil : Nat → List Nat
  | 82 => [79]
  | 54 => [51]
  | _ => []
theorem interpNil_run : trueB (callX (env hintInterpNil) 1000 6 [.float .f64 0, .agg #[.float .f64 0, .float .f64 0, .float .f64 0, .float .f64 0]] m0) = true := by kernel_rfl
theorem interpNil_ok (a : Option Addr) (an ac : Nat) (b : Int) (c : Int) (d : Int) (e : Int) (w : World) (hg : Handle w) : Calls Tryz.prog 6 #[.slice a an ac, .agg #[.int .i64 b, .int .i64 c, .int .u64 d, .int .u64 e]] w fun e w' => e = .returned (.bool true) ∧ Below w.heap.size w w' :=
  law_run (interpNil_run) (args' := [.slice a an ac, .agg #[.int .i64 b, .int .i64 c, .int .u64 d, .int .u64 e]]) (RelL.cons (.unk _ _ ⟨rfl, fun h => by cases h⟩) (RelL.cons (agg_rel (RelL.cons (.unk _ _ ⟨rfl, fun h => by cases h⟩) (RelL.cons (.unk _ _ ⟨rfl, fun h => by cases h⟩) (RelL.cons (.unk _ _ ⟨rfl, fun h => by cases h⟩) (RelL.cons (.unk _ _ ⟨rfl, fun h => by cases h⟩) (RelL.nil _)))))) (RelL.nil _))) w hg
end Go.Proofs.YtgmdbfackbdnlaaGreatDoor
