/- CellNil: run by the executor. -/
import Derived.Test.YtidlloojkpeepaaGreatDoorSxEnvOk
namespace Go.Proofs.YtidlloojkpeepaaGreatDoor
open Go.RowKit Bl Th Go.Sx
set_option maxRecDepth 100000
def hintCellNil : Nat → List Nat
  | 20 => [17]
  | 30 => [27]
  | _ => []
theorem cellNil_run : trueB (callX (env hintCellNil) 1000 7 [.float .f64 0, .agg #[.float .f64 0, .float .f64 0, .float .f64 0, .float .f64 0], .float .f64 0] m0) = true := by kernel_rfl
theorem cellNil_ok (a : Int) (b : Int) (c : Int) (d : Int) (e : Int) (f : Int) (w : World) (hg : Handle w) : Calls Tryz.prog 7 #[.int .i64 a, .agg #[.int .i64 b, .int .i64 c, .int .u64 d, .int .u64 e], .int .u64 f] w fun e w' => e = .returned (.bool true) ∧ Below w.heap.size w w' :=
  law_run (cellNil_run) (args' := [.int .i64 a, .agg #[.int .i64 b, .int .i64 c, .int .u64 d, .int .u64 e], .int .u64 f]) (RelL.cons (.unk _ _ ⟨rfl, fun h => by cases h⟩) (RelL.cons (agg_rel (RelL.cons (.unk _ _ ⟨rfl, fun h => by cases h⟩) (RelL.cons (.unk _ _ ⟨rfl, fun h => by cases h⟩) (RelL.cons (.unk _ _ ⟨rfl, fun h => by cases h⟩) (RelL.cons (.unk _ _ ⟨rfl, fun h => by cases h⟩) (RelL.nil _)))))) (RelL.cons (.unk _ _ ⟨rfl, fun h => by cases h⟩) (RelL.nil _)))) w hg
end Go.Proofs.YtidlloojkpeepaaGreatDoor
