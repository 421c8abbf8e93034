/- CollectNil: run by the executor. -/
import Derived.Test.YtgmdbfackbdnlaaGreatDoorSxEnvOk
namespace Go.Proofs.YtgmdbfackbdnlaaGreatDoor
open Go.RowKit Bl Th Go.Sx
set_option maxRecDepth 100000
def hintCollectNil : Nat → List Nat
  | 409 => [406]
  | 41 => [38]
  | 11 => [8]
  | _ => []
theorem collectNil_run : trueB (callX (env hintCollectNil) 1000 7 [.agg #[.float .f64 0, .float .f64 0, .float .f64 0, .float .f64 0]] m0) = true := by kernel_rfl
theorem collectNil_ok (a : Int) (b : Int) (c : Option Addr) (cn cc : Nat) (d : Option Addr) (dn dc : Nat) (w : World) (hg : Handle w) : Calls Tryz.prog 7 #[.agg #[.int .u64 a, .int .u64 b, .slice c cn cc, .slice d dn dc]] w fun e w' => e = .returned (.bool true) ∧ Below w.heap.size w w' :=
  law_run (collectNil_run) (args' := [.agg #[.int .u64 a, .int .u64 b, .slice c cn cc, .slice d dn dc]]) (RelL.cons (agg_rel (RelL.cons (.unk _ _ ⟨rfl, fun h => by cases h⟩) (RelL.cons (.unk _ _ ⟨rfl, fun h => by cases h⟩) (RelL.cons (.unk _ _ ⟨rfl, fun h => by cases h⟩) (RelL.cons (.unk _ _ ⟨rfl, fun h => by cases h⟩) (RelL.nil _)))))) (RelL.nil _)) w hg
end Go.Proofs.YtgmdbfackbdnlaaGreatDoor
