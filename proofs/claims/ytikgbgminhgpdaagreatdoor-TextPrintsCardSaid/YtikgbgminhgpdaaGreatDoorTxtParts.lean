/- Layer 9 (prog): partsOf, kind by kind (printed by genparts.py). -/
import Derived.Test.YtikgbgminhgpdaaGreatDoorTxtTree
import Derived.Test.YtikgbgminhgpdaaGreatDoorTextPrint
import Derived.WalkKit
namespace Go.Proofs.YtikgbgminhgpdaaGreatDoor
open Go.RowKit Tx
set_option maxRecDepth 10000
def stV (z : Int) (h : Sh) (bv ev : Value) : Value := .agg #[.int .i64 z, .int .i64 h.coll, .int .i64 h.reg, .int .i64 h.a.1, .int .i64 h.a.2, .int .i64 h.b.1, .int .i64 h.b.2, bv, ev]
def kindIn (k : Nat) : Bool := decide (1 ≤ k) && decide (k ≤ 16)
def hasOrd (k : Nat) : Bool := k == 6 || k == 7
def partsV (k : Nat) : Value := .agg #[.bool (hasColl k), .bool (hasOrd k), .bool (hasReg k), .bool (hasA k), .bool (hasB k), .bool (opens k), .bool (hasElse k)]

/-- What stands behind a piece of code, for great nests of blocks. -/
structure SqQ (P : Program) (y : Code) (Q Q2 : Exit → Act → World → Prop) : Prop where
  nrm : ∀ a w, y.wp P Q a w → Q2 .normal a w
  pass : ∀ e a w, e ≠ .normal → Q e a w → Q2 e a w
structure BlQ (id : Nat) (Q Q2 : Exit → Act → World → Prop) : Prop where
  hit : ∀ a w, Q .normal a w → Q2 (.exit id) a w
  pass : ∀ e a w, e ≠ .exit id → Q e a w → Q2 e a w
theorem wp_seq_h {P : Program} {x y : Code} {Q : Exit → Act → World → Prop} {a : Act} {w : World} (h : ∀ Q2, Hid (SqQ P y Q Q2) → x.wp P Q2 a w) : (Code.seq x y).wp P Q a w :=
  wp_seq (h _ (Lib.hid ⟨fun _ _ q => q, fun e _ _ he q => by cases e <;> first | exact absurd rfl he | exact q⟩))
theorem wp_block_h {P : Program} {id : Nat} {c : Code} {Q : Exit → Act → World → Prop} {a : Act} {w : World} (h : ∀ Q2, Hid (BlQ id Q Q2) → c.wp P Q2 a w) : (Code.block id c).wp P Q a w :=
  wp_block (h _ (Lib.hid ⟨fun a w q => by unfold Exit.inBlock; simpa using q, fun e a w he q => by
    cases e with
    | exit i =>
      unfold Exit.inBlock
      have : i ≠ id := fun e => he (by rw [e])
      simpa [this] using q
    | _ => exact q⟩))

set_option maxHeartbeats 4000000 in
theorem parts_1 (w : World) : Calls Tryz.prog 54 #[.int .i64 1] w fun e w' => e = .returned (.tuple #[partsV 1, .bool true]) ∧ Below w.heap.size w w' := by
  go_enter Tryz.func54, Tryz.ntmps54
  iterate 300 (first
    | (refine wp_seq_h fun _ _ => ?_)
    | (refine wp_block_h fun _ _ => ?_)
    | (refine SqQ.nrm (Hid.out (by assumption)) _ _ ?_)
    | (refine BlQ.hit (Hid.out (by assumption)) _ _ ?_)
    | (refine SqQ.pass (Hid.out (by assumption)) _ _ _ (by simp) ?_)
    | (refine BlQ.pass (Hid.out (by assumption)) _ _ _ (by simp) ?_)
    | go_wp2)
  refine bodyPost_ret (v := .tuple #[partsV 1, .bool true]) (by simp [results, Tryz.results54, go_sem, partsV, hasColl, hasOrd, hasReg, hasA, hasB, opens, hasElse]) rfl ?_
  exact ⟨rfl, ((Below.refl _ _).alloc (Nat.le_refl _) _).alloc (by simp) _⟩

set_option maxHeartbeats 4000000 in
theorem parts_2 (w : World) : Calls Tryz.prog 54 #[.int .i64 2] w fun e w' => e = .returned (.tuple #[partsV 2, .bool true]) ∧ Below w.heap.size w w' := by
  go_enter Tryz.func54, Tryz.ntmps54
  iterate 300 (first
    | (refine wp_seq_h fun _ _ => ?_)
    | (refine wp_block_h fun _ _ => ?_)
    | (refine SqQ.nrm (Hid.out (by assumption)) _ _ ?_)
    | (refine BlQ.hit (Hid.out (by assumption)) _ _ ?_)
    | (refine SqQ.pass (Hid.out (by assumption)) _ _ _ (by simp) ?_)
    | (refine BlQ.pass (Hid.out (by assumption)) _ _ _ (by simp) ?_)
    | go_wp2)
  refine bodyPost_ret (v := .tuple #[partsV 2, .bool true]) (by simp [results, Tryz.results54, go_sem, partsV, hasColl, hasOrd, hasReg, hasA, hasB, opens, hasElse]) rfl ?_
  exact ⟨rfl, ((Below.refl _ _).alloc (Nat.le_refl _) _).alloc (by simp) _⟩

set_option maxHeartbeats 4000000 in
theorem parts_3 (w : World) : Calls Tryz.prog 54 #[.int .i64 3] w fun e w' => e = .returned (.tuple #[partsV 3, .bool true]) ∧ Below w.heap.size w w' := by
  go_enter Tryz.func54, Tryz.ntmps54
  iterate 300 (first
    | (refine wp_seq_h fun _ _ => ?_)
    | (refine wp_block_h fun _ _ => ?_)
    | (refine SqQ.nrm (Hid.out (by assumption)) _ _ ?_)
    | (refine BlQ.hit (Hid.out (by assumption)) _ _ ?_)
    | (refine SqQ.pass (Hid.out (by assumption)) _ _ _ (by simp) ?_)
    | (refine BlQ.pass (Hid.out (by assumption)) _ _ _ (by simp) ?_)
    | go_wp2)
  refine bodyPost_ret (v := .tuple #[partsV 3, .bool true]) (by simp [results, Tryz.results54, go_sem, partsV, hasColl, hasOrd, hasReg, hasA, hasB, opens, hasElse]) rfl ?_
  exact ⟨rfl, ((Below.refl _ _).alloc (Nat.le_refl _) _).alloc (by simp) _⟩

set_option maxHeartbeats 4000000 in
theorem parts_4 (w : World) : Calls Tryz.prog 54 #[.int .i64 4] w fun e w' => e = .returned (.tuple #[partsV 4, .bool true]) ∧ Below w.heap.size w w' := by
  go_enter Tryz.func54, Tryz.ntmps54
  iterate 300 (first
    | (refine wp_seq_h fun _ _ => ?_)
    | (refine wp_block_h fun _ _ => ?_)
    | (refine SqQ.nrm (Hid.out (by assumption)) _ _ ?_)
    | (refine BlQ.hit (Hid.out (by assumption)) _ _ ?_)
    | (refine SqQ.pass (Hid.out (by assumption)) _ _ _ (by simp) ?_)
    | (refine BlQ.pass (Hid.out (by assumption)) _ _ _ (by simp) ?_)
    | go_wp2)
  refine bodyPost_ret (v := .tuple #[partsV 4, .bool true]) (by simp [results, Tryz.results54, go_sem, partsV, hasColl, hasOrd, hasReg, hasA, hasB, opens, hasElse]) rfl ?_
  exact ⟨rfl, ((Below.refl _ _).alloc (Nat.le_refl _) _).alloc (by simp) _⟩

set_option maxHeartbeats 4000000 in
theorem parts_5 (w : World) : Calls Tryz.prog 54 #[.int .i64 5] w fun e w' => e = .returned (.tuple #[partsV 5, .bool true]) ∧ Below w.heap.size w w' := by
  go_enter Tryz.func54, Tryz.ntmps54
  iterate 300 (first
    | (refine wp_seq_h fun _ _ => ?_)
    | (refine wp_block_h fun _ _ => ?_)
    | (refine SqQ.nrm (Hid.out (by assumption)) _ _ ?_)
    | (refine BlQ.hit (Hid.out (by assumption)) _ _ ?_)
    | (refine SqQ.pass (Hid.out (by assumption)) _ _ _ (by simp) ?_)
    | (refine BlQ.pass (Hid.out (by assumption)) _ _ _ (by simp) ?_)
    | go_wp2)
  refine bodyPost_ret (v := .tuple #[partsV 5, .bool true]) (by simp [results, Tryz.results54, go_sem, partsV, hasColl, hasOrd, hasReg, hasA, hasB, opens, hasElse]) rfl ?_
  exact ⟨rfl, ((Below.refl _ _).alloc (Nat.le_refl _) _).alloc (by simp) _⟩

set_option maxHeartbeats 4000000 in
theorem parts_6 (w : World) : Calls Tryz.prog 54 #[.int .i64 6] w fun e w' => e = .returned (.tuple #[partsV 6, .bool true]) ∧ Below w.heap.size w w' := by
  go_enter Tryz.func54, Tryz.ntmps54
  iterate 300 (first
    | (refine wp_seq_h fun _ _ => ?_)
    | (refine wp_block_h fun _ _ => ?_)
    | (refine SqQ.nrm (Hid.out (by assumption)) _ _ ?_)
    | (refine BlQ.hit (Hid.out (by assumption)) _ _ ?_)
    | (refine SqQ.pass (Hid.out (by assumption)) _ _ _ (by simp) ?_)
    | (refine BlQ.pass (Hid.out (by assumption)) _ _ _ (by simp) ?_)
    | go_wp2)
  refine bodyPost_ret (v := .tuple #[partsV 6, .bool true]) (by simp [results, Tryz.results54, go_sem, partsV, hasColl, hasOrd, hasReg, hasA, hasB, opens, hasElse]) rfl ?_
  exact ⟨rfl, ((Below.refl _ _).alloc (Nat.le_refl _) _).alloc (by simp) _⟩

set_option maxHeartbeats 4000000 in
theorem parts_7 (w : World) : Calls Tryz.prog 54 #[.int .i64 7] w fun e w' => e = .returned (.tuple #[partsV 7, .bool true]) ∧ Below w.heap.size w w' := by
  go_enter Tryz.func54, Tryz.ntmps54
  iterate 300 (first
    | (refine wp_seq_h fun _ _ => ?_)
    | (refine wp_block_h fun _ _ => ?_)
    | (refine SqQ.nrm (Hid.out (by assumption)) _ _ ?_)
    | (refine BlQ.hit (Hid.out (by assumption)) _ _ ?_)
    | (refine SqQ.pass (Hid.out (by assumption)) _ _ _ (by simp) ?_)
    | (refine BlQ.pass (Hid.out (by assumption)) _ _ _ (by simp) ?_)
    | go_wp2)
  refine bodyPost_ret (v := .tuple #[partsV 7, .bool true]) (by simp [results, Tryz.results54, go_sem, partsV, hasColl, hasOrd, hasReg, hasA, hasB, opens, hasElse]) rfl ?_
  exact ⟨rfl, ((Below.refl _ _).alloc (Nat.le_refl _) _).alloc (by simp) _⟩

set_option maxHeartbeats 4000000 in
theorem parts_8 (w : World) : Calls Tryz.prog 54 #[.int .i64 8] w fun e w' => e = .returned (.tuple #[partsV 8, .bool true]) ∧ Below w.heap.size w w' := by
  go_enter Tryz.func54, Tryz.ntmps54
  iterate 300 (first
    | (refine wp_seq_h fun _ _ => ?_)
    | (refine wp_block_h fun _ _ => ?_)
    | (refine SqQ.nrm (Hid.out (by assumption)) _ _ ?_)
    | (refine BlQ.hit (Hid.out (by assumption)) _ _ ?_)
    | (refine SqQ.pass (Hid.out (by assumption)) _ _ _ (by simp) ?_)
    | (refine BlQ.pass (Hid.out (by assumption)) _ _ _ (by simp) ?_)
    | go_wp2)
  refine bodyPost_ret (v := .tuple #[partsV 8, .bool true]) (by simp [results, Tryz.results54, go_sem, partsV, hasColl, hasOrd, hasReg, hasA, hasB, opens, hasElse]) rfl ?_
  exact ⟨rfl, ((Below.refl _ _).alloc (Nat.le_refl _) _).alloc (by simp) _⟩

set_option maxHeartbeats 4000000 in
theorem parts_9 (w : World) : Calls Tryz.prog 54 #[.int .i64 9] w fun e w' => e = .returned (.tuple #[partsV 9, .bool true]) ∧ Below w.heap.size w w' := by
  go_enter Tryz.func54, Tryz.ntmps54
  iterate 300 (first
    | (refine wp_seq_h fun _ _ => ?_)
    | (refine wp_block_h fun _ _ => ?_)
    | (refine SqQ.nrm (Hid.out (by assumption)) _ _ ?_)
    | (refine BlQ.hit (Hid.out (by assumption)) _ _ ?_)
    | (refine SqQ.pass (Hid.out (by assumption)) _ _ _ (by simp) ?_)
    | (refine BlQ.pass (Hid.out (by assumption)) _ _ _ (by simp) ?_)
    | go_wp2)
  refine bodyPost_ret (v := .tuple #[partsV 9, .bool true]) (by simp [results, Tryz.results54, go_sem, partsV, hasColl, hasOrd, hasReg, hasA, hasB, opens, hasElse]) rfl ?_
  exact ⟨rfl, ((Below.refl _ _).alloc (Nat.le_refl _) _).alloc (by simp) _⟩

set_option maxHeartbeats 4000000 in
theorem parts_10 (w : World) : Calls Tryz.prog 54 #[.int .i64 10] w fun e w' => e = .returned (.tuple #[partsV 10, .bool true]) ∧ Below w.heap.size w w' := by
  go_enter Tryz.func54, Tryz.ntmps54
  iterate 300 (first
    | (refine wp_seq_h fun _ _ => ?_)
    | (refine wp_block_h fun _ _ => ?_)
    | (refine SqQ.nrm (Hid.out (by assumption)) _ _ ?_)
    | (refine BlQ.hit (Hid.out (by assumption)) _ _ ?_)
    | (refine SqQ.pass (Hid.out (by assumption)) _ _ _ (by simp) ?_)
    | (refine BlQ.pass (Hid.out (by assumption)) _ _ _ (by simp) ?_)
    | go_wp2)
  refine bodyPost_ret (v := .tuple #[partsV 10, .bool true]) (by simp [results, Tryz.results54, go_sem, partsV, hasColl, hasOrd, hasReg, hasA, hasB, opens, hasElse]) rfl ?_
  exact ⟨rfl, ((Below.refl _ _).alloc (Nat.le_refl _) _).alloc (by simp) _⟩

set_option maxHeartbeats 4000000 in
theorem parts_11 (w : World) : Calls Tryz.prog 54 #[.int .i64 11] w fun e w' => e = .returned (.tuple #[partsV 11, .bool true]) ∧ Below w.heap.size w w' := by
  go_enter Tryz.func54, Tryz.ntmps54
  iterate 300 (first
    | (refine wp_seq_h fun _ _ => ?_)
    | (refine wp_block_h fun _ _ => ?_)
    | (refine SqQ.nrm (Hid.out (by assumption)) _ _ ?_)
    | (refine BlQ.hit (Hid.out (by assumption)) _ _ ?_)
    | (refine SqQ.pass (Hid.out (by assumption)) _ _ _ (by simp) ?_)
    | (refine BlQ.pass (Hid.out (by assumption)) _ _ _ (by simp) ?_)
    | go_wp2)
  refine bodyPost_ret (v := .tuple #[partsV 11, .bool true]) (by simp [results, Tryz.results54, go_sem, partsV, hasColl, hasOrd, hasReg, hasA, hasB, opens, hasElse]) rfl ?_
  exact ⟨rfl, ((Below.refl _ _).alloc (Nat.le_refl _) _).alloc (by simp) _⟩

set_option maxHeartbeats 4000000 in
theorem parts_12 (w : World) : Calls Tryz.prog 54 #[.int .i64 12] w fun e w' => e = .returned (.tuple #[partsV 12, .bool true]) ∧ Below w.heap.size w w' := by
  go_enter Tryz.func54, Tryz.ntmps54
  iterate 300 (first
    | (refine wp_seq_h fun _ _ => ?_)
    | (refine wp_block_h fun _ _ => ?_)
    | (refine SqQ.nrm (Hid.out (by assumption)) _ _ ?_)
    | (refine BlQ.hit (Hid.out (by assumption)) _ _ ?_)
    | (refine SqQ.pass (Hid.out (by assumption)) _ _ _ (by simp) ?_)
    | (refine BlQ.pass (Hid.out (by assumption)) _ _ _ (by simp) ?_)
    | go_wp2)
  refine bodyPost_ret (v := .tuple #[partsV 12, .bool true]) (by simp [results, Tryz.results54, go_sem, partsV, hasColl, hasOrd, hasReg, hasA, hasB, opens, hasElse]) rfl ?_
  exact ⟨rfl, ((Below.refl _ _).alloc (Nat.le_refl _) _).alloc (by simp) _⟩

set_option maxHeartbeats 4000000 in
theorem parts_13 (w : World) : Calls Tryz.prog 54 #[.int .i64 13] w fun e w' => e = .returned (.tuple #[partsV 13, .bool true]) ∧ Below w.heap.size w w' := by
  go_enter Tryz.func54, Tryz.ntmps54
  iterate 300 (first
    | (refine wp_seq_h fun _ _ => ?_)
    | (refine wp_block_h fun _ _ => ?_)
    | (refine SqQ.nrm (Hid.out (by assumption)) _ _ ?_)
    | (refine BlQ.hit (Hid.out (by assumption)) _ _ ?_)
    | (refine SqQ.pass (Hid.out (by assumption)) _ _ _ (by simp) ?_)
    | (refine BlQ.pass (Hid.out (by assumption)) _ _ _ (by simp) ?_)
    | go_wp2)
  refine bodyPost_ret (v := .tuple #[partsV 13, .bool true]) (by simp [results, Tryz.results54, go_sem, partsV, hasColl, hasOrd, hasReg, hasA, hasB, opens, hasElse]) rfl ?_
  exact ⟨rfl, ((Below.refl _ _).alloc (Nat.le_refl _) _).alloc (by simp) _⟩

set_option maxHeartbeats 4000000 in
theorem parts_14 (w : World) : Calls Tryz.prog 54 #[.int .i64 14] w fun e w' => e = .returned (.tuple #[partsV 14, .bool true]) ∧ Below w.heap.size w w' := by
  go_enter Tryz.func54, Tryz.ntmps54
  iterate 300 (first
    | (refine wp_seq_h fun _ _ => ?_)
    | (refine wp_block_h fun _ _ => ?_)
    | (refine SqQ.nrm (Hid.out (by assumption)) _ _ ?_)
    | (refine BlQ.hit (Hid.out (by assumption)) _ _ ?_)
    | (refine SqQ.pass (Hid.out (by assumption)) _ _ _ (by simp) ?_)
    | (refine BlQ.pass (Hid.out (by assumption)) _ _ _ (by simp) ?_)
    | go_wp2)
  refine bodyPost_ret (v := .tuple #[partsV 14, .bool true]) (by simp [results, Tryz.results54, go_sem, partsV, hasColl, hasOrd, hasReg, hasA, hasB, opens, hasElse]) rfl ?_
  exact ⟨rfl, ((Below.refl _ _).alloc (Nat.le_refl _) _).alloc (by simp) _⟩

set_option maxHeartbeats 4000000 in
theorem parts_15 (w : World) : Calls Tryz.prog 54 #[.int .i64 15] w fun e w' => e = .returned (.tuple #[partsV 15, .bool true]) ∧ Below w.heap.size w w' := by
  go_enter Tryz.func54, Tryz.ntmps54
  iterate 300 (first
    | (refine wp_seq_h fun _ _ => ?_)
    | (refine wp_block_h fun _ _ => ?_)
    | (refine SqQ.nrm (Hid.out (by assumption)) _ _ ?_)
    | (refine BlQ.hit (Hid.out (by assumption)) _ _ ?_)
    | (refine SqQ.pass (Hid.out (by assumption)) _ _ _ (by simp) ?_)
    | (refine BlQ.pass (Hid.out (by assumption)) _ _ _ (by simp) ?_)
    | go_wp2)
  refine bodyPost_ret (v := .tuple #[partsV 15, .bool true]) (by simp [results, Tryz.results54, go_sem, partsV, hasColl, hasOrd, hasReg, hasA, hasB, opens, hasElse]) rfl ?_
  exact ⟨rfl, ((Below.refl _ _).alloc (Nat.le_refl _) _).alloc (by simp) _⟩

set_option maxHeartbeats 4000000 in
theorem parts_16 (w : World) : Calls Tryz.prog 54 #[.int .i64 16] w fun e w' => e = .returned (.tuple #[partsV 16, .bool true]) ∧ Below w.heap.size w w' := by
  go_enter Tryz.func54, Tryz.ntmps54
  iterate 300 (first
    | (refine wp_seq_h fun _ _ => ?_)
    | (refine wp_block_h fun _ _ => ?_)
    | (refine SqQ.nrm (Hid.out (by assumption)) _ _ ?_)
    | (refine BlQ.hit (Hid.out (by assumption)) _ _ ?_)
    | (refine SqQ.pass (Hid.out (by assumption)) _ _ _ (by simp) ?_)
    | (refine BlQ.pass (Hid.out (by assumption)) _ _ _ (by simp) ?_)
    | go_wp2)
  refine bodyPost_ret (v := .tuple #[partsV 16, .bool true]) (by simp [results, Tryz.results54, go_sem, partsV, hasColl, hasOrd, hasReg, hasA, hasB, opens, hasElse]) rfl ?_
  exact ⟨rfl, ((Below.refl _ _).alloc (Nat.le_refl _) _).alloc (by simp) _⟩

set_option maxHeartbeats 4000000 in
theorem parts_out {z : Int} (hz : z < 1 ∨ 16 < z) (w : World) : Calls Tryz.prog 54 #[.int .i64 z] w fun e w' => e = .returned (.tuple #[partsV 0, .bool false]) ∧ Below w.heap.size w w' := by
  have g1 : (z == 1) = false := by simp; omega
  have g2 : (z == 2) = false := by simp; omega
  have g3 : (z == 3) = false := by simp; omega
  have g4 : (z == 4) = false := by simp; omega
  have g5 : (z == 5) = false := by simp; omega
  have g6 : (z == 6) = false := by simp; omega
  have g7 : (z == 7) = false := by simp; omega
  have g8 : (z == 8) = false := by simp; omega
  have g9 : (z == 9) = false := by simp; omega
  have g10 : (z == 10) = false := by simp; omega
  have g11 : (z == 11) = false := by simp; omega
  have g12 : (z == 12) = false := by simp; omega
  have g13 : (z == 13) = false := by simp; omega
  have g14 : (z == 14) = false := by simp; omega
  have g15 : (z == 15) = false := by simp; omega
  have g16 : (z == 16) = false := by simp; omega
  clear hz
  go_enter Tryz.func54, Tryz.ntmps54
  iterate 300 (first
    | (refine wp_seq_h fun _ _ => ?_)
    | (refine wp_block_h fun _ _ => ?_)
    | (refine SqQ.nrm (Hid.out (by assumption)) _ _ ?_)
    | (refine BlQ.hit (Hid.out (by assumption)) _ _ ?_)
    | (refine SqQ.pass (Hid.out (by assumption)) _ _ _ (by simp) ?_)
    | (refine BlQ.pass (Hid.out (by assumption)) _ _ _ (by simp) ?_)
    | go_wp2)
  refine bodyPost_ret (v := .tuple #[partsV 0, .bool false]) (by simp [results, Tryz.results54, go_sem, partsV, hasColl, hasOrd, hasReg, hasA, hasB, opens, hasElse]) rfl ?_
  exact ⟨rfl, ((Below.refl _ _).alloc (Nat.le_refl _) _).alloc (by simp) _⟩
theorem partsOf_ok {z : Int} {k : Nat} (hz : z.toNat = k) (w : World) : Calls Tryz.prog 54 #[.int .i64 z] w fun e w' => (∃ v, e = .returned (.tuple #[v, .bool (kindIn k)]) ∧ (∃ k', v = partsV k') ∧ (kindIn k = true → v = partsV k)) ∧ Below w.heap.size w w' := by
  by_cases hin : 1 ≤ z ∧ z ≤ 16
  · obtain ⟨h1, h2⟩ := hin
    have hk : kindIn k = true := by unfold kindIn; simp; omega
    obtain rfl : z = (k : Int) := by omega
    suffices h : Calls Tryz.prog 54 #[.int .i64 (k : Int)] w fun e w' => e = .returned (.tuple #[partsV k, .bool true]) ∧ Below w.heap.size w w' from
      h.mono fun e w' q => ⟨⟨_, by rw [hk]; exact q.1, ⟨k, rfl⟩, fun _ => rfl⟩, q.2⟩
    have h1' : 1 ≤ k := by omega
    have h2' : k ≤ 16 := by omega
    clear hz h1 h2 hk
    rcases (by omega : k = 1 ∨ k = 2 ∨ k = 3 ∨ k = 4 ∨ k = 5 ∨ k = 6 ∨ k = 7 ∨ k = 8 ∨ k = 9 ∨ k = 10 ∨ k = 11 ∨ k = 12 ∨ k = 13 ∨ k = 14 ∨ k = 15 ∨ k = 16) with rfl | rfl | rfl | rfl | rfl | rfl | rfl | rfl | rfl | rfl | rfl | rfl | rfl | rfl | rfl | rfl
    · exact parts_1 w
    · exact parts_2 w
    · exact parts_3 w
    · exact parts_4 w
    · exact parts_5 w
    · exact parts_6 w
    · exact parts_7 w
    · exact parts_8 w
    · exact parts_9 w
    · exact parts_10 w
    · exact parts_11 w
    · exact parts_12 w
    · exact parts_13 w
    · exact parts_14 w
    · exact parts_15 w
    · exact parts_16 w
  · have hk : kindIn k = false := by unfold kindIn; simp; omega
    refine (parts_out (z := z) (by omega) w).mono fun e w' q => ⟨⟨_, by rw [hk]; exact q.1, ⟨0, rfl⟩, fun q => by rw [hk] at q; cases q⟩, q.2⟩
end Go.Proofs.YtikgbgminhgpdaaGreatDoor
