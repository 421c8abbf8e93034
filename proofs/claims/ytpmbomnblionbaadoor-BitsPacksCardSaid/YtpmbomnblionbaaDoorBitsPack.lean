/- Pack and Unpack of layer 3 and of its reference. -/
import Derived.Test.YtpmbomnblionbaaDoorBitsRef
import Derived.Test.YtpmbomnblionbaaDoorErr
import Derived.Deep.RegionWith
namespace Go.Proofs.YtpmbomnblionbaaDoor
open Go.RowKit Bp

/-- A Meta's word. -/
def packN (v o : Nat) (c t : Bool) : Nat := 65536 * v + 256 * o + 2 * t.toNat + c.toNat
theorem pack_lt (v o : Nat) (c t : Bool) (hv : v ≤ 281474976710655) (ho : o ≤ 255) : packN v o c t < 18446744073709551616 := by
  have := Bool.toNat_le c; have := Bool.toNat_le t; unfold packN; omega

theorem or_vo (v o : Nat) (hv : v ≤ 281474976710655) (ho : o ≤ 255) : bits BinOp.or IntKind.u64 ((v : Int) * 65536) ((o : Int) * 256) = ((65536 * v + 256 * o : Nat) : Int) := by
  rw [show (v : Int) * 65536 = ((65536 * v : Nat) : Int) by omega, show (o : Int) * 256 = ((256 * o : Nat) : Int) by omega, u64_or_nat _ _ (by omega) (by omega), nat_join 16 _ _ (by omega) (by omega)]
theorem or_two (v o : Nat) (hv : v ≤ 281474976710655) (ho : o ≤ 255) : bits BinOp.or IntKind.u64 ((65536 * v + 256 * o : Nat) : Int) 2 = ((65536 * v + 256 * o + 2 : Nat) : Int) := by
  rw [show (2 : Int) = ((2 : Nat) : Int) from rfl, u64_or_nat _ _ (by omega) (by omega), nat_join 2 _ _ (by omega) (by omega)]
theorem or_one (v o : Nat) (hv : v ≤ 281474976710655) (ho : o ≤ 255) : bits BinOp.or IntKind.u64 ((65536 * v + 256 * o : Nat) : Int) 1 = ((65536 * v + 256 * o + 1 : Nat) : Int) := by
  rw [show (1 : Int) = ((1 : Nat) : Int) from rfl, u64_or_nat _ _ (by omega) (by omega), nat_join 1 _ _ (by omega) (by omega)]
theorem or_three (v o : Nat) (hv : v ≤ 281474976710655) (ho : o ≤ 255) : bits BinOp.or IntKind.u64 ((65536 * v + 256 * o + 2 : Nat) : Int) 1 = ((65536 * v + 256 * o + 2 + 1 : Nat) : Int) := by
  rw [show (1 : Int) = ((1 : Nat) : Int) from rfl, u64_or_nat _ _ (by omega) (by omega), nat_join 1 _ _ (by omega) (by omega)]

theorem ret_pair {k : IntKind} {a b : Int} {v : Value} (h : a = b) : Ending.returned (.tuple #[.int k a, v]) = .returned (.tuple #[.int k b, v]) := by rw [h]

set_option maxHeartbeats 400000 in
theorem bits_pack (v o : Nat) (c t : Bool) (hv : v ≤ 281474976710655) (ho : o ≤ 255) (w : World) :
    Calls Tryd.prog 23 #[.agg #[.int .i64 v, .int .i64 o, .bool c, .bool t]] w fun e w' => e = .returned (.tuple #[.int .u64 (packN v o c t), .nilIface]) ∧ Below w.heap.size w w' := by
  have g2 : decide (281474976710655 < (v : Int)) = false := by simp; omega
  have g3 : decide (255 < (o : Int)) = false := by simp; omega
  have g4 : decide ((v : Int) < 0) = false := by simp
  have g5 : decide ((o : Int) < 0) = false := by simp
  have e0 := or_vo v o hv ho
  have e1 := or_one v o hv ho
  have e2 := or_two v o hv ho
  have e3 := or_three v o hv ho
  generalize h3 : 65536 * v + 256 * o + 2 + 1 = x3 at *
  generalize h2 : 65536 * v + 256 * o + 2 = x2 at *
  generalize h1 : 65536 * v + 256 * o + 1 = x1 at *
  generalize h0 : 65536 * v + 256 * o = x0 at *
  have H0 := Lib.hid h0; have H1 := Lib.hid h1; have H2 := Lib.hid h2; have H3 := Lib.hid h3
  clear h0 h1 h2 h3
  cases c <;> cases t
  all_goals
    go_enter Tryd.func23, Tryd.ntmps23
    go_wp2
    go_ret2
    refine ⟨ret_pair ?_, (Below.refl _ _).alloc (Nat.le_refl _) _⟩
    have q0 := H0.out; have q1 := H1.out; have q2 := H2.out; have q3 := H3.out
    simp only [packN, Bool.toNat_false, Bool.toNat_true]
    omega

/-- What Pack answers at a Meta that has no word. -/
def PackBad (w : World) (e : Ending) (w' : World) : Prop := ∃ x, e = .returned (.tuple #[.int .u64 0, x]) ∧ ErrNo w' x 2 ∧ Below w.heap.size w w'

set_option maxHeartbeats 400000 in
theorem bits_pack_bad (v o : Int) (c t : Bool) (h : ¬ (0 ≤ v ∧ v ≤ 281474976710655 ∧ 0 ≤ o ∧ o ≤ 255)) (w : World) :
    Calls Tryd.prog 23 #[.agg #[.int .i64 v, .int .i64 o, .bool c, .bool t]] w (PackBad w) := by
  rcases (by omega : v < 0 ∨ (0 ≤ v ∧ 281474976710655 < v) ∨ (0 ≤ v ∧ v ≤ 281474976710655 ∧ o < 0) ∨ (0 ≤ v ∧ v ≤ 281474976710655 ∧ 0 ≤ o ∧ 255 < o)) with q | ⟨q0, q⟩ | ⟨q0, q1, q⟩ | ⟨q0, q1, q2, q⟩
  · clear h
    have g0 : decide (v < 0) = true := by simpa using q
    clear q
    go_enter Tryd.func23, Tryd.ntmps23
    go_wp2
    go_ret2
    exact ⟨_, rfl, Or.inr ⟨_, rfl, rfl⟩, ((Below.refl _ _).alloc (Nat.le_refl _) _).alloc (by simp) _⟩
  · clear h
    have g0 : decide (v < 0) = false := by simpa using q0
    have g1 : decide (281474976710655 < v) = true := by simpa using q
    clear q q0
    go_enter Tryd.func23, Tryd.ntmps23
    go_wp2
    go_ret2
    exact ⟨_, rfl, Or.inr ⟨_, rfl, rfl⟩, ((Below.refl _ _).alloc (Nat.le_refl _) _).alloc (by simp) _⟩
  · clear h
    have g0 : decide (v < 0) = false := by simpa using q0
    have g1 : decide (281474976710655 < v) = false := by simpa using q1
    have g2 : decide (o < 0) = true := by simpa using q
    clear q q0 q1
    go_enter Tryd.func23, Tryd.ntmps23
    go_wp2
    go_ret2
    exact ⟨_, rfl, Or.inr ⟨_, rfl, rfl⟩, ((Below.refl _ _).alloc (Nat.le_refl _) _).alloc (by simp) _⟩
  · clear h
    have g0 : decide (v < 0) = false := by simpa using q0
    have g1 : decide (281474976710655 < v) = false := by simpa using q1
    have g2 : decide (o < 0) = false := by simpa using q2
    have g3 : decide (255 < o) = true := by simpa using q
    clear q q0 q1 q2
    go_enter Tryd.func23, Tryd.ntmps23
    go_wp2
    go_ret2
    exact ⟨_, rfl, Or.inr ⟨_, rfl, rfl⟩, ((Below.refl _ _).alloc (Nat.le_refl _) _).alloc (by simp) _⟩

set_option maxHeartbeats 400000 in
theorem ref_pack (v o : Nat) (c t : Bool) (hv : v ≤ 281474976710655) (ho : o ≤ 255) (w : World) :
    Calls Tryd.prog 24 #[.agg #[.int .i64 v, .int .i64 o, .bool c, .bool t]] w fun e w' => e = .returned (.tuple #[.int .u64 (packN v o c t), .int .i64 0]) ∧ Below w.heap.size w w' := by
  have g2 : decide (281474976710655 < (v : Int)) = false := by simp; omega
  have g3 : decide (255 < (o : Int)) = false := by simp; omega
  have g4 : decide ((v : Int) < 0) = false := by simp
  have g5 : decide ((o : Int) < 0) = false := by simp
  cases c <;> cases t
  all_goals
    go_enter Tryd.func24, Tryd.ntmps24
    go_wp2
    go_ret2
    refine ⟨ret_pair ?_, (Below.refl _ _).alloc (Nat.le_refl _) _⟩
    simp only [packN, Bool.toNat_false, Bool.toNat_true]
    omega

set_option maxHeartbeats 400000 in
theorem ref_pack_bad (v o : Int) (c t : Bool) (h : ¬ (0 ≤ v ∧ v ≤ 281474976710655 ∧ 0 ≤ o ∧ o ≤ 255)) (w : World) :
    Calls Tryd.prog 24 #[.agg #[.int .i64 v, .int .i64 o, .bool c, .bool t]] w fun e w' => e = .returned (.tuple #[.int .u64 0, .int .i64 2]) ∧ Below w.heap.size w w' := by
  rcases (by omega : v < 0 ∨ (0 ≤ v ∧ 281474976710655 < v) ∨ (0 ≤ v ∧ v ≤ 281474976710655 ∧ o < 0) ∨ (0 ≤ v ∧ v ≤ 281474976710655 ∧ 0 ≤ o ∧ 255 < o)) with q | ⟨q0, q⟩ | ⟨q0, q1, q⟩ | ⟨q0, q1, q2, q⟩
  · clear h
    have g0 : decide (v < 0) = true := by simpa using q
    clear q
    go_enter Tryd.func24, Tryd.ntmps24
    go_wp2
    go_ret2
    exact ⟨rfl, (Below.refl _ _).alloc (Nat.le_refl _) _⟩
  · clear h
    have g0 : decide (v < 0) = false := by simpa using q0
    have g1 : decide (281474976710655 < v) = true := by simpa using q
    clear q q0
    go_enter Tryd.func24, Tryd.ntmps24
    go_wp2
    go_ret2
    exact ⟨rfl, (Below.refl _ _).alloc (Nat.le_refl _) _⟩
  · clear h
    have g0 : decide (v < 0) = false := by simpa using q0
    have g1 : decide (281474976710655 < v) = false := by simpa using q1
    have g2 : decide (o < 0) = true := by simpa using q
    clear q q0 q1
    go_enter Tryd.func24, Tryd.ntmps24
    go_wp2
    go_ret2
    exact ⟨rfl, (Below.refl _ _).alloc (Nat.le_refl _) _⟩
  · clear h
    have g0 : decide (v < 0) = false := by simpa using q0
    have g1 : decide (281474976710655 < v) = false := by simpa using q1
    have g2 : decide (o < 0) = false := by simpa using q2
    have g3 : decide (255 < o) = true := by simpa using q
    clear q q0 q1 q2
    go_enter Tryd.func24, Tryd.ntmps24
    go_wp2
    go_ret2
    exact ⟨rfl, (Below.refl _ _).alloc (Nat.le_refl _) _⟩

/-- What a word tells. -/
def unV (x : Nat) : Value := .agg #[.int .i64 (x / 65536 : Nat), .int .i64 (x / 256 % 256 : Nat), .bool (decide (x % 2 = 1)), .bool (decide (x / 2 % 2 = 1))]

theorem un_ref (x : Nat) : Value.agg #[.int .i64 ((x : Int) / 65536), .int .i64 ((x : Int) / 256 % 256), .bool ((x : Int) % 2 == 1), .bool ((x : Int) / 2 % 2 == 1)] = unV x := by
  have e1 : ((x : Int) % 2 == 1) = decide (x % 2 = 1) := by rw [Bool.eq_iff_iff]; simp; omega
  have e2 : ((x : Int) / 2 % 2 == 1) = decide (x / 2 % 2 = 1) := by rw [Bool.eq_iff_iff]; simp; omega
  unfold unV
  rw [e1, e2, show ((x : Int) / 65536) = ((x / 65536 : Nat) : Int) by omega, show ((x : Int) / 256 % 256) = ((x / 256 % 256 : Nat) : Int) by omega]
theorem un_bits (x : Nat) (hx : x < 18446744073709551616) : Value.agg #[.int .i64 ((x : Int) / 65536), .int .i64 (wrap64 (bits BinOp.and IntKind.u64 ((x : Int) / 256) 255)), .bool (bits BinOp.and IntKind.u64 (x : Int) 1 != 0), .bool (bits BinOp.and IntKind.u64 (x : Int) 2 != 0)] = unV x := by
  have e0 : wrap64 (bits BinOp.and IntKind.u64 ((x : Int) / 256) 255) = ((x / 256 % 256 : Nat) : Int) := by
    rw [show ((x : Int) / 256) = ((x / 256 : Nat) : Int) by omega, show (255 : Int) = ((255 : Nat) : Int) from rfl, u64_and_nat _ _ (by omega) (by omega), nat_mask8]
    unfold wrap64; omega
  have e1 : (bits BinOp.and IntKind.u64 (x : Int) 1 != 0) = decide (x % 2 = 1) := by
    rw [show (1 : Int) = ((1 : Nat) : Int) from rfl, u64_and_nat _ _ (by omega) (by omega), nat_mask1, Bool.eq_iff_iff]; simp; omega
  have e2 : (bits BinOp.and IntKind.u64 (x : Int) 2 != 0) = decide (x / 2 % 2 = 1) := by
    rw [show (2 : Int) = ((2 : Nat) : Int) from rfl, u64_and_nat _ _ (by omega) (by omega), nat_bit 1, Bool.eq_iff_iff]; simp; omega
  unfold unV
  rw [e0, e1, e2, show ((x : Int) / 65536) = ((x / 65536 : Nat) : Int) by omega]

set_option maxHeartbeats 400000 in
theorem bits_unpack (x : Nat) (hx : x < 18446744073709551616) (w : World) :
    Calls Tryd.prog 26 #[.int .u64 x] w fun e w' => e = .returned (unV x) ∧ Below w.heap.size w w' := by
  have HU := Lib.hid (un_bits x hx)
  go_enter Tryd.func26, Tryd.ntmps26
  go_wp2
  exact bodyPost_ret (v := .agg #[.int .i64 ((x : Int) / 65536), .int .i64 (wrap64 (bits BinOp.and IntKind.u64 ((x : Int) / 256) 255)), .bool (bits BinOp.and IntKind.u64 (x : Int) 1 != 0), .bool (bits BinOp.and IntKind.u64 (x : Int) 2 != 0)]) (by simp [results, Tryd.results26, go_sem]) rfl ⟨congrArg _ HU.out, (Below.refl _ _).alloc (Nat.le_refl _) _⟩
set_option maxHeartbeats 400000 in
theorem ref_unpack (x : Nat) (hx : x < 18446744073709551616) (w : World) :
    Calls Tryd.prog 27 #[.int .u64 x] w fun e w' => e = .returned (unV x) ∧ Below w.heap.size w w' := by
  have HU := Lib.hid (un_ref x)
  go_enter Tryd.func27, Tryd.ntmps27
  go_wp2
  exact bodyPost_ret (v := .agg #[.int .i64 ((x : Int) / 65536), .int .i64 ((x : Int) / 256 % 256), .bool ((x : Int) % 2 == 1), .bool ((x : Int) / 2 % 2 == 1)]) (by simp [results, Tryd.results27, go_sem]) rfl ⟨congrArg _ HU.out, (Below.refl _ _).alloc (Nat.le_refl _) _⟩

theorem bcell {W w1 : World} (hb : Below W.heap.size W w1) : (∀ b o, b < W.heap.size → w1.cell? ⟨b, o, none⟩ = W.cell? ⟨b, o, none⟩) ∧ (∀ b o, b < W.heap.size → w1.frozen? ⟨b, o, none⟩ = W.frozen? ⟨b, o, none⟩) :=
  ⟨fun b o h => hb.cell (p := ⟨b, o, none⟩) h, fun b o h => hb.frozen (p := ⟨b, o, none⟩) h⟩

/-- Four cells of a Meta, at the head of a block. -/
def MetaAt (w : World) (b : Nat) (v o : Int) (c t : Bool) : Prop :=
  w.cell? ⟨b, 0, none⟩ = some (.int .i64 v) ∧ w.cell? ⟨b, 1, none⟩ = some (.int .i64 o) ∧ w.cell? ⟨b, 2, none⟩ = some (.bool c) ∧ w.cell? ⟨b, 3, none⟩ = some (.bool t)

/-- What stays of the world while the statement runs: its two Metas, the table, and all that was there. -/
structure St (w : World) (B : Nat) (v o : Int) (c t : Bool) (v2 o2 : Int) (c2 t2 : Bool) (w' : World) : Prop where
  m1 : MetaAt w' B v o c t
  m2 : MetaAt w' (B + 1) v2 o2 c2 t2
  tab : TabAt w'
  low : Below w.heap.size w w'
  big : B + 2 ≤ w'.heap.size
  base : B = w.heap.size
theorem St.step {w : World} {B : Nat} {v o : Int} {c t : Bool} {v2 o2 : Int} {c2 t2 : Bool} {w1 w2 : World} (h : St w B v o c t v2 o2 c2 t2 w1) (hb : Below w1.heap.size w1 w2) : St w B v o c t v2 o2 c2 t2 w2 := by
  have hz := hb.size
  refine ⟨⟨cell_later hb h.m1.1, cell_later hb h.m1.2.1, cell_later hb h.m1.2.2.1, cell_later hb h.m1.2.2.2⟩, ⟨cell_later hb h.m2.1, cell_later hb h.m2.2.1, cell_later hb h.m2.2.2.1, cell_later hb h.m2.2.2.2⟩, fun j hj => cell_later hb (h.tab j hj), h.low.trans (hb.mono ?_), ?_, h.base⟩
  · have := h.big; have := h.base; omega
  · have := h.big; omega
theorem St.start (w : World) (v o : Int) (c t : Bool) (v2 o2 : Int) (c2 t2 : Bool) (hT : TabAt w) :
    St w w.heap.size v o c t v2 o2 c2 t2 ((w.alloc (Obj.cells #[.int .i64 v, .int .i64 o, .bool c, .bool t] 35)).alloc (Obj.cells #[.int .i64 v2, .int .i64 o2, .bool c2, .bool t2] 35)) := by
  have hb : Below w.heap.size w ((w.alloc (Obj.cells #[.int .i64 v, .int .i64 o, .bool c, .bool t] 35)).alloc (Obj.cells #[.int .i64 v2, .int .i64 o2, .bool c2, .bool t2] 35)) := ((Below.refl _ _).alloc (Nat.le_refl _) _).alloc (by simp) _
  refine ⟨?_, ?_, fun j hj => cell_later hb (hT j hj), hb, by simp, rfl⟩
  · simp [MetaAt, go_sem]
  · simp [MetaAt, go_sem]

theorem mask_out (x : Nat) (hx : x < 18446744073709551616) : x &&& (18446744073709551615 - 252) = 2 ^ 8 * (x / 2 ^ 8) + x % 2 ^ 2 := by
  apply Nat.eq_of_testBit_eq
  intro j
  rw [Nat.testBit_and, show 18446744073709551615 - 252 = 2 ^ 64 - (252 + 1) from rfl, Nat.testBit_two_pow_sub_succ (by decide), Nat.testBit_two_pow_mul_add _ (by omega), Nat.testBit_mod_two_pow, Nat.testBit_div_two_pow]
  by_cases h64 : j < 64
  · by_cases h8 : j < 8
    · rcases (by omega : j = 0 ∨ j = 1 ∨ j = 2 ∨ j = 3 ∨ j = 4 ∨ j = 5 ∨ j = 6 ∨ j = 7) with rfl | rfl | rfl | rfl | rfl | rfl | rfl | rfl
      all_goals simp
      all_goals (first | done | (intro _; decide))
    · have : Nat.testBit 252 j = false := Nat.testBit_lt_two_pow (Nat.lt_of_lt_of_le (by decide : 252 < 2 ^ 8) (Nat.pow_le_pow_right (n := 2) (by omega) (by omega)))
      rw [this, if_neg h8, show j - 8 + 8 = j by omega]; simp [h64]
  · have : x.testBit j = false := Nat.testBit_lt_two_pow (Nat.lt_of_lt_of_le hx (Nat.pow_le_pow_right (n := 2) (i := 64) (by omega) (by omega)))
    rw [if_neg (by omega), show j - 8 + 8 = j by omega]; simp [h64, this]

theorem pack_unpack (x : Nat) (hx : x < 18446744073709551616) : bits BinOp.andNot IntKind.u64 (x : Int) 252 = (packN (x / 65536) (x / 256 % 256) (decide (x % 2 = 1)) (decide (x / 2 % 2 = 1)) : Int) := by
  rw [show (252 : Int) = ((252 : Nat) : Int) from rfl, u64_andNot_nat _ _ hx (by omega), mask_out x hx]
  unfold packN
  have e1 : (decide (x % 2 = 1)).toNat = x % 2 := by
    rcases (by omega : x % 2 = 0 ∨ x % 2 = 1) with h | h <;> simp [h]
  have e2 : (decide (x / 2 % 2 = 1)).toNat = x / 2 % 2 := by
    rcases (by omega : x / 2 % 2 = 0 ∨ x / 2 % 2 = 1) with h | h <;> simp [h]
  rw [e1, e2]; omega

theorem neqMeta (a b : Int) (c d : Bool) (w : World) : (binOp .neq 35 (.agg #[.int .i64 a, .int .i64 b, .bool c, .bool d]) (.agg #[.int .i64 a, .int .i64 b, .bool c, .bool d])).run Tryd.prog w = .ok (.bool false) w := by
  simp [go_sem, Tryd.underlying35]
theorem eqlMeta (a b : Int) (c d : Bool) (w : World) : (binOp .eql 35 (.agg #[.int .i64 a, .int .i64 b, .bool c, .bool d]) (.agg #[.int .i64 a, .int .i64 b, .bool c, .bool d])).run Tryd.prog w = .ok (.bool true) w := by
  simp [go_sem, Tryd.underlying35]

/-- What Pack answers, whatever the Meta. -/
def PackAny (v o : Int) (c t : Bool) (w : World) (e : Ending) (w' : World) : Prop :=
  ∃ (z : Nat) (x : Value) (n : Int), e = .returned (.tuple #[.int .u64 z, x]) ∧ z < 18446744073709551616 ∧ Below w.heap.size w w' ∧
    ((n = 0 ∧ x = .nilIface ∧ 0 ≤ v ∧ v ≤ 281474976710655 ∧ 0 ≤ o ∧ o ≤ 255 ∧ z = packN v.toNat o.toNat c t) ∨ (n = 2 ∧ z = 0 ∧ ErrNo w' x 2))
theorem bits_pack_any (v o : Int) (c t : Bool) (w : World) :
    Calls Tryd.prog 23 #[.agg #[.int .i64 v, .int .i64 o, .bool c, .bool t]] w (PackAny v o c t w) := by
  by_cases h : 0 ≤ v ∧ v ≤ 281474976710655 ∧ 0 ≤ o ∧ o ≤ 255
  · obtain ⟨a, b, cc, d⟩ := h
    obtain ⟨v, rfl⟩ := Int.eq_ofNat_of_zero_le a
    obtain ⟨o, rfl⟩ := Int.eq_ofNat_of_zero_le cc
    refine (bits_pack v o c t (by omega) (by omega) w).mono ?_
    rintro e w' ⟨rfl, hb⟩
    exact ⟨_, _, 0, rfl, pack_lt v o c t (by omega) (by omega), hb, Or.inl ⟨rfl, rfl, by omega, by omega, by omega, by omega, by simp⟩⟩
  · refine (bits_pack_bad v o c t h w).mono ?_
    rintro e w' ⟨x, rfl, he, hb⟩
    exact ⟨0, x, 2, rfl, by omega, hb, Or.inr ⟨rfl, rfl, he⟩⟩
/-- No of what Pack answered beside its word. -/
theorem no_any {w : World} {x : Value} {n : Int} (h : (n = 0 ∧ x = .nilIface) ∨ (n = 2 ∧ ErrNo w x 2)) : Calls Tryd.prog 25 #[x] w fun e w' => e = .returned (.int .i64 n) ∧ w = w' := by
  rcases h with ⟨rfl, rfl⟩ | ⟨rfl, h⟩
  · exact no_nil w
  · exact no_err h (by omega) (by omega)
/-- The reference's Pack tells the same number. -/
theorem ref_pack_any (v o : Int) (c t : Bool) (z : Nat) (n : Int) (w w1 : World) (x : Value)
    (h : (n = 0 ∧ x = .nilIface ∧ 0 ≤ v ∧ v ≤ 281474976710655 ∧ 0 ≤ o ∧ o ≤ 255 ∧ z = packN v.toNat o.toNat c t) ∨ (n = 2 ∧ z = 0 ∧ ErrNo w1 x 2 ∧ ¬ (0 ≤ v ∧ v ≤ 281474976710655 ∧ 0 ≤ o ∧ o ≤ 255))) :
    Calls Tryd.prog 24 #[.agg #[.int .i64 v, .int .i64 o, .bool c, .bool t]] w fun e w' => e = .returned (.tuple #[.int .u64 z, .int .i64 n]) ∧ Below w.heap.size w w' := by
  rcases h with ⟨rfl, rfl, a, b, cc, d, rfl⟩ | ⟨rfl, rfl, _, h⟩
  · obtain ⟨v, rfl⟩ := Int.eq_ofNat_of_zero_le a
    obtain ⟨o, rfl⟩ := Int.eq_ofNat_of_zero_le cc
    exact ref_pack v o c t (by omega) (by omega) w
  · exact ref_pack_bad v o c t h w

set_option maxHeartbeats 1000000 in
theorem law_packs_bad (v o : Int) (c t : Bool) (v2 o2 : Int) (c2 t2 : Bool) (x : Nat) (hx : x < 18446744073709551616) (hbad : ¬ (0 ≤ v ∧ v ≤ 281474976710655 ∧ 0 ≤ o ∧ o ≤ 255)) (w : World) (hT : TabAt w) :
    Calls Tryd.prog 8 #[.agg #[.int .i64 v, .int .i64 o, .bool c, .bool t], .agg #[.int .i64 v2, .int .i64 o2, .bool c2, .bool t2], .int .u64 x] w fun e w' => e = .returned (.bool true) ∧ Below w.heap.size w w' := by
  have S0 := St.start w v o c t v2 o2 c2 t2 hT
  have HB := Lib.hid hbad; clear hbad hT
  have hu := bits_unpack x hx
  have hr := ref_unpack x hx
  have hp := bits_pack (x / 65536) (x / 256 % 256) (decide (x % 2 = 1)) (decide (x / 2 % 2 = 1)) (by omega) (by omega)
  have hm := pack_unpack x hx
  unfold unV at hu hr
  generalize packN (x / 65536) (x / 256 % 256) (decide (x % 2 = 1)) (decide (x / 2 % 2 = 1)) = pk at *
  generalize x / 65536 = f0 at *
  generalize x / 256 % 256 = f1 at *
  generalize decide (x % 2 = 1) = f2 at *
  generalize decide (x / 2 % 2 = 1) = f3 at *
  have HU := Lib.hid hu; have HR := Lib.hid hr; have HP := Lib.hid hp
  clear hu hr hp
  have nM := neqMeta
  go_enter Tryd.func8, Tryd.ntmps8
  go_wp2_with fail
  generalize (w.alloc (Obj.cells #[.int .i64 v, .int .i64 o, .bool c, .bool t] 35)).alloc (Obj.cells #[.int .i64 v2, .int .i64 o2, .bool c2, .bool t2] 35) = W0 at *
  refine (bits_pack_bad v o c t HB.out W0).mono ?_
  rintro e w1 ⟨x1, rfl, he1, hb1⟩
  have S1 := S0.step hb1
  clear hb1 S0
  have c1 := S1.m1; unfold MetaAt at c1
  go_wp2_with fail
  refine (ref_pack_bad v o c t HB.out w1).mono ?_
  rintro e w2 ⟨rfl, hb2⟩
  have S2 := S1.step hb2
  have E2 := he1.below hb2
  clear hb2 S1 he1 c1
  have c1 := S2.m2; unfold MetaAt at c1
  go_wp2_with fail
  refine (bits_pack_any v2 o2 c2 t2 w2).mono ?_
  rintro e w3 ⟨z3, x3, n3, rfl, hz3, hb3, h3⟩
  have S3 := S2.step hb3
  have E3 := E2.below hb3
  clear hb3 S2 E2 c1 h3
  go_wp2_with fail
  refine (no_err E3 (by omega) (by omega)).mono ?_
  rintro e w' ⟨rfl, rfl⟩
  go_wp2_with fail
  refine (HU.out _).mono ?_
  rintro e w4 ⟨rfl, hb4⟩
  have S4 := S3.step hb4
  clear hb4 S3 E3
  go_wp2_with fail
  refine (HR.out _).mono ?_
  rintro e w5 ⟨rfl, hb5⟩
  have S5 := S4.step hb5
  clear hb5 S4
  go_wp2_with fail
  refine (HU.out _).mono ?_
  rintro e w6 ⟨rfl, hb6⟩
  have S6 := S5.step hb6
  clear hb6 S5
  go_wp2_with fail
  refine (HP.out _).mono ?_
  rintro e w7 ⟨rfl, hb7⟩
  have S7 := S6.step hb7
  clear hb7 S6
  go_wp2_with fail
  refine (no_nil _).mono ?_
  rintro e w' ⟨rfl, rfl⟩
  go_wp2_with fail
  refine (alive _ S7.tab).mono ?_
  rintro e w' ⟨rfl, rfl⟩
  go_wp2_with fail
  go_ret
  exact ⟨rfl, S7.low⟩

theorem unV_pack (v o : Nat) (c t : Bool) (ho : o ≤ 255) : unV (packN v o c t) = .agg #[.int .i64 v, .int .i64 o, .bool c, .bool t] := by
  unfold unV packN
  have h1 := Bool.toNat_le c; have h2 := Bool.toNat_le t
  have e1 : (65536 * v + 256 * o + 2 * t.toNat + c.toNat) / 65536 = v := by omega
  have e2 : (65536 * v + 256 * o + 2 * t.toNat + c.toNat) / 256 % 256 = o := by omega
  have e3 : decide ((65536 * v + 256 * o + 2 * t.toNat + c.toNat) % 2 = 1) = c := by cases c <;> simp at h1 ⊢ <;> omega
  have e4 : decide ((65536 * v + 256 * o + 2 * t.toNat + c.toNat) / 2 % 2 = 1) = t := by cases t <;> simp <;> omega
  rw [e1, e2, e3, e4]
theorem St.drew {w : World} {B : Nat} {v o : Int} {c t : Bool} {v2 o2 : Int} {c2 t2 : Bool} {w1 : World} (h : St w B v o c t v2 o2 c2 t2 w1) : St w B v o c t v2 o2 c2 t2 w1.drew :=
  h.step ⟨rfl, rfl, rfl, Nat.le_refl _, fun _ _ => rfl⟩

set_option maxHeartbeats 1000000 in
theorem law_packs_ok (v o : Nat) (c t : Bool) (v2 o2 : Int) (c2 t2 : Bool) (x : Nat) (hx : x < 18446744073709551616) (hv : v ≤ 281474976710655) (ho : o ≤ 255) (w : World) (hT : TabAt w) :
    Calls Tryd.prog 8 #[.agg #[.int .i64 v, .int .i64 o, .bool c, .bool t], .agg #[.int .i64 v2, .int .i64 o2, .bool c2, .bool t2], .int .u64 x] w fun e w' => e = .returned (.bool true) ∧ Below w.heap.size w w' := by
  have S0 := St.start w v o c t v2 o2 c2 t2 hT
  clear hT
  have hu := bits_unpack x hx
  have hr := ref_unpack x hx
  have hp := bits_pack (x / 65536) (x / 256 % 256) (decide (x % 2 = 1)) (decide (x / 2 % 2 = 1)) (by omega) (by omega)
  have hm := pack_unpack x hx
  unfold unV at hu hr
  generalize packN (x / 65536) (x / 256 % 256) (decide (x % 2 = 1)) (decide (x / 2 % 2 = 1)) = pk at *
  generalize x / 65536 = f0 at *
  generalize x / 256 % 256 = f1 at *
  generalize decide (x % 2 = 1) = f2 at *
  generalize decide (x / 2 % 2 = 1) = f3 at *
  have hq := bits_pack v o c t hv ho
  have hq2 := ref_pack v o c t hv ho
  have hlt := pack_lt v o c t hv ho
  have hun := bits_unpack (packN v o c t) hlt
  rw [unV_pack v o c t ho] at hun
  have hcmp : ∀ z : Nat, (v2 < (v : Int) ∧ 0 ≤ v2 ∧ v2 ≤ 281474976710655 ∧ 0 ≤ o2 ∧ o2 ≤ 255 ∧ z = packN v2.toNat o2.toNat c2 t2) → z < packN v o c t := by
    rintro z ⟨g1, g2, g3, g4, g5, rfl⟩
    have := Bool.toNat_le c2; have := Bool.toNat_le t2
    unfold packN; omega
  generalize packN v o c t = P at *
  have HU := Lib.hid hu; have HR := Lib.hid hr; have HP := Lib.hid hp; have HQ := Lib.hid hq; have HQ2 := Lib.hid hq2; have HN := Lib.hid hun; have HC := Lib.hid hcmp
  clear hu hr hp hq hq2 hun hcmp
  have nM := neqMeta
  have eM := eqlMeta
  go_enter Tryd.func8, Tryd.ntmps8
  go_wp2_with fail
  generalize (w.alloc (Obj.cells #[.int .i64 v, .int .i64 o, .bool c, .bool t] 35)).alloc (Obj.cells #[.int .i64 v2, .int .i64 o2, .bool c2, .bool t2] 35) = W0 at *
  refine (HQ.out W0).mono ?_
  rintro e w1 ⟨rfl, hb1⟩
  have S1 := S0.step hb1
  clear hb1 S0
  have c1 := S1.m1; unfold MetaAt at c1
  go_wp2_with fail
  refine (HQ2.out w1).mono ?_
  rintro e w2 ⟨rfl, hb2⟩
  have S2 := S1.step hb2
  clear hb2 S1 c1
  have c1 := S2.m2; unfold MetaAt at c1
  go_wp2_with fail
  refine (bits_pack_any v2 o2 c2 t2 w2).mono ?_
  rintro e w3 ⟨z3, x3, n3, rfl, hz3, hb3, h3⟩
  have S3 := S2.step hb3
  clear hb3 S2 c1
  have H3 := Lib.hid h3; clear h3
  go_wp2_with fail
  refine (no_nil _).mono ?_
  rintro e w' ⟨rfl, rfl⟩
  go_wp2_with fail
  refine (HU.out _).mono ?_
  rintro e w4 ⟨rfl, hb4⟩
  have S4 := S3.step hb4
  have N4 : (n3 = 0 ∧ x3 = .nilIface) ∨ (n3 = 2 ∧ ErrNo w4 x3 2) := by
    rcases H3.out with h | h
    · exact Or.inl ⟨h.1, h.2.1⟩
    · exact Or.inr ⟨h.1, h.2.2.below hb4⟩
  clear hb4 S3
  have C3 : Hid (n3 = 0 ∧ (v2 < (v : Int) → z3 < P) ∨ n3 = 2) := by
    refine Lib.hid ?_
    rcases H3.out with h | h
    · exact Or.inl ⟨h.1, fun g => HC.out z3 ⟨g, h.2.2⟩⟩
    · exact Or.inr h.1
  clear H3
  go_wp2_with fail
  refine (HR.out _).mono ?_
  rintro e w5 ⟨rfl, hb5⟩
  have S5 := S4.step hb5
  have N5 : (n3 = 0 ∧ x3 = .nilIface) ∨ (n3 = 2 ∧ ErrNo w5 x3 2) := by
    rcases N4 with h | h
    · exact Or.inl h
    · exact Or.inr ⟨h.1, h.2.below hb5⟩
  clear hb5 S4 N4
  go_wp2_with fail
  refine (HU.out _).mono ?_
  rintro e w6 ⟨rfl, hb6⟩
  have S6 := S5.step hb6
  have N6 : (n3 = 0 ∧ x3 = .nilIface) ∨ (n3 = 2 ∧ ErrNo w6 x3 2) := by
    rcases N5 with h | h
    · exact Or.inl h
    · exact Or.inr ⟨h.1, h.2.below hb6⟩
  clear hb6 S5 N5
  go_wp2_with fail
  refine (HP.out _).mono ?_
  rintro e w7 ⟨rfl, hb7⟩
  have S7 := S6.step hb7
  have N7 : (n3 = 0 ∧ x3 = .nilIface) ∨ (n3 = 2 ∧ ErrNo w7 x3 2) := by
    rcases N6 with h | h
    · exact Or.inl h
    · exact Or.inr ⟨h.1, h.2.below hb7⟩
  clear hb7 S6 N6
  go_wp2_with fail
  refine (no_nil _).mono ?_
  rintro e w' ⟨rfl, rfl⟩
  go_wp2_with fail
  refine (no_any N7).mono ?_
  rintro e w' ⟨rfl, rfl⟩
  clear N7
  have c1 := S7.m1; unfold MetaAt at c1
  have c2' := S7.m2; unfold MetaAt at c2'
  have key : Hid (n3 = 0 ∧ v2 < (v : Int) ∧ z3 < P ∨ n3 = 0 ∧ (v : Int) ≤ v2 ∨ n3 = 2) := by
    refine Lib.hid ?_
    rcases C3.out with h | h
    · by_cases g : v2 < (v : Int)
      · exact Or.inl ⟨h.1, g, h.2 g⟩
      · exact Or.inr (Or.inl ⟨h.1, by omega⟩)
    · exact Or.inr (Or.inr h)
  clear C3
  rcases key.out with ⟨rfl, g1, g2⟩ | ⟨rfl, g1⟩ | rfl
  all_goals
    clear key
    go_wp2_with fail
    have S8 := S7.drew
    go_region_with (first | (go_at_call 26; refine (HN.out _).mono ?_; rintro e w8 ⟨rfl, hb8⟩; have S9 := S8.step hb8; have c9 := S9.m1; unfold MetaAt at c9) | (go_at_call 13; refine (alive _ ?_).mono ?_; exact St.tab (by assumption); rintro e w' ⟨rfl, rfl⟩))
    all_goals (try go_wp2)
    all_goals go_ret
    all_goals exact ⟨rfl, St.low (by assumption)⟩

theorem law_packs (v o : Int) (c t : Bool) (v2 o2 : Int) (c2 t2 : Bool) (x : Nat) (hx : x < 18446744073709551616) (w : World) (hT : TabAt w) :
    Calls Tryd.prog 8 #[.agg #[.int .i64 v, .int .i64 o, .bool c, .bool t], .agg #[.int .i64 v2, .int .i64 o2, .bool c2, .bool t2], .int .u64 x] w fun e w' => e = .returned (.bool true) ∧ Below w.heap.size w w' := by
  by_cases h : 0 ≤ v ∧ v ≤ 281474976710655 ∧ 0 ≤ o ∧ o ≤ 255
  · obtain ⟨a, b, cc, d⟩ := h
    obtain ⟨v, rfl⟩ := Int.eq_ofNat_of_zero_le a
    obtain ⟨o, rfl⟩ := Int.eq_ofNat_of_zero_le cc
    exact law_packs_ok v o c t v2 o2 c2 t2 x hx (by omega) (by omega) w hT
  · exact law_packs_bad v o c t v2 o2 c2 t2 x hx h w hT
end Go.Proofs.YtpmbomnblionbaaDoor
