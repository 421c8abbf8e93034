/- What each function of layer 3 (bits) computes: one contract a function. -/
import Derived.Test.YtgmdbfackbdnlaaGreatDoorRows
import Derived.Test.YtgmdbfackbdnlaaGreatDoorBitsPlain
import Derived.WalkKit
import Derived.WalkSpells
import Derived.WalkLawsBesides
import Derived.Lib.Hide
import Derived.BigQuiet
import Derived.Deep.QuietTactic
namespace Go.Proofs.YtgmdbfackbdnlaaGreatDoor
open Go.RowKit Bp

theorem ret_int {k : IntKind} {a b : Int} (h : a = b) : Ending.returned (.int k a) = .returned (.int k b) := by rw [h]
theorem ret_bool {a b : Bool} (h : a = b) : Ending.returned (.bool a) = .returned (.bool b) := by rw [h]

theorem hash_form (x : Int) : IntKind.u64.wrap (IntKind.u64.wrap x * 11400714819323198485) / 4294967296 % 4294967296 = (hashN x : Int) := by
  unfold hashN; rw [IntKind.wrap_u64, IntKind.wrap_u64]
  generalize x % 18446744073709551616 * 11400714819323198485 = y
  omega

set_option maxHeartbeats 400000 in
theorem bits_hash (x : Int) (w : World) :
    Calls Tryz.prog 86 #[.int .i64 x] w fun e w' => e = .returned (.int .u32 (hashN x)) ∧ w = w' := by
  go_enter Tryz.func86, Tryz.ntmps86
  go_wp2
  go_ret
  exact ⟨ret_int (hash_form x), rfl⟩

theorem slot_form (h : Nat) (hh : h < 4294967296) (k : Nat) :
    wrap64 (bits BinOp.and IntKind.u32 ((h : Int) / 2 ^ k) 31) = ((h / 2 ^ k % 32 : Nat) : Int) := by
  have e : ((h : Int) / 2 ^ k) = ((h / 2 ^ k : Nat) : Int) := by simp
  have hl : h / 2 ^ k < 4294967296 := Nat.lt_of_le_of_lt (Nat.div_le_self _ _) hh
  rw [e, show (31 : Int) = ((31 : Nat) : Int) from rfl, u32_and_nat _ 31 hl (by omega), nat_mask5]
  have : h / 2 ^ k % 32 < 32 := Nat.mod_lt _ (by omega)
  generalize h / 2 ^ k % 32 = z at *
  unfold wrap64; omega

set_option maxHeartbeats 400000 in
theorem bits_slot (h : Nat) (l : Int) (hh : h < 4294967296) (w : World) :
    Calls Tryz.prog 306 #[.int .u32 h, .int .i64 l] w fun e w' => e = .returned (.int .i64 (slotN h l)) ∧ w = w' := by
  have s0 := slot_form h hh 0
  have s6 := slot_form h hh 30
  have sl := slot_form h hh (5 * l).toNat
  have S0 := Lib.hid s0; have S6 := Lib.hid s6; have SL := Lib.hid sl
  clear s0 s6 sl
  rcases (by omega : 6 < l ∨ (0 < l ∧ l ≤ 6) ∨ l ≤ 0) with hl | ⟨hl, hl'⟩ | hl
  · go_enter Tryz.func306, Tryz.ntmps306
    go_wp2
    go_ret
    refine ⟨ret_int ?_, rfl⟩
    have e : lev l = 6 := by unfold lev; omega
    unfold slotN; rw [e]; exact S6.out
  · go_enter Tryz.func306, Tryz.ntmps306
    go_wp2
    go_ret
    refine ⟨ret_int ?_, rfl⟩
    have e : 5 * lev l = (5 * l).toNat := by unfold lev; omega
    unfold slotN; rw [e]; exact SL.out
  · go_enter Tryz.func306, Tryz.ntmps306
    go_wp2
    go_ret
    refine ⟨ret_int ?_, rfl⟩
    have e : lev l = 0 := by unfold lev; omega
    unfold slotN; rw [e]; simpa using S0.out

theorem in_form (s : Int) : bits BinOp.and IntKind.u64 (IntKind.u64.wrap s) 31 = (inN s : Int) := by
  rw [IntKind.wrap_u64]
  have e : s % 18446744073709551616 = ((s % 18446744073709551616).toNat : Int) := by omega
  rw [e, show (31 : Int) = ((31 : Nat) : Int) from rfl, u64_and_nat _ _ (by omega) (by omega), nat_mask5]
  unfold inN; omega

theorem pow_lt (k : Nat) (h : k < 32) : 2 ^ k < 4294967296 := Nat.pow_lt_pow_of_lt (a := 2) (by omega) h
theorem pow_u32 (k : Nat) (h : k < 32) : (2 : Int) ^ k % 4294967296 = ((2 ^ k : Nat) : Int) := by
  have := pow_lt k h
  have e : (2 : Int) ^ k = ((2 ^ k : Nat) : Int) := by simp
  rw [e]; generalize 2 ^ k = z at *; omega

set_option maxHeartbeats 400000 in
theorem bits_bit (s : Int) (w : World) :
    Calls Tryz.prog 257 #[.int .i64 s] w fun e w' => e = .returned (.int .u32 (2 ^ inN s : Nat)) ∧ w = w' := by
  have hf := in_form s
  have hl := in_lt s
  generalize inN s = k at *
  go_enter Tryz.func257, Tryz.ntmps257
  go_wp2
  go_ret
  refine ⟨ret_int ?_, rfl⟩
  exact pow_u32 k hl

theorem pow_cast (k : Nat) : (2 : Int) ^ k = ((2 ^ k : Nat) : Int) := by simp
theorem has_form (m : Nat) (hm : m < 4294967296) (k : Nat) (hk : k < 32) : (bits BinOp.and IntKind.u32 (m : Int) (2 ^ k) != 0) = m.testBit k := by
  rw [pow_cast, u32_and_nat m _ hm (pow_lt k hk), nat_bit, testBit_div]
  have h2 : 0 < 2 ^ k := Nat.two_pow_pos k
  have : m / 2 ^ k % 2 < 2 := Nat.mod_lt _ (by omega)
  rcases (by omega : m / 2 ^ k % 2 = 0 ∨ m / 2 ^ k % 2 = 1) with e | e
  · simp [e]
  · rw [e]; generalize 2 ^ k = z at *
    simp; omega
theorem with_form (m : Nat) (hm : m < 4294967296) (k : Nat) (hk : k < 32) : bits BinOp.or IntKind.u32 (m : Int) (2 ^ k) = ((m ||| 2 ^ k : Nat) : Int) := by
  rw [pow_cast, u32_or_nat m _ hm (pow_lt k hk)]
theorem without_form (m : Nat) (hm : m < 4294967296) (k : Nat) (hk : k < 32) : bits BinOp.andNot IntKind.u32 (m : Int) (2 ^ k) = ((m &&& (4294967295 - 2 ^ k) : Nat) : Int) := by
  rw [pow_cast, u32_andNot_nat m _ hm (pow_lt k hk)]

set_option maxHeartbeats 400000 in
theorem bits_has (m : Nat) (s : Int) (hm : m < 4294967296) (w : World) :
    Calls Tryz.prog 192 #[.int .u32 m, .int .i64 s] w fun e w' => e = .returned (.bool (m.testBit (inN s))) ∧ w = w' := by
  go_enter Tryz.func192, Tryz.ntmps192
  go_wp2_with (go_at_call 257; refine (bits_bit _ _).mono ?_; rintro e w' ⟨rfl, rfl⟩)
  go_ret
  exact ⟨ret_bool (has_form m hm _ (in_lt s)), rfl⟩
set_option maxHeartbeats 400000 in
theorem bits_with (m : Nat) (s : Int) (hm : m < 4294967296) (w : World) :
    Calls Tryz.prog 340 #[.int .u32 m, .int .i64 s] w fun e w' => e = .returned (.int .u32 (m ||| 2 ^ inN s : Nat)) ∧ w = w' := by
  go_enter Tryz.func340, Tryz.ntmps340
  go_wp2_with (go_at_call 257; refine (bits_bit _ _).mono ?_; rintro e w' ⟨rfl, rfl⟩)
  go_ret
  exact ⟨ret_int (with_form m hm _ (in_lt s)), rfl⟩
set_option maxHeartbeats 400000 in
theorem bits_without (m : Nat) (s : Int) (hm : m < 4294967296) (w : World) :
    Calls Tryz.prog 335 #[.int .u32 m, .int .i64 s] w fun e w' => e = .returned (.int .u32 (m &&& (4294967295 - 2 ^ inN s) : Nat)) ∧ w = w' := by
  go_enter Tryz.func335, Tryz.ntmps335
  go_wp2_with (go_at_call 257; refine (bits_bit _ _).mono ?_; rintro e w' ⟨rfl, rfl⟩)
  go_ret
  exact ⟨ret_int (without_form m hm _ (in_lt s)), rfl⟩
theorem byte_form (m k : Nat) (hm : m < 4294967296) : bits BinOp.and IntKind.u32 ((m : Int) / (k : Int)) 255 = ((m / k % 256 : Nat) : Int) := by
  have e : ((m : Int) / (k : Int)) = ((m / k : Nat) : Int) := by simp
  have hl : m / k < 4294967296 := Nat.lt_of_le_of_lt (Nat.div_le_self _ _) hm
  rw [e, show (255 : Int) = ((255 : Nat) : Int) from rfl, u32_and_nat _ 255 hl (by omega), nat_mask8]
set_option maxRecDepth 100000 in
set_option maxHeartbeats 1000000 in
theorem ones_count (m : Nat) (hm : m < 4294967296) (w : World) :
    Calls Tryz.prog 256 #[.int .u32 m] w fun e w' => e = .returned (.int .i64 (pop 32 m)) ∧ ∃ n, w' = w.drewN n := by
  have b0 := byte_form m 1 hm
  have b1 : bits BinOp.and IntKind.u32 ((m : Int) / 256) 255 = ((m / 256 % 256 : Nat) : Int) := byte_form m 256 hm
  have b2 : bits BinOp.and IntKind.u32 ((m : Int) / 65536) 255 = ((m / 65536 % 256 : Nat) : Int) := byte_form m 65536 hm
  simp only [Int.ediv_one, Nat.div_one, Int.natCast_one] at b0
  have b3 : (m : Int) / 16777216 = ((m / 16777216 : Nat) : Int) := by simp
  have l0 : m % 256 < 256 := by omega
  have l1 : m / 256 % 256 < 256 := by omega
  have l2 : m / 65536 % 256 < 256 := by omega
  have l3 : m / 16777216 < 256 := by omega
  have k0 : ((m % 256 : Nat) : Int) < 256 := by omega
  have k1 : ((m / 256 % 256 : Nat) : Int) < 256 := by omega
  have k2 : ((m / 65536 % 256 : Nat) : Int) < 256 := by omega
  have k3 : ((m / 16777216 : Nat) : Int) < 256 := by omega
  generalize hi0 : m % 256 = i0 at *
  generalize hi1 : m / 256 % 256 = i1 at *
  generalize hi2 : m / 65536 % 256 = i2 at *
  generalize hi3 : m / 16777216 = i3 at *
  have H0 := Lib.hid hi0; have H1 := Lib.hid hi1; have H2 := Lib.hid hi2; have H3 := Lib.hid hi3
  clear hi0 hi1 hi2 hi3
  go_enter Tryz.func256, Tryz.ntmps256
  go_wp2
  go_quiet (fail)
  go_wp2
  go_ret
  exact ⟨ret_int (ones_close _ m i0 i1 i2 i3 (by decide +kernel) (by decide +kernel) l0 l1 l2 l3 H0.out H1.out H2.out H3.out), nq, rfl⟩

theorem rank_form (m : Nat) (hm : m < 4294967296) (k : Nat) (hk : k < 32) : bits BinOp.and IntKind.u32 (m : Int) (((2 : Int) ^ k - 1) % 4294967296) = ((m % 2 ^ k : Nat) : Int) := by
  have h1 := pow_lt k hk
  have h2 : 0 < 2 ^ k := Nat.two_pow_pos k
  have e : ((2 : Int) ^ k - 1) % 4294967296 = ((2 ^ k - 1 : Nat) : Int) := by rw [pow_cast]; generalize 2 ^ k = z at *; omega
  rw [e, u32_and_nat m _ hm (by omega), Nat.and_two_pow_sub_one_eq_mod]

set_option maxHeartbeats 400000 in
theorem bits_rank (m : Nat) (s : Int) (hm : m < 4294967296) (w : World) :
    Calls Tryz.prog 190 #[.int .u32 m, .int .i64 s] w fun e w' => e = .returned (.int .i64 (pop (inN s) m)) ∧ ∃ n, w' = w.drewN n := by
  have hf := rank_form m hm _ (in_lt s)
  have hl : m % 2 ^ inN s < 4294967296 := Nat.lt_of_le_of_lt (Nat.mod_le _ _) hm
  have hp : pop 32 (m % 2 ^ inN s) = pop (inN s) m := pop_mod_le _ _ _ (by have := in_lt s; omega)
  have HP := Lib.hid hp; clear hp
  go_enter Tryz.func190, Tryz.ntmps190
  go_wp2_with (first | (go_at_call 257; refine (bits_bit _ _).mono ?_; rintro e w' ⟨rfl, rfl⟩) | (go_at_call 256; refine (ones_count _ hl _).mono ?_; rintro e w' ⟨rfl, n, rfl⟩))
  go_ret
  exact ⟨ret_int (by rw [HP.out]), _, rfl⟩

def TabAt (w : World) : Prop := ∀ j, j < 64 → w.cell? ⟨0, j, none⟩ = some (.int .u8 (Lib.deBruijn64tab.getD j 0))

theorem tz_key (x a : Nat) (hx : x < 18446744073709551616) (hx0 : x ≠ 0) (hlow : x &&& (18446744073709551616 - x) = a) :
    IntKind.u64.wrap (bits BinOp.and IntKind.u64 (x : Int) (IntKind.u64.wrap (-(x : Int))) * 285870213051353865) / 288230376151711744 = ((a * 285870213051353865 % 18446744073709551616 / 288230376151711744 : Nat) : Int) := by
  have e1 : IntKind.u64.wrap (-(x : Int)) = ((18446744073709551616 - x : Nat) : Int) := by rw [IntKind.wrap_u64]; omega
  rw [e1, u64_and_nat x _ hx (by omega), hlow, IntKind.wrap_u64]
  omega

set_option maxHeartbeats 400000 in
theorem tz_core (x k idx : Nat) (w : World) (hx0 : ((x : Int) == 0) = false)
    (key : IntKind.u64.wrap (bits BinOp.and IntKind.u64 (x : Int) (IntKind.u64.wrap (-(x : Int))) * 285870213051353865) / 288230376151711744 = (idx : Int))
    (hi : idx < 64) (hk : k < 64) (hcell : w.cell? ⟨0, idx, none⟩ = some (.int .u8 k)) :
    Calls Tryz.prog 147 #[.int .u64 x] w fun e w' => e = .returned (.int .i64 k) ∧ w = w' := by
  go_enter Tryz.func147, Tryz.ntmps147
  go_wp2_with (simp only [key])
  go_ret
  exact ⟨rfl, rfl⟩

theorem tz64 (x : Nat) (hx : x < 18446744073709551616) (w : World) (hT : TabAt w) :
    Calls Tryz.prog 147 #[.int .u64 x] w fun e w' => e = .returned (.int .i64 (Lib.ctz 64 x)) ∧ w = w' := by
  by_cases hx0 : x = 0
  · subst hx0
    show Calls Tryz.prog 147 #[.int .u64 0] w fun e w' => e = .returned (.int .i64 64) ∧ w = w'
    go_enter Tryz.func147, Tryz.ntmps147
    go_wp2
    go_ret
    exact ⟨rfl, rfl⟩
  · obtain ⟨hlow, hk⟩ := Lib.lowest_bit 64 x hx0 hx
    obtain ⟨hi, htab⟩ := Lib.deBruijn64_at _ hk
    have hcell := hT _ hi
    rw [htab] at hcell
    exact tz_core x _ _ w (by simp; omega) (tz_key x _ hx hx0 hlow) hi hk hcell

theorem ctz_le (x : Nat) (hx : x < 18446744073709551616) : Lib.ctz 64 x ≤ 64 := by
  by_cases hx0 : x = 0
  · subst hx0; exact Nat.le_refl _
  · exact Nat.le_of_lt (Lib.lowest_bit 64 x hx0 hx).2

set_option maxHeartbeats 400000 in
theorem bits_tall (d : Nat) (most : Int) (hd : d < 18446744073709551616) (w : World) (hT : TabAt w) :
    Calls Tryz.prog 85 #[.int .u64 d, .int .i64 most] w fun e w' => e = .returned (.int .i64 (tallN d most)) ∧ w = w' := by
  have hc := ctz_le d hd
  have ht := tz64 d hd w hT
  have hn : tallN d most = min (1 + (Lib.ctz 64 d : Int)) (max most 1) := rfl
  generalize Lib.ctz 64 d = c at *
  generalize tallN d most = t at *
  have HT := Lib.hid ht; clear ht
  have HN := Lib.hid hn; clear hn hT
  go_enter Tryz.func85, Tryz.ntmps85
  go_wp2_with (go_at_call 147; refine HT.out.mono ?_; rintro e w' ⟨rfl, rfl⟩)
  all_goals go_ret
  all_goals exact ⟨ret_int (by have := HN.out; omega), rfl⟩
end Go.Proofs.YtgmdbfackbdnlaaGreatDoor
