/- What each function of the reference of layer 3 computes: one contract a function. -/
import Derived.Test.YtpmbomnblionbaaDoorBitsWalks
import Derived.LoopTactic
namespace Go.Proofs.YtpmbomnblionbaaDoor
open Go.RowKit Bp

set_option maxHeartbeats 400000 in
theorem ref_hash (x : Int) (w : World) :
    Calls Tryd.prog 10 #[.int .i64 x] w fun e w' => e = .returned (.int .u32 (hashN x)) ∧ w = w' := by
  have hf := hash_form x
  have h0 : 0 ≤ IntKind.u64.wrap (IntKind.u64.wrap x * 11400714819323198485) := by rw [IntKind.wrap_u64]; omega
  have h1 : IntKind.u64.wrap (IntKind.u64.wrap x * 11400714819323198485) ≤ 18446744073709551615 := by rw [IntKind.wrap_u64]; omega
  have e : IntKind.u64.wrap ((IntKind.u64.wrap (IntKind.u64.wrap x * 11400714819323198485)).tdiv 4294967296) % 4294967296 = (hashN x : Int) := by
    rw [← hf]
    generalize IntKind.u64.wrap (IntKind.u64.wrap x * 11400714819323198485) = y at *
    rw [IntKind.wrap_u64, Int.tdiv_eq_ediv_of_nonneg h0]; omega
  have HE := Lib.hid e; clear e hf h0 h1
  go_enter Tryd.func10, Tryd.ntmps10
  go_wp2
  go_ret
  exact ⟨ret_int HE.out, rfl⟩

theorem beq_mod (b : Nat) : (((b : Int) % 2 == 1) : Bool) = decide (b % 2 = 1) := by
  rw [Bool.eq_iff_iff]; simp; omega

theorem div_pow (a k : Nat) : a / 2 ^ k / 2 = a / 2 ^ (k + 1) := by rw [Nat.div_div_eq_div_mul, Nat.pow_succ]

set_option maxHeartbeats 400000 in
theorem ref_bit (a : Nat) (n : Int) (ha : a < 18446744073709551616) (hn : n ≤ 1000) (w : World) :
    Calls Tryd.prog 28 #[.int .u64 a, .int .i64 n] w fun e w' => e = .returned (.bool (a.testBit n.toNat)) ∧ w = w' := by
  go_enter Tryd.func28, Tryd.ntmps28
  go_wp2
  go_loop [0, 5] (fun x i => ∃ k : Nat, k ≤ n.toNat ∧ i = .int .i64 k ∧ x = .int .u64 (a / 2 ^ k : Nat)) (fun _ i => n.toNat - (intOf i).toNat)
  case atStart => exact ⟨0, Nat.zero_le _, rfl, by simp⟩
  case round =>
    obtain ⟨k, hk, rfl, rfl⟩ := hrel
    have hd : a / 2 ^ k < 18446744073709551616 := Nat.lt_of_le_of_lt (Nat.div_le_self _ _) ha
    have hs := div_pow a k
    have ht := testBit_div a k
    generalize a / 2 ^ k = b at *
    have HS := Lib.hid hs; clear hs
    have HT := Lib.hid ht; clear ht
    by_cases hlt : (k : Int) < n
    · go_wp2
      go_round
      case rel => exact ⟨k + 1, by omega, by go_num, by rw [← HS.out]; simp⟩
      case measure => simp [intOf]; omega
    · have hge : n ≤ (k : Int) := by omega
      have HK := Lib.hid (show n.toNat = k by omega)
      clear hlt
      go_wp2
      go_ret
      exact ⟨ret_bool (by rw [HK.out, HT.out]; exact beq_mod b), rfl⟩

/-- The low k bits of the five at a level. -/
def low5 (h l k : Nat) : Nat := h / 2 ^ (5 * l) % 2 ^ k
theorem low5_succ (h l k : Nat) : low5 h l (k + 1) = low5 h l k + 2 ^ k * (h.testBit (5 * l + k)).toNat := by
  unfold low5; rw [mod_succ, Nat.testBit_div_two_pow, Nat.add_comm k]

set_option maxHeartbeats 400000 in
theorem ref_slot_lo (h : Nat) (l : Int) (hh : h < 4294967296) (hl : l < 0) (w : World) :
    Calls Tryd.prog 12 #[.int .u32 h, .int .i64 l] w fun e w' => e = .returned (.int .i64 (low5 h 0 5)) ∧ w = w' := by
  go_enter Tryd.func12, Tryd.ntmps12
  go_wp2
  go_loop [5, 6, 7] (fun s p i => ∃ k : Nat, k ≤ 5 ∧ i = .int .i64 k ∧ p = .int .i64 (2 ^ k : Nat) ∧ s = .int .i64 (low5 h 0 k)) (fun _ _ i => 5 - (intOf i).toNat)
  case atStart => exact ⟨0, Nat.zero_le _, rfl, rfl, by simp [low5]⟩
  case round =>
    obtain ⟨k, hk, rfl, rfl, rfl⟩ := hrel
    have hsu := low5_succ h 0 k
    have hlo : low5 h 0 k < 2 ^ k := Nat.mod_lt _ (Nat.two_pow_pos k)
    have hpp : 2 ^ k ≤ 32 := Nat.pow_le_pow_right (n := 2) (j := 5) (by omega) hk
    have hps : 2 ^ (k + 1) = 2 * 2 ^ k := by rw [Nat.pow_succ]; omega
    have hout : 32 ≤ 5 * 0 + k → h.testBit (5 * 0 + k) = false := fun h5 => Nat.testBit_lt_two_pow (Nat.lt_of_lt_of_le hh (Nat.pow_le_pow_right (n := 2) (i := 32) (by omega) h5))
    have hbit : Calls Tryd.prog 28 #[.int .u64 h, .int .i64 ((k : Int))] w fun e w' => e = .returned (.bool (h.testBit (5 * 0 + k))) ∧ w = w' := by
      have := ref_bit h ((k : Int)) (by omega) (by omega) w
      rw [show ((k : Int)).toNat = 5 * 0 + k by omega] at this
      exact this
    generalize h.testBit (5 * 0 + k) = b at *
    generalize hlk : low5 h 0 k = s at *
    generalize hpk : 2 ^ k = p at *
    have HS := Lib.hid hsu; have HP := Lib.hid hps; have HO := Lib.hid hout; have HB := Lib.hid hbit; have HL := Lib.hid hlk; have HK := Lib.hid hpk
    clear hsu hps hout hbit hlk hpk
    by_cases hlt : k < 5
    · have hlt' : (k : Int) < 5 := by omega
      have rel : ∃ k' : Nat, k' ≤ 5 ∧ Value.int .i64 ((k : Int) + 1) = .int .i64 k' ∧ Value.int .i64 (2 * (p : Int)) = .int .i64 (2 ^ k' : Nat) ∧ Value.int .i64 ((s : Int) + (p : Int) * (b.toNat : Int)) = .int .i64 (low5 h 0 k') :=
        ⟨k + 1, by omega, by go_num, by rw [HP.out]; go_num, by rw [HS.out]; go_num⟩
      have HR := Lib.hid rel; clear rel
      by_cases hin : 5 * 0 + k < 32
      · have hin' : decide ((k : Int) < 32) = true := by simp; omega
        cases b with
        | true =>
          go_wp2_with (go_at_call 28; refine HB.out.mono ?_; rintro e w' ⟨rfl, rfl⟩)
          go_round
          case rel => simpa using HR.out
          case measure => simp [intOf]; omega
        | false =>
          go_wp2_with (go_at_call 28; refine HB.out.mono ?_; rintro e w' ⟨rfl, rfl⟩)
          go_round
          case rel => simpa using HR.out
          case measure => simp [intOf]; omega
      · have hin' : decide ((k : Int) < 32) = false := by simp; omega
        obtain rfl : b = false := HO.out (by omega)
        go_wp2_with (go_at_call 28; refine HB.out.mono ?_; rintro e w' ⟨rfl, rfl⟩)
        go_round
        case rel => simpa using HR.out
        case measure => simp [intOf]; omega
    · have hge : 5 ≤ (k : Int) := by omega
      have HE := Lib.hid (show k = 5 by omega)
      clear hlt
      go_wp2
      go_ret
      exact ⟨ret_int (by rw [← HL.out, HE.out]), rfl⟩
set_option maxHeartbeats 400000 in
theorem ref_slot_in (h : Nat) (l : Nat) (hh : h < 4294967296) (hl : l ≤ 6) (w : World) :
    Calls Tryd.prog 12 #[.int .u32 h, .int .i64 l] w fun e w' => e = .returned (.int .i64 (low5 h l 5)) ∧ w = w' := by
  have l0 : (0 : Int) ≤ l := by omega
  have l6 : (l : Int) ≤ 6 := by omega
  go_enter Tryd.func12, Tryd.ntmps12
  go_wp2
  go_loop [5, 6, 7] (fun s p i => ∃ k : Nat, k ≤ 5 ∧ i = .int .i64 k ∧ p = .int .i64 (2 ^ k : Nat) ∧ s = .int .i64 (low5 h l k)) (fun _ _ i => 5 - (intOf i).toNat)
  case atStart => exact ⟨0, Nat.zero_le _, rfl, rfl, by simp [low5]⟩
  case round =>
    obtain ⟨k, hk, rfl, rfl, rfl⟩ := hrel
    have hsu := low5_succ h l k
    have hlo : low5 h l k < 2 ^ k := Nat.mod_lt _ (Nat.two_pow_pos k)
    have hpp : 2 ^ k ≤ 32 := Nat.pow_le_pow_right (n := 2) (j := 5) (by omega) hk
    have hps : 2 ^ (k + 1) = 2 * 2 ^ k := by rw [Nat.pow_succ]; omega
    have hout : 32 ≤ 5 * l + k → h.testBit (5 * l + k) = false := fun h5 => Nat.testBit_lt_two_pow (Nat.lt_of_lt_of_le hh (Nat.pow_le_pow_right (n := 2) (i := 32) (by omega) h5))
    have hbit : Calls Tryd.prog 28 #[.int .u64 h, .int .i64 (5 * (l : Int) + (k : Int))] w fun e w' => e = .returned (.bool (h.testBit (5 * l + k))) ∧ w = w' := by
      have := ref_bit h (5 * (l : Int) + (k : Int)) (by omega) (by omega) w
      rw [show (5 * (l : Int) + (k : Int)).toNat = 5 * l + k by omega] at this
      exact this
    generalize h.testBit (5 * l + k) = b at *
    generalize hlk : low5 h l k = s at *
    generalize hpk : 2 ^ k = p at *
    have HS := Lib.hid hsu; have HP := Lib.hid hps; have HO := Lib.hid hout; have HB := Lib.hid hbit; have HL := Lib.hid hlk; have HK := Lib.hid hpk
    clear hsu hps hout hbit hlk hpk
    by_cases hlt : k < 5
    · have hlt' : (k : Int) < 5 := by omega
      have rel : ∃ k' : Nat, k' ≤ 5 ∧ Value.int .i64 ((k : Int) + 1) = .int .i64 k' ∧ Value.int .i64 (2 * (p : Int)) = .int .i64 (2 ^ k' : Nat) ∧ Value.int .i64 ((s : Int) + (p : Int) * (b.toNat : Int)) = .int .i64 (low5 h l k') :=
        ⟨k + 1, by omega, by go_num, by rw [HP.out]; go_num, by rw [HS.out]; go_num⟩
      have HR := Lib.hid rel; clear rel
      by_cases hin : 5 * l + k < 32
      · have hin' : decide (5 * (l : Int) + (k : Int) < 32) = true := by simp; omega
        cases b with
        | true =>
          go_wp2_with (go_at_call 28; refine HB.out.mono ?_; rintro e w' ⟨rfl, rfl⟩)
          go_round
          case rel => simpa using HR.out
          case measure => simp [intOf]; omega
        | false =>
          go_wp2_with (go_at_call 28; refine HB.out.mono ?_; rintro e w' ⟨rfl, rfl⟩)
          go_round
          case rel => simpa using HR.out
          case measure => simp [intOf]; omega
      · have hin' : decide (5 * (l : Int) + (k : Int) < 32) = false := by simp; omega
        obtain rfl : b = false := HO.out (by omega)
        go_wp2_with (go_at_call 28; refine HB.out.mono ?_; rintro e w' ⟨rfl, rfl⟩)
        go_round
        case rel => simpa using HR.out
        case measure => simp [intOf]; omega
    · have hge : 5 ≤ (k : Int) := by omega
      have HE := Lib.hid (show k = 5 by omega)
      clear hlt
      go_wp2
      go_ret
      exact ⟨ret_int (by rw [← HL.out, HE.out]), rfl⟩
set_option maxHeartbeats 400000 in
theorem ref_slot_hi (h : Nat) (l : Int) (hh : h < 4294967296) (hl : 6 < l) (w : World) :
    Calls Tryd.prog 12 #[.int .u32 h, .int .i64 l] w fun e w' => e = .returned (.int .i64 (low5 h 6 5)) ∧ w = w' := by
  have hl' : ¬ l < 0 := by omega
  go_enter Tryd.func12, Tryd.ntmps12
  go_wp2
  go_loop [5, 6, 7] (fun s p i => ∃ k : Nat, k ≤ 5 ∧ i = .int .i64 k ∧ p = .int .i64 (2 ^ k : Nat) ∧ s = .int .i64 (low5 h 6 k)) (fun _ _ i => 5 - (intOf i).toNat)
  case atStart => exact ⟨0, Nat.zero_le _, rfl, rfl, by simp [low5]⟩
  case round =>
    obtain ⟨k, hk, rfl, rfl, rfl⟩ := hrel
    have hsu := low5_succ h 6 k
    have hlo : low5 h 6 k < 2 ^ k := Nat.mod_lt _ (Nat.two_pow_pos k)
    have hpp : 2 ^ k ≤ 32 := Nat.pow_le_pow_right (n := 2) (j := 5) (by omega) hk
    have hps : 2 ^ (k + 1) = 2 * 2 ^ k := by rw [Nat.pow_succ]; omega
    have hout : 32 ≤ 5 * 6 + k → h.testBit (5 * 6 + k) = false := fun h5 => Nat.testBit_lt_two_pow (Nat.lt_of_lt_of_le hh (Nat.pow_le_pow_right (n := 2) (i := 32) (by omega) h5))
    have hbit : Calls Tryd.prog 28 #[.int .u64 h, .int .i64 (30 + (k : Int))] w fun e w' => e = .returned (.bool (h.testBit (5 * 6 + k))) ∧ w = w' := by
      have := ref_bit h (30 + (k : Int)) (by omega) (by omega) w
      rw [show (30 + (k : Int)).toNat = 5 * 6 + k by omega] at this
      exact this
    generalize h.testBit (5 * 6 + k) = b at *
    generalize hlk : low5 h 6 k = s at *
    generalize hpk : 2 ^ k = p at *
    have HS := Lib.hid hsu; have HP := Lib.hid hps; have HO := Lib.hid hout; have HB := Lib.hid hbit; have HL := Lib.hid hlk; have HK := Lib.hid hpk
    clear hsu hps hout hbit hlk hpk
    by_cases hlt : k < 5
    · have hlt' : (k : Int) < 5 := by omega
      have rel : ∃ k' : Nat, k' ≤ 5 ∧ Value.int .i64 ((k : Int) + 1) = .int .i64 k' ∧ Value.int .i64 (2 * (p : Int)) = .int .i64 (2 ^ k' : Nat) ∧ Value.int .i64 ((s : Int) + (p : Int) * (b.toNat : Int)) = .int .i64 (low5 h 6 k') :=
        ⟨k + 1, by omega, by go_num, by rw [HP.out]; go_num, by rw [HS.out]; go_num⟩
      have HR := Lib.hid rel; clear rel
      by_cases hin : 5 * 6 + k < 32
      · have hin' : decide (30 + (k : Int) < 32) = true := by simp; omega
        cases b with
        | true =>
          go_wp2_with (go_at_call 28; refine HB.out.mono ?_; rintro e w' ⟨rfl, rfl⟩)
          go_round
          case rel => simpa using HR.out
          case measure => simp [intOf]; omega
        | false =>
          go_wp2_with (go_at_call 28; refine HB.out.mono ?_; rintro e w' ⟨rfl, rfl⟩)
          go_round
          case rel => simpa using HR.out
          case measure => simp [intOf]; omega
      · have hin' : decide (30 + (k : Int) < 32) = false := by simp; omega
        obtain rfl : b = false := HO.out (by omega)
        go_wp2_with (go_at_call 28; refine HB.out.mono ?_; rintro e w' ⟨rfl, rfl⟩)
        go_round
        case rel => simpa using HR.out
        case measure => simp [intOf]; omega
    · have hge : 5 ≤ (k : Int) := by omega
      have HE := Lib.hid (show k = 5 by omega)
      clear hlt
      go_wp2
      go_ret
      exact ⟨ret_int (by rw [← HL.out, HE.out]), rfl⟩

theorem low5_slot (h : Nat) (l : Int) : low5 h (lev l) 5 = slotN h l := rfl

theorem ref_slot (h : Nat) (l : Int) (hh : h < 4294967296) (w : World) :
    Calls Tryd.prog 12 #[.int .u32 h, .int .i64 l] w fun e w' => e = .returned (.int .i64 (slotN h l)) ∧ w = w' := by
  rw [← low5_slot]
  rcases (by omega : l < 0 ∨ (0 ≤ l ∧ l ≤ 6) ∨ 6 < l) with hl | ⟨h0, h6⟩ | hl
  · rw [show lev l = 0 by unfold lev; omega]; exact ref_slot_lo h l hh hl w
  · obtain ⟨n, rfl⟩ := Int.eq_ofNat_of_zero_le h0
    rw [show lev n = n by unfold lev; omega]; exact ref_slot_in h n hh (by omega) w
  · rw [show lev l = 6 by unfold lev; omega]; exact ref_slot_hi h l hh hl w

theorem in_ref (s : Int) : ((wrap64 (s.tmod 32 + 32)).tmod 32) = (inN s : Int) := by
  have h := Int.tmod_eq_emod (a := s) (b := 32)
  have hb : -32 < s.tmod 32 ∧ s.tmod 32 < 32 := by
    rw [h]; split <;> simp <;> omega
  have hw : wrap64 (s.tmod 32 + 32) = s.tmod 32 + 32 := by unfold wrap64; omega
  rw [hw, Int.tmod_eq_emod_of_nonneg (by omega), h]
  unfold inN
  split <;> simp <;> omega

set_option maxHeartbeats 400000 in
theorem ref_in (s : Int) (w : World) :
    Calls Tryd.prog 31 #[.int .i64 s] w fun e w' => e = .returned (.int .i64 (inN s)) ∧ w = w' := by
  go_enter Tryd.func31, Tryd.ntmps31
  go_wp2
  go_ret
  exact ⟨ret_int (in_ref s), rfl⟩
set_option maxHeartbeats 400000 in
theorem ref_has (m : Nat) (s : Int) (hm : m < 4294967296) (w : World) :
    Calls Tryd.prog 17 #[.int .u32 m, .int .i64 s] w fun e w' => e = .returned (.bool (m.testBit (inN s))) ∧ w = w' := by
  have hl := in_lt s
  go_enter Tryd.func17, Tryd.ntmps17
  go_wp2_with (first | (go_at_call 31; refine (ref_in _ _).mono ?_; rintro e w' ⟨rfl, rfl⟩) | (go_at_call 28; refine (ref_bit _ _ (by omega) (by omega) _).mono ?_; rintro e w' ⟨rfl, rfl⟩))
  go_ret
  exact ⟨ret_bool (by simp), rfl⟩

set_option maxHeartbeats 400000 in
theorem ref_rank (m : Nat) (s : Int) (hm : m < 4294967296) (w : World) :
    Calls Tryd.prog 22 #[.int .u32 m, .int .i64 s] w fun e w' => e = .returned (.int .i64 (pop (inN s) m)) ∧ w = w' := by
  have hl := in_lt s
  have hin := ref_in s w
  generalize inN s = t at *
  have HI := Lib.hid hin; clear hin
  go_enter Tryd.func22, Tryd.ntmps22
  go_wp2
  go_loop [5, 6] (fun n i => ∃ k : Nat, k ≤ t ∧ i = .int .i64 k ∧ n = .int .i64 (pop k m)) (fun _ i => t - (intOf i).toNat)
  case atStart => exact ⟨0, Nat.zero_le _, rfl, rfl⟩
  case round =>
    obtain ⟨k, hk, rfl, rfl⟩ := hrel
    have hsu : pop (k + 1) m = pop k m + (m.testBit k).toNat := rfl
    have hle := pop_le k m
    have hbit : Calls Tryd.prog 28 #[.int .u64 m, .int .i64 k] w fun e w' => e = .returned (.bool (m.testBit k)) ∧ w = w' := by
      have := ref_bit m k (by omega) (by omega) w
      rwa [Int.toNat_natCast] at this
    generalize m.testBit k = b at *
    generalize hpk : pop k m = q at *
    have HS := Lib.hid hsu; have HB := Lib.hid hbit; have HP := Lib.hid hpk
    clear hsu hbit hpk
    by_cases hlt : k < t
    · cases b
      all_goals
        go_wp2_with (first | (go_at_call 31; refine HI.out.mono ?_; rintro e w' ⟨rfl, rfl⟩) | (go_at_call 28; refine HB.out.mono ?_; rintro e w' ⟨rfl, rfl⟩))
        go_round
        case rel => exact ⟨k + 1, by omega, by go_num, by rw [HS.out]; first | rfl | go_num⟩
        case measure => simp [intOf]; omega
    · have hge : t ≤ k := by omega
      obtain rfl : k = t := by omega
      clear hlt hge
      go_wp2_with (first | (go_at_call 31; refine HI.out.mono ?_; rintro e w' ⟨rfl, rfl⟩) | (go_at_call 28; refine HB.out.mono ?_; rintro e w' ⟨rfl, rfl⟩))
      go_ret
      exact ⟨ret_int (by rw [← HP.out]), rfl⟩

/-- Bits below k are all clear. -/
def clearTo (d k : Nat) : Prop := ∀ j, j < k → d.testBit j = false
theorem ctz_at (d k : Nat) (hd : d < 2 ^ 64) (_ : k < 64) (h : clearTo d k) (hb : d.testBit k = true) : Lib.ctz 64 d = k := by
  have h0 : d ≠ 0 := by rintro rfl; simp at hb
  obtain ⟨m, hm, hlt⟩ := Lib.ctzFrom_spec 64 d (by omega) hd
  have e : Lib.ctz 64 d = Lib.ctzFrom 64 d := by simp [Lib.ctz, h0]
  rw [e]
  generalize Lib.ctzFrom 64 d = c at *
  have t1 : d.testBit c = true := by
    rw [testBit_div, hm, Nat.mul_div_cancel_left _ (Nat.two_pow_pos c)]; simp
  have t2 : ∀ j, j < c → d.testBit j = false := by
    intro j hj
    rw [testBit_div, hm]
    obtain ⟨r, rfl⟩ : ∃ r, c = j + 1 + r := ⟨c - j - 1, by omega⟩
    have : 2 ^ (j + 1 + r) * (2 * m + 1) = 2 ^ j * (2 * (2 ^ r * (2 * m + 1))) := by
      rw [Nat.pow_add, Nat.pow_succ]; simp only [Nat.mul_assoc]
    rw [this, Nat.mul_div_cancel_left _ (Nat.two_pow_pos j)]; simp
  rcases Nat.lt_trichotomy c k with h' | h' | h'
  · rw [h c h'] at t1; cases t1
  · exact h'
  · rw [t2 k h'] at hb; cases hb
theorem ctz_none (d : Nat) (hd : d < 2 ^ 64) (h : clearTo d 64) : Lib.ctz 64 d = 64 := by
  have : d = 0 := Nat.eq_of_testBit_eq fun i => by
    by_cases hi : i < 64
    · simp [h i hi]
    · simp [Nat.testBit_lt_two_pow (Nat.lt_of_lt_of_le hd (Nat.pow_le_pow_right (n := 2) (i := 64) (by omega) (Nat.le_of_not_lt hi)))]
  subst this; rfl

set_option maxHeartbeats 800000 in
theorem ref_tall (d : Nat) (most : Int) (hd : d < 18446744073709551616) (hmost : most ≤ 9223372036854775807) (w : World) :
    Calls Tryd.prog 15 #[.int .u64 d, .int .i64 most] w fun e w' => e = .returned (.int .i64 (tallN d most)) ∧ w = w' := by
  have fin : ∀ k : Nat, Lib.ctz 64 d = k → tallN d most = if most < (k : Int) + 1 then (if most < 1 then 1 else most) else (k : Int) + 1 := by
    intro k hk; unfold tallN; rw [hk]; split <;> (try split) <;> omega
  have fz := ctz_none d hd
  have fk := fun k => ctz_at d k hd
  generalize tallN d most = T at *
  generalize Lib.ctz 64 d = c at *
  have FIN := Lib.hid fin; have FZ := Lib.hid fz; have FK := Lib.hid fk
  clear fin fz fk
  go_enter Tryd.func15, Tryd.ntmps15
  go_wp2
  go_loop [5, 6] (fun n i => ∃ k : Nat, k ≤ 64 ∧ i = .int .i64 k ∧ n = .int .i64 (k + 1 : Nat) ∧ clearTo d k) (fun _ i => 64 - (intOf i).toNat)
  case atStart => exact ⟨0, by omega, rfl, rfl, fun j hj => by omega⟩
  case round =>
    obtain ⟨k, hk, rfl, rfl, hcl⟩ := hrel
    have hbit : Calls Tryd.prog 28 #[.int .u64 d, .int .i64 k] w fun e w' => e = .returned (.bool (d.testBit k)) ∧ w = w' := by
      have := ref_bit d k hd (by omega) w
      rwa [Int.toNat_natCast] at this
    have hfk := FK.out k
    have hnext : d.testBit k = false → clearTo d (k + 1) := fun hf j hj => by
      by_cases e : j = k
      · rw [e]; exact hf
      · exact hcl j (by omega)
    have HC := Lib.hid hcl; have HB := Lib.hid hbit; have HK := Lib.hid hfk; have HN := Lib.hid hnext
    clear hcl hbit hfk hnext
    by_cases hlt : k < 64
    · have hlt' : decide ((k : Int) < 64) = true := by simp; omega
      by_cases hb : d.testBit k = true
      · have hb2 := HB.out; rw [hb] at hb2
        have HB2 := Lib.hid hb2; clear hb2
        have hf := FIN.out k (HK.out hlt HC.out hb)
        have HF := Lib.hid hf; clear hf hb
        by_cases h1 : most < (k : Int) + 1
        · by_cases h2 : most < 1
          all_goals
            go_wp2_with (go_at_call 28; refine HB2.out.mono ?_; rintro e w' ⟨rfl, rfl⟩)
            go_ret
            exact ⟨ret_int (by have hh := HF.out; split at hh <;> (try split at hh) <;> omega), rfl⟩
        · have h3 : (k : Int) + 1 ≤ most := by omega
          go_wp2_with (go_at_call 28; refine HB2.out.mono ?_; rintro e w' ⟨rfl, rfl⟩)
          go_ret
          exact ⟨ret_int (by have hh := HF.out; split at hh <;> (try split at hh) <;> omega), rfl⟩
      · have hb0 : d.testBit k = false := by simpa using hb
        have hb2 := HB.out; rw [hb0] at hb2
        have HB2 := Lib.hid hb2; clear hb2
        have HN2 := Lib.hid (HN.out hb0)
        clear hb hb0
        go_wp2_with (go_at_call 28; refine HB2.out.mono ?_; rintro e w' ⟨rfl, rfl⟩)
        go_round
        case rel => exact ⟨k + 1, by omega, by go_num, by go_num, HN2.out⟩
        case measure => simp [intOf]; omega
    · have hge : decide ((k : Int) < 64) = false := by simp; omega
      obtain rfl : k = 64 := by omega
      have hf := FIN.out 64 (FZ.out HC.out)
      have HF := Lib.hid hf; clear hf hlt hge
      by_cases h1 : most < 65
      · by_cases h2 : most < 1
        all_goals
          go_wp2
          go_ret
          exact ⟨ret_int (by have hh := HF.out; split at hh <;> (try split at hh) <;> omega), rfl⟩
      · have h3 : 65 ≤ most := by omega
        go_wp2
        go_ret
        exact ⟨ret_int (by have hh := HF.out; split at hh <;> (try split at hh) <;> omega), rfl⟩

/-- A map whose slot is made so. -/
def setN (m k : Nat) (b : Bool) : Nat := if b then m ||| 2 ^ k else m &&& (4294967295 - 2 ^ k)
theorem set_bit (m k : Nat) (b : Bool) (_ : m < 4294967296) (hk : k < 32) (i : Nat) (hi : i < 32) : (setN m k b).testBit i = if i = k then b else m.testBit i := by
  unfold setN
  cases b
  · simp only [Bool.false_eq_true, if_false, Nat.testBit_and]
    have := Nat.testBit_two_pow_sub_succ (x := 2 ^ k) (n := 32) (pow_lt k hk) i
    rw [show 4294967295 - 2 ^ k = 2 ^ 32 - (2 ^ k + 1) by have := pow_lt k hk; omega, this, Nat.testBit_two_pow]
    by_cases e : i = k
    · simp [e]
    · have : ¬ k = i := fun h => e h.symm
      simp [e, hi, this]
  · simp only [if_true, Nat.testBit_or, Nat.testBit_two_pow]
    by_cases e : i = k
    · simp [e]
    · have : ¬ k = i := fun h => e h.symm
      simp [e, this]
theorem set_lt (m k : Nat) (b : Bool) (hm : m < 4294967296) (hk : k < 32) : setN m k b < 4294967296 := by
  unfold setN; split
  · exact Nat.or_lt_two_pow (n := 32) hm (pow_lt k hk)
  · exact Nat.lt_of_le_of_lt Nat.and_le_left hm
theorem pow_mod_succ (k : Nat) : 2 * ((2 ^ k % 4294967296 : Nat) : Int) % 4294967296 = ((2 ^ (k + 1) % 4294967296 : Nat) : Int) := by
  rw [Nat.pow_succ]; omega

set_option maxHeartbeats 800000 in
theorem ref_set (m : Nat) (s : Int) (v : Bool) (hm : m < 4294967296) (w : World) :
    Calls Tryd.prog 19 #[.int .u32 m, .int .i64 s, .bool v] w fun e w' => e = .returned (.int .u32 (setN m (inN s) v)) ∧ w = w' := by
  have hl := in_lt s
  have hin := ref_in s w
  generalize inN s = t at *
  have hsb := set_bit m t v hm hl
  have hsl := set_lt m t v hm hl
  generalize setN m t v = T at *
  have HI := Lib.hid hin; have HT := Lib.hid hsb
  clear hin hsb
  go_enter Tryd.func19, Tryd.ntmps19
  go_wp2
  go_loop [7, 8, 9, 10] (fun o p i _ => ∃ k : Nat, k ≤ 32 ∧ i = .int .i64 k ∧ p = .int .u32 (2 ^ k % 4294967296 : Nat) ∧ o = .int .u32 (T % 2 ^ k : Nat)) (fun _ _ i _ => 32 - (intOf i).toNat)
  case atStart => exact ⟨0, Nat.zero_le _, rfl, rfl, by simp [Nat.mod_one]⟩
  case round =>
    obtain ⟨k, hk, rfl, rfl, rfl⟩ := hrel
    have hsu := mod_succ T k
    have hps := pow_mod_succ k
    have hlo : T % 2 ^ k ≤ T := Nat.mod_le _ _
    have hlo' : T % 2 ^ (k + 1) ≤ T := Nat.mod_le _ _
    have hbit : Calls Tryd.prog 28 #[.int .u64 m, .int .i64 k] w fun e w' => e = .returned (.bool (m.testBit k)) ∧ w = w' := by
      have := ref_bit m k (by omega) (by omega) w
      rwa [Int.toNat_natCast] at this
    by_cases hlt : k < 32
    · have hp := pow_lt k hlt
      have htb := HT.out k hlt
      have hpm : 2 ^ k % 4294967296 = 2 ^ k := Nat.mod_eq_of_lt hp
      rw [hpm] at hps ⊢
      generalize hnx : T % 2 ^ (k + 1) = nx at *
      generalize hnp : 2 ^ (k + 1) % 4294967296 = np at *
      generalize T.testBit k = tb at *
      generalize m.testBit k = mb at *
      generalize T % 2 ^ k = o at *
      generalize 2 ^ k = p at *
      have HS := Lib.hid hsu; have HP := Lib.hid hps; have HB := Lib.hid hbit; have HTB := Lib.hid htb; have HX := Lib.hid hnx; have HY := Lib.hid hnp
      clear hsu hps hbit htb hnx hnp hpm
      by_cases hkt : k = t
      · have htb := HTB.out
        rw [if_pos hkt] at htb
        have q1 : ((k : Int) == (t : Int)) = true := by rw [beq_iff_eq]; omega
        have q2 : (k == t) = true := by rw [beq_iff_eq]; omega
        clear hkt
        cases v
        all_goals
          have HV := Lib.hid htb; clear htb
          go_wp2_with (first | (go_at_call 31; refine HI.out.mono ?_; rintro e w' ⟨rfl, rfl⟩) | (go_at_call 28; refine HB.out.mono ?_; rintro e w' ⟨rfl, rfl⟩))
          go_round
          case rel => exact ⟨k + 1, by omega, by go_num, by rw [HY.out, ← HP.out], by rw [HX.out, HS.out, HV.out]; first | rfl | (simp; done) | (congr 1; have := HS.out; rw [HV.out] at this; simp at this; simp; omega)⟩
          case measure => simp [intOf]; omega
      · have htb := HTB.out
        rw [if_neg hkt] at htb
        have q1 : ((k : Int) == (t : Int)) = false := by rw [beq_eq_false_iff_ne]; omega
        have q2 : (k == t) = false := by rw [beq_eq_false_iff_ne]; omega
        clear hkt
        cases mb
        all_goals
          have HV := Lib.hid htb; clear htb
          go_wp2_with (first | (go_at_call 31; refine HI.out.mono ?_; rintro e w' ⟨rfl, rfl⟩) | (go_at_call 28; refine HB.out.mono ?_; rintro e w' ⟨rfl, rfl⟩))
          go_round
          case rel => exact ⟨k + 1, by omega, by go_num, by rw [HY.out, ← HP.out], by rw [HX.out, HS.out, HV.out]; first | rfl | (simp; done) | (congr 1; have := HS.out; rw [HV.out] at this; simp at this; simp; omega)⟩
          case measure => simp [intOf]; omega
    · have hge : 32 ≤ (k : Int) := by omega
      obtain rfl : k = 32 := by omega
      have HM := Lib.hid (show T % 2 ^ 32 = T from Nat.mod_eq_of_lt hsl)
      clear hlt hge hsu hps hlo hlo' hbit
      go_wp2
      go_ret
      exact ⟨ret_int (by first | rw [HM.out] | (have := HM.out; omega)), rfl⟩

set_option maxHeartbeats 400000 in
theorem alive (w : World) (hT : TabAt w) :
    Calls Tryd.prog 13 #[] w fun e w' => e = .returned (.bool true) ∧ w = w' := by
  have c1 := bits_hash 1 w
  have c2 := bits_slot (hashN 1) 0 (hash_lt 1) w
  have c3 := bits_tall 8 9 (by omega) w hT
  have c4 := bits_has 6 1 (by omega) w
  rw [show slotN (hashN 1) 0 = 25 by decide +kernel] at c2
  rw [show hashN 1 = 2654435769 by decide +kernel] at c1 c2
  rw [show tallN 8 9 = 4 by decide +kernel] at c3
  rw [show Nat.testBit 6 (inN 1) = true by decide +kernel] at c4
  have H1 := Lib.hid c1; have H2 := Lib.hid c2; have H3 := Lib.hid c3; have H4 := Lib.hid c4
  clear c1 c2 c3 c4 hT
  go_enter Tryd.func13, Tryd.ntmps13
  go_wp2_with (first | (go_at_call 9; refine H1.out.mono ?_; rintro e w' ⟨rfl, rfl⟩) | (go_at_call 11; refine H2.out.mono ?_; rintro e w' ⟨rfl, rfl⟩) | (go_at_call 14; refine H3.out.mono ?_; rintro e w' ⟨rfl, rfl⟩) | (go_at_call 16; refine H4.out.mono ?_; rintro e w' ⟨rfl, rfl⟩))
  go_ret
  exact ⟨rfl, rfl⟩
end Go.Proofs.YtpmbomnblionbaaDoor
