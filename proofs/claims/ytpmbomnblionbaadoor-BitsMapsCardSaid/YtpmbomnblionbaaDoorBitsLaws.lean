/- The walks of the statements of layer 3: each returns true. -/
import Derived.Test.YtpmbomnblionbaaDoorBitsRef
namespace Go.Proofs.YtpmbomnblionbaaDoor
open Go.RowKit Bp

set_option maxHeartbeats 400000 in
theorem law_hash (x : Int) (h : Nat) (l : Int) (hh : h < 4294967296) (w : World) (hT : TabAt w) :
    Calls Tryd.prog 3 #[.int .i64 x, .int .u32 h, .int .i64 l] w fun e w' => e = .returned (.bool true) ∧ w = w' := by
  have HA := Lib.hid (alive w hT); clear hT
  go_enter Tryd.func3, Tryd.ntmps3
  go_wp2_with (first | (go_at_call 9; refine (bits_hash _ _).mono ?_; rintro e w' ⟨rfl, rfl⟩) | (go_at_call 10; refine (ref_hash _ _).mono ?_; rintro e w' ⟨rfl, rfl⟩) | (go_at_call 11; refine (bits_slot _ _ hh _).mono ?_; rintro e w' ⟨rfl, rfl⟩) | (go_at_call 12; refine (ref_slot _ _ hh _).mono ?_; rintro e w' ⟨rfl, rfl⟩) | (go_at_call 13; refine HA.out.mono ?_; rintro e w' ⟨rfl, rfl⟩))
  go_ret
  exact ⟨rfl, rfl⟩

set_option maxHeartbeats 400000 in
theorem law_tall (d : Nat) (m : Int) (hd : d < 18446744073709551616) (hm : m ≤ 9223372036854775807) (w : World) (hT : TabAt w) :
    Calls Tryd.prog 5 #[.int .u64 d, .int .i64 m] w fun e w' => e = .returned (.bool true) ∧ w = w' := by
  have HA := Lib.hid (alive w hT); have HB := Lib.hid (bits_tall d m hd w hT); have HR := Lib.hid (ref_tall d m hd hm w); clear hT
  go_enter Tryd.func5, Tryd.ntmps5
  go_wp2_with (first | (go_at_call 14; refine HB.out.mono ?_; rintro e w' ⟨rfl, rfl⟩) | (go_at_call 15; refine HR.out.mono ?_; rintro e w' ⟨rfl, rfl⟩) | (go_at_call 13; refine HA.out.mono ?_; rintro e w' ⟨rfl, rfl⟩))
  go_ret
  exact ⟨rfl, rfl⟩

/-- The slots of the levels from k on, put together. -/
def upper (h k : Nat) : Nat := h / 2 ^ (5 * k)
theorem upper_step (h k : Nat) : upper h k = 32 * upper h (k + 1) + h / 2 ^ (5 * k) % 32 := by
  unfold upper
  rw [show 5 * (k + 1) = 5 * k + 5 by omega, Nat.pow_add, ← Nat.div_div_eq_div_mul]
  generalize h / 2 ^ (5 * k) = z
  omega
theorem upper_seven (h : Nat) (hh : h < 4294967296) : upper h 7 = 0 := by
  unfold upper; exact Nat.div_eq_of_lt (by omega)
theorem upper_le (h k : Nat) : upper h k ≤ h := Nat.div_le_self _ _

set_option maxHeartbeats 400000 in
theorem law_slots (h : Nat) (hh : h < 4294967296) (w : World) (hT : TabAt w) :
    Calls Tryd.prog 4 #[.int .u32 h] w fun e w' => e = .returned (.bool true) ∧ w = w' := by
  have HA := Lib.hid (alive w hT); clear hT
  have H7 := Lib.hid (upper_seven h hh)
  go_enter Tryd.func4, Tryd.ntmps4
  go_wp2
  go_loop [3, 4] (fun x i => ∃ k : Nat, k ≤ 7 ∧ i = .int .i64 ((k : Int) - 1) ∧ x = .int .u32 (upper h k)) (fun _ i => (intOf i + 1).toNat)
  case atStart => exact ⟨7, by omega, rfl, by rw [H7.out]; rfl⟩
  case round =>
    obtain ⟨k, hk, rfl, rfl⟩ := hrel
    by_cases hlt : 1 ≤ k
    · obtain ⟨j, rfl⟩ : ∃ j, k = j + 1 := ⟨k - 1, by omega⟩
      have hst := upper_step h j
      have hsl : slotN h j = h / 2 ^ (5 * j) % 32 := by unfold slotN; rw [show lev j = j by unfold lev; omega]
      have hb := slot_lt h j
      have hu := upper_le h j
      have hc := bits_slot h j hh w
      rw [← hsl] at hst
      generalize slotN h j = sl at *
      generalize hU : upper h j = U at *
      generalize upper h (j + 1) = V at *
      have HS := Lib.hid hst; have HC := Lib.hid hc; have HU := Lib.hid hU
      have H32 : 32 * V ≤ 4294967295 := by omega
      clear hst hc hsl hU
      have e1 : (((j + 1 : Nat) : Int) - 1) = (j : Int) := by omega
      rw [e1]; clear e1
      go_wp2_with (go_at_call 11; refine HC.out.mono ?_; rintro e w' ⟨rfl, rfl⟩)
      go_round
      case rel => exact ⟨j, by omega, rfl, by rw [HU.out, HS.out]; congr 1⟩
      case measure => simp [intOf]
    · obtain rfl : k = 0 := by omega
      have e0 : upper h 0 = h := by simp [upper]
      rw [e0]; clear e0 hlt hk
      go_wp2_with (go_at_call 13; refine HA.out.mono ?_; rintro e w' ⟨rfl, rfl⟩)
      go_ret
      exact ⟨rfl, rfl⟩

set_option maxHeartbeats 400000 in
theorem law_maps (m : Nat) (s : Int) (hm : m < 4294967296) (w : World) (hT : ∀ n, TabAt (w.drewN n)) :
    Calls Tryd.prog 6 #[.int .u32 m, .int .i64 s] w fun e w' => e = .returned (.bool true) ∧ ∃ n, w' = w.drewN n := by
  have HA := Lib.hid (fun n => alive (w.drewN n) (hT n)); clear hT
  have HB : Hid (Calls Tryd.prog 18 #[.int .u32 m, .int .i64 s] w fun e w' => e = .returned (.int .u32 (setN m (inN s) true)) ∧ w = w') := Lib.hid (bits_with m s hm w)
  have HC : Hid (Calls Tryd.prog 20 #[.int .u32 m, .int .i64 s] w fun e w' => e = .returned (.int .u32 (setN m (inN s) false)) ∧ w = w') := Lib.hid (bits_without m s hm w)
  go_enter Tryd.func6, Tryd.ntmps6
  go_wp2_with (first | (go_at_call 16; refine (bits_has _ _ hm _).mono ?_; rintro e w' ⟨rfl, rfl⟩) | (go_at_call 17; refine (ref_has _ _ hm _).mono ?_; rintro e w' ⟨rfl, rfl⟩) | (go_at_call 18; refine HB.out.mono ?_; rintro e w' ⟨rfl, rfl⟩) | (go_at_call 20; refine HC.out.mono ?_; rintro e w' ⟨rfl, rfl⟩)  | (go_at_call 19; refine (ref_set _ _ _ hm _).mono ?_; rintro e w' ⟨rfl, rfl⟩) | (go_at_call 21; refine (bits_rank _ _ hm _).mono ?_; rintro e w' ⟨rfl, n, rfl⟩) | (go_at_call 22; refine (ref_rank _ _ hm _).mono ?_; rintro e w' ⟨rfl, rfl⟩) | (go_at_call 13; refine (HA.out _).mono ?_; rintro e w' ⟨rfl, rfl⟩) | fail)
  go_ret
  exact ⟨rfl, _, rfl⟩

theorem in_nat (k : Nat) (hk : k < 32) : inN (k : Int) = k := by unfold inN; omega

theorem pop_set (m t i : Nat) (hm : m < 4294967296) (ht : t < 32) (hi : i ≤ 32) : pop i (setN m t true) = pop i m + if t < i then (if m.testBit t then 0 else 1) else 0 := by
  induction i with
  | zero => simp [pop]
  | succ i ih =>
    simp only [pop]
    rw [ih (by omega), set_bit m t true hm ht i (by omega)]
    by_cases e : i = t
    · subst e; simp; cases m.testBit i <;> simp
    · rcases Nat.lt_or_gt_of_ne e with h | h
      · simp [e, show ¬ t < i by omega, show ¬ t < i + 1 by omega]
      · simp only [e, if_false, show t < i by omega, if_true, show t < i + 1 by omega]; omega

theorem without_set (m t : Nat) (hm : m < 4294967296) (ht : t < 32) : setN m t true &&& (4294967295 - 2 ^ t) = m &&& (4294967295 - 2 ^ t) := by
  have h1 : setN (setN m t true) t false = setN m t false := by
    apply Nat.eq_of_testBit_eq
    intro i
    by_cases hi : i < 32
    · rw [set_bit _ t false (set_lt m t true hm ht) ht i hi, set_bit m t false hm ht i hi, set_bit m t true hm ht i hi]
      split <;> rfl
    · have e (x : Nat) (hx : x < 4294967296) : x.testBit i = false := Nat.testBit_lt_two_pow (Nat.lt_of_lt_of_le hx (Nat.pow_le_pow_right (n := 2) (i := 32) (by omega) (Nat.le_of_not_lt hi)))
      rw [e _ (set_lt _ t false (set_lt m t true hm ht) ht), e _ (set_lt m t false hm ht)]
  exact h1

theorem tab_drew (w : World) (hT : TabAt w) (n : Nat) : TabAt (w.drewN n) := fun j hj => hT j hj
theorem drewN_add (w : World) (a b : Nat) : ∃ n, (w.drewN a).drewN b = w.drewN n := ⟨a + b, by simp [World.drewN, Nat.add_assoc]⟩

/-- The world of the first loop and of the second: draws alone. -/
def Drawn (w w' : World) : Prop := ∃ n, w' = w.drewN n
theorem Drawn.refl (w : World) : Drawn w w := ⟨0, rfl⟩
theorem Drawn.step {w w' : World} (h : Drawn w w') (n : Nat) : Drawn w (w'.drewN n) := by
  obtain ⟨a, rfl⟩ := h; exact drewN_add w a n
theorem Drawn.tab {w w' : World} (h : Drawn w w') (hT : TabAt w) : TabAt w' := by
  obtain ⟨a, rfl⟩ := h; exact tab_drew w hT a

theorem rank_at (m k : Nat) (hm : m < 4294967296) (hk : k < 32) (w : World) :
    Calls Tryd.prog 21 #[.int .u32 m, .int .i64 k] w fun e w' => e = .returned (.int .i64 (pop k m)) ∧ ∃ n, w' = w.drewN n := by
  have := bits_rank m k hm w
  rwa [in_nat k hk] at this
theorem has_at (m k : Nat) (hm : m < 4294967296) (hk : k < 32) (w : World) :
    Calls Tryd.prog 16 #[.int .u32 m, .int .i64 k] w fun e w' => e = .returned (.bool (m.testBit k)) ∧ w = w' := by
  have := bits_has m k hm w
  rwa [in_nat k hk] at this
theorem with_at (m k : Nat) (hm : m < 4294967296) (hk : k < 32) (w : World) :
    Calls Tryd.prog 18 #[.int .u32 m, .int .i64 k] w fun e w' => e = .returned (.int .u32 (setN m k true)) ∧ w = w' := by
  have := bits_with m k hm w
  rwa [in_nat k hk] at this
theorem without_at (m k : Nat) (hm : m < 4294967296) (hk : k < 32) (w : World) :
    Calls Tryd.prog 20 #[.int .u32 m, .int .i64 k] w fun e w' => e = .returned (.int .u32 (m &&& (4294967295 - 2 ^ k) : Nat)) ∧ w = w' := by
  have := bits_without m k hm w
  rwa [in_nat k hk] at this

set_option maxHeartbeats 1000000 in
theorem law_ranks (m : Nat) (s : Int) (hm : m < 4294967296) (w : World) (hT : TabAt w) :
    Calls Tryd.prog 7 #[.int .u32 m, .int .i64 s] w fun e w' => e = .returned (.bool true) ∧ Drawn w w' := by
  have HT := Lib.hid hT; clear hT
  have hl := in_lt s
  have hin := in_ref s
  generalize inN s = t at *
  have HI := Lib.hid hin; clear hin
  have hml := set_lt m t true hm hl
  have hpop := fun i hi => pop_set m t i hm hl hi
  have hwo := without_set m t hm hl
  have hwith := with_at m t hm hl
  generalize setN m t true = M at *
  have HP := Lib.hid hpop; have HW := Lib.hid hwith; have HO := Lib.hid hwo
  clear hpop hwith hwo
  go_enter Tryd.func7, Tryd.ntmps7
  go_wp2
  go_loopw [5, 6] (fun n i wr => ∃ k : Nat, k ≤ 32 ∧ i = .int .i64 k ∧ n = .int .i64 (pop k m) ∧ Drawn w wr) (fun _ i _ => 32 - (intOf i).toNat)
  case atStart => exact ⟨0, Nat.zero_le _, rfl, rfl, Drawn.refl w⟩
  case round =>
    obtain ⟨k, hk, rfl, rfl, hdr⟩ := hrel
    have HD := Lib.hid hdr; clear hdr
    by_cases hlt : k < 32
    · have hsu : pop (k + 1) m = pop k m + (m.testBit k).toNat := rfl
      have hle := pop_le k m
      have hr := rank_at m k hm hlt
      have hh := has_at m k hm hlt
      generalize m.testBit k = b at *
      generalize pop k m = q at *
      have HS := Lib.hid hsu; have HR := Lib.hid hr; have HH := Lib.hid hh
      clear hsu hr hh
      cases b
      all_goals
        go_wp2_with (first | (go_at_call 21; refine (HR.out _).mono ?_; rintro e w' ⟨rfl, n, rfl⟩) | (go_at_call 16; refine (HH.out _).mono ?_; rintro e w' ⟨rfl, rfl⟩))
        go_roundw
        case rel => exact ⟨k + 1, by omega, by go_num, by rw [HS.out]; first | rfl | go_num, HD.out.step _⟩
        case measure => simp [intOf]; omega
    · obtain rfl : k = 32 := by omega
      clear hlt hk
      have i1 := HI.out
      have hhas := has_at m t hm hl
      have more : ∃ mo : Nat, mo ≤ 1 ∧ mo = (if m.testBit t then 0 else 1) := ⟨_, by split <;> omega, rfl⟩
      obtain ⟨mo, hmo, emo⟩ := more
      have hp2 := HP.out
      rw [← emo] at hp2
      have HP2 := Lib.hid hp2
      clear hp2
      have hb : m.testBit t = decide (mo = 0) := by rw [emo]; cases m.testBit t <;> simp
      clear emo
      rw [hb] at hhas
      clear hb
      have HH := Lib.hid hhas
      clear hhas
      have dmo : mo = 0 ∨ mo = 1 := by omega
      clear hmo
      rcases dmo with rfl | rfl
      all_goals
        go_wp2_with (first | (go_at_call 18; refine (HW.out _).mono ?_; rintro e w' ⟨rfl, rfl⟩) | (go_at_call 16; refine (HH.out _).mono ?_; rintro e w' ⟨rfl, rfl⟩))
        obtain ⟨wo, rfl⟩ : ∃ wo : World, wo = wr := ⟨_, rfl⟩
        go_loopw [9, 10] (fun i _ wr => ∃ k : Nat, k ≤ 32 ∧ i = .int .i64 k ∧ Drawn w wr) (fun i _ _ => 32 - (intOf i).toNat)
        case atStart => exact ⟨0, Nat.zero_le _, rfl, HD.out⟩
        case round =>
          obtain ⟨k, hk, rfl, hdr⟩ := hrel
          have HE := Lib.hid hdr; clear hdr
          by_cases hlt : k < 32
          · have hle := pop_le k m
            have hr := rank_at m k hm hlt
            have hr2 := rank_at M k hml hlt
            have hpk := HP2.out k hk
            generalize pop k m = q at *
            by_cases htk : t < k
            · rw [if_pos htk] at hpk
              rw [hpk] at hr2
              clear hpk
              have HR := Lib.hid hr; have HR2 := Lib.hid hr2
              clear hr hr2
              go_wp2_with ((go_at_call 21; first | (with_reducible refine (HR.out _).mono ?_) | (with_reducible refine (HR2.out _).mono ?_)); rintro e w' ⟨rfl, n, rfl⟩)
              go_roundw
              case rel => exact ⟨k + 1, by omega, by go_num, HE.out.step _⟩
              case measure => simp [intOf]; omega
            · rw [if_neg htk] at hpk
              rw [hpk] at hr2
              clear hpk
              have htk' : k ≤ t := by omega
              clear htk
              have HR := Lib.hid hr; have HR2 := Lib.hid hr2
              clear hr hr2
              go_wp2_with ((go_at_call 21; first | (with_reducible refine (HR.out _).mono ?_) | (with_reducible refine (HR2.out _).mono ?_)); rintro e w' ⟨rfl, n, rfl⟩)
              go_roundw
              case rel => exact ⟨k + 1, by omega, by go_num, HE.out.step _⟩
              case measure => simp [intOf]; omega
          · obtain rfl : k = 32 := by omega
            clear hlt hk
            have h1 := without_at m t hm hl
            have h2 := without_at M t hml hl
            rw [HO.out] at h2
            generalize m &&& (4294967295 - 2 ^ t) = mm at *
            have H1 := Lib.hid h1; have H2 := Lib.hid h2; have HA := Lib.hid (alive _ (HE.out.tab HT.out))
            clear h1 h2
            go_wp2_with (first | (go_at_call 20; first | (with_reducible refine (H1.out _).mono ?_; rintro e w' ⟨rfl, rfl⟩) | (with_reducible refine (H2.out _).mono ?_; rintro e w' ⟨rfl, rfl⟩)) | (go_at_call 13; refine HA.out.mono ?_; rintro e w' ⟨rfl, rfl⟩))
            go_ret
            exact ⟨rfl, HE.out⟩

theorem grown_drewN (w : World) (n : Nat) : Grown w (w.drewN n) := by
  induction n with
  | zero => exact Grown.refl _
  | succ n ih => exact ih.drew
end Go.Proofs.YtpmbomnblionbaaDoor
