/- Layer 10 (text): TextAgain. -/
import Derived.Test.YtikgbgminhgpdaaGreatDoorTxtAlive
namespace Go.Proofs.YtikgbgminhgpdaaGreatDoor
open Go.RowKit Tx
set_option maxRecDepth 10000

mutual
theorem walkS_num : ∀ (s : St) (d n : Nat) (x : Int × Nat), walkS s d n = .error x → x.1 = 8 ∨ x.1 = 9 ∨ x.1 = 10
  | .mk h b e, d, n, x, hw => by
    unfold walkS at hw
    split at hw
    · cases hw; exact .inl rfl
    · split at hw
      · cases hw; exact .inr (.inr rfl)
      · split at hw
        · cases hw; exact .inr (.inl rfl)
        · split at hw
          · rename_i x' hb
            cases hw
            exact walkL_num b _ _ _ hb
          · exact walkL_num e _ _ _ hw
theorem walkL_num : ∀ (l : List St) (d n : Nat) (x : Int × Nat), walkL l d n = .error x → x.1 = 8 ∨ x.1 = 9 ∨ x.1 = 10
  | [], _, _, _, hw => by unfold walkL at hw; cases hw
  | s :: l, d, n, x, hw => by
    unfold walkL at hw
    split at hw
    · rename_i x' hb
      cases hw
      exact walkS_num s _ _ _ hb
    · exact walkL_num l _ _ _ hw
end
theorem no_eight (w : World) : Calls Tryz.prog 11 #[.iface 53 (.int .i64 8)] w fun e w' => e = .returned (.int .i64 8) ∧ w = w' := no_err (.inl rfl) (by decide) (by decide)
set_option maxHeartbeats 4000000 in
theorem textAgain_ok (s : ByteArray) {w : World} (hE : TEnv w) : Calls Tryz.prog 4 #[.string s] w fun e w' => e = .returned (.bool true) ∧ Below w.heap.size w w' := by
  have HE := Lib.hid hE
  have HAL := Lib.hid (fun (w : World) (hE : TEnv w) => alive_ok hE)
  by_cases h6 : 6000 < s.size
  · have g1 : decide ((6000 : Int) < (s.size : Int)) = true := decide_eq_true (by omega)
    have g1' : (6000 : Int) < (s.size : Int) := by omega
    clear hE
    go_enter Tryz.func4, Tryz.ntmps4
    go_wp2_with fail
    refine (HAL.out _ HE.out).mono ?_
    rintro _ w1 ⟨rfl, hb1⟩
    have HB1 := Lib.hid hb1
    clear hb1
    go_wp2
    go_ret
    exact ⟨rfl, HB1.out⟩
  · have g1 : decide ((6000 : Int) < (s.size : Int)) = false := decide_eq_false (by omega)
    have g1' : ¬ (6000 : Int) < (s.size : Int) := by omega
    cases hr : readAll (tl s.data.toList) with
    | error x =>
      have HP := Lib.hid (parse_bad hr (by omega) hE)
      clear hE hr
      go_enter Tryz.func4, Tryz.ntmps4
      go_wp2_with fail
      refine HP.out.mono ?_
      rintro _ w1 ⟨v1, rfl, hf, hb1⟩
      obtain ⟨fb, rfl⟩ := hf.form
      have HF := Lib.hid hf; have HB1 := Lib.hid hb1; have HE1 := Lib.hid (HE.out.below hb1)
      clear hf hb1
      go_wp2_with fail
      refine (no_flt HF.out (by decide) (by decide)).mono ?_
      rintro _ w' ⟨rfl, rfl⟩
      go_wp2_with fail
      refine (HAL.out _ HE1.out).mono ?_
      rintro _ w2 ⟨rfl, hb2⟩
      have HB2 := Lib.hid (HB1.out.trans (hb2.mono HB1.out.size))
      clear hb2
      go_wp2
      go_ret
      exact ⟨rfl, HB2.out⟩
    | ok p =>
      have HP := Lib.hid (parse_good hr (by omega) hE)
      have HPOS := Lib.hid (read_pos hr)
      clear hE hr
      go_enter Tryz.func4, Tryz.ntmps4
      go_wp2_with fail
      refine HP.out.mono ?_
      rintro _ w1 ⟨v1, rfl, hv, hb1⟩
      have hr1 := hv.read
      obtain ⟨pt, cp, rfl⟩ := hr1.shape
      have HR1 := Lib.hid hr1; have HB1 := Lib.hid hb1; have HE1 := Lib.hid (HE.out.below hb1)
      clear hv hr1 hb1 HP
      go_wp2_with fail
      refine (no_nil w1).mono ?_
      rintro _ w' ⟨rfl, rfl⟩
      have HPR := Lib.hid (Print_ok HR1.out HE1.out.base)
      go_wp2_with fail
      refine HPR.out.mono ?_
      rintro _ w2 ⟨hb2, hp⟩
      have HB2 := Lib.hid (HB1.out.trans (hb2.mono HB1.out.size)); have HE2 := Lib.hid (HE1.out.below hb2); have HBL2 := Lib.hid hb2
      clear hb2 HPR
      cases hwl : walkL p 1 0 with
      | error x =>
        rw [hwl] at hp
        obtain ⟨v2, rfl, hfl⟩ := hp
        have hx := walkL_num _ _ _ _ hwl
        obtain ⟨fb, rfl⟩ := hfl.form
        have hN := no_flt hfl (by omega) (by omega)
        have HN := Lib.hid hN
        have gx : (x.1 != 0) = true := by simp; omega
        have HBB := HB2; have HEE := HE2
        clear hfl hwl hx hN
        go_wp2_with fail
        refine HN.out.mono ?_
        rintro _ w' ⟨rfl, rfl⟩
        go_wp2_with fail
        refine (HAL.out _ HEE.out).mono ?_
        rintro _ w9 ⟨rfl, hb9⟩
        have HB9 := Lib.hid (HBB.out.trans (hb9.mono HBB.out.size))
        clear hb9
        go_wp2
        go_ret
        exact ⟨rfl, HB9.out⟩
      | ok mm =>
        rw [hwl] at hp
        simp only at hp
        by_cases h2 : 20000 < (tellL p []).length
        · rw [if_pos h2] at hp
          subst hp
          have HBB := HB2; have HEE := HE2
          clear hwl
          go_wp2_with fail
          refine (no_eight w2).mono ?_
          rintro _ w' ⟨rfl, rfl⟩
          go_wp2_with fail
          refine (HAL.out _ HEE.out).mono ?_
          rintro _ w9 ⟨rfl, hb9⟩
          have HB9 := Lib.hid (HBB.out.trans (hb9.mono HBB.out.size))
          clear hb9
          go_wp2
          go_ret
          exact ⟨rfl, HB9.out⟩
        · rw [if_neg h2] at hp
          subst hp
          have hgood := walkL_good p _ _ _ hwl
          have hcnt := walkL_cnt p _ _ _ hwl
          have hc100 : cntL p ≤ 100 := by have := hcnt.1; have := hcnt.2 (Nat.zero_le _); omega
          obtain ⟨T, hT⟩ : ∃ T : ByteArray, (⟨(tellL p []).toArray⟩ : ByteArray) = T := ⟨_, rfl⟩
          rw [hT]
          have hTd : T.data.toList = tellL p [] := by rw [← hT]
          have hrd : readAll (tl T.data.toList) = .ok p := by rw [hTd]; exact read_told hgood
          have hTs : T.size ≤ 20000 := by rw [← hT]; show (tellL p []).toArray.size ≤ _; simp; omega
          have HP4 := Lib.hid (fun (w : World) (hE : TEnv w) => parse_good hrd hTs hE)
          have HPR4 := Lib.hid (fun (w : World) (v : Value) (hl : SlR w.heap.size w p v) (hE : TEnv w) => print_good hwl (by omega) hl hE)
          rw [hT] at HPR4
          clear hT hTd hrd hTs hgood hcnt hwl
          go_wp2_with fail
          refine (no_nil w2).mono ?_
          rintro _ w' ⟨rfl, rfl⟩
          go_wp2_with fail
          refine (HP4.out _ HE2.out).mono ?_
          rintro _ w4 ⟨v4, rfl, hv4, hb4⟩
          have hr4 := hv4.read
          obtain ⟨pt4, cp4, rfl⟩ := hr4.shape
          have HR4 := Lib.hid hr4; have HB4 := Lib.hid (HB2.out.trans (hb4.mono HB2.out.size)); have HE4 := Lib.hid (HE2.out.below hb4)
          have HR14 := Lib.hid ((HR1.out.below HBL2.out (Nat.le_refl _)).below hb4 HBL2.out.size)
          have hsz4 := hb4.size; have hsz2 := HBL2.out.size
          clear hv4 hr4 hb4
          go_wp2_with fail
          refine (HPR4.out _ _ HR4.out HE4.out).mono ?_
          rintro _ w5 ⟨rfl, hb5⟩
          have hb14 : w1.heap.size ≤ w4.heap.size := Nat.le_trans hsz2 hsz4
          have HB5 := Lib.hid (HB4.out.trans (hb5.mono HB4.out.size)); have HE5 := Lib.hid (HE4.out.below hb5)
          have HS := Lib.hid (same_ok (cntL p + 1) p _ _ w4.heap.size w5 (by omega) (by omega) HPOS.out.1 ((HR14.out.kept (Kept.of_below hb5) (fun q h1 h2 => ⟨by omega, by omega⟩))) (HR4.out.below hb5 (Nat.le_refl _)) hb5.size)
          clear hb5
          go_wp2_with fail
          refine (no_nil w5).mono ?_
          rintro _ w' ⟨rfl, rfl⟩
          go_wp2_with fail
          refine (no_nil w5).mono ?_
          rintro _ w' ⟨rfl, rfl⟩
          go_wp2_with fail
          refine HS.out.mono ?_
          rintro _ w6 ⟨rfl, hb6⟩
          have HBB := Lib.hid (HB5.out.trans (hb6.mono HB5.out.size)); have HEE := Lib.hid (HE5.out.below hb6)
          clear hb6
          go_wp2_with fail
          refine (HAL.out _ HEE.out).mono ?_
          rintro _ w9 ⟨rfl, hb9⟩
          have HB9 := Lib.hid (HBB.out.trans (hb9.mono HBB.out.size))
          clear hb9
          go_wp2
          go_ret
          exact ⟨rfl, HB9.out⟩
end Go.Proofs.YtikgbgminhgpdaaGreatDoor
