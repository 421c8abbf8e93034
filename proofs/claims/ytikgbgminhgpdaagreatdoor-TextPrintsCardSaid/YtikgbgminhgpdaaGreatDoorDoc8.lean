/- Layer 10 (text): TextPrints. -/
import Derived.Test.YtikgbgminhgpdaaGreatDoorDoc7
import Derived.Test.YtikgbgminhgpdaaGreatDoorTxtMiss
namespace Go.Proofs.YtikgbgminhgpdaaGreatDoor
open Go.RowKit Tx
set_option maxRecDepth 10000

set_option maxHeartbeats 4000000 in
theorem textPrints_ok {l : List St} {v : Value} {w : World} (hl : SlR w.heap.size w l v) (hE : TEnv w) : Calls Tryz.prog 3 #[v] w (JoinsPost w) := by
  have HAL := Lib.hid (fun (w : World) (hE : TEnv w) => alive_ok hE)
  have HFEW := Lib.hid (few_ok hl (Nat.le_refl _))
  have HE := Lib.hid hE
  obtain ⟨pt, cp, rfl⟩ := hl.shape
  have HL := Lib.hid hl
  clear hl hE
  by_cases hf : wtL 0 l ≤ 250
  · have hcnt := few_cnt hf
    have g0 : decide (wtL 0 l ≤ 250) = true := decide_eq_true hf
    rw [g0] at HFEW
    clear hf g0
    go_enter Tryz.func3, Tryz.ntmps3
    go_wp2_with fail
    refine HFEW.out.mono ?_
    rintro _ w1 ⟨rfl, hb1⟩
    have HB1 := Lib.hid hb1; have HE1 := Lib.hid (HE.out.below hb1)
    have HL1 := Lib.hid (HL.out.kept (B' := w1.heap.size) (Kept.of_below hb1) (fun b h1 h2 => ⟨by omega, by have := hb1.size; omega⟩))
    clear hb1
    have HPR := Lib.hid (Print_ok HL1.out HE1.out.base)
    go_wp2_with fail
    refine HPR.out.mono ?_
    rintro _ w2 ⟨hb2, hp⟩
    have HB2 := Lib.hid (HB1.out.trans (hb2.mono HB1.out.size)); have HE2 := Lib.hid (HE1.out.below hb2)
    have HL2 := Lib.hid (HL1.out.below hb2 (Nat.le_refl _)); have hs2 := hb2.size
    have HPD := Lib.hid (printD_ok HL2.out hs2 hcnt)
    clear hb2 HPR
    cases hwl : walkL l 1 0 with
    | error x =>
      rw [hwl] at hp
      obtain ⟨v2, rfl, hfl⟩ := hp
      have hx := walkL_num _ _ _ _ hwl
      obtain ⟨fb, rfl⟩ := hfl.form
      have gx : (x.1 != 0) = true := by simp; omega
      have hx1 : 1 ≤ x.1 := by omega
      have hx2 : x.1 ≤ 17 := by omega
      have HFL := Lib.hid hfl; have HW := Lib.hid hwl
      clear hfl hwl hx
      go_wp2_with fail
      refine HPD.out.mono ?_
      rintro _ w3 ⟨hb3, hp3⟩
      rw [HW.out] at hp3
      subst hp3
      have HB3 := Lib.hid (HB2.out.trans (hb3.mono HB2.out.size)); have HE3 := Lib.hid (HE2.out.below hb3)
      have HF3 := Lib.hid (HFL.out.kept (Kept.of_below hb3) (fun b _ h q => absurd h (by omega)))
      clear hb3
      go_wp2_with fail
      refine (no_flt HF3.out hx1 hx2).mono ?_
      rintro _ w' ⟨rfl, rfl⟩
      go_wp2_with fail
      refine (place_flt HF3.out HE3.out.hand).mono ?_
      rintro _ w4 ⟨rfl, hb4⟩
      have HBB := Lib.hid (HB3.out.trans (hb4.mono HB3.out.size)); have HEE := Lib.hid (HE3.out.below hb4)
      clear hb4
      go_wp2_with fail
      refine (HAL.out _ HEE.out).mono ?_
      rintro _ w9 ⟨rfl, hb9⟩
      have HB9 := Lib.hid (HBB.out.trans (hb9.mono HBB.out.size))
      clear hb9
      go_wp2
      go_ret
      exact ⟨rfl, HB9.out⟩
    | ok mm =>
      rw [hwl] at hp
      simp only at hp
      by_cases h2 : 20000 < (tellL l []).length
      · rw [if_pos h2] at hp
        subst hp
        have HW := Lib.hid hwl; have HH2 := Lib.hid h2
        clear hwl h2
        go_wp2_with fail
        refine HPD.out.mono ?_
        rintro _ w3 ⟨hb3, hp3⟩
        rw [HW.out] at hp3
        simp only at hp3
        rw [if_pos HH2.out] at hp3
        subst hp3
        have HB3 := Lib.hid (HB2.out.trans (hb3.mono HB2.out.size)); have HE3 := Lib.hid (HE2.out.below hb3)
        clear hb3
        go_wp2_with fail
        refine (no_eight w3).mono ?_
        rintro _ w' ⟨rfl, rfl⟩
        go_wp2_with fail
        refine (place_errno 8 HE3.out.hand).mono ?_
        rintro _ w4 ⟨rfl, hb4⟩
        have HBB := Lib.hid (HB3.out.trans (hb4.mono HB3.out.size)); have HEE := Lib.hid (HE3.out.below hb4)
        clear hb4
        go_wp2_with fail
        refine (HAL.out _ HEE.out).mono ?_
        rintro _ w9 ⟨rfl, hb9⟩
        have HB9 := Lib.hid (HBB.out.trans (hb9.mono HBB.out.size))
        clear hb9
        go_wp2
        go_ret
        exact ⟨rfl, HB9.out⟩
      · rw [if_neg h2] at hp
        subst hp
        have HW := Lib.hid hwl; have HH2 := Lib.hid h2
        have hgood := walkL_good l _ _ _ hwl
        have hcn := walkL_cnt l _ _ _ hwl
        have hc100 : cntL l ≤ 100 := by have := hcn.1; have := hcn.2 (Nat.zero_le _); omega
        obtain ⟨T, hT⟩ : ∃ T : ByteArray, (⟨(tellL l []).toArray⟩ : ByteArray) = T := ⟨_, rfl⟩
        have HT := Lib.hid hT
        rw [hT]
        have hTd : T.data.toList = tellL l [] := by rw [← hT]
        have hrd : readAll (tl T.data.toList) = .ok l := by rw [hTd]; exact read_told hgood
        have hTs : T.size ≤ 20000 := by rw [← hT]; show (tellL l []).toArray.size ≤ _; simp; omega
        have HP4 := Lib.hid (fun (w : World) (hE : TEnv w) => parse_good hrd hTs hE)
        have HPOS := Lib.hid (read_pos hrd)
        clear hwl h2 hT hTd hrd hTs hgood hcn
        go_wp2_with fail
        refine HPD.out.mono ?_
        rintro _ w3 ⟨hb3, hp3⟩
        rw [HW.out] at hp3
        simp only at hp3
        rw [if_neg HH2.out, HT.out] at hp3
        subst hp3
        have HB3 := Lib.hid (HB2.out.trans (hb3.mono HB2.out.size)); have HE3 := Lib.hid (HE2.out.below hb3)
        have HL3 := Lib.hid (HL2.out.below hb3 hs2); have hs3 := hb3.size
        clear hb3
        go_wp2_with fail
        refine (no_nil w3).mono ?_
        rintro _ w' ⟨rfl, rfl⟩
        go_wp2_with fail
        refine (place_nil w3).mono ?_
        rintro _ w4 ⟨rfl, hb4⟩
        have HB4 := Lib.hid (HB3.out.trans (hb4.mono HB3.out.size)); have HE4 := Lib.hid (HE3.out.below hb4)
        have HL4 := Lib.hid (HL3.out.below hb4 (Nat.le_trans hs2 hs3)); have hs4 := hb4.size
        clear hb4
        go_wp2_with fail
        refine (HP4.out _ HE4.out).mono ?_
        rintro _ w5 ⟨v5, rfl, hv5, hb5⟩
        have hr5 := hv5.read
        obtain ⟨pt5, cp5, rfl⟩ := hr5.shape
        have HB5 := Lib.hid (HB4.out.trans (hb5.mono HB4.out.size)); have HE5 := Lib.hid (HE4.out.below hb5)
        have HS := Lib.hid (same_ok (cntL l + 1) l _ _ w5.heap.size w5 (by omega) (by omega) HPOS.out.1 (HL4.out.kept (Kept.of_below hb5) (fun b h1 h2 => ⟨by omega, by have := hb5.size; omega⟩)) hr5 (Nat.le_refl _))
        clear hb5 hr5 hv5
        go_wp2_with fail
        refine (no_nil w5).mono ?_
        rintro _ w' ⟨rfl, rfl⟩
        go_wp2_with fail
        refine HS.out.mono ?_
        rintro _ w6 ⟨rfl, hb6⟩
        have HBB := Lib.hid (HB5.out.trans (hb6.mono HB5.out.size)); have HEE := Lib.hid (HE5.out.below hb6)
        clear hb6
        go_wp2_with fail
        refine (HAL.out _ HEE.out).mono ?_
        rintro _ w9 ⟨rfl, hb9⟩
        have HB9 := Lib.hid (HBB.out.trans (hb9.mono HBB.out.size))
        clear hb9
        go_wp2
        go_ret
        exact ⟨rfl, HB9.out⟩
  · have g0 : decide (wtL 0 l ≤ 250) = false := decide_eq_false hf
    rw [g0] at HFEW
    clear hf g0
    go_enter Tryz.func3, Tryz.ntmps3
    go_wp2_with fail
    refine HFEW.out.mono ?_
    rintro _ w1 ⟨rfl, hb1⟩
    have HBB := Lib.hid hb1; have HEE := Lib.hid (HE.out.below hb1)
    clear hb1
    go_wp2_with fail
    refine (HAL.out _ HEE.out).mono ?_
    rintro _ w9 ⟨rfl, hb9⟩
    have HB9 := Lib.hid (HBB.out.trans (hb9.mono HBB.out.size))
    clear hb9
    go_wp2
    go_ret
    exact ⟨rfl, HB9.out⟩
end Go.Proofs.YtikgbgminhgpdaaGreatDoor
