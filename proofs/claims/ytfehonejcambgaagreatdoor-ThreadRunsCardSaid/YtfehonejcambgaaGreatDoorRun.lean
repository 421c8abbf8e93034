/- Layer 5 (thread): Run. -/
import Derived.Test.YtfehonejcambgaaGreatDoorStep
namespace Go.Proofs.YtfehonejcambgaaGreatDoor
open Go.RowKit Bl Th
set_option maxRecDepth 10000

theorem step_steps {σ : Type} (F : Prog σ) (t : TS σ) (S : BS) : (Th.step F t S).2.1.steps ≤ t.steps + 1 := by
  unfold Th.step
  split
  · exact Nat.le_succ _
  · simp only
    split
    · exact Nat.le_refl _
    · split
      · exact Nat.le_refl _
      · split
        · exact Nat.le_refl _
        · exact Nat.le_refl _
theorem run_done {σ : Type} (F : Prog σ) (n : Nat) (s : Nat × TS σ × BS) (h : s.2.1.done = true) : Th.run F n s = s := by
  cases n with
  | zero => rfl
  | succ n => unfold Th.run; rw [if_pos h]

/-- What holds at the head of each of Run's rounds. -/
structure Running {σ : Type} (W : World) (R : List Nat) (pa pb pt : Nat) (fv : Value) (A : Aux σ) (wi : World) (v : Value) (B : List Nat) (s : Nat × TS σ × BS) (wr : World) : Prop where
  err : ∃ E, Err wr v s.1 E ∧ ∀ b ∈ E, b ∈ B
  thr : Thr W pb pt fv A s.2.1 B wr
  held : Held W (B ++ R) pa pb s.2.2 wr
  by' : HeldBy R wi wr
  apart : ∀ b ∈ B, b ∉ R
theorem Running.post {σ : Type} {W : World} {R : List Nat} {pa pb pt : Nat} {fv : Value} {A : Aux σ} {wi : World} {v : Value} {B : List Nat} {s : Nat × TS σ × BS} {wr : World} (h : Running W R pa pb pt fv A wi v B s wr) : StepPost W R pa pb pt fv A wi s (.returned v) wr := by
  obtain ⟨E, he, hE⟩ := h.err
  exact ⟨v, E, B, rfl, he, h.thr, h.held, h.by', hE, h.apart⟩

set_option maxHeartbeats 2000000 in
theorem trun_ok {σ : Type} {W : World} {R : List Nat} {pa pb pt f : Nat} {caps : Array Value} {A : Aux σ} {F : Prog σ} {t : TS σ} {B : List Nat} {S : BS} {wi : World} (hF : BodyOk W pa pb f caps A F) (h : Thr W pb pt (.func (.func f) #[] caps) A t B wi) (hh : Held W (B ++ R) pa pb S wi) (hBR : ∀ b ∈ B, b ∉ R) (most : Nat) (hs : t.steps + most ≤ 3000000000) :
    Calls Tryz.prog 9 #[.pointer (some ⟨pt, 0, none⟩), .int .i64 (most : Int)] wi (StepPost W R pa pb pt (.func (.func f) #[] caps) A wi (Th.run F most (t.err, t, S))) := by
  have HF := Lib.hid hF
  have HT := Lib.hid h
  have HH := Lib.hid hh
  have HBR := Lib.hid hBR
  have HE := Lib.hid (terr_ok h)
  clear hF h hh hBR
  go_enter Tryz.func9, Tryz.ntmps9
  go_wp2_with fail
  refine HE.out.mono ?_
  rintro e w' ⟨⟨ev, E, rfl, he, hE⟩, rfl⟩
  have HR0 := Lib.hid (show Running W R pa pb pt (.func (.func f) #[] caps) A wi ev B (t.err, t, S) wi from ⟨⟨E, he, hE⟩, HT.out, HH.out, HeldBy.refl _ _, HBR.out⟩)
  clear he hE HE HT HH HBR
  go_wp2
  obtain ⟨res, hres⟩ : ∃ res, Th.run F most (t.err, t, S) = res := ⟨_, rfl⟩
  have HRES := Lib.hid hres

  clear hres
  go_loopw [5, 6] (fun v i wr => ∃ (k : Nat) (B : List Nat) (s : Nat × TS σ × BS), k ≤ most ∧ i = .int .i64 (k : Int) ∧ Running W R pa pb pt (.func (.func f) #[] caps) A wi v B s wr ∧ res = Th.run F (most - k) s ∧ s.2.1.steps ≤ t.steps + k) (fun _ i _ => most - (intOf i).toNat)
  case atStart => exact ⟨0, B, _, Nat.zero_le _, rfl, HR0.out, HRES.out.symm, Nat.le_refl _⟩
  case round =>
    obtain ⟨k, B1, s, hk, rfl, hr, hrun, hst⟩ := hrel
    have HR := Lib.hid hr
    have HRUN := Lib.hid hrun
    have HST := Lib.hid hst
    have hv : ∃ n E, Err wr u5 n E := by
      obtain ⟨E, he, _⟩ := hr.err
      exact ⟨_, E, he⟩
    clear hr hrun hst HR0
    by_cases hlt : k < most
    · have hlt' : (k : Int) < (most : Int) := by omega
      cases hd : s.2.1.done
      · have HD := Lib.hid (tdone_ok HR.out.thr)
        rw [hd] at HD
        have HS := Lib.hid (tstep_open HF.out HR.out.thr HR.out.held HR.out.apart hd (by have := HST.out; omega))
        have HN := Lib.hid (show res = Th.run F (most - (k + 1)) (Th.step F s.2.1 s.2.2) by
          rw [HRUN.out, show most - k = (most - (k + 1)) + 1 by omega]
          conv => lhs; unfold Th.run
          rw [if_neg (by simp [hd])])
        clear hd HRUN hv
        go_wp2_with fail
        refine HD.out.mono ?_
        rintro e w' ⟨rfl, rfl⟩
        go_wp2_with fail
        refine HS.out.mono ?_
        rintro e w5 ⟨v, E, B', rfl, he, ht', hh', hx, hE, hBR⟩
        have HR' := Lib.hid (show Running W R pa pb pt (.func (.func f) #[] caps) A wi v B' (Th.step F s.2.1 s.2.2) w5 from ⟨⟨E, he, hE⟩, ht', hh', HeldBy.trans HR.out.by' hx, hBR⟩)
        clear he ht' hh' hx hE hBR HS HD
        go_wp2
        go_roundw
        case rel => exact ⟨k + 1, B', _, by omega, by go_num, HR'.out, HN.out, by have := step_steps F s.2.1 s.2.2; have := HST.out; omega⟩
        case measure => simp [intOf]; omega
      · have HD := Lib.hid (tdone_ok HR.out.thr)
        rw [hd] at HD
        have HN := Lib.hid (show res = s by rw [HRUN.out]; exact run_done F _ _ hd)
        obtain ⟨lv, ev, E, Q, hB, hl⟩ := HR.out.thr
        have p0 := (seven hl.cells).1
        clear hd HRUN hv hl hB
        go_wp2_with fail
        refine HD.out.mono ?_
        rintro e w' ⟨rfl, rfl⟩
        go_wp2
        go_ret
        rw [HRES.out, HN.out]
        exact HR.out.post
    · obtain rfl : most = k := by omega
      have HN := Lib.hid (show res = s by rw [HRUN.out, Nat.sub_self]; rfl)
      obtain ⟨lv, ev, E, Q, hB, hl⟩ := HR.out.thr
      have p0 := (seven hl.cells).1
      have g : decide ((most : Int) < (most : Int)) = false := by simp
      clear HRUN hl hB hv
      go_wp2
      go_ret
      rw [HRES.out, HN.out]
      exact HR.out.post
end Go.Proofs.YtfehonejcambgaaGreatDoor
