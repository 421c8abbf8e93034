/- Run: Step, Run. -/
import Derived.Test.YtmdganpealbmpaaGreatDoorThread

/- Layer 5 (thread): Step. -/
namespace Go.Proofs.YtmdganpealbmpaaGreatDoor
open Go.RowKit Bl Th
set_option maxRecDepth 10000

/-- What a step answers and leaves. -/
def StepPost {σ : Type} (W : World) (R : List Nat) (pa pb pt : Nat) (fv : Value) (A : Aux σ) (wr : World) (r : Nat × TS σ × BS) (e : Ending) (w' : World) : Prop :=
  ∃ v E B', e = .returned v ∧ Err w' v r.1 E ∧ Thr W pb pt fv A r.2.1 B' w' ∧ Held W (B' ++ R) pa pb r.2.2 w' ∧ HeldBy R wr w' ∧ (∀ b ∈ E, b ∈ B') ∧ ∀ b ∈ B', b ∉ R

/-- The Ctx of a step. -/
theorem thr_ctx {σ : Type} {W : World} {R Q : List Nat} {pa pb pt : Nat} {fv lv : Value} {A : Aux σ} {t : TS σ} {S : BS} {wr w1 : World} (hl : ThrLies W pb pt fv A t lv .nilIface [] Q wr) (hh : Held W (pt :: (lv.ownBlock.toList ++ ([] ++ Q)) ++ R) pa pb S wr) (hBR : ∀ b ∈ pt :: (lv.ownBlock.toList ++ ([] ++ Q)), b ∉ R)
    (hk : Kept (fun b => b = pt) wr w1) (hz : w1.heap.size = wr.heap.size + 1) (hc : Cells w1 wr.heap.size [.pointer (some ⟨pb, 0, none⟩), lv, .int .i64 0, .bool false] 123) :
    A.at' t.aux Q w1 ∧ CtxLies W ((pt :: R) ++ Q) pa pb wr.heap.size ⟨t.log, 0, false, S⟩ lv w1 ∧ HeldBy R wr w1 ∧ (∀ b ∈ pt :: R, b ∉ Q) := by
  have lt (b : Nat) (hb : b ∈ pt :: (lv.ownBlock.toList ++ ([] ++ Q)) ++ R) : b < wr.heap.size := hh.held b hb
  have nQ : ∀ b ∈ Q, b ≠ pt := fun b hb e => hl.ptR (by simp [← e, hb])
  have nL : ∀ b ∈ lv.ownBlock.toList, b ≠ pt := fun b hb e => hl.ptR (by rw [← e]; exact List.mem_append_left _ hb)
  have nR : ∀ b ∈ R, b ≠ pt := fun b hb e => hBR pt (by simp) (e ▸ hb)
  refine ⟨A.loc _ _ _ _ hl.aux ⟨hk.size, fun b hb => hk.block b (lt b (by simp [hb])) (nQ b hb)⟩, ⟨by simpa using hc, ?_, ?_, ?_, ?_, hh.below.size, by simp, hl.few, hl.fit⟩, ⟨hk.size, fun b hb => hk.block b (lt b (by simp [hb])) (nR b hb)⟩, ?_⟩
  · exact ownsRow_kept hl.row hk fun b hb => nL b (by simp [hb])
  · refine hh.step (hk.mono fun b _ e => by simp [e]) (hh.below.trans (hk.below hh.below.size fun k hk' e => by have := hl.new; omega)) fun b hb => ?_
    rcases List.mem_cons.1 hb with e | e
    · exact ⟨.inr (by omega), by omega⟩
    · have hm : b ∈ pt :: (lv.ownBlock.toList ++ ([] ++ Q)) ++ R := by
        simp only [List.mem_append, List.mem_cons, List.not_mem_nil, false_or] at e ⊢
        rcases e with e | (e | e) | e
        · exact .inl (.inr (.inl e))
        · exact .inl (.inl e)
        · exact .inr e
        · exact .inl (.inr (.inr e))
      exact ⟨.inl hm, by have := lt b hm; omega⟩
  · intro hm
    have := lt wr.heap.size (by
      simp only [List.mem_append, List.mem_cons, List.not_mem_nil, false_or] at hm ⊢
      rcases hm with e | (e | e) | e
      · exact .inl (.inr (.inl e))
      · exact .inl (.inl e)
      · exact .inr e
      · exact .inl (.inr (.inr e)))
    omega
  · intro b hb hm
    simp only [List.mem_append, List.mem_cons] at hm
    rcases hm with (e | e) | e
    · exact nL b hb e
    · exact hBR b (by simp only [List.mem_cons, List.mem_append]; exact .inr (.inl hb)) e
    · exact hl.logR b hb (by simp [e])
  · intro b hb hm
    rcases List.mem_cons.1 hb with e | e
    · exact nQ b hm e
    · exact hBR b (by simp [hm]) e

/-- What a step leaves. -/
theorem thr_close {σ : Type} {W : World} {R Q E E' E'' Q' : List Nat} {pa pb pt pc n n0 : Nat} {fv lv lv' ev vr : Value} {A : Aux σ} {t' : TS σ} {c : CS} {wr w2 w3 : World} (hl : CtxLies W ((pt :: R) ++ (E ++ Q')) pa pb pc c lv w2) (ha : A.at' t'.aux Q' w2) (hq : ∀ b ∈ E ++ Q', b ∈ Q ∨ wr.heap.size ≤ b) (hptQ : pt ∉ Q) (hpt : pt < wr.heap.size) (hnew : W.heap.size ≤ pt) (hptR : pt ∉ R) (hQR : ∀ b ∈ Q, b ∉ R) (hRl : ∀ b ∈ R, b < wr.heap.size)
    (hx : HeldBy R wr w2) (hk : Kept (fun b => b = pt) w2 w3)
    (hc : Cells w3 pt [.pointer (some ⟨pb, 0, none⟩), fv, lv', .int .i64 (t'.round : Int), .int .i64 (t'.steps : Int), .bool t'.done, ev] 109)
    (hrow : (lv' = lv ∧ t'.log = c.log) ∨ (lv' = .slice none 0 0 ∧ t'.log = [])) (herr : Err w3 ev t'.err E') (hE : ∀ b ∈ E', b ∈ E) (hr : t'.round < 40) (ho : t'.done = false → t'.err = 0) (hret : Err w3 vr n E'') (hE'' : ∀ b ∈ E'', b ∈ E') (hn : n = n0) :
    StepPost W R pa pb pt fv A wr (n0, t', c.bs) (.returned vr) w3 := by
  have hs := hl.held.below.size
  have hpE : pt ∉ E ++ Q' := fun hm => by
    rcases hq pt hm with e | e
    · exact hptQ e
    · omega
  have npl : ∀ b ∈ lv.ownBlock.toList, b ≠ pt := fun b hb e => hl.logR b hb (by simp [e])
  have lt (b : Nat) (hb : b ∈ pc :: (lv.ownBlock.toList ++ ((pt :: R) ++ (E ++ Q')))) : b < w2.heap.size := hl.held.held b hb
  have hsub : ∀ b ∈ lv'.ownBlock.toList, b ∈ lv.ownBlock.toList := by
    rcases hrow with ⟨rfl, _⟩ | ⟨rfl, _⟩
    · exact fun _ h => h
    · simp [Value.ownBlock]
  refine ⟨vr, E'', pt :: (lv'.ownBlock.toList ++ (E' ++ Q')), rfl, hn ▸ hret, ⟨lv', ev, E', Q', rfl, hc, ?_, herr, ?_, ?_, ?_, hnew, hr, ?_, ?_, ho⟩, ?_, ?_, ?_, ?_⟩
  · rcases hrow with ⟨rfl, e⟩ | ⟨rfl, e⟩
    · rw [e]; exact ownsRow_kept hl.row hk fun b hb => npl b (by simp [hb])
    · rw [e]; exact World.ownsRow_nil _ _ _ _
  · exact A.loc _ _ _ _ ha ⟨hk.size, fun b hb => hk.block b (lt b (by simp [hb])) fun e => hpE (by simp [← e, hb])⟩
  · intro hm
    rcases List.mem_append.1 hm with e | e
    · exact npl pt (hsub pt e) rfl
    · refine hpE ?_
      rcases List.mem_append.1 e with q | q
      · exact List.mem_append_left _ (hE pt q)
      · exact List.mem_append_right _ q
  · intro b hb hm
    refine hl.logR b (hsub b hb) (List.mem_append_right _ ?_)
    rcases List.mem_append.1 hm with q | q
    · exact List.mem_append_left _ (hE b q)
    · exact List.mem_append_right _ q
  · rcases hrow with ⟨_, e⟩ | ⟨_, e⟩
    · rw [e]; exact hl.few
    · simp [e]
  · rcases hrow with ⟨_, e⟩ | ⟨_, e⟩
    · rw [e]; exact hl.fit
    · simp [e]
  · refine hl.held.step (hk.mono fun b _ e => by simp [e]) (hl.held.below.trans (hk.below hs fun k hk' e => by omega)) fun b hb => ?_
    have hm : b ∈ pc :: (lv.ownBlock.toList ++ ((pt :: R) ++ (E ++ Q'))) := by
      simp only [List.mem_append, List.mem_cons] at hb ⊢
      rcases hb with (e | e | e | e) | e
      · exact .inr (.inr (.inl (.inl e)))
      · exact .inr (.inl (hsub b e))
      · exact .inr (.inr (.inr (.inl (hE b e))))
      · exact .inr (.inr (.inr (.inr e)))
      · exact .inr (.inr (.inl (.inr e)))
    exact ⟨.inl hm, Nat.lt_of_lt_of_le (lt b hm) hk.size⟩
  · exact ⟨Nat.le_trans hx.1 hk.size, fun b hb => (hk.block b (lt b (by simp [hb])) fun e => hptR (e ▸ hb)).trans (hx.2 b hb)⟩
  · intro b hb
    simp only [List.mem_append, List.mem_cons]
    exact .inr (.inr (.inl (hE'' b hb)))
  · intro b hb
    simp only [List.mem_append, List.mem_cons] at hb
    intro hR
    have hl0 := hRl b hR
    rcases hb with e | e | e | e
    · exact hptR (e ▸ hR)
    · exact hl.logR b (hsub b e) (by simp [hR])
    · rcases hq b (by simp [hE b e]) with q | q
      · exact hQR b q hR
      · omega
    · rcases hq b (by simp [e]) with q | q
      · exact hQR b q hR
      · omega

set_option maxHeartbeats 2000000 in
theorem tstep_at {σ : Type} {W : World} {R : List Nat} {pa pb pt f : Nat} {caps : Array Value} {A : Aux σ} {F : Prog σ} {t : TS σ} {B : List Nat} {S : BS} {wr : World} {Sh : List Nat} {P : World → Prop} (hF : StepBody W pa pb f caps A F Sh P t.aux t.round ⟨t.log, 0, false, S⟩) (h : Thr W pb pt (.func (.func f) #[] caps) A t B wr) (hh : Held W (B ++ R) pa pb S wr) (hBR : ∀ b ∈ B, b ∉ R) (hSh : ∀ b ∈ Sh, b ∈ R) (hP : P wr) (hd : t.done = false) (hs : t.steps < 4000000000) :
    Calls Tryz.prog 25 #[.pointer (some ⟨pt, 0, none⟩)] wr (StepPost W R pa pb pt (.func (.func f) #[] caps) A wr (Th.step F t S)) := by
  obtain ⟨lv, ev, E, Q, rfl, hl⟩ := h
  have he := hl.open' hd
  obtain ⟨hev, hE⟩ := hl.err.isNil he
  subst hev hE
  obtain ⟨log, round, steps, done, err, aux⟩ := t
  simp only at hd he hs
  subst hd he
  obtain ⟨p0, p1, p2, p3, p4, p5, p6, f0, f1, f2, f3, f4, f5, f6⟩ := seven hl.cells
  simp only at p3 p4 p5
  have ef := hF.enters
  have HF := Lib.hid (show StepBody W pa pb f caps A F Sh P aux round ⟨log, 0, false, S⟩ from hF)
  have HSH := Lib.hid hSh; have HPP := Lib.hid hP
  obtain ⟨p, cap, rfl⟩ := ownsRow_shape hl.row
  have H := Lib.hid hl
  have HH := Lib.hid hh
  have hr := hl.round
  simp only at hr
  have lp := hl.cells.lt
  clear hF hl hh hSh hP
  go_enter Tryz.func25, Tryz.ntmps25
  go_wp2
  go_region
  have C1 : Cells (((wr.setCell ⟨pt, 4, none⟩ (.int .i64 ((steps : Int) + 1))).alloc (.cells #[.pointer (some ⟨pb, 0, none⟩), .slice p log.length cap, .int .i64 0, .bool false] 123)).drew) wr.heap.size [.pointer (some ⟨pb, 0, none⟩), .slice p log.length cap, .int .i64 0, .bool false] 123 := by
    have := (Cells.new (wr.setCell ⟨pt, 4, none⟩ (.int .i64 ((steps : Int) + 1))) [.pointer (some ⟨pb, 0, none⟩), .slice p log.length cap, .int .i64 0, .bool false] 123).drew
    simpa using this
  have K1 : Kept (fun b => b = pt) wr (((wr.setCell ⟨pt, 4, none⟩ (.int .i64 ((steps : Int) + 1))).alloc (.cells #[.pointer (some ⟨pb, 0, none⟩), .slice p log.length cap, .int .i64 0, .bool false] 123)).drew) := ((Kept.setCell (S := fun b => b = pt) (Kept.refl _ wr) (fun _ => rfl) _).alloc _).drew
  have T1 : Cells (((wr.setCell ⟨pt, 4, none⟩ (.int .i64 ((steps : Int) + 1))).alloc (.cells #[.pointer (some ⟨pb, 0, none⟩), .slice p log.length cap, .int .i64 0, .bool false] 123)).drew) pt [.pointer (some ⟨pb, 0, none⟩), .func (.func f) #[] caps, .slice p log.length cap, .int .i64 (round : Int), .int .i64 ((steps : Int) + 1), .bool false, .nilIface] 109 := ((H.out.cells.set 4 _).alloc _).drew
  have z1 : (((wr.setCell ⟨pt, 4, none⟩ (.int .i64 ((steps : Int) + 1))).alloc (.cells #[.pointer (some ⟨pb, 0, none⟩), .slice p log.length cap, .int .i64 0, .bool false] 123)).drew).heap.size = wr.heap.size + 1 := by simp
  go_wp2
  generalize (((wr.setCell ⟨pt, 4, none⟩ (.int .i64 ((steps : Int) + 1))).alloc (.cells #[.pointer (some ⟨pb, 0, none⟩), .slice p log.length cap, .int .i64 0, .bool false] 123)).drew) = w1 at *
  obtain ⟨ha1, hc1, hb1, hx1⟩ := thr_ctx H.out HH.out hBR K1 z1 C1
  have HBD := Lib.hid (fun n => HF.out.does (pt :: R) Q (w1.drewN n) wr.heap.size (HF.out.keeps wr (w1.drewN n) ⟨hb1.1, fun b hb => hb1.2 b (HSH.out b hb)⟩ HPP.out) (fun b hb => List.mem_cons_of_mem _ (HSH.out b hb)) (A.loc _ _ _ _ ha1 ⟨Nat.le_refl _, fun _ _ => rfl⟩) (Ctx.step ⟨_, hc1⟩ ((Kept.refl _ w1).drewN n) (below_drewN hc1.held.below n) (fun b hb => ⟨.inl hb, hc1.heldR b hb⟩)) hx1 hr)
  clear p0 p1 p2 p3 p4 p5 p6 f0 f1 f2 f3 f4 f5 f6
  obtain ⟨p0, p1, p2, p3, p4, p5, p6, f0, f1, f2, f3, f4, f5, f6⟩ := seven T1
  obtain ⟨⟨n', c', s'⟩, hres⟩ : ∃ r, F aux round ⟨log, 0, false, S⟩ = r := ⟨_, rfl⟩
  rw [hres] at HBD
  have HRES := Lib.hid hres
  have HT1 := Lib.hid T1; have HK1 := Lib.hid K1; have HB1 := Lib.hid hb1
  clear hres T1 K1 ha1 hc1 hb1 hx1 z1 C1
  go_region_held3 (fun w' => w'.cell? ⟨pt, 1, none⟩ = some (.func (.func f) #[] caps) ∧ w'.cell? ⟨pt, 3, none⟩ = some (.int .i64 (round : Int)))
    (first | with_reducible exact ⟨k1, k3⟩ | go_keep)
    (first | (refine (HBD.out 1).mono ?_; rintro e w2 ⟨v, E', Q', rfl, he, ha, hc, hx, hq⟩; have k1 := (hx.cell (a := ⟨pt, 1, none⟩) (by simp)).trans p1; have k3 := (hx.cell (a := ⟨pt, 3, none⟩) (by simp)).trans p3; have HE := Lib.hid he; have HA := Lib.hid ha; have HC := Lib.hid hc; have HX := Lib.hid hx; have HQ := Lib.hid hq; clear he ha hc hx hq))
  obtain ⟨lv', hl'⟩ := HC.out
  obtain ⟨p', cap', rfl⟩ := ownsRow_shape hl'.row
  obtain ⟨c0, c1, c2, c3, -⟩ := four hl'.cells
  have T2 : Cells w2 pt _ _ := Cells.heldBy (w := w1.drewN 1) HT1.out HX.out (by simp)
  have lp2 := T2.lt
  clear p0 p1 p2 p3 p4 p5 p6 f0 f1 f2 f3 f4 f5 f6
  obtain ⟨p0, p1, p2, p3, p4, p5, p6, f0, f1, f2, f3, f4, f5, f6⟩ := seven T2
  have hpE : pt ∉ E' ++ Q' := fun hm => by
    rcases HQ.out pt hm with e | e
    · exact H.out.ptR (by simp [e])
    · have := HK1.out.size; simp at e; omega
  have HE3 := Lib.hid (fun (w3 : World) (hk : Kept (fun b => b = pt) w2 w3) => HE.out.heldBy (R := E') (w' := w3) ⟨hk.size, fun b hb => hk.block b (HE.out.lt b hb) (fun e => hpE (by simp [← e, hb]))⟩ (fun _ h => h))
  have HL := Lib.hid hl'; have HT2 := Lib.hid T2
  have hq' : ∀ b ∈ E' ++ Q', b ∈ Q ∨ wr.heap.size ≤ b := fun b hb => by
    rcases HQ.out b hb with e | e
    · exact .inl e
    · exact .inr (Nat.le_trans HK1.out.size (by simpa using e))
  have HCL := Lib.hid (fun (t' : TS σ) (lv'' ev vr : Value) (E1 E2 : List Nat) (n0 : Nat) (w3 : World) (ht : t'.aux = s') hk hc hrow herr hE hr ho hret hE'' => thr_close (pa := pa) (n := n0) (n0 := n0) (lv' := lv'') (ev := ev) (vr := vr) (fv := .func (.func f) #[] caps) (A := A) (t' := t') (E' := E1) (E'' := E2) (w3 := w3) (wr := wr) (Q := Q) hl' (ht ▸ HA.out) hq' (fun hm => H.out.ptR (by simp [hm])) lp H.out.new (hBR pt (by simp)) (fun b hb => hBR b (by simp [hb])) (fun b hb => HH.out.held b (by simp [hb]))
    (HeldBy.trans HB1.out (HeldBy.less (R := pt :: R) (a := w1) HX.out (fun b hb => by simp [hb]))) hk hc hrow herr hE hr ho hret hE'' rfl)
  clear hq'
  clear hpE T2 hl' HC k1 k3
  generalize c'.log.length = len' at *
  have K3 : Kept (fun b => b = pt) w2 (w2.setCell ⟨pt, 2, none⟩ (.slice p' len' cap')) := Kept.setCell (S := fun b => b = pt) (Kept.refl _ w2) (fun _ => rfl) _
  have T3 : Cells (w2.setCell ⟨pt, 2, none⟩ (.slice p' len' cap')) pt [.pointer (some ⟨pb, 0, none⟩), .func (.func f) #[] caps, .slice p' len' cap', .int .i64 (round : Int), .int .i64 ((steps : Int) + 1), .bool false, .nilIface] 109 := HT2.out.set 2 _
  have HK3 := Lib.hid K3; have HT3 := Lib.hid T3
  clear K3 T3
  have HE3' := Lib.hid (HE3.out _ HK3.out)
  by_cases h11 : n' = 11
  · have hst : Th.step F ⟨log, round, steps, false, 0, aux⟩ S = (0, ⟨c'.log, round, steps + 1, false, 0, s'⟩, c'.bs) := by
      unfold Th.step
      simp [HRES.out, h11]
    have HST := Lib.hid hst
    have HI := Lib.hid (is_any HE3'.out 11 (by omega))
    rw [show decide (n' = 11) = true by simp [h11]] at HI
    clear hst h11
    go_wp2_with fail
    refine HI.out.mono ?_
    rintro e w' ⟨rfl, rfl⟩
    go_wp2
    go_ret
    rw [HST.out]
    exact HCL.out ⟨c'.log, round, steps + 1, false, 0, s'⟩ (.slice p' len' cap') .nilIface .nilIface [] [] 0 _ rfl HK3.out HT3.out (.inl ⟨rfl, rfl⟩) .none (by simp) hr (fun _ => rfl) .none (by simp)
  by_cases h12 : n' = 12
  · have HI := Lib.hid (is_any HE3'.out 11 (by omega))
    rw [show decide (n' = 11) = false by simp [h11]] at HI
    have HI2 := Lib.hid (is_any HE3'.out 12 (by omega))
    rw [show decide (n' = 12) = true by simp [h12]] at HI2
    by_cases h40 : 40 ≤ round + 1
    · have hst : Th.step F ⟨log, round, steps, false, 0, aux⟩ S = (15, ⟨c'.log, round, steps + 1, true, 15, s'⟩, c'.bs) := by
        unfold Th.step
        simp [HRES.out, h12, h40]
      have HST := Lib.hid hst
      have g40 : decide ((40 : Int) ≤ (round : Int) + 1) = true := by simp; omega
      have hen := Lib.hid (tend_ok pt _ _ _ _ _ _ _ (.iface 99 (.int .i64 15)) _ HT3.out rfl (.inr ⟨_, _, rfl⟩))
      clear hst h11 h12
      go_wp2_with fail
      refine HI.out.mono ?_
      rintro e w' ⟨rfl, rfl⟩
      go_wp2_with fail
      refine HI2.out.mono ?_
      rintro e w' ⟨rfl, rfl⟩
      go_wp2_with fail
      refine hen.out.mono ?_
      rintro e w4 ⟨rfl, hw4⟩
      have K4 : Kept (fun b => b = pt) w2 w4 := by
        rw [← hw4]
        exact (HK3.out.setCell (fun _ => rfl) _).setCell (fun _ => rfl) _
      have T4 : Cells w4 pt [.pointer (some ⟨pb, 0, none⟩), .func (.func f) #[] caps, .slice p' len' cap', .int .i64 (round : Int), .int .i64 ((steps : Int) + 1), .bool true, .iface 99 (.int .i64 15)] 109 := by
        rw [← hw4]
        exact (HT3.out.set 5 (.bool true)).set 6 (.iface 99 (.int .i64 15))
      have HK4 := Lib.hid K4; have HT4 := Lib.hid T4
      clear hw4 K4 T4
      go_wp2
      go_ret
      rw [HST.out]
      exact HCL.out ⟨c'.log, round, steps + 1, true, 15, s'⟩ (.slice p' len' cap') (.iface 99 (.int .i64 15)) (.iface 99 (.int .i64 15)) [] [] 15 _ rfl HK4.out HT4.out (.inl ⟨rfl, rfl⟩) (.no 15 (by omega) (by omega)) (by simp) hr (fun h => by cases h) (.no 15 (by omega) (by omega)) (by simp)
    · have hst : Th.step F ⟨log, round, steps, false, 0, aux⟩ S = (0, ⟨[], round + 1, steps + 1, false, 0, s'⟩, c'.bs) := by
        unfold Th.step
        simp [HRES.out, h12, h40]
      have HST := Lib.hid hst
      have g40 : decide ((40 : Int) ≤ (round : Int) + 1) = false := by simp; omega
      have hr1 : round + 1 < 40 := by omega
      clear hst h11 h12
      go_wp2_with fail
      clear p0 p1 p2 p3 p4 p5 p6 f0 f1 f2 f3 f4 f5 f6
      obtain ⟨p0, p1, p2, p3, p4, p5, p6, f0, f1, f2, f3, f4, f5, f6⟩ := seven HT3.out
      have HK5 := Lib.hid HK3.out; have HT5 := Lib.hid HT3.out
      generalize w2.setCell ⟨pt, 2, none⟩ (.slice p' len' cap') = w3 at *
      refine HI.out.mono ?_
      rintro e w' ⟨rfl, rfl⟩
      go_wp2_with fail
      refine HI2.out.mono ?_
      rintro e w' ⟨rfl, rfl⟩
      go_wp2
      go_ret
      rw [HST.out]
      exact HCL.out ⟨[], round + 1, steps + 1, false, 0, s'⟩ (.slice none 0 0) .nilIface .nilIface [] [] 0 _ rfl ((HK5.out.setCell (fun _ => rfl) _).setCell (fun _ => rfl) _) ((HT5.out.set 3 _).set 2 _) (.inr ⟨rfl, rfl⟩) .none (by simp) hr1 (fun _ => rfl) .none (by simp)
  · have hst : Th.step F ⟨log, round, steps, false, 0, aux⟩ S = (n', ⟨c'.log, round, steps + 1, true, n', s'⟩, c'.bs) := by
      unfold Th.step
      simp [HRES.out, h11, h12]
    have HST := Lib.hid hst
    have HI := Lib.hid (is_any HE3'.out 11 (by omega))
    rw [show decide (n' = 11) = false by simp [h11]] at HI
    have HI2 := Lib.hid (is_any HE3'.out 12 (by omega))
    rw [show decide (n' = 12) = false by simp [h12]] at HI2
    have hen := Lib.hid (tend_ok pt _ _ _ _ _ _ _ v _ HT3.out rfl HE.out.shape)
    clear hst h11 h12
    go_wp2_with fail
    refine HI.out.mono ?_
    rintro e w' ⟨rfl, rfl⟩
    go_wp2_with fail
    refine HI2.out.mono ?_
    rintro e w' ⟨rfl, rfl⟩
    go_wp2_with fail
    refine hen.out.mono ?_
    rintro e w4 ⟨rfl, hw4⟩
    have K4 : Kept (fun b => b = pt) w2 w4 := by
      rw [← hw4]
      exact (HK3.out.setCell (fun _ => rfl) _).setCell (fun _ => rfl) _
    have T4 : Cells w4 pt [.pointer (some ⟨pb, 0, none⟩), .func (.func f) #[] caps, .slice p' len' cap', .int .i64 (round : Int), .int .i64 ((steps : Int) + 1), .bool true, v] 109 := by
      rw [← hw4]
      exact (HT3.out.set 5 (.bool true)).set 6 v
    have HK4 := Lib.hid K4; have HT4 := Lib.hid T4
    clear hw4 K4 T4
    go_wp2
    go_ret
    rw [HST.out]
    exact HCL.out ⟨c'.log, round, steps + 1, true, n', s'⟩ (.slice p' len' cap') v v E' E' n' _ rfl HK4.out HT4.out (.inl ⟨rfl, rfl⟩) (HE3.out _ HK4.out) (fun _ h => h) hr (fun h => by cases h) (HE3.out _ HK4.out) (fun _ h => h)
theorem tstep_open {σ : Type} {W : World} {R : List Nat} {pa pb pt f : Nat} {caps : Array Value} {A : Aux σ} {F : Prog σ} {t : TS σ} {B : List Nat} {S : BS} {wr : World} {Sh : List Nat} {P : World → Prop} (hF : BodyOk W pa pb f caps A F Sh P) (h : Thr W pb pt (.func (.func f) #[] caps) A t B wr) (hh : Held W (B ++ R) pa pb S wr) (hBR : ∀ b ∈ B, b ∉ R) (hSh : ∀ b ∈ Sh, b ∈ R) (hP : P wr) (hd : t.done = false) (hs : t.steps < 4000000000) :     Calls Tryz.prog 25 #[.pointer (some ⟨pt, 0, none⟩)] wr (StepPost W R pa pb pt (.func (.func f) #[] caps) A wr (Th.step F t S)) :=
  tstep_at (hF.one _ _ _) h hh hBR hSh hP hd hs
end Go.Proofs.YtmdganpealbmpaaGreatDoor

/- Layer 5 (thread): Run. -/
namespace Go.Proofs.YtmdganpealbmpaaGreatDoor
open Go.RowKit Bl Th
set_option maxRecDepth 10000

theorem step_steps {σ : Type} (F : Prog σ) (t : TS σ) (S : BS) : (Th.step F t S).2.1.steps ≤ t.steps + 1 := by
  unfold Th.step
  split
  · exact Nat.le_succ _
  · simp only
    split
    · exact Nat.le_refl _
    · split
      · exact Nat.le_refl _
      · split
        · exact Nat.le_refl _
        · exact Nat.le_refl _
theorem run_last {σ : Type} (F : Prog σ) : ∀ (n : Nat) (s : Nat × TS σ × BS), Th.run F (n + 1) s = if (Th.run F n s).2.1.done then Th.run F n s else Th.step F (Th.run F n s).2.1 (Th.run F n s).2.2
  | 0, s => rfl
  | n + 1, s => by
    conv => lhs; unfold Th.run
    conv => rhs; unfold Th.run
    split
    · rfl
    · exact run_last F n _
theorem run_done {σ : Type} (F : Prog σ) (n : Nat) (s : Nat × TS σ × BS) (h : s.2.1.done = true) : Th.run F n s = s := by
  cases n with
  | zero => rfl
  | succ n => unfold Th.run; rw [if_pos h]

/-- What holds at the head of each of Run's rounds. -/
structure Running {σ : Type} (W : World) (R : List Nat) (pa pb pt : Nat) (fv : Value) (A : Aux σ) (wi : World) (v : Value) (B : List Nat) (s : Nat × TS σ × BS) (wr : World) : Prop where
  err : ∃ E, Err wr v s.1 E ∧ ∀ b ∈ E, b ∈ B
  thr : Thr W pb pt fv A s.2.1 B wr
  held : Held W (B ++ R) pa pb s.2.2 wr
  by' : HeldBy R wi wr
  apart : ∀ b ∈ B, b ∉ R
theorem Running.post {σ : Type} {W : World} {R : List Nat} {pa pb pt : Nat} {fv : Value} {A : Aux σ} {wi : World} {v : Value} {B : List Nat} {s : Nat × TS σ × BS} {wr : World} (h : Running W R pa pb pt fv A wi v B s wr) : StepPost W R pa pb pt fv A wi s (.returned v) wr := by
  obtain ⟨E, he, hE⟩ := h.err
  exact ⟨v, E, B, rfl, he, h.thr, h.held, h.by', hE, h.apart⟩

set_option maxHeartbeats 2000000 in
theorem trun_at {σ : Type} {W : World} {R : List Nat} {pa pb pt f : Nat} {caps : Array Value} {A : Aux σ} {F : Prog σ} {t : TS σ} {B : List Nat} {S : BS} {wi : World} {Sh : List Nat} {P : World → Prop}  (h : Thr W pb pt (.func (.func f) #[] caps) A t B wi) (hh : Held W (B ++ R) pa pb S wi) (hBR : ∀ b ∈ B, b ∉ R) (hSh : ∀ b ∈ Sh, b ∈ R) (hP : P wi) (most : Nat) (hF : ∀ k, k < most → (Th.run F k (t.err, t, S)).2.1.done = false → StepBody W pa pb f caps A F Sh P (Th.run F k (t.err, t, S)).2.1.aux (Th.run F k (t.err, t, S)).2.1.round ⟨(Th.run F k (t.err, t, S)).2.1.log, 0, false, (Th.run F k (t.err, t, S)).2.2⟩) (hs : t.steps + most ≤ 3000000000) :
    Calls Tryz.prog 26 #[.pointer (some ⟨pt, 0, none⟩), .int .i64 (most : Int)] wi (StepPost W R pa pb pt (.func (.func f) #[] caps) A wi (Th.run F most (t.err, t, S))) := by
  have HF := Lib.hid hF
  have HT := Lib.hid h
  have HH := Lib.hid hh
  have HBR := Lib.hid hBR
  have HSH := Lib.hid hSh; have HPP := Lib.hid hP
  have HE := Lib.hid (terr_ok h)
  clear hF h hh hBR hSh hP
  go_enter Tryz.func26, Tryz.ntmps26
  go_wp2_with fail
  refine HE.out.mono ?_
  rintro e w' ⟨⟨ev, E, rfl, he, hE⟩, rfl⟩
  have HR0 := Lib.hid (show Running W R pa pb pt (.func (.func f) #[] caps) A wi ev B (t.err, t, S) wi from ⟨⟨E, he, hE⟩, HT.out, HH.out, HeldBy.refl _ _, HBR.out⟩)
  clear he hE HE HT HH HBR
  go_wp2
  obtain ⟨res, hres⟩ : ∃ res, Th.run F most (t.err, t, S) = res := ⟨_, rfl⟩
  have HRES := Lib.hid hres

  clear hres
  go_loopw [5, 6] (fun v i wr => ∃ (k : Nat) (B : List Nat) (s : Nat × TS σ × BS), k ≤ most ∧ i = .int .i64 (k : Int) ∧ Running W R pa pb pt (.func (.func f) #[] caps) A wi v B s wr ∧ res = Th.run F (most - k) s ∧ s.2.1.steps ≤ t.steps + k ∧ s = Th.run F k (t.err, t, S)) (fun _ i _ => most - (intOf i).toNat)
  case atStart => exact ⟨0, B, _, Nat.zero_le _, rfl, HR0.out, HRES.out.symm, Nat.le_refl _, rfl⟩
  case round =>
    obtain ⟨k, B1, s, hk, rfl, hr, hrun, hst, hat⟩ := hrel
    have HAT := Lib.hid hat
    have HR := Lib.hid hr
    have HRUN := Lib.hid hrun
    have HST := Lib.hid hst
    have hv : ∃ n E, Err wr u5 n E := by
      obtain ⟨E, he, _⟩ := hr.err
      exact ⟨_, E, he⟩
    clear hr hrun hst hat HR0
    by_cases hlt : k < most
    · have hlt' : (k : Int) < (most : Int) := by omega
      cases hd : s.2.1.done
      · have HD := Lib.hid (tdone_ok HR.out.thr)
        rw [hd] at HD
        have HB := Lib.hid (show StepBody W pa pb f caps A F Sh P s.2.1.aux s.2.1.round ⟨s.2.1.log, 0, false, s.2.2⟩ by
          have := HF.out k hlt (by rw [← HAT.out]; exact hd)
          rw [← HAT.out] at this; exact this)
        have HS := Lib.hid (tstep_at HB.out HR.out.thr HR.out.held HR.out.apart HSH.out (HB.out.keeps _ _ (HR.out.by'.less HSH.out) HPP.out) hd (by have := HST.out; omega))
        have HAT' := Lib.hid (show Th.step F s.2.1 s.2.2 = Th.run F (k + 1) (t.err, t, S) by
          rw [run_last, ← HAT.out, if_neg (by simp [hd])])
        have HN := Lib.hid (show res = Th.run F (most - (k + 1)) (Th.step F s.2.1 s.2.2) by
          rw [HRUN.out, show most - k = (most - (k + 1)) + 1 by omega]
          conv => lhs; unfold Th.run
          rw [if_neg (by simp [hd])])
        clear hd HRUN hv
        go_wp2_with fail
        refine HD.out.mono ?_
        rintro e w' ⟨rfl, rfl⟩
        go_wp2_with fail
        refine HS.out.mono ?_
        rintro e w5 ⟨v, E, B', rfl, he, ht', hh', hx, hE, hBR⟩
        have HR' := Lib.hid (show Running W R pa pb pt (.func (.func f) #[] caps) A wi v B' (Th.step F s.2.1 s.2.2) w5 from ⟨⟨E, he, hE⟩, ht', hh', HeldBy.trans HR.out.by' hx, hBR⟩)
        clear he ht' hh' hx hE hBR HS HD
        go_wp2
        go_roundw
        case rel => exact ⟨k + 1, B', _, by omega, by go_num, HR'.out, HN.out, by have := step_steps F s.2.1 s.2.2; have := HST.out; omega, HAT'.out⟩
        case measure => simp [intOf]; omega
      · have HD := Lib.hid (tdone_ok HR.out.thr)
        rw [hd] at HD
        have HN := Lib.hid (show res = s by rw [HRUN.out]; exact run_done F _ _ hd)
        obtain ⟨lv, ev, E, Q, hB, hl⟩ := HR.out.thr
        have p0 := (seven hl.cells).1
        clear hd HRUN hv hl hB
        go_wp2_with fail
        refine HD.out.mono ?_
        rintro e w' ⟨rfl, rfl⟩
        go_wp2
        go_ret
        rw [HRES.out, HN.out]
        exact HR.out.post
    · obtain rfl : most = k := by omega
      have HN := Lib.hid (show res = s by rw [HRUN.out, Nat.sub_self]; rfl)
      obtain ⟨lv, ev, E, Q, hB, hl⟩ := HR.out.thr
      have p0 := (seven hl.cells).1
      have g : decide ((most : Int) < (most : Int)) = false := by simp
      clear HRUN hl hB hv
      go_wp2
      go_ret
      rw [HRES.out, HN.out]
      exact HR.out.post
theorem trun_ok {σ : Type} {W : World} {R : List Nat} {pa pb pt f : Nat} {caps : Array Value} {A : Aux σ} {F : Prog σ} {t : TS σ} {B : List Nat} {S : BS} {wi : World} {Sh : List Nat} {P : World → Prop} (hF : BodyOk W pa pb f caps A F Sh P) (h : Thr W pb pt (.func (.func f) #[] caps) A t B wi) (hh : Held W (B ++ R) pa pb S wi) (hBR : ∀ b ∈ B, b ∉ R) (hSh : ∀ b ∈ Sh, b ∈ R) (hP : P wi) (most : Nat) (hs : t.steps + most ≤ 3000000000) :     Calls Tryz.prog 26 #[.pointer (some ⟨pt, 0, none⟩), .int .i64 (most : Int)] wi (StepPost W R pa pb pt (.func (.func f) #[] caps) A wi (Th.run F most (t.err, t, S))) :=
  trun_at h hh hBR hSh hP most (fun _ _ _ => hF.one _ _ _) hs
end Go.Proofs.YtmdganpealbmpaaGreatDoor
