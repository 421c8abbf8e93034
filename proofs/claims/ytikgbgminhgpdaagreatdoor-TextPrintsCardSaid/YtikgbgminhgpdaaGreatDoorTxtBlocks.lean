/- Layer 10 (text): blocks. -/
import Derived.Test.YtikgbgminhgpdaaGreatDoorTxtTree
namespace Go.Proofs.YtikgbgminhgpdaaGreatDoor
open Go.RowKit Tx
set_option maxRecDepth 10000

theorem fill_kind : ∀ (f : Bs) (l : List Bs) (s s' : Sh), fill f l s = some s' → s'.kind = s.kind
  | [], _, s, s', h => by simp [fill] at h; rw [h]
  | _ :: _, [], s, s', h => by simp [fill] at h
  | c :: f, x :: l, s, s', h => by
    simp only [fill] at h
    cases h1 : fill1 c x s with
    | none => rw [h1] at h; cases h
    | some s1 =>
      rw [h1] at h
      have h2 := fill_kind f l s1 s' h
      have h3 : s1.kind = s.kind := by
        unfold fill1 at h1
        repeat' split at h1
        all_goals first
          | (simp only [Option.map_eq_some_iff] at h1; obtain ⟨_, _, rfl⟩ := h1; rfl)
          | (cases h1; rfl)
          | cases h1
      rw [h2, h3]
theorem stmt_kind {l : List Bs} {s : Sh} (h : stmt l = some s) : s.kind ≤ 16 := by
  unfold stmt at h
  split at h
  · cases h
  · rename_i w r
    split at h
    · cases h
    · rw [fill_kind _ _ _ _ h]
      exact kindOf_le w
theorem opens_suffix {k : Nat} (h : k ≤ 16) : Lib.hasSuffix (form k) [123] = opens k := by
  have : ∀ k : Fin 17, Lib.hasSuffix (form k.1) [123] = opens k.1 := by decide +kernel
  exact this ⟨k, by omega⟩
theorem nine_shL {w : World} {b : Nat} {h : Sh} {x y : Value} (c : Cells w b (shL h x y) 45) : w.cell? ⟨b, 0, none⟩ = some (.int .i64 (h.kind : Int)) ∧ w.cell? ⟨b, 7, none⟩ = some x ∧ w.cell? ⟨b, 8, none⟩ = some y ∧ w.frozen? ⟨b, 7, none⟩ = false ∧ w.frozen? ⟨b, 8, none⟩ = false := ⟨c.cell 0, c.cell 7, c.cell 8, c.free 7, c.free 8⟩
/-- block's contract, for the readers of these lines of which n lines are left. -/
def BlkAt (rb lb : Nat) (L : List ByteArray) (cap n : Nat) : Prop := ∀ (w : World) (a : Nat), Rd rb lb L cap w a → a ≤ L.length → L.length - a ≤ n → Calls Tryz.prog 27 #[.pointer (some ⟨rb, 0, none⟩)] w (BlkPost rb lb L cap w a)
def BlksAt (rb lb : Nat) (L : List ByteArray) (cap n : Nat) : Prop := ∀ (w : World) (a sb : Nat) (h : Sh), Rd rb lb L cap w a → a ≤ L.length → L.length - a ≤ n → Cells w sb (shL h (.slice none 0 0) (.slice none 0 0)) 45 → sb ≠ rb → sb ≠ lb → h.kind ≤ 16 →
  Calls Tryz.prog 53 #[.pointer (some ⟨rb, 0, none⟩), .pointer (some ⟨sb, 0, none⟩)] w (BlksPost rb sb lb L cap h w a)
set_option maxHeartbeats 4000000 in
theorem blocks_of {rb lb cap n : Nat} {L : List ByteArray} (hblk : BlkAt rb lb L cap n) : BlksAt rb lb L cap n := by
  intro w a sb h hr ha hn hc ne1 ne2 hk
  have HFO := Lib.hid (fun w => form_ok hk w)
  have HSF := Lib.hid (fun w => Tryz.strings_HasSuffix ⟨(form h.kind).toArray⟩ ⟨#[123]⟩ w (by show (form h.kind).toArray.size ≤ _; have := form_len hk; simp only [List.size_toArray]; omega))
  have hb := opens_suffix hk
  have HE := Lib.hid (Blks_eq h (lsAt L a))
  obtain ⟨c0, c7, c8, f7, f8⟩ := nine_shL hc
  have e1 : (⟨(form h.kind).toArray⟩ : ByteArray).data.toList = form h.kind := rfl
  have e2 : (⟨#[123]⟩ : ByteArray).data.toList = [123] := rfl
  rw [e1, e2, hb] at HSF
  cases hop : opens h.kind with
  | false =>
    have HR := Lib.hid hr; have HC := Lib.hid hc
    rw [hop] at HSF
    have HE2 := Lib.hid (show Blks h (lsAt L a) = .ok (.mk h [] [], lsAt L a) by rw [HE.out, if_pos hop])
    clear hr hc hb e1 e2 hop hblk
    go_enter Tryz.func53, Tryz.ntmps53
    go_wp2_with (first
      | (go_at_call 37; refine (HFO.out _).mono ?_; rintro e w' ⟨rfl, rfl⟩)
      | (go_at_call 36; refine (HSF.out _).mono ?_; rintro e w' ⟨rfl, rfl⟩))
    go_ret
    refine ⟨Kept.refl _ _, ?_⟩
    rw [HE2.out]
    exact ⟨rfl, _, _, a, HC.out, SlV.nil _ _, SlV.nil _ _, HR.out, rfl, Nat.le_refl _, ha⟩
  | true =>
    have HR := Lib.hid hr; have HC := Lib.hid hc
    rw [hop] at HSF
    have HE2 := Lib.hid (show Blks h (lsAt L a) = _ by rw [HE.out, if_neg (by rw [hop]; simp)])
    have HB := Lib.hid (hblk w a hr ha hn)
    have HBK := Lib.hid hblk
    have lr := hr.rd.lt
    have ls := hc.lt
    clear hr hc hb e1 e2 hop hblk HE
    go_enter Tryz.func53, Tryz.ntmps53
    go_wp2_with (first
      | (go_at_call 37; refine (HFO.out _).mono ?_; rintro e w' ⟨rfl, rfl⟩)
      | (go_at_call 36; refine (HSF.out _).mono ?_; rintro e w' ⟨rfl, rfl⟩))
    refine HB.out.mono ?_
    rintro e w2 ⟨hk2, hp2⟩
    have HK2 := Lib.hid hk2
    have hc2 := HC.out.kept hk2 (fun q => ne1 q)
    have HC2 := Lib.hid hc2
    have ls2 := hc2.lt
    have lw2 := hk2.size
    clear c0 c7 c8 f7 f8
    obtain ⟨c0, c7, c8, f7, f8⟩ := nine_shL hc2
    clear hc2 hk2
    cases hB : Blk (lsAt L a) with
    | error x =>
      rw [hB] at hp2
      obtain ⟨v, rfl, hfl⟩ := hp2
      obtain ⟨fb, rfl⟩ := hfl.form
      have HFL := Lib.hid hfl
      have HE3 := Lib.hid (show Blks h (lsAt L a) = .error x by rw [HE2.out, hB])
      clear hB HE2 hfl
      go_wp2
      go_ret
      refine ⟨HK2.out.mono (fun k _ e => .inl e), ?_⟩
      rw [HE3.out]
      exact ⟨_, rfl, HFL.out⟩
    | ok x =>
      obtain ⟨p, f, r⟩ := x
      rw [hB] at hp2
      obtain ⟨v, rfl, hsl, hrd⟩ := hp2
      obtain ⟨vp, vn, vc, rfl, hvb⟩ := hsl.shape
      have HSL := Lib.hid hsl
      have HE3 := Lib.hid (show Blks h (lsAt L a) = if f = .els ∧ (h.kind = 11 ∨ h.kind = 14) then
          match Blk r with
          | .error e => .error e
          | .ok (b2, e2, r2) => if e2 = .block then .ok (.mk h p b2, r2) else .error (place e2 r2)
        else if f = .block then .ok (.mk h p [], r) else .error (place f r) by rw [HE2.out, hB]; rfl)
      clear hB HE2
      -- the body stands
      have hc3 := HC2.out.set 7 (.slice vp vn vc)
      have HC3 : Hid (Cells (w2.setCell ⟨sb, 7, none⟩ (.slice vp vn vc)) sb (shL h (.slice vp vn vc) (.slice none 0 0)) 45) := Lib.hid hc3
      have hk3 : Kept (fun k => k = rb ∨ k = sb) w' (w2.setCell ⟨sb, 7, none⟩ (.slice vp vn vc)) := (HK2.out.mono (fun k _ e => .inl e)).setCell (p := ⟨sb, 7, none⟩) (fun _ => .inr rfl) _
      have HK3 := Lib.hid hk3
      have hsl3 : SlV w'.heap.size (w2.setCell ⟨sb, 7, none⟩ (.slice vp vn vc)) p (.slice vp vn vc) := hsl.kept (Nat.le_refl _) ((Kept.refl (fun k => k = sb) w2).setCell (p := ⟨sb, 7, none⟩) (fun _ => rfl) _) (fun b h1 _ e => by have e' : b = sb := e; omega)
      have HSL3 := Lib.hid hsl3
      have HRD3 := Lib.hid (fun (b : Nat) (q : Rd rb lb L cap w2 b) => q.kept ((Kept.refl (fun k => k = sb) w2).setCell (p := ⟨sb, 7, none⟩) (fun _ => rfl) (.slice vp vn vc)) (fun e => ne1 e.symm) (fun e => ne2 e.symm))
      clear hc3 hk3 hsl3 hsl hvb
      by_cases hel : f = .els ∧ (h.kind = 11 ∨ h.kind = 14)
      · obtain ⟨rfl, hkd⟩ := hel
        rcases hrd with ⟨q, _⟩ | ⟨_, b, hrb, rfl, hab, hbl⟩
        · cases q
        have HRB := Lib.hid (HRD3.out b hrb)
        have HE4 := Lib.hid (show Blks h (lsAt L a) = match Blk (lsAt L b) with
          | .error e => .error e
          | .ok (b2, e2, r2) => if e2 = .block then .ok (.mk h p b2, r2) else .error (place e2 r2) by rw [HE3.out, if_pos ⟨rfl, hkd⟩])
        have HB3 := Lib.hid (HBK.out _ b HRB.out hbl (by omega))
        clear HE3 hrb
        have hs3 : (w2.setCell ⟨sb, 7, none⟩ (.slice vp vn vc)).heap.size = w2.heap.size := by simp
        obtain ⟨w3, hw3⟩ : ∃ w3, w2.setCell ⟨sb, 7, none⟩ (.slice vp vn vc) = w3 := ⟨_, rfl⟩
        rw [hw3] at HC3 HK3 HSL3 HRB HB3 hs3
        have HW3 := Lib.hid hw3
        clear HRD3 hw3
        have hkk : ((h.kind : Int) == 11) = true ∨ (((h.kind : Int) == 11) = false ∧ ((h.kind : Int) == 14) = true) := by
          rcases hkd with q | q
          · left; rw [q]; rfl
          · right; rw [q]; exact ⟨rfl, rfl⟩
        clear hkd
        have HX := Lib.hid (fun (e : Ending) (w5 : World) (q : BlkPost rb lb L cap w3 b e w5) => q)
        rcases hkk with gk | ⟨gk, gk2⟩
        · go_wp2_with fail
          rw [HW3.out]
          refine HB3.out.mono ?_
          rintro e w5 ⟨hk5, hp5⟩
          have HK5 := Lib.hid hk5
          have hc5 := HC3.out.kept hk5 (fun q => ne1 q)
          have HC5 := Lib.hid hc5
          have ls5 := hc5.lt
          have lw5 := hk5.size
          clear c0 c7 c8 f7 f8 hk5
          obtain ⟨c0, c7, c8, f7, f8⟩ := nine_shL hc5
          clear hc5
          cases hB : Blk (lsAt L b) with
          | error x =>
            rw [hB] at hp5
            obtain ⟨v, rfl, hfl⟩ := hp5
            obtain ⟨fb, rfl⟩ := hfl.form
            have HFL := Lib.hid (show Flt w'.heap.size (w5.setCell ⟨sb, 8, none⟩ (.slice none 0 0)) _ _ _ from by
              obtain ⟨f, q1, q2, q3⟩ := hfl
              exact ⟨f, q1, q2.set_other (a := ⟨sb, 8, none⟩) (by show f ≠ sb; omega) _, by omega⟩)
            have HE5 := Lib.hid (show Blks h (lsAt L a) = .error x by rw [HE4.out, hB])
            clear hB HE4 hfl
            go_wp2
            go_ret
            refine ⟨(HK3.out.trans (HK5.out.mono (fun k _ e => .inl e))).setCell (p := ⟨sb, 8, none⟩) (fun _ => .inr rfl) _, ?_⟩
            rw [HE5.out]
            exact ⟨_, rfl, HFL.out⟩
          | ok x =>
            obtain ⟨p2, f2, r2⟩ := x
            rw [hB] at hp5
            obtain ⟨v5, rfl, hsl, hrd⟩ := hp5
            obtain ⟨up, un, uc, rfl, hvb⟩ := hsl.shape
            have HE5 := Lib.hid (show Blks h (lsAt L a) = if f2 = .block then .ok (.mk h p p2, r2) else .error (place f2 r2) by rw [HE4.out, hB])
            clear hB HE4
            have hc6 := HC5.out.set 8 (.slice up un uc)
            have HC6 : Hid (Cells (w5.setCell ⟨sb, 8, none⟩ (.slice up un uc)) sb (shL h (.slice vp vn vc) (.slice up un uc)) 45) := Lib.hid hc6
            have HK6 := Lib.hid ((HK3.out.trans (HK5.out.mono (fun k _ e => .inl e))).setCell (p := ⟨sb, 8, none⟩) (fun _ => .inr rfl) (.slice up un uc))
            have KS := (Kept.refl (fun k => k = sb) w5).setCell (p := ⟨sb, 8, none⟩) (fun _ => rfl) (.slice up un uc)
            have HSL6 := Lib.hid (hsl.kept (B' := w'.heap.size) (by omega) KS (fun b' h1 _ e => by have e' : b' = sb := e; omega))
            have HSL7 := Lib.hid ((HSL3.out.kept (Nat.le_refl _) HK5.out (fun b' h1 _ e => by have e' : b' = rb := e; omega)).kept (Nat.le_refl _) KS (fun b' h1 _ e => by have e' : b' = sb := e; omega))
            have HRD6 := Lib.hid (fun (b' : Nat) (q : Rd rb lb L cap w5 b') => q.kept KS (fun e => ne1 e.symm) (fun e => ne2 e.symm))
            clear hc6 KS hsl hvb
            have hs6 : (w5.setCell ⟨sb, 8, none⟩ (.slice up un uc)).heap.size = w5.heap.size := by simp
            cases f2 with
            | text =>
              rcases hrd with ⟨_, rfl, hrb⟩ | ⟨q, _⟩
              case inr => exact absurd rfl q
              have HFT := Lib.hid (fault_ok (HRD6.out _ hrb))
              have HE6 := Lib.hid (show Blks h (lsAt L a) = .error none by rw [HE5.out]; rfl)
              clear HE5 hrb
              go_wp2_with (go_at_call 28; refine (HFT.out).mono ?_; rintro e w4 ⟨v4, rfl, hfl, hb4⟩; obtain ⟨fb, rfl⟩ := hfl.form; have HFL := Lib.hid hfl; clear hfl)
              go_ret
              refine ⟨HK6.out.trans ((Kept.of_below hb4).mono (fun k hk e => by omega)), ?_⟩
              rw [HE6.out]
              exact ⟨_, rfl, HFL.out.low (by omega)⟩
            | block =>
              rcases hrd with ⟨q, _⟩ | ⟨_, b5, hrb, rfl, hab5, hbl5⟩
              · cases q
              have HRB6 := Lib.hid (HRD6.out b5 hrb)
              have HE6 := Lib.hid (show Blks h (lsAt L a) = .ok (.mk h p p2, lsAt L b5) by rw [HE5.out]; rfl)
              clear HE5 hrb
              go_wp2
              go_ret
              refine ⟨HK6.out, ?_⟩
              rw [HE6.out]
              exact ⟨rfl, _, _, b5, HC6.out, HSL7.out, HSL6.out, HRB6.out, rfl, by omega, hbl5⟩
            | els =>
              rcases hrd with ⟨q, _⟩ | ⟨_, b5, hrb, rfl, hab5, hbl5⟩
              · cases q
              have HFT := Lib.hid (fault_ok (HRD6.out _ hrb))
              have HE6 := Lib.hid (show Blks h (lsAt L a) = .error (some (lsAt L b5).length) by rw [HE5.out]; rfl)
              clear HE5 hrb
              go_wp2_with (go_at_call 28; refine (HFT.out).mono ?_; rintro e w4 ⟨v4, rfl, hfl, hb4⟩; obtain ⟨fb, rfl⟩ := hfl.form; have HFL := Lib.hid hfl; clear hfl)
              go_ret
              refine ⟨HK6.out.trans ((Kept.of_below hb4).mono (fun k hk e => by omega)), ?_⟩
              rw [HE6.out]
              refine ⟨_, rfl, ?_⟩
              have hq : badAt L (some (lsAt L b5).length) = (b5 : Int) := by unfold badAt; rw [lsAt_len]; simp only; omega
              rw [hq]
              exact HFL.out.low (by omega)
        · go_wp2_with fail
          rw [HW3.out]
          refine HB3.out.mono ?_
          rintro e w5 ⟨hk5, hp5⟩
          have HK5 := Lib.hid hk5
          have hc5 := HC3.out.kept hk5 (fun q => ne1 q)
          have HC5 := Lib.hid hc5
          have ls5 := hc5.lt
          have lw5 := hk5.size
          clear c0 c7 c8 f7 f8 hk5
          obtain ⟨c0, c7, c8, f7, f8⟩ := nine_shL hc5
          clear hc5
          cases hB : Blk (lsAt L b) with
          | error x =>
            rw [hB] at hp5
            obtain ⟨v, rfl, hfl⟩ := hp5
            obtain ⟨fb, rfl⟩ := hfl.form
            have HFL := Lib.hid (show Flt w'.heap.size (w5.setCell ⟨sb, 8, none⟩ (.slice none 0 0)) _ _ _ from by
              obtain ⟨f, q1, q2, q3⟩ := hfl
              exact ⟨f, q1, q2.set_other (a := ⟨sb, 8, none⟩) (by show f ≠ sb; omega) _, by omega⟩)
            have HE5 := Lib.hid (show Blks h (lsAt L a) = .error x by rw [HE4.out, hB])
            clear hB HE4 hfl
            go_wp2
            go_ret
            refine ⟨(HK3.out.trans (HK5.out.mono (fun k _ e => .inl e))).setCell (p := ⟨sb, 8, none⟩) (fun _ => .inr rfl) _, ?_⟩
            rw [HE5.out]
            exact ⟨_, rfl, HFL.out⟩
          | ok x =>
            obtain ⟨p2, f2, r2⟩ := x
            rw [hB] at hp5
            obtain ⟨v5, rfl, hsl, hrd⟩ := hp5
            obtain ⟨up, un, uc, rfl, hvb⟩ := hsl.shape
            have HE5 := Lib.hid (show Blks h (lsAt L a) = if f2 = .block then .ok (.mk h p p2, r2) else .error (place f2 r2) by rw [HE4.out, hB])
            clear hB HE4
            have hc6 := HC5.out.set 8 (.slice up un uc)
            have HC6 : Hid (Cells (w5.setCell ⟨sb, 8, none⟩ (.slice up un uc)) sb (shL h (.slice vp vn vc) (.slice up un uc)) 45) := Lib.hid hc6
            have HK6 := Lib.hid ((HK3.out.trans (HK5.out.mono (fun k _ e => .inl e))).setCell (p := ⟨sb, 8, none⟩) (fun _ => .inr rfl) (.slice up un uc))
            have KS := (Kept.refl (fun k => k = sb) w5).setCell (p := ⟨sb, 8, none⟩) (fun _ => rfl) (.slice up un uc)
            have HSL6 := Lib.hid (hsl.kept (B' := w'.heap.size) (by omega) KS (fun b' h1 _ e => by have e' : b' = sb := e; omega))
            have HSL7 := Lib.hid ((HSL3.out.kept (Nat.le_refl _) HK5.out (fun b' h1 _ e => by have e' : b' = rb := e; omega)).kept (Nat.le_refl _) KS (fun b' h1 _ e => by have e' : b' = sb := e; omega))
            have HRD6 := Lib.hid (fun (b' : Nat) (q : Rd rb lb L cap w5 b') => q.kept KS (fun e => ne1 e.symm) (fun e => ne2 e.symm))
            clear hc6 KS hsl hvb
            have hs6 : (w5.setCell ⟨sb, 8, none⟩ (.slice up un uc)).heap.size = w5.heap.size := by simp
            cases f2 with
            | text =>
              rcases hrd with ⟨_, rfl, hrb⟩ | ⟨q, _⟩
              case inr => exact absurd rfl q
              have HFT := Lib.hid (fault_ok (HRD6.out _ hrb))
              have HE6 := Lib.hid (show Blks h (lsAt L a) = .error none by rw [HE5.out]; rfl)
              clear HE5 hrb
              go_wp2_with (go_at_call 28; refine (HFT.out).mono ?_; rintro e w4 ⟨v4, rfl, hfl, hb4⟩; obtain ⟨fb, rfl⟩ := hfl.form; have HFL := Lib.hid hfl; clear hfl)
              go_ret
              refine ⟨HK6.out.trans ((Kept.of_below hb4).mono (fun k hk e => by omega)), ?_⟩
              rw [HE6.out]
              exact ⟨_, rfl, HFL.out.low (by omega)⟩
            | block =>
              rcases hrd with ⟨q, _⟩ | ⟨_, b5, hrb, rfl, hab5, hbl5⟩
              · cases q
              have HRB6 := Lib.hid (HRD6.out b5 hrb)
              have HE6 := Lib.hid (show Blks h (lsAt L a) = .ok (.mk h p p2, lsAt L b5) by rw [HE5.out]; rfl)
              clear HE5 hrb
              go_wp2
              go_ret
              refine ⟨HK6.out, ?_⟩
              rw [HE6.out]
              exact ⟨rfl, _, _, b5, HC6.out, HSL7.out, HSL6.out, HRB6.out, rfl, by omega, hbl5⟩
            | els =>
              rcases hrd with ⟨q, _⟩ | ⟨_, b5, hrb, rfl, hab5, hbl5⟩
              · cases q
              have HFT := Lib.hid (fault_ok (HRD6.out _ hrb))
              have HE6 := Lib.hid (show Blks h (lsAt L a) = .error (some (lsAt L b5).length) by rw [HE5.out]; rfl)
              clear HE5 hrb
              go_wp2_with (go_at_call 28; refine (HFT.out).mono ?_; rintro e w4 ⟨v4, rfl, hfl, hb4⟩; obtain ⟨fb, rfl⟩ := hfl.form; have HFL := Lib.hid hfl; clear hfl)
              go_ret
              refine ⟨HK6.out.trans ((Kept.of_below hb4).mono (fun k hk e => by omega)), ?_⟩
              rw [HE6.out]
              refine ⟨_, rfl, ?_⟩
              have hq : badAt L (some (lsAt L b5).length) = (b5 : Int) := by unfold badAt; rw [lsAt_len]; simp only; omega
              rw [hq]
              exact HFL.out.low (by omega)
      · by_cases hfb : f = .block
        · subst hfb
          rcases hrd with ⟨q, _⟩ | ⟨_, b, hrb, rfl, hab, hbl⟩
          · cases q
          have HRB := Lib.hid (HRD3.out b hrb)
          have HE4 := Lib.hid (show Blks h (lsAt L a) = .ok (.mk h p [], lsAt L b) by rw [HE3.out, if_neg hel, if_pos rfl])
          clear HE3 hel hrb
          go_wp2
          go_ret
          refine ⟨HK3.out, ?_⟩
          rw [HE4.out]
          exact ⟨rfl, _, _, b, HC3.out, HSL3.out, SlV.nil _ _, HRB.out, rfl, hab, hbl⟩
        · cases f with
          | block => exact absurd rfl hfb
          | text =>
            rcases hrd with ⟨_, rfl, hrb⟩ | ⟨q, _⟩
            case inr => exact absurd rfl q
            have HFT := Lib.hid (fault_ok (HRD3.out _ hrb))
            have HE4 := Lib.hid (show Blks h (lsAt L a) = .error none by rw [HE3.out, if_neg hel, if_neg hfb]; rfl)
            have hs3 : (w2.setCell ⟨sb, 7, none⟩ (.slice vp vn vc)).heap.size = w2.heap.size := by simp
            clear HE3 hel hfb hrb
            go_wp2_with (go_at_call 28; refine (HFT.out).mono ?_; rintro e w4 ⟨v4, rfl, hfl, hb4⟩; obtain ⟨fb, rfl⟩ := hfl.form; have HFL := Lib.hid hfl; clear hfl)
            go_ret
            refine ⟨HK3.out.trans ((Kept.of_below hb4).mono (fun k hk e => by omega)), ?_⟩
            rw [HE4.out]
            exact ⟨_, rfl, HFL.out.low (by omega)⟩
          | els =>
            rcases hrd with ⟨q, _⟩ | ⟨_, b, hrb, rfl, hab, hbl⟩
            · cases q
            have HFT := Lib.hid (fault_ok (HRD3.out _ hrb))
            have HE4 := Lib.hid (show Blks h (lsAt L a) = .error (some (lsAt L b).length) by rw [HE3.out, if_neg hel, if_neg hfb]; rfl)
            have gk1 : ((h.kind : Int) == 11) = false := by
              have : h.kind ≠ 11 := fun e => hel ⟨rfl, .inl e⟩
              simp; omega
            have gk2 : ((h.kind : Int) == 14) = false := by
              have : h.kind ≠ 14 := fun e => hel ⟨rfl, .inr e⟩
              simp; omega
            have hs3 : (w2.setCell ⟨sb, 7, none⟩ (.slice vp vn vc)).heap.size = w2.heap.size := by simp
            clear HE3 hel hfb hrb
            go_wp2_with (go_at_call 28; refine (HFT.out).mono ?_; rintro e w4 ⟨v4, rfl, hfl, hb4⟩; obtain ⟨fb, rfl⟩ := hfl.form; have HFL := Lib.hid hfl; clear hfl)
            go_ret
            refine ⟨HK3.out.trans ((Kept.of_below hb4).mono (fun k hk e => by omega)), ?_⟩
            rw [HE4.out]
            refine ⟨_, rfl, ?_⟩
            have hq : badAt L (some (lsAt L b).length) = (b : Int) := by unfold badAt; rw [lsAt_len]; simp only; omega
            rw [hq]
            exact HFL.out.low (by omega)
end Go.Proofs.YtikgbgminhgpdaaGreatDoor
