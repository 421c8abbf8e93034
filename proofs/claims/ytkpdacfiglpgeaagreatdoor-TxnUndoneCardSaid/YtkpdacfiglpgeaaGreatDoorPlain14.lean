/- Layer 14's laws: statements over some cells. -/
import Derived.Test.YtkpdacfiglpgeaaGreatDoorRnOne0
import Derived.Deep.LoopGhost
import Derived.Deep.CutRange
namespace Go.Proofs.YtkpdacfiglpgeaaGreatDoor
open Go.RowKit Tx Bl
set_option maxRecDepth 10000

mutual
theorem StQ.toR {Q : List Nat} {B : Nat} {w : World} (hQ : ∀ g ∈ Q, g < B ∧ g < w.heap.size) : ∀ (s : St) (c : List Value), StQ Q w s c → StR B w s c
  | .mk h b e, c, hc => by
    unfold StQ at hc
    unfold StR
    obtain ⟨z, bv, ev, cb, ce, h0, h1, h2, ⟨p1, c1, rfl, h3⟩, h4, ⟨p2, c2, rfl, h5⟩⟩ := hc
    exact ⟨z, _, _, cb, ce, h0, h1, StsQ.toR hQ b cb h2, ⟨p1, c1, rfl, h3.imp_right fun ⟨g, o, q1, q2, q3⟩ => ⟨g, o, q1, (hQ g q2).1, (hQ g q2).2, q3⟩⟩, StsQ.toR hQ e ce h4, ⟨p2, c2, rfl, h5.imp_right fun ⟨g, o, q1, q2, q3⟩ => ⟨g, o, q1, (hQ g q2).1, (hQ g q2).2, q3⟩⟩⟩
theorem StsQ.toR {Q : List Nat} {B : Nat} {w : World} (hQ : ∀ g ∈ Q, g < B ∧ g < w.heap.size) : ∀ (l : List St) (cs : List (List Value)), StsQ Q w l cs → StsR B w l cs
  | [], cs, hc => by unfold StsQ at hc; unfold StsR; exact hc
  | s :: l, cs, hc => by
    unfold StsQ at hc
    unfold StsR
    obtain ⟨c, cs', h1, h2, h3⟩ := hc
    exact ⟨c, cs', h1, StQ.toR hQ s c h2, StsQ.toR hQ l cs' h3⟩
end
theorem StsQ.snoc {Q : List Nat} {w : World} {s : St} {c : List Value} (hc : StQ Q w s c) : ∀ {l : List St} {cs : List (List Value)}, StsQ Q w l cs → StsQ Q w (l ++ [s]) (cs ++ [c])
  | [], cs, h => by
    unfold StsQ at h
    subst h
    rw [List.nil_append, List.nil_append]
    unfold StsQ
    exact ⟨c, [], rfl, hc, by unfold StsQ; rfl⟩
  | s0 :: l, cs, h => by
    unfold StsQ at h
    obtain ⟨c0, cs', rfl, h1, h2⟩ := h
    rw [List.cons_append, List.cons_append]
    unfold StsQ
    exact ⟨c0, cs' ++ [c], rfl, h1, StsQ.snoc hc h2⟩
theorem SlQ.of_row {Q : List Nat} {B : Nat} {w : World} {l : List St} {cs : List (List Value)} {v : Value} (h : StsQ Q w l cs) (hr : w.ownsRow B 50 9 v l.length cs.flatten) (hQ : ∀ g ∈ Q, B ≤ g ∧ g < w.heap.size ∧ some g ≠ v.ownBlock) : ∃ Q', SlQ Q' w l v ∧ ∀ g ∈ Q', B ≤ g ∧ g < w.heap.size := by
  refine ⟨v.ownBlock.toList ++ Q, ⟨cs, StsQ.more (fun b hb => by simp [hb]) l cs h, ?_⟩, fun g hg => ?_⟩
  · obtain ⟨pt, cap, hv, hq⟩ := row_read hr
    rcases hq with hq | ⟨g, off, rfl, h1, h2, h3⟩
    · exact ⟨pt, cap, hv, .inl hq⟩
    · exact ⟨_, cap, hv, .inr ⟨g, off, rfl, by rw [hv]; simp [Value.ownBlock], h3⟩⟩
  · rcases List.mem_append.1 hg with q | q
    · exact hr.lt g (by simpa using q)
    · exact ⟨(hQ g q).1, (hQ g q).2.1⟩
def roomS : Value → Prop
  | .slice _ n c => n ≤ c
  | _ => True
theorem row_room {w : World} {B : Nat} {v : Value} {n : Nat} {xs : List Value} (h : w.ownsRow B 50 9 v n xs) : roomS v := by
  rcases h.2 with ⟨rfl, -⟩ | ⟨g, cap, cur, rfl, -, -, h3, -⟩
  · exact Nat.le_refl _
  · exact h3
/-- What plain answers. -/
def PlPost (n : Int) (l : List St) (w : World) (e : Ending) (w' : World) : Prop :=
  ∃ v' Q, e = .returned (.tuple #[v', .bool true]) ∧ SlQ Q w' (plainL n l) v' ∧ (∀ g ∈ Q, w.heap.size ≤ g ∧ g < w'.heap.size) ∧ Below w.heap.size w w' ∧ roomS v'
def PlJ (n : Int) (l : List St) (w0 : World) (gf : Nat) (out iv : Value) (wx : World) : Prop :=
  ∃ (k : Nat) (Q : List Nat) (cs : List (List Value)), iv = .int .i64 (k : Int) ∧ k ≤ l.length ∧ wx.ownsRow w0.heap.size 50 9 out (plainL n (l.take k)).length cs.flatten ∧ StsQ Q wx (plainL n (l.take k)) cs ∧ (∀ g ∈ Q, w0.heap.size ≤ g ∧ g < wx.heap.size ∧ some g ≠ out.ownBlock) ∧ Below w0.heap.size w0 wx ∧ l.length + 1 ≤ k + gf
/-- A statement that is left out. -/
theorem pl_skip {n : Int} {l : List St} {w0 wr w5 : World} {k gk : Nat} {Q : List Nat} {cs : List (List Value)} {out iv : Value} (hs : plainL n (l.take (k + 1)) = plainL n (l.take k)) (hlt : k < l.length) (hrow : wr.ownsRow w0.heap.size 50 9 out (plainL n (l.take k)).length cs.flatten) (hcs : StsQ Q wr (plainL n (l.take k)) cs) (hQ : ∀ g ∈ Q, w0.heap.size ≤ g ∧ g < wr.heap.size ∧ some g ≠ out.ownBlock) (hb : Below w0.heap.size w0 wr) (hfu : l.length + 1 ≤ k + (gk + 1))
    (hb5 : Below wr.heap.size wr w5) (hiv : iv = .int .i64 ((k + 1 : Nat) : Int)) : PlJ n l w0 gk out iv w5 := by
  have hk5 := HeldBy.of_below (R := Q) hb5 (fun g hg => (hQ g hg).2.1)
  refine ⟨k + 1, Q, cs, hiv, hlt, ?_, ?_, fun g hg => ⟨(hQ g hg).1, Nat.lt_of_lt_of_le (hQ g hg).2.1 hb5.size, (hQ g hg).2.2⟩, hb.trans (hb5.mono hb.size), by omega⟩
  · rw [hs]
    exact row_kept hrow (Nat.le_refl _) (Kept.of_below hb5) (fun g hg hl => by omega)
  · rw [hs]
    exact StsQ.heldBy hk5 (fun b hb => hb) _ _ hcs
/-- One more. -/
theorem pl_next {n : Int} {l : List St} {w0 wr w5 w7 : World} {k gk : Nat} {Q Q2 Q3 : List Nat} {cs : List (List Value)} {out out' v2 v3 iv : Value} {h' : Sh} {b e : List St} {z : Int} (hs : plainL n (l.take (k + 1)) = plainL n (l.take k) ++ [.mk h' (plainL n b) (plainL n e)]) (hlt : k < l.length) (hrow : wr.ownsRow w0.heap.size 50 9 out (plainL n (l.take k)).length cs.flatten) (hcs : StsQ Q wr (plainL n (l.take k)) cs) (hQ : ∀ g ∈ Q, w0.heap.size ≤ g ∧ g < wr.heap.size ∧ some g ≠ out.ownBlock) (hb : Below w0.heap.size w0 wr) (hfu : l.length + 1 ≤ k + (gk + 1))
    (hb5 : Below wr.heap.size wr w5) (hq2 : StQ (Q2 ++ Q3) w5 (.mk h' (plainL n b) (plainL n e)) (stL z h' v2 v3)) (hQ2 : ∀ g ∈ Q2 ++ Q3, wr.heap.size ≤ g ∧ g < w5.heap.size) {w6 : World} (hb6 : Below w5.heap.size w5 w6)
    (hg : w6.grownBy w7 out.ownBlock) (hat : out'.ownBlock = out.ownBlock ∨ out'.ownBlock = some w6.heap.size) (hrow7 : w7.ownsRow w0.heap.size 50 9 out' ((plainL n (l.take k)).length + 1) (cs.flatten ++ stL z h' v2 v3)) (hiv : iv = .int .i64 ((k + 1 : Nat) : Int)) :
    PlJ n l w0 gk out' iv w7 := by
  have hol : ∀ g, out.ownBlock = some g → w0.heap.size ≤ g ∧ g < wr.heap.size := hrow.lt
  have k67 : Kept (fun g => some g = out.ownBlock) w6 w7 := Kept.of_grown hg
  have hz5 := hb5.size
  have hz6 := hb6.size
  have hz7 := k67.size
  have hz8 := hb.size
  have hk : ∀ R : List Nat, (∀ g ∈ R, g < wr.heap.size ∧ some g ≠ out.ownBlock) → HeldBy R wr w7 := fun R hR =>
    ⟨by omega, fun g hg => by
      obtain ⟨h1, h2⟩ := hR g hg
      rw [k67.block g (by omega) h2, hb6.block g (by omega), hb5.block g h1]⟩
  have hk5 : HeldBy (Q2 ++ Q3) w5 w7 := ⟨by omega, fun g hg => by
    obtain ⟨h1, h2⟩ := hQ2 g hg
    rw [k67.block g (by omega) (fun e => by have := hol g e.symm; omega), hb6.block g h2]⟩
  have hob : ∀ g, out'.ownBlock = some g → out.ownBlock = some g ∨ g = w6.heap.size := fun g e => by
    rcases hat with q | q
    · exact .inl (by rw [← q]; exact e)
    · rw [q] at e
      exact .inr (Option.some.inj e).symm
  refine ⟨k + 1, Q ++ (Q2 ++ Q3), cs ++ [stL z h' v2 v3], hiv, hlt, ?_, ?_, fun g hg => ?_, hb.trans (((hb5.mono hb.size).trans (hb6.mono (Nat.le_trans hb.size hz5))).trans (k67.below (by omega) fun g hg e => by have := hol g e.symm; omega)), by omega⟩
  · rw [hs, List.length_append, List.length_singleton, List.flatten_append]
    simpa using hrow7
  · rw [hs]
    exact StsQ.snoc (StQ.more (fun g hg => by simp only [List.mem_append] at hg ⊢; exact .inr hg) _ _ (StQ.heldBy hk5 (fun _ h => h) _ _ hq2)) (StsQ.more (fun g hg => List.mem_append_left _ hg) _ _ (StsQ.heldBy (hk Q fun g hg => ⟨(hQ g hg).2.1, (hQ g hg).2.2⟩) (fun _ h => h) _ _ hcs))
  · rcases List.mem_append.1 hg with q | q
    · obtain ⟨h1, h2, h3⟩ := hQ g q
      refine ⟨h1, by omega, fun e => ?_⟩
      rcases hob g e.symm with z | z
      · exact h3 z.symm
      · omega
    · obtain ⟨h1, h2⟩ := hQ2 g q
      refine ⟨by have := hb.size; omega, by omega, fun e => ?_⟩
      rcases hob g e.symm with z | z
      · have := hol g z; omega
      · omega
def PlainAt (B : Nat) (n : Int) (N : Nat) : Prop := ∀ (l : List St) (v : Value) (w : World), cntL l < N → cntL l ≤ 100000 → SlR B w l v → B ≤ w.heap.size → Calls Tryz.prog 16 #[v, .int .i64 n] w (PlPost n l w)
set_option maxHeartbeats 16000000 in
theorem plain_step {B N : Nat} {n : Int} (hn : 1 ≤ n) (hn4 : n ≤ 4) (hIH : PlainAt B n N) : PlainAt B n (N + 1) := by
  intro l v w hN hc hl hB
  have IH := Lib.hid hIH
  have hlc := len_cnt l
  obtain ⟨pt, cp, rfl⟩ := hl.shape
  have HL := Lib.hid hl
  clear hIH hl
  have HJ := Lib.hid (show PlJ n l w (l.length + 1) (.slice none 0 0) (.int .i64 0) w from ⟨0, [], [], rfl, Nat.zero_le _, by rw [List.take_zero, show plainL n [] = [] from by rw [plainL]]; exact World.ownsRow_nil _ _ _ _, by rw [List.take_zero, show plainL n [] = [] from by rw [plainL]]; unfold StsQ; rfl, by simp, Below.refl _ _, by omega⟩)
  go_enter Tryz.func16, Tryz.ntmps16
  go_wp2
  go_loopg [6, 15] (l.length + 1) (fun gf out i wx => PlJ n l w gf out i wx)
  case atStart => exact HJ.out
  case round =>
    clear HJ
    obtain ⟨k, Q, cs, rfl, hk, hrow, hcs, hQ, hb, hfu⟩ := hrel
    have hbs := hb.size
    by_cases hlt : k < l.length
    · obtain ⟨gk', rfl⟩ : ∃ g', gk = g' + 1 := ⟨gk - 1, by omega⟩
      obtain ⟨⟨h, b, e⟩, hs⟩ : ∃ s, l[k]? = some s := ⟨_, List.getElem?_eq_getElem hlt⟩
      have hcg := cnt_get hs
      have hlr := HL.out.below hb hB
      obtain ⟨g, off, cp', z, bv, ev, hv, hgB, hgl, hz, hcell, hbb, hee⟩ := hlr.get hs
      simp only [Value.slice.injEq] at hv
      obtain ⟨rfl, -, rfl⟩ := hv
      obtain ⟨bp, bc, rfl⟩ := hbb.shape
      obtain ⟨ep, ec, rfl⟩ := hee.shape
      have g1 : decide ((k : Int) < (l.length : Int)) = true := decide_eq_true (by omega)
      have g1' : (k : Int) < (l.length : Int) := by omega
      have y0 : wr.cell? ⟨g, off + k * 9, none⟩ = _ := hcell 0 _ rfl
      have y1 := hcell 1 _ rfl; have y2 := hcell 2 _ rfl; have y3 := hcell 3 _ rfl; have y4 := hcell 4 _ rfl; have y5 := hcell 5 _ rfl; have y6 := hcell 6 _ rfl; have y7 := hcell 7 _ rfl; have y8 := hcell 8 _ rfl
      have HPT := Lib.hid (plain_take n hs)
      have HROW := Lib.hid hrow; have HCS := Lib.hid hcs; have HQ := Lib.hid hQ; have HB := Lib.hid hb; have HZ := Lib.hid hz
      have HC := Lib.hid (Cells.new wr [.int .i64 z, .int .i64 h.coll, .int .i64 h.reg, .int .i64 h.a.1, .int .i64 h.a.2, .int .i64 h.b.1, .int .i64 h.b.2, .slice bp b.length bc, .slice ep e.length ec] 50)
      have HBA := Lib.hid ((Below.refl wr.heap.size wr).alloc (Nat.le_refl _) (.cells #[.int .i64 z, .int .i64 h.coll, .int .i64 h.reg, .int .i64 h.a.1, .int .i64 h.a.2, .int .i64 h.b.1, .int .i64 h.b.2, .slice bp b.length bc, .slice ep e.length ec] 50))
      have HBB := Lib.hid (hbb.below HBA.out (Nat.le_trans hB hbs)); have HEE := Lib.hid (hee.below HBA.out (Nat.le_trans hB hbs))
      have HCB := Lib.hid (IH.out b _ _ (by omega) (by omega) HBB.out (Nat.le_trans (Nat.le_trans hB hbs) HBA.out.size))
      clear hrow hcs hQ hb hz hlr hcell hbb hee hs
      go_wp2_with fail
      refine HCB.out.mono ?_
      rintro _ w2 ⟨v2, Q2, rfl, hs2, hQ2, hb2, -⟩
      have HE2 := Lib.hid (HEE.out.below hb2 (Nat.le_trans (Nat.le_trans hB hbs) HBA.out.size))
      have hs2z := hb2.size
      have hC2 := HC.out.kept (Kept.of_below hb2) (fun q => absurd q (by simp))
      have z8 := hC2.cell 8
      simp only [List.getElem?_cons_succ, List.getElem?_cons_zero] at z8
      have HCE := Lib.hid (IH.out e _ w2 (by omega) (by omega) HE2.out (Nat.le_trans (Nat.le_trans (Nat.le_trans hB hbs) HBA.out.size) hs2z))
      have HS2 := Lib.hid hs2; have HQ2 := Lib.hid hQ2; have HB2 := Lib.hid hb2; have HC2 := Lib.hid hC2
      clear hs2 hQ2 hb2 hC2 HCB
      go_wp2_with fail
      refine HCE.out.mono ?_
      rintro _ w3 ⟨v3, Q3, rfl, hs3, hQ3, hb3, -⟩
      obtain ⟨p2, c2, rfl⟩ := HS2.out.shape
      obtain ⟨p3, c3, rfl⟩ := hs3.shape
      have HS3 := Lib.hid hs3; have HQ3 := Lib.hid hQ3; have HB3 := Lib.hid hb3
      have hC3 := HC2.out.kept (Kept.of_below hb3) (fun q => by have := hs2z; have := HBA.out.size; simp at *; omega)
      have HC3 := Lib.hid hC3
      obtain ⟨⟨c0, c1', c2', c3', c4, c5, c6, c7, c8⟩, f0, f1, f2, f3, f4, f5, f6, f7, f8⟩ := nine_cells hC3
      clear hs3 hQ3 hb3 hC3 HCE z8 y0 y1 y2 y3 y4 y5 y6 y7 y8
      go_upto_region 10 with (fail)
      obtain ⟨nb, hnb⟩ : ∃ nb, wr.heap.size = nb := ⟨_, rfl⟩
      obtain ⟨w4, hw4⟩ : ∃ w4, (w3.setCell ⟨nb, 7, none⟩ (.slice p2 (plainL n b).length c2)).setCell ⟨nb, 8, none⟩ (.slice p3 (plainL n e).length c3) = w4 := ⟨_, rfl⟩
      have C4 : Cells w4 nb (stL z h (.slice p2 (plainL n b).length c2) (.slice p3 (plainL n e).length c3)) 50 := by
        rw [← hw4, ← hnb]
        exact (HC3.out.set 7 _).set 8 _
      have K4 : Kept (fun b => b = nb) w3 w4 := by
        rw [← hw4]
        exact ((Kept.refl (fun b => b = nb) w3).setCell (p := ⟨nb, 7, none⟩) (fun _ => rfl) _).setCell (p := ⟨nb, 8, none⟩) (fun _ => rfl) _
      have HB4 := Lib.hid (show Below wr.heap.size wr w4 from ((HBA.out.trans (HB2.out.mono HBA.out.size)).trans (HB3.out.mono (Nat.le_trans HBA.out.size hs2z))).trans (K4.below (Nat.le_trans (Nat.le_trans HBA.out.size hs2z) HB3.out.size) (fun b hb e => by omega)))
      have HNB := Lib.hid hnb; have HW4 := Lib.hid hw4; have HK4 := Lib.hid K4; have HC4 := Lib.hid C4
      rw [hnb, hw4]
      clear c0 c1' c2' c3' c4 c5 c6 c7 c8 f0 f1 f2 f3 f4 f5 f6 f7 f8
      obtain ⟨⟨c0, c1', c2', c3', c4, c5, c6, c7, c8⟩, f0, f1, f2, f3, f4, f5, f6, f7, f8⟩ := nine_cells C4
      clear C4 K4 hw4 hnb
      by_cases h38 : 3 ≤ z ∧ z ≤ 8
      · obtain ⟨h3, h8⟩ := h38
        have g2 : decide (3 ≤ z) = true := decide_eq_true h3
        have g3 : decide (z ≤ 8) = true := decide_eq_true h8
        go_wp2
        go_roundg gk'
        case measure => omega
        case rel => exact pl_skip (by rw [HPT.out]; unfold plainS; rw [if_pos (by have := HZ.out; omega), List.append_nil]) hlt HROW.out HCS.out HQ.out HB.out hfu HB4.out (by go_num)
      · by_cases hle : z ≤ 2
        · have g2 : decide (3 ≤ z) = false := decide_eq_false (by omega)
          have g2' : ¬ 3 ≤ z := by omega
          have g4 : decide (z ≤ 2) = true := decide_eq_true hle
          obtain ⟨m1, hm1⟩ : ∃ m1, h.a.2 % 64 = m1 := ⟨_, rfl⟩
          obtain ⟨m2, hm2⟩ : ∃ m2, m1 % n = m2 := ⟨_, rfl⟩
          have HM1 := Lib.hid (fun wx : World => (show Calls Tryz.prog 13 #[.int .i64 h.a.2, .int .i64 64] wx fun e w' => e = .returned (.int .i64 m1) ∧ wx = w' by rw [← hm1]; exact mod_ok h.a.2 64 (by omega) (by omega) wx))
          have HM2 := Lib.hid (fun wx : World => (show Calls Tryz.prog 13 #[.int .i64 m1, .int .i64 n] wx fun e w' => e = .returned (.int .i64 m2) ∧ wx = w' by rw [← hm2]; exact mod_ok m1 n hn (by omega) wx))
          obtain ⟨h', hh'⟩ : ∃ h', plainH n h = h' := ⟨_, rfl⟩
          have hhe : { h with coll := 0, a := (0, m2) } = h' := by rw [← hh', ← hm2, ← hm1]; unfold plainH; rw [if_pos (by have := HZ.out; omega)]
          have hz' : z.toNat = h'.kind := by rw [← hhe]; exact HZ.out
          have hne : ¬ (3 ≤ h.kind ∧ h.kind ≤ 8) := by have := HZ.out; omega
          have HHE := Lib.hid hhe
          clear hhe hm1 hm2
          by_cases ha0 : h.a.1 = 0
          · have g5 : (h.a.1 != 0) = false := by simp [ha0]
            have HA0 := Lib.hid ha0
            clear ha0
            go_upto_region 15 with (fail)
            go_wp2_with fail
            refine (HM1.out _).mono ?_
            rintro e w' ⟨rfl, rfl⟩
            go_wp2_with fail
            refine (HM2.out _).mono ?_
            rintro e w' ⟨rfl, rfl⟩
            go_upto_region 16 with (fail)
            obtain ⟨w5, hw5⟩ : ∃ w5, (w4.setCell ⟨nb, 1, none⟩ (.int .i64 0)).setCell ⟨nb, 4, none⟩ (.int .i64 m2) = w5 := ⟨_, rfl⟩
            have C5 : Cells w5 nb (stL z h' (.slice p2 (plainL n b).length c2) (.slice p3 (plainL n e).length c3)) 50 := by
              have q := (HC4.out.set 1 (.int .i64 0)).set 4 (.int .i64 m2)
              rw [hw5] at q
              rw [← HHE.out]
              unfold stL at q ⊢
              simp only [List.set_cons_zero, List.set_cons_succ, HA0.out] at q
              exact q
            have K5 : Kept (fun b => b = nb) w4 w5 := by rw [← hw5]; exact ((Kept.refl (fun b => b = nb) w4).setCell (p := ⟨nb, 1, none⟩) (fun _ => rfl) _).setCell (p := ⟨nb, 4, none⟩) (fun _ => rfl) _
            rw [hw5]
            clear c0 c1' c2' c3' c4 c5 c6 c7 c8 f0 f1 f2 f3 f4 f5 f6 f7 f8 hw5
            have HK5 := Lib.hid K5
            have HC5 := Lib.hid C5
            have HB5 := Lib.hid (show Below wr.heap.size wr w5 from HB4.out.trans (K5.below (by have := HB4.out.size; exact this) (fun b hb e => by have := HNB.out; omega)))
            obtain ⟨⟨c0, c1', c2', c3', c4, c5, c6, c7, c8⟩, -⟩ := nine_cells C5
            have hq5 : StQ (Q2 ++ Q3) w5 (.mk h' (plainL n b) (plainL n e)) (stL z h' (.slice p2 (plainL n b).length c2) (.slice p3 (plainL n e).length c3)) ∧ ∀ g ∈ Q2 ++ Q3, wr.heap.size ≤ g ∧ g < w5.heap.size := by
              have hnb := HNB.out
              have z1 := HBA.out.size
              have z3 := HB3.out.size
              have z4 := HK4.out.size
              have z5 := HK5.out.size
              simp only [World.size_alloc] at z1
              have q2 : ∀ g ∈ Q2, nb < g ∧ g < w3.heap.size := fun g hg => by have := HQ2.out g hg; simp only [World.size_alloc] at this; omega
              have q3 : ∀ g ∈ Q3, nb < g ∧ g < w3.heap.size := fun g hg => by have := HQ3.out g hg; have := hs2z; simp only [World.size_alloc] at this; omega
              have kq : ∀ R : List Nat, (∀ g ∈ R, nb < g ∧ g < w3.heap.size) → HeldBy R w3 w5 := fun R hR => ⟨by omega, fun g hg => by
                obtain ⟨h1, h2⟩ := hR g hg
                rw [HK5.out.block g (by omega) (by omega), HK4.out.block g h2 (by omega)]⟩
              have s2 := ((HS2.out.heldBy (HeldBy.of_below HB3.out (fun g hg => (HQ2.out g hg).2)) (fun _ h => h)).heldBy (kq Q2 q2) (fun _ h => h)).more (Q' := Q2 ++ Q3) (fun g hg => List.mem_append_left _ hg)
              have s3 := (HS3.out.heldBy (kq Q3 q3) (fun _ h => h)).more (Q' := Q2 ++ Q3) (fun g hg => List.mem_append_right _ hg)
              obtain ⟨cb, s21, s22⟩ := s2
              obtain ⟨ce, s31, s32⟩ := s3
              refine ⟨?_, fun g hg => ?_⟩
              · unfold StQ
                exact ⟨z, _, _, cb, ce, hz', rfl, s21, s22, s31, s32⟩
              · rcases List.mem_append.1 hg with q | q
                · have := q2 g q; omega
                · have := q3 g q; omega
            have HQ5 := Lib.hid hq5
            have hb6 := (Below.refl w5.heap.size w5).alloc (Nat.le_refl _) (.cells (stL z h' (.slice p2 (plainL n b).length c2) (.slice p3 (plainL n e).length c3)).toArray 50)
            have C6 := Cells.new w5 (stL z h' (.slice p2 (plainL n b).length c2) (.slice p3 (plainL n e).length c3)) 50
            obtain ⟨w6, hw6⟩ : ∃ w6, w5.alloc (.cells (stL z h' (.slice p2 (plainL n b).length c2) (.slice p3 (plainL n e).length c3)).toArray 50) = w6 := ⟨_, rfl⟩
            rw [hw6] at hb6 C6
            have HW6 := Lib.hid hw6
            have HB6 := Lib.hid hb6
            have HS6 := Lib.hid (show StsR w6.heap.size w6 [.mk h' (plainL n b) (plainL n e)] [stL z h' (.slice p2 (plainL n b).length c2) (.slice p3 (plainL n e).length c3)] by
              refine StsQ.toR (Q := Q2 ++ Q3) (fun g hg => ?_) _ _ ?_
              · have := (hq5.2 g hg).2
                have := hb6.size
                exact ⟨by omega, by omega⟩
              · unfold StsQ
                exact ⟨_, [], rfl, StQ.heldBy (HeldBy.of_below hb6 (fun g hg => (hq5.2 g hg).2)) (fun _ h => h) _ _ hq5.1, by unfold StsQ; rfl⟩)
            have HR6 := Lib.hid (show RowR w6.heap.size w6 (.slice (some ⟨w5.heap.size, 0, none⟩) 1 1) [St.mk h' (plainL n b) (plainL n e)].length [stL z h' (.slice p2 (plainL n b).length c2) (.slice p3 (plainL n e).length c3)].flatten from
              ⟨_, _, rfl, .inr ⟨w5.heap.size, 0, rfl, C6.lt, C6.lt, fun j x hx => by rw [Nat.zero_add, C6.cell j]; simpa using hx⟩⟩)
            have HROW6 := Lib.hid (row_kept (row_kept HROW.out (Nat.le_refl _) (Kept.of_below HB5.out) (fun g hg hl => by omega)) (Nat.le_refl _) (Kept.of_below hb6) (fun g hg hl => by omega))
            have HN6 := Lib.hid (show (plainL n (l.take k)).length + 1 ≤ 1000000 by
              have := len_cnt (plainL n (l.take k))
              have := cnt_plainL n (l.take k)
              have := cnt_app (l.take k) (l.drop k)
              rw [List.take_append_drop] at this
              omega)
            have HZ6 := Lib.hid (show w.heap.size ≤ w6.heap.size from Nat.le_trans (Nat.le_trans hbs HB5.out.size) hb6.size)
            clear hq5 hb6 C6 hw6 C5 K5
            go_wp2_with (first
              | (at_builtin; rw [show w5.alloc (.cells #[.int .i64 z, .int .i64 h'.coll, .int .i64 h'.reg, .int .i64 h'.a.1, .int .i64 h'.a.2, .int .i64 h'.b.1, .int .i64 h'.b.2, .slice p2 (plainL n b).length c2, .slice p3 (plainL n e).length c3] 50) = w6 from HW6.out]; refine wpList_want (by kernel_rfl) (wp_append_sts (.tmp 79) (.tmp 81) rfl rfl HROW6.out rfl HS6.out HR6.out HN6.out HZ6.out ?_); rintro v7 w7 hrow7 hg7 hob7 ⟨p7, c7', rfl⟩; have HROW7 := Lib.hid hrow7; have HG7 := Lib.hid hg7; have HOB7 := Lib.hid hob7; clear hrow7 hg7 hob7)
              | go_in)
            go_roundg gk'
            case measure => omega
            case rel => exact pl_next (Q2 := Q2) (Q3 := Q3) (by rw [HPT.out]; unfold plainS; rw [if_neg hne, hh']) hlt HROW.out HCS.out HQ.out HB.out hfu HB5.out HQ5.out.1 HQ5.out.2 HB6.out HG7.out HOB7.out (by simpa using HROW7.out) (by go_num)
          · have g5 : (h.a.1 != 0) = true := by simp [ha0]
            clear ha0
            go_upto_region 15 with (fail)
            go_wp2_with fail
            refine (HM1.out _).mono ?_
            rintro e w' ⟨rfl, rfl⟩
            go_wp2_with fail
            refine (HM2.out _).mono ?_
            rintro e w' ⟨rfl, rfl⟩
            go_upto_region 16 with (fail)
            obtain ⟨w5, hw5⟩ : ∃ w5, (((w4.setCell ⟨nb, 3, none⟩ (.int .i64 0)).setCell ⟨nb, 4, none⟩ (.int .i64 h.a.2)).setCell ⟨nb, 1, none⟩ (.int .i64 0)).setCell ⟨nb, 4, none⟩ (.int .i64 m2) = w5 := ⟨_, rfl⟩
            have C5 : Cells w5 nb (stL z h' (.slice p2 (plainL n b).length c2) (.slice p3 (plainL n e).length c3)) 50 := by
              have q := (((HC4.out.set 3 (.int .i64 0)).set 4 (.int .i64 h.a.2)).set 1 (.int .i64 0)).set 4 (.int .i64 m2)
              rw [hw5] at q
              rw [← HHE.out]
              unfold stL at q ⊢
              simp only [List.set_cons_zero, List.set_cons_succ] at q
              exact q
            have K5 : Kept (fun b => b = nb) w4 w5 := by rw [← hw5]; exact ((((Kept.refl (fun b => b = nb) w4).setCell (p := ⟨nb, 3, none⟩) (fun _ => rfl) _).setCell (p := ⟨nb, 4, none⟩) (fun _ => rfl) _).setCell (p := ⟨nb, 1, none⟩) (fun _ => rfl) _).setCell (p := ⟨nb, 4, none⟩) (fun _ => rfl) _
            rw [hw5]
            clear c0 c1' c2' c3' c4 c5 c6 c7 c8 f0 f1 f2 f3 f4 f5 f6 f7 f8 hw5
            have HK5 := Lib.hid K5
            have HC5 := Lib.hid C5
            have HB5 := Lib.hid (show Below wr.heap.size wr w5 from HB4.out.trans (K5.below (by have := HB4.out.size; exact this) (fun b hb e => by have := HNB.out; omega)))
            obtain ⟨⟨c0, c1', c2', c3', c4, c5, c6, c7, c8⟩, -⟩ := nine_cells C5
            have hq5 : StQ (Q2 ++ Q3) w5 (.mk h' (plainL n b) (plainL n e)) (stL z h' (.slice p2 (plainL n b).length c2) (.slice p3 (plainL n e).length c3)) ∧ ∀ g ∈ Q2 ++ Q3, wr.heap.size ≤ g ∧ g < w5.heap.size := by
              have hnb := HNB.out
              have z1 := HBA.out.size
              have z3 := HB3.out.size
              have z4 := HK4.out.size
              have z5 := HK5.out.size
              simp only [World.size_alloc] at z1
              have q2 : ∀ g ∈ Q2, nb < g ∧ g < w3.heap.size := fun g hg => by have := HQ2.out g hg; simp only [World.size_alloc] at this; omega
              have q3 : ∀ g ∈ Q3, nb < g ∧ g < w3.heap.size := fun g hg => by have := HQ3.out g hg; have := hs2z; simp only [World.size_alloc] at this; omega
              have kq : ∀ R : List Nat, (∀ g ∈ R, nb < g ∧ g < w3.heap.size) → HeldBy R w3 w5 := fun R hR => ⟨by omega, fun g hg => by
                obtain ⟨h1, h2⟩ := hR g hg
                rw [HK5.out.block g (by omega) (by omega), HK4.out.block g h2 (by omega)]⟩
              have s2 := ((HS2.out.heldBy (HeldBy.of_below HB3.out (fun g hg => (HQ2.out g hg).2)) (fun _ h => h)).heldBy (kq Q2 q2) (fun _ h => h)).more (Q' := Q2 ++ Q3) (fun g hg => List.mem_append_left _ hg)
              have s3 := (HS3.out.heldBy (kq Q3 q3) (fun _ h => h)).more (Q' := Q2 ++ Q3) (fun g hg => List.mem_append_right _ hg)
              obtain ⟨cb, s21, s22⟩ := s2
              obtain ⟨ce, s31, s32⟩ := s3
              refine ⟨?_, fun g hg => ?_⟩
              · unfold StQ
                exact ⟨z, _, _, cb, ce, hz', rfl, s21, s22, s31, s32⟩
              · rcases List.mem_append.1 hg with q | q
                · have := q2 g q; omega
                · have := q3 g q; omega
            have HQ5 := Lib.hid hq5
            have hb6 := (Below.refl w5.heap.size w5).alloc (Nat.le_refl _) (.cells (stL z h' (.slice p2 (plainL n b).length c2) (.slice p3 (plainL n e).length c3)).toArray 50)
            have C6 := Cells.new w5 (stL z h' (.slice p2 (plainL n b).length c2) (.slice p3 (plainL n e).length c3)) 50
            obtain ⟨w6, hw6⟩ : ∃ w6, w5.alloc (.cells (stL z h' (.slice p2 (plainL n b).length c2) (.slice p3 (plainL n e).length c3)).toArray 50) = w6 := ⟨_, rfl⟩
            rw [hw6] at hb6 C6
            have HW6 := Lib.hid hw6
            have HB6 := Lib.hid hb6
            have HS6 := Lib.hid (show StsR w6.heap.size w6 [.mk h' (plainL n b) (plainL n e)] [stL z h' (.slice p2 (plainL n b).length c2) (.slice p3 (plainL n e).length c3)] by
              refine StsQ.toR (Q := Q2 ++ Q3) (fun g hg => ?_) _ _ ?_
              · have := (hq5.2 g hg).2
                have := hb6.size
                exact ⟨by omega, by omega⟩
              · unfold StsQ
                exact ⟨_, [], rfl, StQ.heldBy (HeldBy.of_below hb6 (fun g hg => (hq5.2 g hg).2)) (fun _ h => h) _ _ hq5.1, by unfold StsQ; rfl⟩)
            have HR6 := Lib.hid (show RowR w6.heap.size w6 (.slice (some ⟨w5.heap.size, 0, none⟩) 1 1) [St.mk h' (plainL n b) (plainL n e)].length [stL z h' (.slice p2 (plainL n b).length c2) (.slice p3 (plainL n e).length c3)].flatten from
              ⟨_, _, rfl, .inr ⟨w5.heap.size, 0, rfl, C6.lt, C6.lt, fun j x hx => by rw [Nat.zero_add, C6.cell j]; simpa using hx⟩⟩)
            have HROW6 := Lib.hid (row_kept (row_kept HROW.out (Nat.le_refl _) (Kept.of_below HB5.out) (fun g hg hl => by omega)) (Nat.le_refl _) (Kept.of_below hb6) (fun g hg hl => by omega))
            have HN6 := Lib.hid (show (plainL n (l.take k)).length + 1 ≤ 1000000 by
              have := len_cnt (plainL n (l.take k))
              have := cnt_plainL n (l.take k)
              have := cnt_app (l.take k) (l.drop k)
              rw [List.take_append_drop] at this
              omega)
            have HZ6 := Lib.hid (show w.heap.size ≤ w6.heap.size from Nat.le_trans (Nat.le_trans hbs HB5.out.size) hb6.size)
            clear hq5 hb6 C6 hw6 C5 K5
            go_wp2_with (first
              | (at_builtin; rw [show w5.alloc (.cells #[.int .i64 z, .int .i64 h'.coll, .int .i64 h'.reg, .int .i64 h'.a.1, .int .i64 h'.a.2, .int .i64 h'.b.1, .int .i64 h'.b.2, .slice p2 (plainL n b).length c2, .slice p3 (plainL n e).length c3] 50) = w6 from HW6.out]; refine wpList_want (by kernel_rfl) (wp_append_sts (.tmp 79) (.tmp 81) rfl rfl HROW6.out rfl HS6.out HR6.out HN6.out HZ6.out ?_); rintro v7 w7 hrow7 hg7 hob7 ⟨p7, c7', rfl⟩; have HROW7 := Lib.hid hrow7; have HG7 := Lib.hid hg7; have HOB7 := Lib.hid hob7; clear hrow7 hg7 hob7)
              | go_in)
            go_roundg gk'
            case measure => omega
            case rel => exact pl_next (Q2 := Q2) (Q3 := Q3) (by rw [HPT.out]; unfold plainS; rw [if_neg hne, hh']) hlt HROW.out HCS.out HQ.out HB.out hfu HB5.out HQ5.out.1 HQ5.out.2 HB6.out HG7.out HOB7.out (by simpa using HROW7.out) (by go_num)
        · have g2 : decide (3 ≤ z) = true := decide_eq_true (by omega)
          have g2' : 3 ≤ z := by omega
          have g3 : decide (z ≤ 8) = false := decide_eq_false (by omega)
          have g3' : ¬ z ≤ 8 := by omega
          have g4 : decide (z ≤ 2) = false := decide_eq_false (by omega)
          go_upto_region 16 with (fail)
          obtain ⟨h', hh'⟩ : ∃ h', plainH n h = h' := ⟨_, rfl⟩
          have hhe : h = h' := by rw [← hh']; unfold plainH; rw [if_neg (by have := HZ.out; omega)]
          have hz' : z.toNat = h'.kind := by rw [← hhe]; exact HZ.out
          have hne : ¬ (3 ≤ h.kind ∧ h.kind ≤ 8) := by have := HZ.out; omega
          obtain ⟨w5, hw5⟩ : ∃ w5, w4 = w5 := ⟨_, rfl⟩
          have C5 := HC4.out
          rw [hhe] at C5
          have K5 : Kept (fun b => b = nb) w4 w5 := by rw [← hw5]; exact Kept.refl _ _
          rw [hw5] at C5 ⊢
          clear c0 c1' c2' c3' c4 c5 c6 c7 c8 f0 f1 f2 f3 f4 f5 f6 f7 f8 hw5 hhe
          have HK5 := Lib.hid K5
          have HC5 := Lib.hid C5
          have HB5 := Lib.hid (show Below wr.heap.size wr w5 from HB4.out.trans (K5.below (by have := HB4.out.size; exact this) (fun b hb e => by have := HNB.out; omega)))
          obtain ⟨⟨c0, c1', c2', c3', c4, c5, c6, c7, c8⟩, -⟩ := nine_cells C5
          have hq5 : StQ (Q2 ++ Q3) w5 (.mk h' (plainL n b) (plainL n e)) (stL z h' (.slice p2 (plainL n b).length c2) (.slice p3 (plainL n e).length c3)) ∧ ∀ g ∈ Q2 ++ Q3, wr.heap.size ≤ g ∧ g < w5.heap.size := by
            have hnb := HNB.out
            have z1 := HBA.out.size
            have z3 := HB3.out.size
            have z4 := HK4.out.size
            have z5 := HK5.out.size
            simp only [World.size_alloc] at z1
            have q2 : ∀ g ∈ Q2, nb < g ∧ g < w3.heap.size := fun g hg => by have := HQ2.out g hg; simp only [World.size_alloc] at this; omega
            have q3 : ∀ g ∈ Q3, nb < g ∧ g < w3.heap.size := fun g hg => by have := HQ3.out g hg; have := hs2z; simp only [World.size_alloc] at this; omega
            have kq : ∀ R : List Nat, (∀ g ∈ R, nb < g ∧ g < w3.heap.size) → HeldBy R w3 w5 := fun R hR => ⟨by omega, fun g hg => by
              obtain ⟨h1, h2⟩ := hR g hg
              rw [HK5.out.block g (by omega) (by omega), HK4.out.block g h2 (by omega)]⟩
            have s2 := ((HS2.out.heldBy (HeldBy.of_below HB3.out (fun g hg => (HQ2.out g hg).2)) (fun _ h => h)).heldBy (kq Q2 q2) (fun _ h => h)).more (Q' := Q2 ++ Q3) (fun g hg => List.mem_append_left _ hg)
            have s3 := (HS3.out.heldBy (kq Q3 q3) (fun _ h => h)).more (Q' := Q2 ++ Q3) (fun g hg => List.mem_append_right _ hg)
            obtain ⟨cb, s21, s22⟩ := s2
            obtain ⟨ce, s31, s32⟩ := s3
            refine ⟨?_, fun g hg => ?_⟩
            · unfold StQ
              exact ⟨z, _, _, cb, ce, hz', rfl, s21, s22, s31, s32⟩
            · rcases List.mem_append.1 hg with q | q
              · have := q2 g q; omega
              · have := q3 g q; omega
          have HQ5 := Lib.hid hq5
          have hb6 := (Below.refl w5.heap.size w5).alloc (Nat.le_refl _) (.cells (stL z h' (.slice p2 (plainL n b).length c2) (.slice p3 (plainL n e).length c3)).toArray 50)
          have C6 := Cells.new w5 (stL z h' (.slice p2 (plainL n b).length c2) (.slice p3 (plainL n e).length c3)) 50
          obtain ⟨w6, hw6⟩ : ∃ w6, w5.alloc (.cells (stL z h' (.slice p2 (plainL n b).length c2) (.slice p3 (plainL n e).length c3)).toArray 50) = w6 := ⟨_, rfl⟩
          rw [hw6] at hb6 C6
          have HW6 := Lib.hid hw6
          have HB6 := Lib.hid hb6
          have HS6 := Lib.hid (show StsR w6.heap.size w6 [.mk h' (plainL n b) (plainL n e)] [stL z h' (.slice p2 (plainL n b).length c2) (.slice p3 (plainL n e).length c3)] by
            refine StsQ.toR (Q := Q2 ++ Q3) (fun g hg => ?_) _ _ ?_
            · have := (hq5.2 g hg).2
              have := hb6.size
              exact ⟨by omega, by omega⟩
            · unfold StsQ
              exact ⟨_, [], rfl, StQ.heldBy (HeldBy.of_below hb6 (fun g hg => (hq5.2 g hg).2)) (fun _ h => h) _ _ hq5.1, by unfold StsQ; rfl⟩)
          have HR6 := Lib.hid (show RowR w6.heap.size w6 (.slice (some ⟨w5.heap.size, 0, none⟩) 1 1) [St.mk h' (plainL n b) (plainL n e)].length [stL z h' (.slice p2 (plainL n b).length c2) (.slice p3 (plainL n e).length c3)].flatten from
            ⟨_, _, rfl, .inr ⟨w5.heap.size, 0, rfl, C6.lt, C6.lt, fun j x hx => by rw [Nat.zero_add, C6.cell j]; simpa using hx⟩⟩)
          have HROW6 := Lib.hid (row_kept (row_kept HROW.out (Nat.le_refl _) (Kept.of_below HB5.out) (fun g hg hl => by omega)) (Nat.le_refl _) (Kept.of_below hb6) (fun g hg hl => by omega))
          have HN6 := Lib.hid (show (plainL n (l.take k)).length + 1 ≤ 1000000 by
            have := len_cnt (plainL n (l.take k))
            have := cnt_plainL n (l.take k)
            have := cnt_app (l.take k) (l.drop k)
            rw [List.take_append_drop] at this
            omega)
          have HZ6 := Lib.hid (show w.heap.size ≤ w6.heap.size from Nat.le_trans (Nat.le_trans hbs HB5.out.size) hb6.size)
          clear hq5 hb6 C6 hw6 C5 K5
          go_wp2_with (first
            | (at_builtin; rw [show w5.alloc (.cells #[.int .i64 z, .int .i64 h'.coll, .int .i64 h'.reg, .int .i64 h'.a.1, .int .i64 h'.a.2, .int .i64 h'.b.1, .int .i64 h'.b.2, .slice p2 (plainL n b).length c2, .slice p3 (plainL n e).length c3] 50) = w6 from HW6.out]; refine wpList_want (by kernel_rfl) (wp_append_sts (.tmp 79) (.tmp 81) rfl rfl HROW6.out rfl HS6.out HR6.out HN6.out HZ6.out ?_); rintro v7 w7 hrow7 hg7 hob7 ⟨p7, c7', rfl⟩; have HROW7 := Lib.hid hrow7; have HG7 := Lib.hid hg7; have HOB7 := Lib.hid hob7; clear hrow7 hg7 hob7)
            | go_in)
          go_roundg gk'
          case measure => omega
          case rel => exact pl_next (Q2 := Q2) (Q3 := Q3) (by rw [HPT.out]; unfold plainS; rw [if_neg hne, hh']) hlt HROW.out HCS.out HQ.out HB.out hfu HB5.out HQ5.out.1 HQ5.out.2 HB6.out HG7.out HOB7.out (by simpa using HROW7.out) (by go_num)
    · obtain rfl : k = l.length := by omega
      have g1 : decide ((l.length : Int) < (l.length : Int)) = false := decide_eq_false (by omega)
      rw [List.take_of_length_le (Nat.le_refl _)] at hrow hcs
      obtain ⟨Q', hsl, hqq⟩ := SlQ.of_row hcs hrow hQ
      have HSL := Lib.hid hsl; have HQQ := Lib.hid hqq
      have HB := Lib.hid hb
      have HRM := Lib.hid (row_room hrow)
      obtain ⟨po, co, rfl, -⟩ := row_read hrow
      clear hrow hcs hQ hb hsl hqq
      go_wp2
      go_ret2
      exact ⟨_, _, rfl, HSL.out, HQQ.out, HB.out, HRM.out⟩
theorem plain_all (B : Nat) {n : Int} (hn : 1 ≤ n) (hn4 : n ≤ 4) : ∀ N, PlainAt B n N
  | 0 => fun _ _ _ hN => absurd hN (by omega)
  | N + 1 => plain_step hn hn4 (plain_all B hn hn4 N)
end Go.Proofs.YtkpdacfiglpgeaaGreatDoor
