/- Layer 9 (prog): which statements are right: arg, coll, right. -/
import Derived.Test.YtikgbgminhgpdaaGreatDoorTxtParts
namespace Go.Proofs.YtikgbgminhgpdaaGreatDoor
open Go.RowKit Tx
set_option maxRecDepth 10000

set_option maxHeartbeats 4000000 in
theorem parg_ok (a : Int × Int) (t : Bool) (w : World) : Calls Tryz.prog 56 #[.agg #[.int .i64 a.1, .int .i64 a.2], .bool t] w fun e w' => e = .returned (.bool (argR a t)) ∧ Below w.heap.size w w' := by
  obtain ⟨r, n⟩ := a
  cases t with
  | false =>
    by_cases hr : r = 0
    · by_cases hn : n = 0
      · subst hr hn
        go_enter Tryz.func56, Tryz.ntmps56
        go_wp2
        go_ret
        exact ⟨rfl, (Below.refl _ _).alloc (Nat.le_refl _) _⟩
      · subst hr
        have g : (n == 0) = false := by simpa using hn
        have he : argR ((0 : Int), n) false = false := by simp [argR, hn]
        rw [he]
        go_enter Tryz.func56, Tryz.ntmps56
        go_wp2
        go_ret
        exact ⟨rfl, (Below.refl _ _).alloc (Nat.le_refl _) _⟩
    · have g : (r == 0) = false := by simpa using hr
      have he : argR (r, n) false = false := by simp [argR, hr]
      rw [he]
      go_enter Tryz.func56, Tryz.ntmps56
      go_wp2
      go_ret
      exact ⟨rfl, (Below.refl _ _).alloc (Nat.le_refl _) _⟩
  | true =>
    by_cases h1 : 0 ≤ r
    · by_cases h2 : r ≤ 8
      · by_cases h3 : -999 ≤ n
        · by_cases h4 : n ≤ 999
          · have he : argR (r, n) true = true := by simp [argR, h1, h2, h3, h4]
            rw [he]
            go_enter Tryz.func56, Tryz.ntmps56
            go_wp2
            go_ret
            exact ⟨rfl, (Below.refl _ _).alloc (Nat.le_refl _) _⟩
          · have he : argR (r, n) true = false := by simp [argR, h4]
            rw [he]
            go_enter Tryz.func56, Tryz.ntmps56
            go_wp2
            go_ret
            exact ⟨rfl, (Below.refl _ _).alloc (Nat.le_refl _) _⟩
        · have he : argR (r, n) true = false := by simp [argR, h3]
          rw [he]
          go_enter Tryz.func56, Tryz.ntmps56
          go_wp2
          go_ret
          exact ⟨rfl, (Below.refl _ _).alloc (Nat.le_refl _) _⟩
      · have he : argR (r, n) true = false := by simp [argR, h2]
        rw [he]
        go_enter Tryz.func56, Tryz.ntmps56
        go_wp2
        go_ret
        exact ⟨rfl, (Below.refl _ _).alloc (Nat.le_refl _) _⟩
    · have he : argR (r, n) true = false := by simp [argR, h1]
      rw [he]
      go_enter Tryz.func56, Tryz.ntmps56
      go_wp2
      go_ret
      exact ⟨rfl, (Below.refl _ _).alloc (Nat.le_refl _) _⟩
/-- Eight collections that are ordered. -/
def KindsAt (w : World) (kb : Nat) : Prop := kb < w.heap.size ∧ ∀ j : Nat, j < 8 → w.cell? ⟨kb, j, none⟩ = some (.int .i64 3)
theorem KindsAt.kept {S : Nat → Prop} {w w' : World} {kb : Nat} (h : KindsAt w kb) (k : Kept S w w') (hs : ¬ S kb) : KindsAt w' kb :=
  ⟨Nat.lt_of_lt_of_le h.1 k.size, fun j hj => (World.cell?_of_block (w := w) (k.block kb h.1 hs)).trans (h.2 j hj)⟩
theorem KindsAt.below {w w' : World} {kb : Nat} (h : KindsAt w kb) (k : Below w.heap.size w w') : KindsAt w' kb :=
  ⟨Nat.lt_of_lt_of_le h.1 k.size, fun j hj => (k.cell (p := ⟨kb, j, none⟩) h.1).trans (h.2 j hj)⟩
set_option maxHeartbeats 4000000 in
theorem pcoll_ok {z : Int} {h : Sh} {kb cap : Nat} {w : World} (hk : KindsAt w kb) (bp ep : Option Addr) (bn bc en ec : Nat) : Calls Tryz.prog 55 #[stV z h (.slice bp bn bc) (.slice ep en ec), partsV h.kind, .slice (some ⟨kb, 0, none⟩) 8 cap] w fun e w' => e = .returned (.bool (collR h)) ∧ Below w.heap.size w w' := by
  unfold stV partsV collR
  generalize hasReg h.kind = b3
  generalize hasA h.kind = b4
  generalize hasB h.kind = b5
  generalize opens h.kind = b6
  generalize hasElse h.kind = b7
  generalize h.coll = c
  have HBB := Lib.hid (((Below.refl w.heap.size w).alloc (Nat.le_refl _) (.cells #[.int .i64 z, .int .i64 c, .int .i64 h.reg, .int .i64 h.a.1, .int .i64 h.a.2, .int .i64 h.b.1, .int .i64 h.b.2, .slice bp bn bc, .slice ep en ec] 45)).alloc (by simp) (.cells #[.bool (hasColl h.kind), .bool (hasOrd h.kind), .bool b3, .bool b4, .bool b5, .bool b6, .bool b7] 111))
  cases hC : hasColl h.kind with
  | false =>
    rw [if_neg (by decide)]
    rw [hC] at HBB
    generalize hasOrd h.kind = b2 at HBB ⊢
    by_cases hc : c = 0
    · subst hc
      go_enter Tryz.func55, Tryz.ntmps55
      go_wp2
      go_ret
      exact ⟨rfl, HBB.out⟩
    · have g : (c == 0) = false := by simpa using hc
      rw [show decide (c = 0) = false from decide_eq_false hc]
      go_enter Tryz.func55, Tryz.ntmps55
      go_wp2
      go_ret
      exact ⟨rfl, HBB.out⟩
  | true =>
    rw [if_pos rfl]
    rw [hC] at HBB
    by_cases h1 : 0 ≤ c
    · by_cases h2 : c < 8
      · have he : (decide (0 ≤ c) && decide (c < 8)) = true := by simp [h1, h2]
        rw [he]
        obtain ⟨n, rfl⟩ : ∃ n : Nat, c = (n : Int) := ⟨c.toNat, by omega⟩
        have hn : n < 8 := by omega
        have g1 : decide ((0 : Int) ≤ (n : Int)) = true := decide_eq_true (by omega)
        have g2 : decide ((n : Int) < 8) = true := decide_eq_true (by omega)
        have q := (hk.2 n hn)
        have hlt := hk.1
        clear h1 h2 he hC
        cases hO : hasOrd h.kind with
        | false =>
          rw [hO] at HBB
          go_enter Tryz.func55, Tryz.ntmps55
          go_wp2
          go_ret
          exact ⟨rfl, HBB.out⟩
        | true =>
          rw [hO] at HBB
          go_enter Tryz.func55, Tryz.ntmps55
          go_wp2
          go_ret
          exact ⟨rfl, HBB.out⟩
      · have he : (decide (0 ≤ c) && decide (c < 8)) = false := by simp [h2]
        rw [he]
        generalize hasOrd h.kind = b2 at HBB ⊢
        have g1 : decide ((0 : Int) ≤ c) = true := decide_eq_true h1
        have g2 : decide (c < 8) = false := decide_eq_false h2
        go_enter Tryz.func55, Tryz.ntmps55
        go_wp2
        go_ret
        exact ⟨rfl, HBB.out⟩
    · have he : (decide (0 ≤ c) && decide (c < 8)) = false := by simp [h1]
      rw [he]
      generalize hasOrd h.kind = b2 at HBB ⊢
      have g1 : decide ((0 : Int) ≤ c) = false := decide_eq_false h1
      go_enter Tryz.func55, Tryz.ntmps55
      go_wp2
      go_ret
      exact ⟨rfl, HBB.out⟩
theorem seven_cells {w : World} {b : Nat} {t : TypeId} {x0 x1 x2 x3 x4 x5 x6 : Value} (h : Cells w b [x0, x1, x2, x3, x4, x5, x6] t) :
    w.cell? ⟨b, 0, none⟩ = some x0 ∧ w.cell? ⟨b, 1, none⟩ = some x1 ∧ w.cell? ⟨b, 2, none⟩ = some x2 ∧ w.cell? ⟨b, 3, none⟩ = some x3 ∧ w.cell? ⟨b, 4, none⟩ = some x4 ∧ w.cell? ⟨b, 5, none⟩ = some x5 ∧ w.cell? ⟨b, 6, none⟩ = some x6 :=
  ⟨h.cell 0, h.cell 1, h.cell 2, h.cell 3, h.cell 4, h.cell 5, h.cell 6⟩
theorem Cells.below {w w' : World} {b : Nat} {xs : List Value} {t : TypeId} (h : Cells w b xs t) (k : Below w.heap.size w w') : Cells w' b xs t := h.kept (Kept.of_below k) (fun q => by have := h.lt; omega)
/-- The rest of right's answer, when the kind, the collection and the arguments are right. -/
def restR (s : Sh) (nb ne : Bool) : Bool := loopR s && regR s && (opens s.kind || nb) && (hasElse s.kind || ne)
theorem oneR_rest {s : Sh} {nb ne : Bool} : oneR s nb ne = (kindIn s.kind && collR s && argR s.a (hasA s.kind) && argR s.b (hasB s.kind) && restR s nb ne) := by
  unfold oneR restR kindIn
  simp only [Bool.and_assoc]
set_option maxHeartbeats 4000000 in
theorem right_ok {z : Int} {h : Sh} (hz : z.toNat = h.kind) {kb cap : Nat} {w : World} (hk : KindsAt w kb) (bp ep : Option Addr) (bn bc en ec : Nat) : Calls Tryz.prog 30 #[stV z h (.slice bp bn bc) (.slice ep en ec), .slice (some ⟨kb, 0, none⟩) 8 cap] w fun e w' => e = .returned (.bool (oneR h (decide (bn = 0)) (decide (en = 0)))) ∧ Below w.heap.size w w' := by
  have HP := Lib.hid (fun w => partsOf_ok hz w)
  have HKI := Lib.hid hk
  have HC := Lib.hid (fun (w : World) (hk : KindsAt w kb) => pcoll_ok (z := z) (h := h) (cap := cap) hk bp ep bn bc en ec)
  have HA := Lib.hid (fun w => parg_ok h.a (hasA h.kind) w)
  have HB := Lib.hid (fun w => parg_ok h.b (hasB h.kind) w)
  have HZ := Lib.hid hz
  have HB0 := Lib.hid ((Below.refl w.heap.size w).alloc (Nat.le_refl _) (.cells #[.int .i64 z, .int .i64 h.coll, .int .i64 h.reg, .int .i64 h.a.1, .int .i64 h.a.2, .int .i64 h.b.1, .int .i64 h.b.2, .slice bp bn bc, .slice ep en ec] 45))
  have HX0 := Lib.hid (Cells.new w [.int .i64 z, .int .i64 h.coll, .int .i64 h.reg, .int .i64 h.a.1, .int .i64 h.a.2, .int .i64 h.b.1, .int .i64 h.b.2, .slice bp bn bc, .slice ep en ec] 45)
  have FIN : ∀ b, b = oneR h (decide (bn = 0)) (decide (en = 0)) → Ending.returned (.bool b) = Ending.returned (.bool (oneR h (decide (bn = 0)) (decide (en = 0)))) := fun b q => by rw [q]
  clear hz hk
  unfold stV at HC ⊢
  go_enter Tryz.func30, Tryz.ntmps30
  go_wp2_with fail
  refine (HP.out _).mono ?_
  rintro e w1 ⟨⟨v, he, ⟨k', hk'⟩, hv⟩, hb1⟩
  have HB1 := Lib.hid (HB0.out.trans (hb1.mono HB0.out.size))
  have HX1 := Lib.hid (HX0.out.below hb1)
  cases hI : kindIn h.kind with
  | false =>
    rw [hI] at he
    subst hk'
    subst he
    have HB2 := Lib.hid (HB1.out.alloc HB1.out.size (.cells #[.bool (hasColl k'), .bool (hasOrd k'), .bool (hasReg k'), .bool (hasA k'), .bool (hasB k'), .bool (opens k'), .bool (hasElse k')] 111))
    unfold partsV
    clear hb1 hv
    go_wp2
    go_ret
    exact ⟨FIN false (by rw [oneR_rest, hI]; rfl), HB2.out⟩
  | true =>
    rw [hI] at he
    obtain rfl := hv hI
    subst he
    have HPT0 := Lib.hid (Cells.new w1 [.bool (hasColl h.kind), .bool (hasOrd h.kind), .bool (hasReg h.kind), .bool (hasA h.kind), .bool (hasB h.kind), .bool (opens h.kind), .bool (hasElse h.kind)] 111)
    have HB2 := Lib.hid (HB1.out.alloc HB1.out.size (.cells #[.bool (hasColl h.kind), .bool (hasOrd h.kind), .bool (hasReg h.kind), .bool (hasA h.kind), .bool (hasB h.kind), .bool (opens h.kind), .bool (hasElse h.kind)] 111))
    have HX2 := Lib.hid (HX1.out.alloc (.cells #[.bool (hasColl h.kind), .bool (hasOrd h.kind), .bool (hasReg h.kind), .bool (hasA h.kind), .bool (hasB h.kind), .bool (opens h.kind), .bool (hasElse h.kind)] 111))
    unfold partsV at HC ⊢
    clear hb1 hv hk' HP HB0 HX0
    obtain ⟨y0, y1, y2, y3, y4, y5, y6, y7, y8⟩ := (nine_cells HX1.out).1
    have hlt1 := HX1.out.lt
    go_wp2_with fail
    refine (HC.out _ (HKI.out.below HB2.out)).mono ?_
    rintro e w2 ⟨rfl, hb2⟩
    have HB3 := Lib.hid (HB2.out.trans (hb2.mono HB2.out.size))
    have HX3 := Lib.hid (HX2.out.below hb2)
    have HPT3 := Lib.hid (HPT0.out.below hb2)
    clear hb2 y0 y1 y2 y3 y4 y5 y6 y7 y8 HC HKI HX1 HX2 HPT0 HB1 HB2 hlt1
    obtain ⟨PB, hPB⟩ : ∃ PB, PB = w1.heap.size := ⟨_, rfl⟩
    rw [← hPB] at HPT3 ⊢
    clear hPB
    obtain ⟨y0, y1, y2, y3, y4, y5, y6, y7, y8⟩ := (nine_cells HX3.out).1
    obtain ⟨z0, z1, z2, z3, z4, z5, z6⟩ := seven_cells HPT3.out
    cases hC : collR h with
    | false =>
      go_wp2
      go_ret
      exact ⟨FIN false (by rw [oneR_rest, hI, hC]; rfl), HB3.out⟩
    | true =>
      go_wp2_with fail
      refine (HA.out _).mono ?_
      rintro e w3 ⟨rfl, hb3⟩
      have HB4 := Lib.hid (HB3.out.trans (hb3.mono HB3.out.size))
      have HX4 := Lib.hid (HX3.out.below hb3)
      have HPT4 := Lib.hid (HPT3.out.below hb3)
      clear hb3 y0 y1 y2 y3 y4 y5 y6 y7 y8 z0 z1 z2 z3 z4 z5 z6
      obtain ⟨y0, y1, y2, y3, y4, y5, y6, y7, y8⟩ := (nine_cells HX4.out).1
      obtain ⟨z0, z1, z2, z3, z4, z5, z6⟩ := seven_cells HPT4.out
      cases hA : argR h.a (hasA h.kind) with
      | false =>
        go_wp2
        go_ret
        exact ⟨FIN false (by rw [oneR_rest, hI, hC, hA]; rfl), HB4.out⟩
      | true =>
        go_wp2_with fail
        refine (HB.out _).mono ?_
        rintro e w4 ⟨rfl, hb4⟩
        have HB5 := Lib.hid (HB4.out.trans (hb4.mono HB4.out.size))
        have HX5 := Lib.hid (HX4.out.below hb4)
        have HPT5 := Lib.hid (HPT4.out.below hb4)
        clear hb4 y0 y1 y2 y3 y4 y5 y6 y7 y8 z0 z1 z2 z3 z4 z5 z6
        obtain ⟨y0, y1, y2, y3, y4, y5, y6, y7, y8⟩ := (nine_cells HX5.out).1
        obtain ⟨z0, z1, z2, z3, z4, z5, z6⟩ := seven_cells HPT5.out
        cases hBB : argR h.b (hasB h.kind) with
        | false =>
          go_wp2
          go_ret
          exact ⟨FIN false (by rw [oneR_rest, hI, hC, hA, hBB]; rfl), HB5.out⟩
        | true =>
          -- the kind is in its range; the rest is plain
          have hkz : z = (h.kind : Int) := by
            unfold kindIn at hI
            have := HZ.out
            simp at hI
            omega
          have FIN2 : ∀ b, b = ((h.kind != 12 || (decide (h.a.1 = 0) && decide (0 ≤ h.a.2) && decide (h.a.2 ≤ 5))) && (if hasReg h.kind = true then decide (1 ≤ h.reg) && decide (h.reg ≤ 8) else decide (h.reg = 0)) && (opens h.kind || decide (bn = 0)) && (hasElse h.kind || decide (en = 0))) → Ending.returned (.bool b) = Ending.returned (.bool (oneR h (decide (bn = 0)) (decide (en = 0)))) := fun b q => FIN b (by rw [oneR_rest, hI, hC, hA, hBB, q]; rfl)
          clear hI FIN HA HB HZ HX3 HPT3 HB3 HX4 HPT4 HB4
          subst hkz
          generalize h.kind = k at *
          generalize hr : h.reg = r at *
          generalize ha1 : h.a.1 = a1 at *
          generalize ha2 : h.a.2 = a2 at *
          by_cases h12 : k = 12
          · have gz : ((k : Int) == 12) = true := by simp [h12]
            by_cases q0 : a1 = 0
            · by_cases q1 : 0 ≤ a2
              · by_cases q2 : a2 ≤ 5
                · have g0 : (a1 != 0) = false := by simp [q0]
                  have g1 : decide (a2 < 0) = false := decide_eq_false (by omega)
                  have g2 : decide (5 < a2) = false := decide_eq_false (by omega)
                  have hLP : (k != 12 || (decide (a1 = 0) && decide (0 ≤ a2) && decide (a2 ≤ 5))) = true := by simp [q0, q1, q2]
                  cases hR : hasReg k with
                  | true =>
                    rw [hR] at z2
                    by_cases p1 : 1 ≤ r
                    · have g5 : decide (1 ≤ r) = true := decide_eq_true p1
                      by_cases p2 : r ≤ 8
                      · have g6 : decide (r ≤ 8) = true := decide_eq_true p2
                        have hRG : (if hasReg k = true then decide (1 ≤ r) && decide (r ≤ 8) else decide (r = 0)) = true := by simp [hR, p1, p2]
                        cases hO : opens k with
                        | true =>
                          rw [hO] at z5
                          cases hE : hasElse k with
                          | true =>
                            rw [hE] at z6
                            go_wp2
                            go_ret
                            exact ⟨FIN2 true (by rw [hLP, hRG]; simp [hO, hE]), HB5.out⟩
                          | false =>
                            rw [hE] at z6
                            by_cases q4 : en = 0
                            · have g4 : ((en : Int) == 0) = true := by simp [q4]
                              go_wp2
                              go_ret
                              exact ⟨FIN2 true (by rw [hLP, hRG]; simp [hO, hE, q4]), HB5.out⟩
                            · have g4 : ((en : Int) == 0) = false := by simp; omega
                              go_wp2
                              go_ret
                              exact ⟨FIN2 false (by rw [hLP, hRG]; simp [hO, hE, q4]), HB5.out⟩
                        | false =>
                          rw [hO] at z5
                          by_cases q3 : bn = 0
                          · have g3 : ((bn : Int) == 0) = true := by simp [q3]
                            cases hE : hasElse k with
                            | true =>
                              rw [hE] at z6
                              go_wp2
                              go_ret
                              exact ⟨FIN2 true (by rw [hLP, hRG]; simp [hO, q3, hE]), HB5.out⟩
                            | false =>
                              rw [hE] at z6
                              by_cases q4 : en = 0
                              · have g4 : ((en : Int) == 0) = true := by simp [q4]
                                go_wp2
                                go_ret
                                exact ⟨FIN2 true (by rw [hLP, hRG]; simp [hO, q3, hE, q4]), HB5.out⟩
                              · have g4 : ((en : Int) == 0) = false := by simp; omega
                                go_wp2
                                go_ret
                                exact ⟨FIN2 false (by rw [hLP, hRG]; simp [hO, q3, hE, q4]), HB5.out⟩
                          · have g3 : ((bn : Int) == 0) = false := by simp; omega
                            go_wp2
                            go_ret
                            exact ⟨FIN2 false (by rw [hLP, hRG]; simp [hO, q3]), HB5.out⟩
                      · have g6 : decide (r ≤ 8) = false := decide_eq_false p2
                        go_wp2
                        go_ret
                        exact ⟨FIN2 false (by rw [hLP, hR, if_pos rfl, decide_eq_false (show ¬ r ≤ 8 by omega), Bool.and_false]; simp), HB5.out⟩
                    · have g5 : decide (1 ≤ r) = false := decide_eq_false p1
                      go_wp2
                      go_ret
                      exact ⟨FIN2 false (by rw [hLP, hR, if_pos rfl, decide_eq_false (show ¬ 1 ≤ r by omega), Bool.false_and]; simp), HB5.out⟩
                  | false =>
                    rw [hR] at z2
                    by_cases p1 : 1 ≤ r
                    · have g5 : decide (1 ≤ r) = true := decide_eq_true p1
                      have p0 : ¬ r = 0 := by omega
                      have g7 : (r != 0) = true := by simp [p0]
                      by_cases p2 : r ≤ 8
                      · have g6 : decide (r ≤ 8) = true := decide_eq_true p2
                        go_wp2
                        go_ret
                        exact ⟨FIN2 false (by rw [hLP]; simp [hR, p0]), HB5.out⟩
                      · have g6 : decide (r ≤ 8) = false := decide_eq_false p2
                        go_wp2
                        go_ret
                        exact ⟨FIN2 false (by rw [hLP]; simp [hR, p0]), HB5.out⟩
                    · have g5 : decide (1 ≤ r) = false := decide_eq_false p1
                      by_cases p0 : r = 0
                      · have g7 : (r != 0) = false := by simp [p0]
                        have hRG : (if hasReg k = true then decide (1 ≤ r) && decide (r ≤ 8) else decide (r = 0)) = true := by simp [hR, p0]
                        cases hO : opens k with
                        | true =>
                          rw [hO] at z5
                          cases hE : hasElse k with
                          | true =>
                            rw [hE] at z6
                            go_wp2
                            go_ret
                            exact ⟨FIN2 true (by rw [hLP, hRG]; simp [hO, hE]), HB5.out⟩
                          | false =>
                            rw [hE] at z6
                            by_cases q4 : en = 0
                            · have g4 : ((en : Int) == 0) = true := by simp [q4]
                              go_wp2
                              go_ret
                              exact ⟨FIN2 true (by rw [hLP, hRG]; simp [hO, hE, q4]), HB5.out⟩
                            · have g4 : ((en : Int) == 0) = false := by simp; omega
                              go_wp2
                              go_ret
                              exact ⟨FIN2 false (by rw [hLP, hRG]; simp [hO, hE, q4]), HB5.out⟩
                        | false =>
                          rw [hO] at z5
                          by_cases q3 : bn = 0
                          · have g3 : ((bn : Int) == 0) = true := by simp [q3]
                            cases hE : hasElse k with
                            | true =>
                              rw [hE] at z6
                              go_wp2
                              go_ret
                              exact ⟨FIN2 true (by rw [hLP, hRG]; simp [hO, q3, hE]), HB5.out⟩
                            | false =>
                              rw [hE] at z6
                              by_cases q4 : en = 0
                              · have g4 : ((en : Int) == 0) = true := by simp [q4]
                                go_wp2
                                go_ret
                                exact ⟨FIN2 true (by rw [hLP, hRG]; simp [hO, q3, hE, q4]), HB5.out⟩
                              · have g4 : ((en : Int) == 0) = false := by simp; omega
                                go_wp2
                                go_ret
                                exact ⟨FIN2 false (by rw [hLP, hRG]; simp [hO, q3, hE, q4]), HB5.out⟩
                          · have g3 : ((bn : Int) == 0) = false := by simp; omega
                            go_wp2
                            go_ret
                            exact ⟨FIN2 false (by rw [hLP, hRG]; simp [hO, q3]), HB5.out⟩
                      · have g7 : (r != 0) = true := by simp [p0]
                        go_wp2
                        go_ret
                        exact ⟨FIN2 false (by rw [hLP]; simp [hR, p0]), HB5.out⟩
                · have g0 : (a1 != 0) = false := by simp [q0]
                  have g1 : decide (a2 < 0) = false := decide_eq_false (by omega)
                  have g2 : decide (5 < a2) = true := decide_eq_true (by omega)
                  go_wp2
                  go_ret
                  exact ⟨FIN2 false (by rw [decide_eq_false (show ¬ a2 ≤ 5 by omega), Bool.and_false]; simp [h12]), HB5.out⟩
              · have g0 : (a1 != 0) = false := by simp [q0]
                have g1 : decide (a2 < 0) = true := decide_eq_true (by omega)
                go_wp2
                go_ret
                exact ⟨FIN2 false (by rw [decide_eq_false (show ¬ 0 ≤ a2 by omega), Bool.and_false, Bool.false_and]; simp [h12]), HB5.out⟩
            · have g0 : (a1 != 0) = true := by simp [q0]
              go_wp2
              go_ret
              exact ⟨FIN2 false (by simp [h12, q0]), HB5.out⟩
          · have gz : ((k : Int) == 12) = false := by simp; omega
            have hLP : (k != 12 || (decide (a1 = 0) && decide (0 ≤ a2) && decide (a2 ≤ 5))) = true := by simp [h12]
            cases hR : hasReg k with
            | true =>
              rw [hR] at z2
              by_cases p1 : 1 ≤ r
              · have g5 : decide (1 ≤ r) = true := decide_eq_true p1
                by_cases p2 : r ≤ 8
                · have g6 : decide (r ≤ 8) = true := decide_eq_true p2
                  have hRG : (if hasReg k = true then decide (1 ≤ r) && decide (r ≤ 8) else decide (r = 0)) = true := by simp [hR, p1, p2]
                  cases hO : opens k with
                  | true =>
                    rw [hO] at z5
                    cases hE : hasElse k with
                    | true =>
                      rw [hE] at z6
                      go_wp2
                      go_ret
                      exact ⟨FIN2 true (by rw [hLP, hRG]; simp [hO, hE]), HB5.out⟩
                    | false =>
                      rw [hE] at z6
                      by_cases q4 : en = 0
                      · have g4 : ((en : Int) == 0) = true := by simp [q4]
                        go_wp2
                        go_ret
                        exact ⟨FIN2 true (by rw [hLP, hRG]; simp [hO, hE, q4]), HB5.out⟩
                      · have g4 : ((en : Int) == 0) = false := by simp; omega
                        go_wp2
                        go_ret
                        exact ⟨FIN2 false (by rw [hLP, hRG]; simp [hO, hE, q4]), HB5.out⟩
                  | false =>
                    rw [hO] at z5
                    by_cases q3 : bn = 0
                    · have g3 : ((bn : Int) == 0) = true := by simp [q3]
                      cases hE : hasElse k with
                      | true =>
                        rw [hE] at z6
                        go_wp2
                        go_ret
                        exact ⟨FIN2 true (by rw [hLP, hRG]; simp [hO, q3, hE]), HB5.out⟩
                      | false =>
                        rw [hE] at z6
                        by_cases q4 : en = 0
                        · have g4 : ((en : Int) == 0) = true := by simp [q4]
                          go_wp2
                          go_ret
                          exact ⟨FIN2 true (by rw [hLP, hRG]; simp [hO, q3, hE, q4]), HB5.out⟩
                        · have g4 : ((en : Int) == 0) = false := by simp; omega
                          go_wp2
                          go_ret
                          exact ⟨FIN2 false (by rw [hLP, hRG]; simp [hO, q3, hE, q4]), HB5.out⟩
                    · have g3 : ((bn : Int) == 0) = false := by simp; omega
                      go_wp2
                      go_ret
                      exact ⟨FIN2 false (by rw [hLP, hRG]; simp [hO, q3]), HB5.out⟩
                · have g6 : decide (r ≤ 8) = false := decide_eq_false p2
                  go_wp2
                  go_ret
                  exact ⟨FIN2 false (by rw [hLP, hR, if_pos rfl, decide_eq_false (show ¬ r ≤ 8 by omega), Bool.and_false]; simp), HB5.out⟩
              · have g5 : decide (1 ≤ r) = false := decide_eq_false p1
                go_wp2
                go_ret
                exact ⟨FIN2 false (by rw [hLP, hR, if_pos rfl, decide_eq_false (show ¬ 1 ≤ r by omega), Bool.false_and]; simp), HB5.out⟩
            | false =>
              rw [hR] at z2
              by_cases p1 : 1 ≤ r
              · have g5 : decide (1 ≤ r) = true := decide_eq_true p1
                have p0 : ¬ r = 0 := by omega
                have g7 : (r != 0) = true := by simp [p0]
                by_cases p2 : r ≤ 8
                · have g6 : decide (r ≤ 8) = true := decide_eq_true p2
                  go_wp2
                  go_ret
                  exact ⟨FIN2 false (by rw [hLP]; simp [hR, p0]), HB5.out⟩
                · have g6 : decide (r ≤ 8) = false := decide_eq_false p2
                  go_wp2
                  go_ret
                  exact ⟨FIN2 false (by rw [hLP]; simp [hR, p0]), HB5.out⟩
              · have g5 : decide (1 ≤ r) = false := decide_eq_false p1
                by_cases p0 : r = 0
                · have g7 : (r != 0) = false := by simp [p0]
                  have hRG : (if hasReg k = true then decide (1 ≤ r) && decide (r ≤ 8) else decide (r = 0)) = true := by simp [hR, p0]
                  cases hO : opens k with
                  | true =>
                    rw [hO] at z5
                    cases hE : hasElse k with
                    | true =>
                      rw [hE] at z6
                      go_wp2
                      go_ret
                      exact ⟨FIN2 true (by rw [hLP, hRG]; simp [hO, hE]), HB5.out⟩
                    | false =>
                      rw [hE] at z6
                      by_cases q4 : en = 0
                      · have g4 : ((en : Int) == 0) = true := by simp [q4]
                        go_wp2
                        go_ret
                        exact ⟨FIN2 true (by rw [hLP, hRG]; simp [hO, hE, q4]), HB5.out⟩
                      · have g4 : ((en : Int) == 0) = false := by simp; omega
                        go_wp2
                        go_ret
                        exact ⟨FIN2 false (by rw [hLP, hRG]; simp [hO, hE, q4]), HB5.out⟩
                  | false =>
                    rw [hO] at z5
                    by_cases q3 : bn = 0
                    · have g3 : ((bn : Int) == 0) = true := by simp [q3]
                      cases hE : hasElse k with
                      | true =>
                        rw [hE] at z6
                        go_wp2
                        go_ret
                        exact ⟨FIN2 true (by rw [hLP, hRG]; simp [hO, q3, hE]), HB5.out⟩
                      | false =>
                        rw [hE] at z6
                        by_cases q4 : en = 0
                        · have g4 : ((en : Int) == 0) = true := by simp [q4]
                          go_wp2
                          go_ret
                          exact ⟨FIN2 true (by rw [hLP, hRG]; simp [hO, q3, hE, q4]), HB5.out⟩
                        · have g4 : ((en : Int) == 0) = false := by simp; omega
                          go_wp2
                          go_ret
                          exact ⟨FIN2 false (by rw [hLP, hRG]; simp [hO, q3, hE, q4]), HB5.out⟩
                    · have g3 : ((bn : Int) == 0) = false := by simp; omega
                      go_wp2
                      go_ret
                      exact ⟨FIN2 false (by rw [hLP, hRG]; simp [hO, q3]), HB5.out⟩
                · have g7 : (r != 0) = true := by simp [p0]
                  go_wp2
                  go_ret
                  exact ⟨FIN2 false (by rw [hLP]; simp [hR, p0]), HB5.out⟩
end Go.Proofs.YtikgbgminhgpdaaGreatDoor
