/- StRight: StOne, StRight. -/
import Derived.Test.YtkpdacfiglpgeaaGreatDoorStRead
import Derived.Deep.Cut

/- Layer 9: the document's judgement of one statement, for any kinds of collections. -/
namespace Go.Proofs.YtkpdacfiglpgeaaGreatDoor
open Go.RowKit Tx
set_option maxRecDepth 10000

/-- Kinds of collections in memory. -/
def KindsL (w : World) (kb : Nat) (ks : List Int) : Prop := kb < w.heap.size ∧ ∀ (j : Nat) x, ks[j]? = some x → w.cell? ⟨kb, j, none⟩ = some (.int .i64 x)
theorem KindsL.below {w w' : World} {kb : Nat} {ks : List Int} (h : KindsL w kb ks) (k : Below w.heap.size w w') : KindsL w' kb ks :=
  ⟨Nat.lt_of_lt_of_le h.1 k.size, fun j x hj => (k.cell (p := ⟨kb, j, none⟩) h.1).trans (h.2 j x hj)⟩
def OneKPost (r : Bool) (w : World) (e : Ending) (w' : World) : Prop := e = .returned (.bool r) ∧ Below w.heap.size w w'
theorem has_ink {k : Nat} (h2 : k ≤ 16) : ([1, 4, 5, 6, 7, 9, 10] : List Int).contains (k : Int) = hasReg k ∧ ([1, 2, 3, 4, 6, 7, 9, 10, 11, 12] : List Int).contains (k : Int) = hasA k ∧ ([2, 7, 10, 11] : List Int).contains (k : Int) = hasB k := by
  have : ∀ k : _root_.Fin 17, ([1, 4, 5, 6, 7, 9, 10] : List Int).contains (k.1 : Int) = hasReg k.1 ∧ ([1, 2, 3, 4, 6, 7, 9, 10, 11, 12] : List Int).contains (k.1 : Int) = hasA k.1 ∧ ([2, 7, 10, 11] : List Int).contains (k.1 : Int) = hasB k.1 := by decide +kernel
  exact this ⟨k, by omega⟩
theorem in7k {k : Nat} (h2 : k ≤ 16) {H : Nat} {w : World} (hc : Cells w H [.int .i64 1, .int .i64 4, .int .i64 5, .int .i64 6, .int .i64 7, .int .i64 9, .int .i64 10] 3) : Calls Tryz.prog 64 #[.int .i64 (k : Int), .slice (some ⟨H, 0, none⟩) 7 7] w fun e w' => e = .returned (.bool (hasReg k)) ∧ w = w' := by
  have := in_ok (k : Int) [1, 4, 5, 6, 7, 9, 10] (g := H) (cap := 7) (w := w) (by decide) (fun j x hx => (hc.cell j).trans (by
    have e : ([.int .i64 1, .int .i64 4, .int .i64 5, .int .i64 6, .int .i64 7, .int .i64 9, .int .i64 10] : List Value) = ([1, 4, 5, 6, 7, 9, 10] : List Int).map (Value.int .i64) := rfl
    rw [e, List.getElem?_map, hx]
    rfl))
  rwa [(has_ink h2).1] at this
theorem in10k {k : Nat} (h2 : k ≤ 16) {H : Nat} {w : World} (hc : Cells w H [.int .i64 1, .int .i64 2, .int .i64 3, .int .i64 4, .int .i64 6, .int .i64 7, .int .i64 9, .int .i64 10, .int .i64 11, .int .i64 12] 3) : Calls Tryz.prog 64 #[.int .i64 (k : Int), .slice (some ⟨H, 0, none⟩) 10 10] w fun e w' => e = .returned (.bool (hasA k)) ∧ w = w' := by
  have := in_ok (k : Int) [1, 2, 3, 4, 6, 7, 9, 10, 11, 12] (g := H) (cap := 10) (w := w) (by decide) (fun j x hx => (hc.cell j).trans (by
    have e : ([.int .i64 1, .int .i64 2, .int .i64 3, .int .i64 4, .int .i64 6, .int .i64 7, .int .i64 9, .int .i64 10, .int .i64 11, .int .i64 12] : List Value) = ([1, 2, 3, 4, 6, 7, 9, 10, 11, 12] : List Int).map (Value.int .i64) := rfl
    rw [e, List.getElem?_map, hx]
    rfl))
  rwa [(has_ink h2).2.1] at this
theorem in4k {k : Nat} (h2 : k ≤ 16) {H : Nat} {w : World} (hc : Cells w H [.int .i64 2, .int .i64 7, .int .i64 10, .int .i64 11] 3) : Calls Tryz.prog 64 #[.int .i64 (k : Int), .slice (some ⟨H, 0, none⟩) 4 4] w fun e w' => e = .returned (.bool (hasB k)) ∧ w = w' := by
  have := in_ok (k : Int) [2, 7, 10, 11] (g := H) (cap := 4) (w := w) (by decide) (fun j x hx => (hc.cell j).trans (by
    have e : ([.int .i64 2, .int .i64 7, .int .i64 10, .int .i64 11] : List Value) = ([2, 7, 10, 11] : List Int).map (Value.int .i64) := rfl
    rw [e, List.getElem?_map, hx]
    rfl))
  rwa [(has_ink h2).2.2] at this
theorem oneK_ab {ks : List Int} {s : Sh} {nb ne : Bool} (h : (argR s.a (hasA s.kind) && argR s.b (hasB s.kind)) = false) : oneK ks s nb ne = false := by
  unfold oneK
  generalize argR s.a (hasA s.kind) = x at h ⊢
  generalize argR s.b (hasB s.kind) = y at h ⊢
  cases x <;> cases y <;> simp_all
theorem oneK_loop {ks : List Int} {s : Sh} {nb ne : Bool} (h : loopR s = false) : oneK ks s nb ne = false := by
  unfold oneK
  rw [h]
  simp
theorem oneK_fin {ks : List Int} {k : Nat} {c r : Int} {a b : Int × Int} {nb ne : Bool} (h1 : 1 ≤ k) (h2 : k ≤ 16) (hC : collK ks ⟨k, c, r, a, b⟩ = true) (hO : ordK ks ⟨k, c, r, a, b⟩ = true) (hG : regR ⟨k, c, r, a, b⟩ = true) (hAB : (argR a (hasA k) && argR b (hasB k)) = true) (hL : loopR ⟨k, c, r, a, b⟩ = true) :
    oneK ks ⟨k, c, r, a, b⟩ nb ne = (((decide (11 ≤ k) && decide (k ≤ 14)) || nb) && ((k == 11 || k == 14) || ne)) := by
  have ho : opens k = (decide (11 ≤ k) && decide (k ≤ 14)) := by
    have : ∀ k : _root_.Fin 17, opens k.1 = (decide (11 ≤ k.1) && decide (k.1 ≤ 14)) := by decide +kernel
    exact this ⟨k, by omega⟩
  unfold oneK
  simp only [Bool.and_eq_true] at hAB
  rw [hC, hO, hG, hL, hAB.1, hAB.2, ho]
  unfold hasElse
  simp [h1, h2]
set_option maxHeartbeats 40000000 in
theorem oneK_ok (k : Nat) (h1 : 1 ≤ k) (h2 : k ≤ 16) (c r : Int) (a b : Int × Int) (ks : List Int) {kb cap : Nat} {w : World} (hk : KindsL w kb ks) (bp ep : Option Addr) (bn bc en ec : Nat) :
    Calls Tryz.prog 39 #[stV (k : Int) ⟨k, c, r, a, b⟩ (.slice bp bn bc) (.slice ep en ec), .slice (some ⟨kb, 0, none⟩) ks.length cap] w (OneKPost (oneK ks ⟨k, c, r, a, b⟩ (decide (bn = 0)) (decide (en = 0))) w) := by
  have HK := Lib.hid hk
  have g1 : decide ((k : Int) < 1) = false := decide_eq_false (by omega)
  have g1' : ¬ (k : Int) < 1 := by omega
  have g2 : decide ((16 : Int) < (k : Int)) = false := decide_eq_false (by omega)
  have g2' : ¬ (16 : Int) < (k : Int) := by omega
  have C0 := Cells.new w [.int .i64 (k : Int), .int .i64 c, .int .i64 r, .int .i64 a.1, .int .i64 a.2, .int .i64 b.1, .int .i64 b.2, .slice bp bn bc, .slice ep en ec] 50
  have HB0 := Lib.hid ((Below.refl w.heap.size w).alloc (Nat.le_refl _) (.cells #[.int .i64 (k : Int), .int .i64 c, .int .i64 r, .int .i64 a.1, .int .i64 a.2, .int .i64 b.1, .int .i64 b.2, .slice bp bn bc, .slice ep en ec] 50))
  have HC0 := Lib.hid C0
  clear hk C0
  unfold stV
  go_enter Tryz.func39, Tryz.ntmps39
  go_upto_region 4 with (fail)
  obtain ⟨W, hW⟩ : ∃ W, w.alloc (.cells #[.int .i64 (k : Int), .int .i64 c, .int .i64 r, .int .i64 a.1, .int .i64 a.2, .int .i64 b.1, .int .i64 b.2, .slice bp bn bc, .slice ep en ec] 50) = W := ⟨_, rfl⟩
  obtain ⟨B, hB⟩ : ∃ B, w.heap.size = B := ⟨_, rfl⟩
  rw [hW, hB]
  have HC := Lib.hid (show Cells W B [.int .i64 (k : Int), .int .i64 c, .int .i64 r, .int .i64 a.1, .int .i64 a.2, .int .i64 b.1, .int .i64 b.2, .slice bp bn bc, .slice ep en ec] 50 by rw [← hW, ← hB]; exact HC0.out)
  have HBB := Lib.hid (show Below w.heap.size w W by rw [← hW]; exact HB0.out)
  clear HC0 HB0 hW
  obtain ⟨⟨y0, y1, y2, y3, y4, y5, y6, y7, y8⟩, -⟩ := nine_cells HC.out
  have hR4 : collK ks ⟨k, c, r, a, b⟩ = if k ≤ 8 then decide (0 ≤ c) && decide (c < (ks.length : Int)) else decide (c = 0) := by
    unfold collK hasColl
    by_cases h : k ≤ 8 <;> simp [h, h1]
  go_cut [37] from 7 (fun s37 wx => s37 = .bool (!collK ks ⟨k, c, r, a, b⟩) ∧ W = wx)
  case first =>
    by_cases h8 : k ≤ 8
    · have g3 : decide ((k : Int) ≤ 8) = true := decide_eq_true (by omega)
      have g3' : (k : Int) ≤ 8 := by omega
      have g5 : decide ((8 : Int) < (k : Int)) = false := decide_eq_false (by omega)
      by_cases hc0 : c < 0
      · have g4 : decide (c < 0) = true := decide_eq_true hc0
        go_wp2
        go_meet
        case rel => exact ⟨by rw [hR4, if_pos h8, decide_eq_false (show ¬ 0 ≤ c by omega)]; rfl, rfl⟩
      · have g4 : decide (c < 0) = false := decide_eq_false hc0
        by_cases hc8 : (ks.length : Int) ≤ c
        · have g6 : decide ((ks.length : Int) ≤ c) = true := decide_eq_true hc8
          go_wp2
          go_meet
          case rel => exact ⟨by rw [hR4, if_pos h8, decide_eq_true (show 0 ≤ c by omega), decide_eq_false (show ¬ c < (ks.length : Int) by omega)]; rfl, rfl⟩
        · have g6 : decide ((ks.length : Int) ≤ c) = false := decide_eq_false hc8
          go_wp2
          go_meet
          case rel => exact ⟨by rw [hR4, if_pos h8, decide_eq_true (show 0 ≤ c by omega), decide_eq_true (show c < (ks.length : Int) by omega)]; rfl, rfl⟩
    · have g3 : decide ((k : Int) ≤ 8) = false := decide_eq_false (by omega)
      have g3' : ¬ (k : Int) ≤ 8 := by omega
      have g5 : decide ((8 : Int) < (k : Int)) = true := decide_eq_true (by omega)
      by_cases hc0 : c = 0
      · have g4 : (c != 0) = false := by simp [hc0]
        have HC0 := Lib.hid hc0
        clear hc0
        go_wp2
        go_meet
        case rel => exact ⟨by rw [hR4, if_neg h8, decide_eq_true HC0.out]; rfl, rfl⟩
      · have g4 : (c != 0) = true := by simp [hc0]
        go_wp2
        go_meet
        case rel => exact ⟨by rw [hR4, if_neg h8, decide_eq_false hc0]; rfl, rfl⟩
  case rest =>
    obtain ⟨rfl, rfl⟩ := hcut
    cases hC : collK ks ⟨k, c, r, a, b⟩ with
    | false =>
      go_wp2
      go_ret
      exact ⟨by unfold oneK; rw [hC]; simp, HBB.out⟩
    | true =>
      rw [hR4] at hC
      go_upto_region 6 with (fail)
      have hk6 : KindsL W kb ks := HK.out.below HBB.out
      have hc67 : k ≤ 8 → ∃ n : Nat, c = (n : Int) ∧ n < ks.length := fun h => by
        rw [if_pos h] at hC
        simp only [Bool.and_eq_true, decide_eq_true_eq] at hC
        exact ⟨c.toNat, by omega, by omega⟩
      have hlt6 := hk6.1
      go_cut [51] from 7 (fun s51 wx => s51 = .bool (!ordK ks ⟨k, c, r, a, b⟩) ∧ W = wx)
      case first =>
        by_cases h6 : k = 6
        · obtain ⟨n, rfl, hn⟩ := hc67 (by omega)
          obtain ⟨x, hx⟩ : ∃ x, ks[n]? = some x := ⟨_, List.getElem?_eq_getElem hn⟩
          have q := hk6.2 n x hx
          have hn' : (n : Int) < (ks.length : Int) := by omega
          have HORD := Lib.hid (show ordK ks ⟨k, (n : Int), r, a, b⟩ = (x == 3) by unfold ordK; simp [h6, hx])
          have g3 : ((k : Int) == 6) = true := by simp [h6]
          clear h6 hc67 hx
          go_wp2
          go_meet
          case rel => exact ⟨by rw [HORD.out]; rfl, rfl⟩
        · have g3 : ((k : Int) == 6) = false := by simp; omega
          by_cases h7 : k = 7
          · obtain ⟨n, rfl, hn⟩ := hc67 (by omega)
            obtain ⟨x, hx⟩ : ∃ x, ks[n]? = some x := ⟨_, List.getElem?_eq_getElem hn⟩
            have q := hk6.2 n x hx
            have hn' : (n : Int) < (ks.length : Int) := by omega
            have HORD := Lib.hid (show ordK ks ⟨k, (n : Int), r, a, b⟩ = (x == 3) by unfold ordK; simp [h7, hx])
            have g4 : ((k : Int) == 7) = true := by simp [h7]
            clear h7 h6 hc67 hx
            go_wp2
            go_meet
            case rel => exact ⟨by rw [HORD.out]; rfl, rfl⟩
          · have g4 : ((k : Int) == 7) = false := by simp; omega
            go_wp2
            go_meet
            case rel => exact ⟨by unfold ordK; simp [h6, h7], rfl⟩
      case rest =>
       obtain ⟨rfl, rfl⟩ := hcut
       cases hOK : ordK ks ⟨k, c, r, a, b⟩ with
       | false =>
        go_wp2
        go_ret
        exact ⟨by unfold oneK; rw [hOK]; simp, HBB.out⟩
       | true =>
        have HOK := Lib.hid hOK
        clear hOK
        have HI7 := Lib.hid (in7k h2 (Cells.new W [.int .i64 1, .int .i64 4, .int .i64 5, .int .i64 6, .int .i64 7, .int .i64 9, .int .i64 10] 3))
        go_upto_region 9 with (go_at_call 64; refine (HI7.out).mono ?_; rintro e w' ⟨rfl, rfl⟩)
        obtain ⟨W2, hW2⟩ : ∃ W2, W.alloc (.cells #[.int .i64 1, .int .i64 4, .int .i64 5, .int .i64 6, .int .i64 7, .int .i64 9, .int .i64 10] 3) = W2 := ⟨_, rfl⟩
        rw [hW2]
        have HC2 := Lib.hid (show Cells W2 B [.int .i64 (k : Int), .int .i64 c, .int .i64 r, .int .i64 a.1, .int .i64 a.2, .int .i64 b.1, .int .i64 b.2, .slice bp bn bc, .slice ep en ec] 50 by rw [← hW2]; exact HC.out.alloc _)
        have HB2 := Lib.hid (show Below w.heap.size w W2 by rw [← hW2]; exact HBB.out.alloc HBB.out.size _)
        clear hW2 y0 y1 y2 y3 y4 y5 y6 y7 y8 HI7 hk6 hc67 hlt6
        obtain ⟨⟨y0, y1, y2, y3, y4, y5, y6, y7, y8⟩, -⟩ := nine_cells HC2.out
        have hlt2 := HC2.out.lt
        go_cut [6, 74] from 7 (fun _ s74 wx => s74 = .bool (!regR ⟨k, c, r, a, b⟩) ∧ W2 = wx)
        case first =>
          cases hG : hasReg k with
          | true =>
            by_cases hr1 : r < 1
            · have g3 : decide (r < 1) = true := decide_eq_true hr1
              go_wp2
              go_meet
              case rel => exact ⟨by unfold regR; rw [if_pos hG, decide_eq_false (show ¬ 1 ≤ r by omega)]; rfl, rfl⟩
            · have g3 : decide (r < 1) = false := decide_eq_false hr1
              by_cases hr8 : 8 < r
              · have g4 : decide (8 < r) = true := decide_eq_true hr8
                go_wp2
                go_meet
                case rel => exact ⟨by unfold regR; rw [if_pos hG, decide_eq_true (show 1 ≤ r by omega), decide_eq_false (show ¬ r ≤ 8 by omega)]; rfl, rfl⟩
              · have g4 : decide (8 < r) = false := decide_eq_false hr8
                go_wp2
                go_meet
                case rel => exact ⟨by unfold regR; rw [if_pos hG, decide_eq_true (show 1 ≤ r by omega), decide_eq_true (show r ≤ 8 by omega)]; rfl, rfl⟩
          | false =>
            by_cases hr0 : r = 0
            · have g3 : (r != 0) = false := by simp [hr0]
              have HR0 := Lib.hid hr0
              clear hr0
              go_wp2
              go_meet
              case rel => exact ⟨by unfold regR; rw [hG, if_neg (by decide), decide_eq_true HR0.out]; rfl, rfl⟩
            · have g3 : (r != 0) = true := by simp [hr0]
              go_wp2
              go_meet
              case rel => exact ⟨by unfold regR; rw [hG, if_neg (by decide), decide_eq_false hr0]; rfl, rfl⟩
        case rest =>
          obtain ⟨rfl, rfl⟩ := hcut
          have HCR := Lib.hid hC
          cases hG : regR ⟨k, c, r, a, b⟩ with
          | false =>
            go_wp2
            go_ret
            exact ⟨by unfold oneK; rw [hG]; simp, HB2.out⟩
          | true =>
            go_upto_region 11 with (fail)
            go_cut [90] from 7 (fun s90 wx => s90 = .bool (!(argR a (hasA k) && argR b (hasB k))) ∧ Below W2.heap.size W2 wx)
            case first =>
              have HI10 := Lib.hid (in10k h2 (show Cells ((W2.alloc (.cells #[.int .i64 1, .int .i64 2, .int .i64 3, .int .i64 4, .int .i64 6, .int .i64 7, .int .i64 9, .int .i64 10, .int .i64 11, .int .i64 12] 3)).drewN 1) W2.heap.size [.int .i64 1, .int .i64 2, .int .i64 3, .int .i64 4, .int .i64 6, .int .i64 7, .int .i64 9, .int .i64 10, .int .i64 11, .int .i64 12] 3 from Cells.new W2 [.int .i64 1, .int .i64 2, .int .i64 3, .int .i64 4, .int .i64 6, .int .i64 7, .int .i64 9, .int .i64 10, .int .i64 11, .int .i64 12] 3)); have HI4 := Lib.hid (fun (w : World) => in4k h2 (Cells.new w [.int .i64 2, .int .i64 7, .int .i64 10, .int .i64 11] 3))
              have HARA := Lib.hid (fun w => argd_ok a (hasA k) w); have HARB := Lib.hid (fun w => argd_ok b (hasB k) w)
              have hq : Cells ((W2.alloc (.cells #[.int .i64 1, .int .i64 2, .int .i64 3, .int .i64 4, .int .i64 6, .int .i64 7, .int .i64 9, .int .i64 10, .int .i64 11, .int .i64 12] 3)).drewN 1) B [.int .i64 (k : Int), .int .i64 c, .int .i64 r, .int .i64 a.1, .int .i64 a.2, .int .i64 b.1, .int .i64 b.2, .slice bp bn bc, .slice ep en ec] 50 := HC2.out.alloc (.cells #[.int .i64 1, .int .i64 2, .int .i64 3, .int .i64 4, .int .i64 6, .int .i64 7, .int .i64 9, .int .i64 10, .int .i64 11, .int .i64 12] 3)
              have HQ := Lib.hid hq
              have HQB := Lib.hid (show Below W2.heap.size W2 ((W2.alloc (.cells #[.int .i64 1, .int .i64 2, .int .i64 3, .int .i64 4, .int .i64 6, .int .i64 7, .int .i64 9, .int .i64 10, .int .i64 11, .int .i64 12] 3)).drewN 1) from ⟨((Below.refl W2.heap.size W2).alloc (Nat.le_refl _) (.cells #[.int .i64 1, .int .i64 2, .int .i64 3, .int .i64 4, .int .i64 6, .int .i64 7, .int .i64 9, .int .i64 10, .int .i64 11, .int .i64 12] 3)).os, ((Below.refl W2.heap.size W2).alloc (Nat.le_refl _) (.cells #[.int .i64 1, .int .i64 2, .int .i64 3, .int .i64 4, .int .i64 6, .int .i64 7, .int .i64 9, .int .i64 10, .int .i64 11, .int .i64 12] 3)).tape, ((Below.refl W2.heap.size W2).alloc (Nat.le_refl _) (.cells #[.int .i64 1, .int .i64 2, .int .i64 3, .int .i64 4, .int .i64 6, .int .i64 7, .int .i64 9, .int .i64 10, .int .i64 11, .int .i64 12] 3)).output, ((Below.refl W2.heap.size W2).alloc (Nat.le_refl _) (.cells #[.int .i64 1, .int .i64 2, .int .i64 3, .int .i64 4, .int .i64 6, .int .i64 7, .int .i64 9, .int .i64 10, .int .i64 11, .int .i64 12] 3)).size, ((Below.refl W2.heap.size W2).alloc (Nat.le_refl _) (.cells #[.int .i64 1, .int .i64 2, .int .i64 3, .int .i64 4, .int .i64 6, .int .i64 7, .int .i64 9, .int .i64 10, .int .i64 11, .int .i64 12] 3)).block⟩)
              have q3 : ((W2.alloc (.cells #[.int .i64 1, .int .i64 2, .int .i64 3, .int .i64 4, .int .i64 6, .int .i64 7, .int .i64 9, .int .i64 10, .int .i64 11, .int .i64 12] 3)).drewN 1).cell? ⟨B, 3, none⟩ = some (.int .i64 a.1) := hq.cell 3
              have q4 : ((W2.alloc (.cells #[.int .i64 1, .int .i64 2, .int .i64 3, .int .i64 4, .int .i64 6, .int .i64 7, .int .i64 9, .int .i64 10, .int .i64 11, .int .i64 12] 3)).drewN 1).cell? ⟨B, 4, none⟩ = some (.int .i64 a.2) := hq.cell 4
              have q5 : ((W2.alloc (.cells #[.int .i64 1, .int .i64 2, .int .i64 3, .int .i64 4, .int .i64 6, .int .i64 7, .int .i64 9, .int .i64 10, .int .i64 11, .int .i64 12] 3)).drewN 1).cell? ⟨B, 5, none⟩ = some (.int .i64 b.1) := hq.cell 5
              have q6 : ((W2.alloc (.cells #[.int .i64 1, .int .i64 2, .int .i64 3, .int .i64 4, .int .i64 6, .int .i64 7, .int .i64 9, .int .i64 10, .int .i64 11, .int .i64 12] 3)).drewN 1).cell? ⟨B, 6, none⟩ = some (.int .i64 b.2) := hq.cell 6
              clear hq
              cases hA : argR a (hasA k) with
              | false =>
                rw [hA] at HARA
                refine wp_region_held_drew (S := fun w' => w'.cell? ⟨B, 3, none⟩ = some (.int .i64 a.1) ∧ w'.cell? ⟨B, 4, none⟩ = some (.int .i64 a.2) ∧ w'.cell? ⟨B, 5, none⟩ = some (.int .i64 b.1) ∧ w'.cell? ⟨B, 6, none⟩ = some (.int .i64 b.2)) (by kernel_rfl) ⟨y3, y4, y5, y6⟩ (fun hHeld => ?_)
                refine wpAnyH_take (i := 0) (oi := ?oi0b) (v := ?v0b) ?hi0b ?hs0b ?hf0b ?hr0b ?hQ0b ?hy0b hHeld ?rest0b
                case hi0b =>
                  (try simp only [List.getElem?_toArray, List.getElem?_cons_zero])
                  exact rfl
                case hs0b => kernel_rfl
                case hf0b => kernel_rfl
                case hr0b => kernel_rfl
                case hQ0b => exact fun _ _ _ h => h
                case hy0b =>
                  refine Or.inl ⟨?hw0b, ?hrun0b⟩
                  case hw0b => kernel_rfl
                  case hrun0b =>
                    intro w hSw
                    (try dsimp only at hSw)
                    go_simp
                    try with_reducible rfl
                try simp only [Act.put, List.setIfInBounds_toArray, List.set_cons_zero, List.set_cons_succ]
                refine wpAnyH_take (i := 1) (oi := ?oi1b) (v := ?v1b) ?hi1b ?hs1b ?hf1b ?hr1b ?hQ1b ?hy1b hHeld ?rest1b
                case hi1b =>
                  (try simp only [List.getElem?_toArray, List.getElem?_cons_succ, List.getElem?_cons_zero])
                  exact rfl
                case hs1b => kernel_rfl
                case hf1b => kernel_rfl
                case hr1b => kernel_rfl
                case hQ1b => exact fun _ _ _ h => h
                case hy1b =>
                  refine Or.inl ⟨?hw1b, ?hrun1b⟩
                  case hw1b => kernel_rfl
                  case hrun1b =>
                    intro w hSw
                    (try dsimp only at hSw)
                    go_simp
                    try with_reducible rfl
                try simp only [Act.put, List.setIfInBounds_toArray, List.set_cons_zero, List.set_cons_succ]
                refine wpAnyH_take (i := 2) (oi := ?oi2b) (v := ?v2b) ?hi2b ?hs2b ?hf2b ?hr2b ?hQ2b ?hy2b hHeld ?rest2b
                case hi2b =>
                  (try simp only [List.getElem?_toArray, List.getElem?_cons_succ, List.getElem?_cons_zero])
                  exact rfl
                case hs2b => kernel_rfl
                case hf2b => kernel_rfl
                case hr2b => kernel_rfl
                case hQ2b => exact fun _ _ _ h => h
                case hy2b =>
                  refine Or.inl ⟨?hw2b, ?hrun2b⟩
                  case hw2b => kernel_rfl
                  case hrun2b =>
                    intro w hSw
                    (try dsimp only at hSw)
                    go_simp
                    try with_reducible rfl
                try simp only [Act.put, List.setIfInBounds_toArray, List.set_cons_zero, List.set_cons_succ]
                refine wpAnyH_ready (rs := [3]) (by kernel_rfl) (by simp) ?_
                refine AllReadyH.cons (o := ?o3b) ?ho3b (fun K hK => ?st3b) AllReadyH.nil
                case ho3b =>
                  (try simp only [List.getElem?_toArray, List.getElem?_cons_succ, List.getElem?_cons_zero])
                  exact rfl
                go_simp
                refine hK.out _ _ ?_ (fun hHeld => ?_)
                · exact ⟨q3, q4, q5, q6⟩
                clear hK K
                try simp only [Act.put, List.setIfInBounds_toArray, List.set_cons_zero, List.set_cons_succ]
                refine wpAnyH_ready (rs := [4]) (by kernel_rfl) (by simp) ?_
                refine AllReadyH.cons (o := ?o4b) ?ho4b (fun K hK => ?st4b) AllReadyH.nil
                case ho4b =>
                  (try simp only [List.getElem?_toArray, List.getElem?_cons_succ, List.getElem?_cons_zero])
                  exact rfl
                go_simp
                go_at_call 64
                refine HI10.out.mono ?_
                rintro e w' ⟨rfl, rfl⟩
                go_wp2
                refine hK.out _ _ ?_ (fun hHeld => ?_)
                · exact ⟨q3, q4, q5, q6⟩
                clear hK K
                try simp only [Act.put, List.setIfInBounds_toArray, List.set_cons_zero, List.set_cons_succ]
                refine wpAnyH_ready (rs := [5]) (by kernel_rfl) (by simp) ?_
                refine AllReadyH.cons (o := ?o5b) ?ho5b (fun K hK => ?st5b) AllReadyH.nil
                case ho5b =>
                  (try simp only [List.getElem?_toArray, List.getElem?_cons_succ, List.getElem?_cons_zero])
                  exact rfl
                go_simp
                go_at_call 65
                refine (HARA.out _).mono ?_
                rintro e w3 ⟨rfl, hb3⟩
                have hk3 := HQ.out.below hb3
                have HB3 := Lib.hid (HQB.out.trans (hb3.mono HQB.out.size))
                clear hb3
                go_wp2
                refine hK.out _ _ ?_ (fun hHeld => ?_)
                · exact ⟨hk3.cell 3, hk3.cell 4, hk3.cell 5, hk3.cell 6⟩
                clear hK K
                try simp only [Act.put, List.setIfInBounds_toArray, List.set_cons_zero, List.set_cons_succ]
                refine wpAnyH_take (i := 6) (oi := ?oi6b) (v := ?v6b) ?hi6b ?hs6b ?hf6b ?hr6b ?hQ6b ?hy6b hHeld ?rest6b
                case hi6b =>
                  (try simp only [List.getElem?_toArray, List.getElem?_cons_succ, List.getElem?_cons_zero])
                  exact rfl
                case hs6b => kernel_rfl
                case hf6b => kernel_rfl
                case hr6b => kernel_rfl
                case hQ6b => exact fun _ _ _ h => h
                case hy6b =>
                  refine Or.inl ⟨?hw6b, ?hrun6b⟩
                  case hw6b => kernel_rfl
                  case hrun6b =>
                    intro w hSw
                    (try dsimp only at hSw)
                    go_simp
                    try with_reducible rfl
                try simp only [Act.put, List.setIfInBounds_toArray, List.set_cons_zero, List.set_cons_succ]
                refine wpAnyH_take (i := 7) (oi := ?oi7b) (v := ?v7b) ?hi7b ?hs7b ?hf7b ?hr7b ?hQ7b ?hy7b hHeld ?rest7b
                case hi7b =>
                  (try simp only [List.getElem?_toArray, List.getElem?_cons_succ, List.getElem?_cons_zero])
                  exact rfl
                case hs7b => kernel_rfl
                case hf7b => kernel_rfl
                case hr7b => kernel_rfl
                case hQ7b => exact fun _ _ _ h => h
                case hy7b =>
                  refine Or.inl ⟨?hw7b, ?hrun7b⟩
                  case hw7b => kernel_rfl
                  case hrun7b =>
                    intro w hSw
                    (try dsimp only at hSw)
                    go_simp
                    try with_reducible rfl
                try simp only [Act.put, List.setIfInBounds_toArray, List.set_cons_zero, List.set_cons_succ]
                refine wpAnyH_take (i := 8) (oi := ?oi8b) (v := undef) ?hi8b ?hs8b ?hf8b ?hr8b ?hQ8b ?hy8b hHeld ?rest8b
                case hi8b =>
                  (try simp only [List.getElem?_toArray, List.getElem?_cons_succ, List.getElem?_cons_zero])
                  exact rfl
                case hs8b => kernel_rfl
                case hf8b => kernel_rfl
                case hr8b => kernel_rfl
                case hQ8b => exact fun _ _ _ h => h
                case hy8b => exact Or.inr ⟨(by kernel_rfl), rfl⟩
                try simp only [Act.put, List.setIfInBounds_toArray, List.set_cons_zero, List.set_cons_succ]
                refine wpAnyH_take (i := 9) (oi := ?oi9b) (v := undef) ?hi9b ?hs9b ?hf9b ?hr9b ?hQ9b ?hy9b hHeld ?rest9b
                case hi9b =>
                  (try simp only [List.getElem?_toArray, List.getElem?_cons_succ, List.getElem?_cons_zero])
                  exact rfl
                case hs9b => kernel_rfl
                case hf9b => kernel_rfl
                case hr9b => kernel_rfl
                case hQ9b => exact fun _ _ _ h => h
                case hy9b => exact Or.inr ⟨(by kernel_rfl), rfl⟩
                try simp only [Act.put, List.setIfInBounds_toArray, List.set_cons_zero, List.set_cons_succ]
                refine wpAnyH_take (i := 10) (oi := ?oi10b) (v := undef) ?hi10b ?hs10b ?hf10b ?hr10b ?hQ10b ?hy10b hHeld ?rest10b
                case hi10b =>
                  (try simp only [List.getElem?_toArray, List.getElem?_cons_succ, List.getElem?_cons_zero])
                  exact rfl
                case hs10b => kernel_rfl
                case hf10b => kernel_rfl
                case hr10b => kernel_rfl
                case hQ10b => exact fun _ _ _ h => h
                case hy10b => exact Or.inr ⟨(by kernel_rfl), rfl⟩
                try simp only [Act.put, List.setIfInBounds_toArray, List.set_cons_zero, List.set_cons_succ]
                refine wpAnyH_ready (rs := [11]) (by kernel_rfl) (by simp) ?_
                refine AllReadyH.cons (o := ?o11b) ?ho11b (fun K hK => ?st11b) AllReadyH.nil
                case ho11b =>
                  (try simp only [List.getElem?_toArray, List.getElem?_cons_succ, List.getElem?_cons_zero])
                  exact rfl
                go_simp
                refine hK.out _ _ ?_ (fun hHeld => ?_)
                · exact hHeld
                clear hK K
                try simp only [Act.put, List.setIfInBounds_toArray, List.set_cons_zero, List.set_cons_succ]
                refine wpAnyH_ready (rs := [12]) (by kernel_rfl) (by simp) ?_
                refine AllReadyH.cons (o := ?o12b) ?ho12b (fun K hK => ?st12b) AllReadyH.nil
                case ho12b =>
                  (try simp only [List.getElem?_toArray, List.getElem?_cons_succ, List.getElem?_cons_zero])
                  exact rfl
                go_simp
                refine hK.out _ _ ?_ (fun hHeld => ?_)
                · exact hHeld
                clear hK K
                try simp only [Act.put, List.setIfInBounds_toArray, List.set_cons_zero, List.set_cons_succ]
                refine wpAnyH_ready (rs := [13]) (by kernel_rfl) (by simp) ?_
                refine AllReadyH.cons (o := ?o13b) ?ho13b (fun K hK => ?st13b) AllReadyH.nil
                case ho13b =>
                  (try simp only [List.getElem?_toArray, List.getElem?_cons_succ, List.getElem?_cons_zero])
                  exact rfl
                go_simp
                refine hK.out _ _ ?_ (fun hHeld => ?_)
                · exact hHeld
                clear hK K
                try simp only [Act.put, List.setIfInBounds_toArray, List.set_cons_zero, List.set_cons_succ]
                refine wpAnyH_take (i := 14) (oi := ?oi14b) (v := undef) ?hi14b ?hs14b ?hf14b ?hr14b ?hQ14b ?hy14b hHeld ?rest14b
                case hi14b =>
                  (try simp only [List.getElem?_toArray, List.getElem?_cons_succ, List.getElem?_cons_zero])
                  exact rfl
                case hs14b => kernel_rfl
                case hf14b => kernel_rfl
                case hr14b => kernel_rfl
                case hQ14b => exact fun _ _ _ h => h
                case hy14b => exact Or.inr ⟨(by kernel_rfl), rfl⟩
                try simp only [Act.put, List.setIfInBounds_toArray, List.set_cons_zero, List.set_cons_succ]
                refine wpAnyH_take (i := 15) (oi := ?oi15b) (v := ?v15b) ?hi15b ?hs15b ?hf15b ?hr15b ?hQ15b ?hy15b hHeld ?rest15b
                case hi15b =>
                  (try simp only [List.getElem?_toArray, List.getElem?_cons_succ, List.getElem?_cons_zero])
                  exact rfl
                case hs15b => kernel_rfl
                case hf15b => kernel_rfl
                case hr15b => kernel_rfl
                case hQ15b => exact fun _ _ _ h => h
                case hy15b =>
                  refine Or.inl ⟨?hw15b, ?hrun15b⟩
                  case hw15b => kernel_rfl
                  case hrun15b =>
                    intro w hSw
                    (try dsimp only at hSw)
                    go_simp
                    try with_reducible rfl
                try simp only [Act.put, List.setIfInBounds_toArray, List.set_cons_zero, List.set_cons_succ]
                refine wpAnyH_done (by kernel_rfl) ?_ _
                go_wp2
                go_meet
                case rel => exact ⟨by rw [hA]; rfl, HB3.out⟩
              | true =>
                rw [hA] at HARA
                refine wp_region_held_drew (S := fun w' => w'.cell? ⟨B, 3, none⟩ = some (.int .i64 a.1) ∧ w'.cell? ⟨B, 4, none⟩ = some (.int .i64 a.2) ∧ w'.cell? ⟨B, 5, none⟩ = some (.int .i64 b.1) ∧ w'.cell? ⟨B, 6, none⟩ = some (.int .i64 b.2)) (by kernel_rfl) ⟨y3, y4, y5, y6⟩ (fun hHeld => ?_)
                refine wpAnyH_take (i := 0) (oi := ?oi0g) (v := ?v0g) ?hi0g ?hs0g ?hf0g ?hr0g ?hQ0g ?hy0g hHeld ?rest0g
                case hi0g =>
                  (try simp only [List.getElem?_toArray, List.getElem?_cons_zero])
                  exact rfl
                case hs0g => kernel_rfl
                case hf0g => kernel_rfl
                case hr0g => kernel_rfl
                case hQ0g => exact fun _ _ _ h => h
                case hy0g =>
                  refine Or.inl ⟨?hw0g, ?hrun0g⟩
                  case hw0g => kernel_rfl
                  case hrun0g =>
                    intro w hSw
                    (try dsimp only at hSw)
                    go_simp
                    try with_reducible rfl
                try simp only [Act.put, List.setIfInBounds_toArray, List.set_cons_zero, List.set_cons_succ]
                refine wpAnyH_take (i := 1) (oi := ?oi1g) (v := ?v1g) ?hi1g ?hs1g ?hf1g ?hr1g ?hQ1g ?hy1g hHeld ?rest1g
                case hi1g =>
                  (try simp only [List.getElem?_toArray, List.getElem?_cons_succ, List.getElem?_cons_zero])
                  exact rfl
                case hs1g => kernel_rfl
                case hf1g => kernel_rfl
                case hr1g => kernel_rfl
                case hQ1g => exact fun _ _ _ h => h
                case hy1g =>
                  refine Or.inl ⟨?hw1g, ?hrun1g⟩
                  case hw1g => kernel_rfl
                  case hrun1g =>
                    intro w hSw
                    (try dsimp only at hSw)
                    go_simp
                    try with_reducible rfl
                try simp only [Act.put, List.setIfInBounds_toArray, List.set_cons_zero, List.set_cons_succ]
                refine wpAnyH_take (i := 2) (oi := ?oi2g) (v := ?v2g) ?hi2g ?hs2g ?hf2g ?hr2g ?hQ2g ?hy2g hHeld ?rest2g
                case hi2g =>
                  (try simp only [List.getElem?_toArray, List.getElem?_cons_succ, List.getElem?_cons_zero])
                  exact rfl
                case hs2g => kernel_rfl
                case hf2g => kernel_rfl
                case hr2g => kernel_rfl
                case hQ2g => exact fun _ _ _ h => h
                case hy2g =>
                  refine Or.inl ⟨?hw2g, ?hrun2g⟩
                  case hw2g => kernel_rfl
                  case hrun2g =>
                    intro w hSw
                    (try dsimp only at hSw)
                    go_simp
                    try with_reducible rfl
                try simp only [Act.put, List.setIfInBounds_toArray, List.set_cons_zero, List.set_cons_succ]
                refine wpAnyH_ready (rs := [3]) (by kernel_rfl) (by simp) ?_
                refine AllReadyH.cons (o := ?o3g) ?ho3g (fun K hK => ?st3g) AllReadyH.nil
                case ho3g =>
                  (try simp only [List.getElem?_toArray, List.getElem?_cons_succ, List.getElem?_cons_zero])
                  exact rfl
                go_simp
                refine hK.out _ _ ?_ (fun hHeld => ?_)
                · exact ⟨q3, q4, q5, q6⟩
                clear hK K
                try simp only [Act.put, List.setIfInBounds_toArray, List.set_cons_zero, List.set_cons_succ]
                refine wpAnyH_ready (rs := [4]) (by kernel_rfl) (by simp) ?_
                refine AllReadyH.cons (o := ?o4g) ?ho4g (fun K hK => ?st4g) AllReadyH.nil
                case ho4g =>
                  (try simp only [List.getElem?_toArray, List.getElem?_cons_succ, List.getElem?_cons_zero])
                  exact rfl
                go_simp
                go_at_call 64
                refine HI10.out.mono ?_
                rintro e w' ⟨rfl, rfl⟩
                go_wp2
                refine hK.out _ _ ?_ (fun hHeld => ?_)
                · exact ⟨q3, q4, q5, q6⟩
                clear hK K
                try simp only [Act.put, List.setIfInBounds_toArray, List.set_cons_zero, List.set_cons_succ]
                refine wpAnyH_ready (rs := [5]) (by kernel_rfl) (by simp) ?_
                refine AllReadyH.cons (o := ?o5g) ?ho5g (fun K hK => ?st5g) AllReadyH.nil
                case ho5g =>
                  (try simp only [List.getElem?_toArray, List.getElem?_cons_succ, List.getElem?_cons_zero])
                  exact rfl
                go_simp
                go_at_call 65
                refine (HARA.out _).mono ?_
                rintro e w3 ⟨rfl, hb3⟩
                have hk3 := HQ.out.below hb3
                have HB3 := Lib.hid (HQB.out.trans (hb3.mono HQB.out.size))
                clear hb3
                go_wp2
                refine hK.out _ _ ?_ (fun hHeld => ?_)
                · exact ⟨hk3.cell 3, hk3.cell 4, hk3.cell 5, hk3.cell 6⟩
                clear hK K
                try simp only [Act.put, List.setIfInBounds_toArray, List.set_cons_zero, List.set_cons_succ]
                refine wpAnyH_take (i := 6) (oi := ?oi6g) (v := ?v6g) ?hi6g ?hs6g ?hf6g ?hr6g ?hQ6g ?hy6g hHeld ?rest6g
                case hi6g =>
                  (try simp only [List.getElem?_toArray, List.getElem?_cons_succ, List.getElem?_cons_zero])
                  exact rfl
                case hs6g => kernel_rfl
                case hf6g => kernel_rfl
                case hr6g => kernel_rfl
                case hQ6g => exact fun _ _ _ h => h
                case hy6g =>
                  refine Or.inl ⟨?hw6g, ?hrun6g⟩
                  case hw6g => kernel_rfl
                  case hrun6g =>
                    intro w hSw
                    (try dsimp only at hSw)
                    go_simp
                    try with_reducible rfl
                try simp only [Act.put, List.setIfInBounds_toArray, List.set_cons_zero, List.set_cons_succ]
                refine wpAnyH_take (i := 7) (oi := ?oi7g) (v := ?v7g) ?hi7g ?hs7g ?hf7g ?hr7g ?hQ7g ?hy7g hHeld ?rest7g
                case hi7g =>
                  (try simp only [List.getElem?_toArray, List.getElem?_cons_succ, List.getElem?_cons_zero])
                  exact rfl
                case hs7g => kernel_rfl
                case hf7g => kernel_rfl
                case hr7g => kernel_rfl
                case hQ7g => exact fun _ _ _ h => h
                case hy7g =>
                  refine Or.inl ⟨?hw7g, ?hrun7g⟩
                  case hw7g => kernel_rfl
                  case hrun7g =>
                    intro w hSw
                    (try dsimp only at hSw)
                    go_simp
                    try with_reducible rfl
                try simp only [Act.put, List.setIfInBounds_toArray, List.set_cons_zero, List.set_cons_succ]
                refine wpAnyH_take (i := 8) (oi := ?oi8g) (v := ?v8g) ?hi8g ?hs8g ?hf8g ?hr8g ?hQ8g ?hy8g hHeld ?rest8g
                case hi8g =>
                  (try simp only [List.getElem?_toArray, List.getElem?_cons_succ, List.getElem?_cons_zero])
                  exact rfl
                case hs8g => kernel_rfl
                case hf8g => kernel_rfl
                case hr8g => kernel_rfl
                case hQ8g => exact fun _ _ _ h => h
                case hy8g =>
                  refine Or.inl ⟨?hw8g, ?hrun8g⟩
                  case hw8g => kernel_rfl
                  case hrun8g =>
                    intro w hSw
                    (try dsimp only at hSw)
                    go_simp
                    try with_reducible rfl
                try simp only [Act.put, List.setIfInBounds_toArray, List.set_cons_zero, List.set_cons_succ]
                refine wpAnyH_take (i := 9) (oi := ?oi9g) (v := ?v9g) ?hi9g ?hs9g ?hf9g ?hr9g ?hQ9g ?hy9g hHeld ?rest9g
                case hi9g =>
                  (try simp only [List.getElem?_toArray, List.getElem?_cons_succ, List.getElem?_cons_zero])
                  exact rfl
                case hs9g => kernel_rfl
                case hf9g => kernel_rfl
                case hr9g => kernel_rfl
                case hQ9g => exact fun _ _ _ h => h
                case hy9g =>
                  refine Or.inl ⟨?hw9g, ?hrun9g⟩
                  case hw9g => kernel_rfl
                  case hrun9g =>
                    intro w hSw
                    (try dsimp only at hSw)
                    go_simp
                    try with_reducible rfl
                try simp only [Act.put, List.setIfInBounds_toArray, List.set_cons_zero, List.set_cons_succ]
                refine wpAnyH_take (i := 10) (oi := ?oi10g) (v := ?v10g) ?hi10g ?hs10g ?hf10g ?hr10g ?hQ10g ?hy10g hHeld ?rest10g
                case hi10g =>
                  (try simp only [List.getElem?_toArray, List.getElem?_cons_succ, List.getElem?_cons_zero])
                  exact rfl
                case hs10g => kernel_rfl
                case hf10g => kernel_rfl
                case hr10g => kernel_rfl
                case hQ10g => exact fun _ _ _ h => h
                case hy10g =>
                  refine Or.inl ⟨?hw10g, ?hrun10g⟩
                  case hw10g => kernel_rfl
                  case hrun10g =>
                    intro w hSw
                    (try dsimp only at hSw)
                    go_simp
                    try with_reducible rfl
                try simp only [Act.put, List.setIfInBounds_toArray, List.set_cons_zero, List.set_cons_succ]
                refine wpAnyH_ready (rs := [11]) (by kernel_rfl) (by simp) ?_
                refine AllReadyH.cons (o := ?o11g) ?ho11g (fun K hK => ?st11g) AllReadyH.nil
                case ho11g =>
                  (try simp only [List.getElem?_toArray, List.getElem?_cons_succ, List.getElem?_cons_zero])
                  exact rfl
                go_simp
                refine hK.out _ _ ?_ (fun hHeld => ?_)
                · exact ⟨(hk3.alloc _).cell 3, (hk3.alloc _).cell 4, (hk3.alloc _).cell 5, (hk3.alloc _).cell 6⟩
                clear hK K
                try simp only [Act.put, List.setIfInBounds_toArray, List.set_cons_zero, List.set_cons_succ]
                refine wpAnyH_ready (rs := [12]) (by kernel_rfl) (by simp) ?_
                refine AllReadyH.cons (o := ?o12g) ?ho12g (fun K hK => ?st12g) AllReadyH.nil
                case ho12g =>
                  (try simp only [List.getElem?_toArray, List.getElem?_cons_succ, List.getElem?_cons_zero])
                  exact rfl
                go_simp
                go_at_call 64
                refine (HI4.out _).mono ?_
                rintro e w' ⟨rfl, rfl⟩
                go_wp2
                refine hK.out _ _ ?_ (fun hHeld => ?_)
                · exact hHeld
                clear hK K
                try simp only [Act.put, List.setIfInBounds_toArray, List.set_cons_zero, List.set_cons_succ]
                refine wpAnyH_ready (rs := [13]) (by kernel_rfl) (by simp) ?_
                refine AllReadyH.cons (o := ?o13g) ?ho13g (fun K hK => ?st13g) AllReadyH.nil
                case ho13g =>
                  (try simp only [List.getElem?_toArray, List.getElem?_cons_succ, List.getElem?_cons_zero])
                  exact rfl
                go_simp
                go_at_call 65
                refine (HARB.out _).mono ?_
                rintro e w5 ⟨rfl, hb5⟩
                have hk5 := (hk3.alloc (.cells #[.int .i64 2, .int .i64 7, .int .i64 10, .int .i64 11] 3)).below hb5
                have HB5 := Lib.hid ((HB3.out.alloc HB3.out.size (.cells #[.int .i64 2, .int .i64 7, .int .i64 10, .int .i64 11] 3)).trans (hb5.mono (HB3.out.alloc HB3.out.size (.cells #[.int .i64 2, .int .i64 7, .int .i64 10, .int .i64 11] 3)).size))
                clear hb5
                go_wp2
                refine hK.out _ _ ?_ (fun hHeld => ?_)
                · exact ⟨hk5.cell 3, hk5.cell 4, hk5.cell 5, hk5.cell 6⟩
                clear hK K
                try simp only [Act.put, List.setIfInBounds_toArray, List.set_cons_zero, List.set_cons_succ]
                refine wpAnyH_take (i := 14) (oi := ?oi14g) (v := ?v14g) ?hi14g ?hs14g ?hf14g ?hr14g ?hQ14g ?hy14g hHeld ?rest14g
                case hi14g =>
                  (try simp only [List.getElem?_toArray, List.getElem?_cons_succ, List.getElem?_cons_zero])
                  exact rfl
                case hs14g => kernel_rfl
                case hf14g => kernel_rfl
                case hr14g => kernel_rfl
                case hQ14g => exact fun _ _ _ h => h
                case hy14g =>
                  refine Or.inl ⟨?hw14g, ?hrun14g⟩
                  case hw14g => kernel_rfl
                  case hrun14g =>
                    intro w hSw
                    (try dsimp only at hSw)
                    go_simp
                    try with_reducible rfl
                try simp only [Act.put, List.setIfInBounds_toArray, List.set_cons_zero, List.set_cons_succ]
                refine wpAnyH_take (i := 15) (oi := ?oi15g) (v := ?v15g) ?hi15g ?hs15g ?hf15g ?hr15g ?hQ15g ?hy15g hHeld ?rest15g
                case hi15g =>
                  (try simp only [List.getElem?_toArray, List.getElem?_cons_succ, List.getElem?_cons_zero])
                  exact rfl
                case hs15g => kernel_rfl
                case hf15g => kernel_rfl
                case hr15g => kernel_rfl
                case hQ15g => exact fun _ _ _ h => h
                case hy15g =>
                  refine Or.inl ⟨?hw15g, ?hrun15g⟩
                  case hw15g => kernel_rfl
                  case hrun15g =>
                    intro w hSw
                    (try dsimp only at hSw)
                    go_simp
                    try with_reducible rfl
                try simp only [Act.put, List.setIfInBounds_toArray, List.set_cons_zero, List.set_cons_succ]
                refine wpAnyH_done (by kernel_rfl) ?_ _
                go_wp2
                go_meet
                case rel => exact ⟨by rw [hA]; rfl, HB5.out⟩
            case rest =>
              obtain ⟨rfl, hb3⟩ := hcut
              have HB3 := Lib.hid (HB2.out.trans (hb3.mono HB2.out.size))
              have HC3 := Lib.hid (HC2.out.below hb3)
              have HGR := Lib.hid hG
              clear hb3 y0 y1 y2 y3 y4 y5 y6 y7 y8
              cases hAB : (argR a (hasA k) && argR b (hasB k)) with
              | false =>
                go_wp2
                go_ret
                exact ⟨by rw [oneK_ab hAB]; rfl, HB3.out⟩
              | true =>
                have HAB := Lib.hid hAB
                clear hAB
                obtain ⟨⟨y0, y1, y2, y3, y4, y5, y6, y7, y8⟩, -⟩ := nine_cells HC3.out
                have hlt3 := HC3.out.lt
                go_upto_region 13 with (fail)
                obtain ⟨W3, hW3⟩ : ∃ W3, W3 = wc := ⟨_, rfl⟩
                go_cut [110] from 7 (fun s110 wx => s110 = .bool (!loopR ⟨k, c, r, a, b⟩) ∧ wc = wx)
                case first =>
                  by_cases h12 : k = 12
                  · have g3 : ((k : Int) == 12) = true := by simp [h12]
                    have HK12 := Lib.hid h12
                    clear h12
                    by_cases ha1 : a.1 = 0
                    · have g4 : (a.1 != 0) = false := by simp [ha1]
                      have HA1 := Lib.hid ha1
                      clear ha1
                      by_cases ha2 : a.2 < 0
                      · have g5 : decide (a.2 < 0) = true := decide_eq_true ha2
                        go_wp2
                        go_meet
                        case rel => exact ⟨by unfold loopR; simp [HK12.out, HA1.out, show ¬ 0 ≤ a.2 by omega], rfl⟩
                      · have g5 : decide (a.2 < 0) = false := decide_eq_false ha2
                        by_cases ha3 : 5 < a.2
                        · have g6 : decide (5 < a.2) = true := decide_eq_true ha3
                          go_wp2
                          go_meet
                          case rel => exact ⟨by unfold loopR; simp [HK12.out, HA1.out, show ¬ a.2 ≤ 5 by omega], rfl⟩
                        · have g6 : decide (5 < a.2) = false := decide_eq_false ha3
                          go_wp2
                          go_meet
                          case rel => exact ⟨by unfold loopR; simp [HK12.out, HA1.out, show a.2 ≤ 5 by omega, show 0 ≤ a.2 by omega], rfl⟩
                    · have g4 : (a.1 != 0) = true := by simp [ha1]
                      go_wp2
                      go_meet
                      case rel => exact ⟨by unfold loopR; simp [HK12.out, ha1], rfl⟩
                  · have g3 : ((k : Int) == 12) = false := by simp; omega
                    go_wp2
                    go_meet
                    case rel => exact ⟨by unfold loopR; simp [h12], rfl⟩
                case rest =>
                  obtain ⟨rfl, rfl⟩ := hcut
                  cases hL : loopR ⟨k, c, r, a, b⟩ with
                  | false =>
                    go_wp2
                    go_ret
                    exact ⟨by rw [oneK_loop hL]; rfl, HB3.out⟩
                  | true =>
                    have HFIN := Lib.hid (fun (nb ne : Bool) => oneK_fin (nb := nb) (ne := ne) h1 h2 (hR4.trans hC) HOK.out HGR.out HAB.out hL)
                    clear hL
                    go_upto_region 15 with (fail)
                    by_cases hb0 : bn = 0
                    · have g3 : ((bn : Int) == 0) = true := by simp [hb0]
                      have HB0 := Lib.hid hb0
                      clear hb0
                      by_cases he : en = 0
                      · have g7 : ((en : Int) == 0) = true := by simp [he]
                        have HE0 := Lib.hid he
                        clear he
                        go_wp2
                        go_ret
                        exact ⟨by rw [HFIN.out]; simp [HB0.out, HE0.out], HB3.out⟩
                      · have g7 : ((en : Int) == 0) = false := by simp; omega
                        by_cases hk11 : k = 11
                        · have g8 : ((k : Int) == 11) = true := by simp [hk11]
                          have HK11 := Lib.hid hk11
                          clear hk11
                          go_wp2
                          go_ret
                          exact ⟨by rw [HFIN.out]; simp [HB0.out, HK11.out], HB3.out⟩
                        · have g8 : ((k : Int) == 11) = false := by simp; omega
                          by_cases hk14 : k = 14
                          · have g9 : ((k : Int) == 14) = true := by simp [hk14]
                            have HK14 := Lib.hid hk14
                            clear hk14
                            go_wp2
                            go_ret
                            exact ⟨by rw [HFIN.out]; simp [HB0.out, HK14.out], HB3.out⟩
                          · have g9 : ((k : Int) == 14) = false := by simp; omega
                            go_wp2
                            go_ret
                            exact ⟨by rw [HFIN.out]; simp [HB0.out, he, hk11, hk14], HB3.out⟩
                    · have g3 : ((bn : Int) == 0) = false := by simp; omega
                      by_cases h11 : 11 ≤ k
                      · have g4 : decide ((11 : Int) ≤ (k : Int)) = true := decide_eq_true (by omega)
                        have g4' : (11 : Int) ≤ (k : Int) := by omega
                        by_cases h14 : k ≤ 14
                        · have g5 : decide ((k : Int) ≤ 14) = true := decide_eq_true (by omega)
                          have g5' : (k : Int) ≤ 14 := by omega
                          by_cases he : en = 0
                          · have g7 : ((en : Int) == 0) = true := by simp [he]
                            have HE0 := Lib.hid he
                            clear he
                            go_wp2
                            go_ret
                            exact ⟨by rw [HFIN.out]; simp [hb0, h11, h14, HE0.out], HB3.out⟩
                          · have g7 : ((en : Int) == 0) = false := by simp; omega
                            by_cases hk11 : k = 11
                            · have g8 : ((k : Int) == 11) = true := by simp [hk11]
                              have HK11 := Lib.hid hk11
                              clear hk11
                              go_wp2
                              go_ret
                              exact ⟨by rw [HFIN.out]; simp [hb0, HK11.out], HB3.out⟩
                            · have g8 : ((k : Int) == 11) = false := by simp; omega
                              by_cases hk14 : k = 14
                              · have g9 : ((k : Int) == 14) = true := by simp [hk14]
                                have HK14 := Lib.hid hk14
                                clear hk14
                                go_wp2
                                go_ret
                                exact ⟨by rw [HFIN.out]; simp [hb0, HK14.out], HB3.out⟩
                              · have g9 : ((k : Int) == 14) = false := by simp; omega
                                go_wp2
                                go_ret
                                exact ⟨by rw [HFIN.out]; simp [hb0, h11, h14, he, hk11, hk14], HB3.out⟩
                        · have g5 : decide ((k : Int) ≤ 14) = false := decide_eq_false (by omega)
                          have g5' : ¬ (k : Int) ≤ 14 := by omega
                          go_wp2
                          go_ret
                          exact ⟨by rw [HFIN.out]; simp [h14], HB3.out⟩
                      · have g4 : decide ((11 : Int) ≤ (k : Int)) = false := decide_eq_false (by omega)
                        have g4' : ¬ (11 : Int) ≤ (k : Int) := by omega
                        go_wp2
                        go_ret
                        exact ⟨by rw [HFIN.out]; simp [h11], HB3.out⟩
end Go.Proofs.YtkpdacfiglpgeaaGreatDoor

/- Layer 9: the document's judgement of a transaction, for any kinds of collections. -/
namespace Go.Proofs.YtkpdacfiglpgeaaGreatDoor
open Go.RowKit Tx
set_option maxRecDepth 10000

theorem one_out {z : Int} (hz : z < 1 ∨ 16 < z) (h : Sh) {kv : Value} (w : World) (bp ep : Option Addr) (bn bc en ec : Nat) :
    Calls Tryz.prog 39 #[stV z h (.slice bp bn bc) (.slice ep en ec), kv] w (OneKPost false w) := by
  have HB0 := Lib.hid ((Below.refl w.heap.size w).alloc (Nat.le_refl _) (.cells #[.int .i64 z, .int .i64 h.coll, .int .i64 h.reg, .int .i64 h.a.1, .int .i64 h.a.2, .int .i64 h.b.1, .int .i64 h.b.2, .slice bp bn bc, .slice ep en ec] 50))
  unfold stV
  by_cases h1 : z < 1
  · have g1 : decide (z < 1) = true := decide_eq_true h1
    go_enter Tryz.func39, Tryz.ntmps39
    go_wp2
    go_ret
    exact ⟨rfl, HB0.out⟩
  · have g1 : decide (z < 1) = false := decide_eq_false h1
    have g2' : 16 < z := by omega
    have g2 : decide (16 < z) = true := decide_eq_true g2'
    clear hz
    go_enter Tryz.func39, Tryz.ntmps39
    go_wp2
    go_ret
    exact ⟨rfl, HB0.out⟩
theorem one_all (ks : List Int) {z : Int} {h : Sh} (hz : z.toNat = h.kind) {kb cap : Nat} {w : World} (hk : KindsL w kb ks) (bp ep : Option Addr) (bn bc en ec : Nat) :
    Calls Tryz.prog 39 #[stV z h (.slice bp bn bc) (.slice ep en ec), .slice (some ⟨kb, 0, none⟩) ks.length cap] w (OneKPost (oneK ks h (decide (bn = 0)) (decide (en = 0))) w) := by
  by_cases ho : z < 1 ∨ 16 < z
  · have : oneK ks h (decide (bn = 0)) (decide (en = 0)) = false := by
      unfold oneK
      rcases ho with ho | ho
      · rw [decide_eq_false (show ¬ 1 ≤ h.kind by omega)]; simp
      · rw [decide_eq_false (show ¬ h.kind ≤ 16 by omega)]; simp
    rw [this]
    exact one_out ho h w bp ep bn bc en ec
  · obtain ⟨k, c, r, a, b⟩ := h
    simp only at hz
    obtain rfl : z = (k : Int) := by omega
    exact oneK_ok k (by omega) (by omega) c r a b ks hk bp ep bn bc en ec
def RightD (r : Int × Int) (w : World) (e : Ending) (w' : World) : Prop := e = .returned (.tuple #[.int .i64 r.1, .int .i64 r.2]) ∧ Below w.heap.size w w'
def RdJ (ks : List Int) (ls : List (St × Nat)) (w1 : World) (gf : Nat) (i : Value) (wx : World) : Prop :=
  ∃ k : Nat, i = .int .i64 (k : Int) ∧ k ≤ ls.length ∧ Below w1.heap.size w1 wx ∧ judge ks ls 0 = judge ks (ls.drop k) k ∧ ls.length + 1 ≤ k + gf
theorem rightV_of {ks : List Int} {l : List St} {y : Int × Nat} (h : judge ks (flatL 1 l) 0 = some y) : rightV ks l = (y.1, (y.2 : Int)) := by
  unfold rightV
  rw [h]
theorem rightV_none {ks : List Int} {l : List St} (h : judge ks (flatL 1 l) 0 = none) : rightV ks l = (0, 0) := by
  unfold rightV
  rw [h]
set_option maxHeartbeats 4000000 in
theorem rightD_ok {l : List St} {v : Value} {B : Nat} {w : World} (hl : SlR B w l v) (hB : B ≤ w.heap.size) (ks : List Int) {kb cap : Nat} (hk : KindsL w kb ks) (hcnt : cntL l ≤ 900) :
    Calls Tryz.prog 18 #[v, .slice (some ⟨kb, 0, none⟩) ks.length cap] w (RightD (rightV ks l) w) := by
  have HLN := Lib.hid (linesN_ok B w.heap.size (cntL l + 1) l v 1 [] none 0 0 [] w (by omega) hl hB (Nat.le_refl _) rfl (World.ownsRow_nil _ _ _ _) rfl (by simpa using (by omega : cntL l ≤ 1000)) (by omega))
  obtain ⟨pt, cp, rfl⟩ := hl.shape
  have HK := Lib.hid hk
  clear hl hk
  go_enter Tryz.func18, Tryz.ntmps18
  go_wp2_with fail
  refine HLN.out.mono ?_
  rintro _ w1 ⟨p1, n, c1, cs, hn, rfl, hrow, hls, hb1⟩
  rw [List.nil_append] at hn hls
  have HB1 := Lib.hid hb1; have HK1 := Lib.hid (HK.out.below hb1); have HROW := Lib.hid hrow; have HLS := Lib.hid hls
  have hn2 : n ≤ 900 := by rw [← hn, flatL_len]; omega
  have HN := Lib.hid hn
  clear hb1 hrow hls HLN hn
  go_wp2
  go_loopg [7] (n + 1) (fun gf i wx => RdJ ks (flatL 1 l) w1 gf i wx)
  case atStart => exact ⟨0, rfl, Nat.zero_le _, Below.refl _ _, by simp, by rw [HN.out]; omega⟩
  case round =>
    obtain ⟨k, rfl, hk, hb, hj, hfu⟩ := hrel
    rw [HN.out] at hk hfu
    have HB := Lib.hid hb; have HJ := Lib.hid hj
    have hbs := hb.size
    by_cases hlt : k < n
    · obtain ⟨gk', rfl⟩ : ∃ g', gk = g' + 1 := ⟨gk - 1, by omega⟩
      obtain ⟨⟨⟨h, b, e⟩, d⟩, hx⟩ : ∃ x, (flatL 1 l)[k]? = some x := ⟨_, List.getElem?_eq_getElem (by rw [HN.out]; exact hlt)⟩
      obtain ⟨c0, hc0, hq⟩ := HLS.out.get hx
      obtain ⟨z, bp, bc, ep, ec, hz, rfl⟩ := hc0
      obtain ⟨g, c2, hv, hgB, hgl⟩ := World.ownsRow.form HROW.out (by omega)
      simp only [Value.slice.injEq, true_and] at hv
      obtain ⟨rfl, rfl⟩ := hv
      have hcell : ∀ (j : Nat) x, (lnL z h (.slice bp b.length bc) (.slice ep e.length ec) d)[j]? = some x → wr.cell? ⟨g, k * 10 + j, none⟩ = some x := fun j x hjx => by
        have hj10 : j < 10 := (List.getElem?_eq_some_iff.1 hjx).1
        have q1 := HROW.out.cells (g := g) rfl (10 * k + j) x ((hq j hj10).trans hjx)
        rw [Addr.add_lit, Nat.zero_add] at q1
        have q2 := (hb.cell (p := ⟨g, 10 * k + j, none⟩) hgl).trans q1
        rwa [Nat.mul_comm] at q2
      have HNX := Lib.hid (judge_next (ks := ks) hx)
      have g1 : decide ((k : Int) < (n : Int)) = true := decide_eq_true (by omega)
      have g1' : (k : Int) < (n : Int) := by omega
      have y0 : wr.cell? ⟨g, k * 10, none⟩ = _ := hcell 0 _ rfl
      have y1 := hcell 1 _ rfl; have y2 := hcell 2 _ rfl; have y3 := hcell 3 _ rfl; have y4 := hcell 4 _ rfl; have y5 := hcell 5 _ rfl; have y6 := hcell 6 _ rfl; have y7 := hcell 7 _ rfl; have y8 := hcell 8 _ rfl; have y9 := hcell 9 _ rfl
      have HKR := Lib.hid (HK1.out.below hb)
      have HONE := Lib.hid (one_all ks hz (cap := cap) HKR.out bp ep b.length bc e.length ec)
      clear hb hj hx hq hcell
      by_cases h100 : 100 ≤ k
      · have g2 : decide ((100 : Int) ≤ (k : Int)) = true := decide_eq_true (by omega)
        have g2' : (100 : Int) ≤ (k : Int) := by omega
        have HR := Lib.hid (rightV_of (l := l) (y := (8, k + 1)) (by rw [HJ.out, HNX.out]; simp [judge1, h100]))
        go_wp2
        go_ret2
        unfold RightD
        rw [HR.out]
        exact ⟨rfl, HB1.out.trans (HB.out.mono HB1.out.size)⟩
      · have g2 : decide ((100 : Int) ≤ (k : Int)) = false := decide_eq_false (by omega)
        have g2' : ¬ (100 : Int) ≤ (k : Int) := by omega
        by_cases h8 : 8 < d
        · have g3 : decide ((8 : Int) < (d : Int)) = true := decide_eq_true (by omega)
          have g3' : (8 : Int) < (d : Int) := by omega
          have HR := Lib.hid (rightV_of (l := l) (y := (10, k + 1)) (by rw [HJ.out, HNX.out]; simp [judge1, h100, h8]))
          go_wp2
          go_ret2
          unfold RightD
          rw [HR.out]
          exact ⟨rfl, HB1.out.trans (HB.out.mono HB1.out.size)⟩
        · have g3 : decide ((8 : Int) < (d : Int)) = false := decide_eq_false (by omega)
          have g3' : ¬ (8 : Int) < (d : Int) := by omega
          rw [len_empty, len_empty] at HONE
          cases hO : oneK ks h b.isEmpty e.isEmpty with
          | false =>
            rw [hO] at HONE
            have HR := Lib.hid (rightV_of (l := l) (y := (9, k + 1)) (by rw [HJ.out, HNX.out]; simp [judge1, h100, h8, hO]))
            go_wp2_with fail
            refine HONE.out.mono ?_
            rintro _ w2 ⟨rfl, hb2⟩
            have HB2 := Lib.hid (HB1.out.trans ((HB.out.trans (hb2.mono hbs)).mono HB1.out.size))
            clear hb2
            go_wp2
            go_ret2
            unfold RightD
            rw [HR.out]
            exact ⟨rfl, HB2.out⟩
          | true =>
            rw [hO] at HONE
            have HJ2 := Lib.hid (show judge ks (flatL 1 l) 0 = judge ks ((flatL 1 l).drop (k + 1)) (k + 1) by
              rw [HJ.out, HNX.out]
              simp [judge1, h100, h8, hO])
            go_wp2_with fail
            refine HONE.out.mono ?_
            rintro _ w2 ⟨rfl, hb2⟩
            have HB2 := Lib.hid (HB.out.trans (hb2.mono hbs))
            clear hb2
            go_wp2
            go_roundg gk'
            case measure => omega
            case rel => exact ⟨k + 1, by go_num, by rw [HN.out]; omega, HB2.out, HJ2.out, by rw [HN.out]; omega⟩
    · obtain rfl : k = n := by omega
      have g1 : decide ((k : Int) < (k : Int)) = false := decide_eq_false (by omega)
      have HR := Lib.hid (rightV_none (l := l) (by rw [hj, List.drop_eq_nil_of_le (by rw [HN.out]; exact Nat.le_refl _)]; rfl))
      clear hb hj
      go_wp2
      go_ret2
      unfold RightD
      rw [HR.out]
      exact ⟨rfl, HB1.out.trans (HB.out.mono HB1.out.size)⟩
end Go.Proofs.YtkpdacfiglpgeaaGreatDoor
