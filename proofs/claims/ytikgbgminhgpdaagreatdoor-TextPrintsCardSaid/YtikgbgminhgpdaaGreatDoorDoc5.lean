/- Layer 9: the document's judgement of a transaction. -/
import Derived.Test.YtikgbgminhgpdaaGreatDoorDoc4
namespace Go.Proofs.YtikgbgminhgpdaaGreatDoor
open Go.RowKit Tx
set_option maxRecDepth 10000

theorem one_out {z : Int} (hz : z < 1 ∨ 16 < z) (h : Sh) {kv : Value} (w : World) (bp ep : Option Addr) (bn bc en ec : Nat) :
    Calls Tryz.prog 39 #[stV z h (.slice bp bn bc) (.slice ep en ec), kv] w (OnePost false w) := by
  have HB0 := Lib.hid ((Below.refl w.heap.size w).alloc (Nat.le_refl _) (.cells #[.int .i64 z, .int .i64 h.coll, .int .i64 h.reg, .int .i64 h.a.1, .int .i64 h.a.2, .int .i64 h.b.1, .int .i64 h.b.2, .slice bp bn bc, .slice ep en ec] 45))
  unfold stV
  by_cases h1 : z < 1
  · have g1 : decide (z < 1) = true := decide_eq_true h1
    go_enter Tryz.func39, Tryz.ntmps39
    go_wp2
    go_ret
    exact ⟨rfl, HB0.out⟩
  · have g1 : decide (z < 1) = false := decide_eq_false h1
    have g2' : 16 < z := by omega
    have g2 : decide (16 < z) = true := decide_eq_true g2'
    clear hz
    go_enter Tryz.func39, Tryz.ntmps39
    go_wp2
    go_ret
    exact ⟨rfl, HB0.out⟩
theorem one_all {z : Int} {h : Sh} (hz : z.toNat = h.kind) {kb cap : Nat} {w : World} (hk : KindsAt w kb) (bp ep : Option Addr) (bn bc en ec : Nat) :
    Calls Tryz.prog 39 #[stV z h (.slice bp bn bc) (.slice ep en ec), .slice (some ⟨kb, 0, none⟩) 8 cap] w (OnePost (oneR h (decide (bn = 0)) (decide (en = 0))) w) := by
  by_cases ho : z < 1 ∨ 16 < z
  · have : oneR h (decide (bn = 0)) (decide (en = 0)) = false := by
      unfold oneR
      rcases ho with ho | ho
      · rw [decide_eq_false (show ¬ 1 ≤ h.kind by omega)]; simp
      · rw [decide_eq_false (show ¬ h.kind ≤ 16 by omega)]; simp
    rw [this]
    exact one_out ho h w bp ep bn bc en ec
  · obtain ⟨k, c, r, a, b⟩ := h
    simp only at hz
    obtain rfl : z = (k : Int) := by omega
    exact one_ok k (by omega) (by omega) c r a b hk bp ep bn bc en ec
/-- The document's answer. -/
def rightV (l : List St) : Int × Int := match walkL l 1 0 with
  | .error x => (x.1, (x.2 : Int))
  | .ok _ => (0, 0)
def RightD (r : Int × Int) (w : World) (e : Ending) (w' : World) : Prop := e = .returned (.tuple #[.int .i64 r.1, .int .i64 r.2]) ∧ Below w.heap.size w w'
def RdJ (ls : List (St × Nat)) (w1 : World) (gf : Nat) (i : Value) (wx : World) : Prop :=
  ∃ k : Nat, i = .int .i64 (k : Int) ∧ k ≤ ls.length ∧ Below w1.heap.size w1 wx ∧ judge ls 0 = judge (ls.drop k) k ∧ ls.length + 1 ≤ k + gf
theorem judge_next {ls : List (St × Nat)} {k : Nat} {x : St × Nat} (hx : ls[k]? = some x) : judge (ls.drop k) k = match judge1 x k with
    | some y => some y
    | none => judge (ls.drop (k + 1)) (k + 1) := by
  obtain ⟨hl, e⟩ := List.getElem?_eq_some_iff.1 hx
  rw [List.drop_eq_getElem_cons hl, e]
  conv => lhs; unfold judge
  rfl
theorem rightV_of {l : List St} {y : Int × Nat} (h : judge (flatL 1 l) 0 = some y) : rightV l = (y.1, (y.2 : Int)) := by
  rw [judged] at h
  unfold rightV
  cases hw : walkL l 1 0 with
  | error x => rw [hw] at h; simp only [Option.some.injEq] at h; rw [h]
  | ok m => rw [hw] at h; cases h
theorem rightV_none {l : List St} (h : judge (flatL 1 l) 0 = none) : rightV l = (0, 0) := by
  rw [judged] at h
  unfold rightV
  cases hw : walkL l 1 0 with
  | error x => rw [hw] at h; cases h
  | ok m => rfl
set_option maxHeartbeats 4000000 in
theorem rightD_ok {l : List St} {v : Value} {B : Nat} {w : World} (hl : SlR B w l v) (hB : B ≤ w.heap.size) {kb cap : Nat} (hk : KindsAt w kb) (hcnt : cntL l ≤ 900) :
    Calls Tryz.prog 22 #[v, .slice (some ⟨kb, 0, none⟩) 8 cap] w (RightD (rightV l) w) := by
  have HLN := Lib.hid (linesN_ok B w.heap.size (cntL l + 1) l v 1 [] none 0 0 [] w (by omega) hl hB (Nat.le_refl _) rfl (World.ownsRow_nil _ _ _ _) rfl (by simpa using (by omega : cntL l ≤ 1000)) (by omega))
  obtain ⟨pt, cp, rfl⟩ := hl.shape
  have HK := Lib.hid hk
  clear hl hk
  go_enter Tryz.func22, Tryz.ntmps22
  go_wp2_with fail
  refine HLN.out.mono ?_
  rintro _ w1 ⟨p1, n, c1, cs, hn, rfl, hrow, hls, hb1⟩
  rw [List.nil_append] at hn hls
  have HB1 := Lib.hid hb1; have HK1 := Lib.hid (HK.out.below hb1); have HROW := Lib.hid hrow; have HLS := Lib.hid hls
  have hn2 : n ≤ 900 := by rw [← hn, flatL_len]; omega
  have HN := Lib.hid hn
  clear hb1 hrow hls HLN hn
  go_wp2
  go_loopg [7] (n + 1) (fun gf i wx => RdJ (flatL 1 l) w1 gf i wx)
  case atStart => exact ⟨0, rfl, Nat.zero_le _, Below.refl _ _, by simp, by rw [HN.out]; omega⟩
  case round =>
    obtain ⟨k, rfl, hk, hb, hj, hfu⟩ := hrel
    rw [HN.out] at hk hfu
    have HB := Lib.hid hb; have HJ := Lib.hid hj
    have hbs := hb.size
    by_cases hlt : k < n
    · obtain ⟨gk', rfl⟩ : ∃ g', gk = g' + 1 := ⟨gk - 1, by omega⟩
      obtain ⟨⟨⟨h, b, e⟩, d⟩, hx⟩ : ∃ x, (flatL 1 l)[k]? = some x := ⟨_, List.getElem?_eq_getElem (by rw [HN.out]; exact hlt)⟩
      obtain ⟨c0, hc0, hq⟩ := HLS.out.get hx
      obtain ⟨z, bp, bc, ep, ec, hz, rfl⟩ := hc0
      obtain ⟨g, c2, hv, hgB, hgl⟩ := World.ownsRow.form HROW.out (by omega)
      simp only [Value.slice.injEq, true_and] at hv
      obtain ⟨rfl, rfl⟩ := hv
      have hcell : ∀ (j : Nat) x, (lnL z h (.slice bp b.length bc) (.slice ep e.length ec) d)[j]? = some x → wr.cell? ⟨g, k * 10 + j, none⟩ = some x := fun j x hjx => by
        have hj10 : j < 10 := (List.getElem?_eq_some_iff.1 hjx).1
        have q1 := HROW.out.cells (g := g) rfl (10 * k + j) x ((hq j hj10).trans hjx)
        rw [Addr.add_lit, Nat.zero_add] at q1
        have q2 := (hb.cell (p := ⟨g, 10 * k + j, none⟩) hgl).trans q1
        rwa [Nat.mul_comm] at q2
      have HNX := Lib.hid (judge_next hx)
      have g1 : decide ((k : Int) < (n : Int)) = true := decide_eq_true (by omega)
      have g1' : (k : Int) < (n : Int) := by omega
      have y0 : wr.cell? ⟨g, k * 10, none⟩ = _ := hcell 0 _ rfl
      have y1 := hcell 1 _ rfl; have y2 := hcell 2 _ rfl; have y3 := hcell 3 _ rfl; have y4 := hcell 4 _ rfl; have y5 := hcell 5 _ rfl; have y6 := hcell 6 _ rfl; have y7 := hcell 7 _ rfl; have y8 := hcell 8 _ rfl; have y9 := hcell 9 _ rfl
      have HKR := Lib.hid (HK1.out.below hb)
      have HONE := Lib.hid (one_all hz (cap := cap) HKR.out bp ep b.length bc e.length ec)
      clear hb hj hx hq hcell
      by_cases h100 : 100 ≤ k
      · have g2 : decide ((100 : Int) ≤ (k : Int)) = true := decide_eq_true (by omega)
        have g2' : (100 : Int) ≤ (k : Int) := by omega
        have HR := Lib.hid (rightV_of (l := l) (y := (8, k + 1)) (by rw [HJ.out, HNX.out]; simp [judge1, h100]))
        go_wp2
        go_ret2
        unfold RightD
        rw [HR.out]
        exact ⟨rfl, HB1.out.trans (HB.out.mono HB1.out.size)⟩
      · have g2 : decide ((100 : Int) ≤ (k : Int)) = false := decide_eq_false (by omega)
        have g2' : ¬ (100 : Int) ≤ (k : Int) := by omega
        by_cases h8 : 8 < d
        · have g3 : decide ((8 : Int) < (d : Int)) = true := decide_eq_true (by omega)
          have g3' : (8 : Int) < (d : Int) := by omega
          have HR := Lib.hid (rightV_of (l := l) (y := (10, k + 1)) (by rw [HJ.out, HNX.out]; simp [judge1, h100, h8]))
          go_wp2
          go_ret2
          unfold RightD
          rw [HR.out]
          exact ⟨rfl, HB1.out.trans (HB.out.mono HB1.out.size)⟩
        · have g3 : decide ((8 : Int) < (d : Int)) = false := decide_eq_false (by omega)
          have g3' : ¬ (8 : Int) < (d : Int) := by omega
          rw [len_empty, len_empty] at HONE
          cases hO : oneR h b.isEmpty e.isEmpty with
          | false =>
            rw [hO] at HONE
            have HR := Lib.hid (rightV_of (l := l) (y := (9, k + 1)) (by rw [HJ.out, HNX.out]; simp [judge1, h100, h8, hO]))
            go_wp2_with fail
            refine HONE.out.mono ?_
            rintro _ w2 ⟨rfl, hb2⟩
            have HB2 := Lib.hid (HB1.out.trans ((HB.out.trans (hb2.mono hbs)).mono HB1.out.size))
            clear hb2
            go_wp2
            go_ret2
            unfold RightD
            rw [HR.out]
            exact ⟨rfl, HB2.out⟩
          | true =>
            rw [hO] at HONE
            have HJ2 := Lib.hid (show judge (flatL 1 l) 0 = judge ((flatL 1 l).drop (k + 1)) (k + 1) by
              rw [HJ.out, HNX.out]
              simp [judge1, h100, h8, hO])
            go_wp2_with fail
            refine HONE.out.mono ?_
            rintro _ w2 ⟨rfl, hb2⟩
            have HB2 := Lib.hid (HB.out.trans (hb2.mono hbs))
            clear hb2
            go_wp2
            go_roundg gk'
            case measure => omega
            case rel => exact ⟨k + 1, by go_num, by rw [HN.out]; omega, HB2.out, HJ2.out, by rw [HN.out]; omega⟩
    · obtain rfl : k = n := by omega
      have g1 : decide ((k : Int) < (k : Int)) = false := decide_eq_false (by omega)
      have HR := Lib.hid (rightV_none (l := l) (by rw [hj, List.drop_eq_nil_of_le (by rw [HN.out]; exact Nat.le_refl _)]; rfl))
      clear hb hj
      go_wp2
      go_ret2
      unfold RightD
      rw [HR.out]
      exact ⟨rfl, HB1.out.trans (HB.out.mono HB1.out.size)⟩
end Go.Proofs.YtikgbgminhgpdaaGreatDoor
