/- Layers 9, 10: how many statements there are: the laws' weight. -/
import Derived.Test.YtikgbgminhgpdaaGreatDoorDoc1
import Derived.Deep.RegionHeld3
namespace Go.Proofs.YtikgbgminhgpdaaGreatDoor
open Go.RowKit Tx
set_option maxRecDepth 10000

def WtPost (w0 : World) (n : Nat) (e : Ending) (w' : World) : Prop := e = .returned (.int .i64 (n : Int)) ∧ Below w0.heap.size w0 w'
theorem weight_deep {v : Value} {d : Nat} (w : World) (h : 30 < d) (h2 : d ≤ 1000) : Calls Tryz.prog 17 #[v, .int .i64 (d : Int)] w (WtPost w 1000) := by
  have g1 : decide ((30 : Int) < (d : Int)) = true := decide_eq_true (by omega)
  have g1' : (30 : Int) < (d : Int) := by omega
  go_enter Tryz.func17, Tryz.ntmps17
  go_wp2
  go_ret
  exact ⟨rfl, Below.refl _ _⟩
set_option maxHeartbeats 4000000 in
theorem weight_ok (B : Nat) : ∀ (N : Nat) (l : List St) (v : Value) (d : Nat) (w : World), d + N = 32 → SlR B w l v → B ≤ w.heap.size → Calls Tryz.prog 17 #[v, .int .i64 (d : Int)] w (WtPost w (wtL d l))
  | 0, l, v, d, w, hd, _, _ => by
    have : wtL d l = 1000 := by unfold wtL cut; rw [if_pos (by omega)]
    rw [this]
    exact weight_deep w (by omega) (by omega)
  | N + 1, l, v, d, w, hd, hl, hB => by
    by_cases hd30 : 30 < d
    · have : wtL d l = 1000 := by unfold wtL cut; rw [if_pos hd30]
      rw [this]
      exact weight_deep w hd30 (by omega)
    have HW := Lib.hid (show wtL d l = min (wtSum d l) 1000 by unfold wtL cut; rw [if_neg hd30])
    have g0 : decide ((30 : Int) < (d : Int)) = false := decide_eq_false (by omega)
    have g0' : ¬ (30 : Int) < (d : Int) := by omega
    have hwd : IntKind.i64.wrap ((d : Int) + 1) = (d : Int) + 1 := IntWalk.i64_in _ (by omega)
    have IH := Lib.hid (fun (l : List St) (v : Value) (w : World) (hl : SlR B w l v) (hB : B ≤ w.heap.size) => (show Calls Tryz.prog 17 #[v, .int .i64 ((d : Int) + 1)] w (WtPost w (wtL (d + 1) l)) by
      have := weight_ok B N l v (d + 1) w (by omega) hl hB
      rwa [show ((d + 1 : Nat) : Int) = (d : Int) + 1 by omega] at this))
    obtain ⟨pt, cp, rfl⟩ := hl.shape
    have HL := Lib.hid hl
    clear hl
    go_enter Tryz.func17, Tryz.ntmps17
    go_wp2
    go_loopg [5, 6] 1002 (fun gf n i wx => ∃ (k m : Nat), n = .int .i64 (m : Int) ∧ i = .int .i64 (k : Int) ∧ k ≤ l.length ∧ k ≤ m ∧ m ≤ 3001 ∧ Below w.heap.size w wx ∧ wtSum d l = m + wtSum d (l.drop k) ∧ 1002 ≤ k + gf)
    case atStart => exact ⟨0, 0, rfl, rfl, Nat.zero_le _, Nat.le_refl _, by omega, Below.refl _ _, by simp, by omega⟩
    case round =>
      obtain ⟨k, m, rfl, rfl, hk, hkm, hm, hb, hsum, hfu⟩ := hrel
      have HB := Lib.hid hb
      have hbs := hb.size
      by_cases hlt : k < l.length ∧ m < 1000
      · obtain ⟨hlt, hm1⟩ := hlt
        obtain ⟨gk', rfl⟩ : ∃ g', gk = g' + 1 := ⟨gk - 1, by omega⟩
        obtain ⟨⟨h, b, e⟩, hs⟩ : ∃ s, l[k]? = some s := ⟨_, List.getElem?_eq_getElem hlt⟩
        have hlr := HL.out.below hb hB
        obtain ⟨g, off, cp', z, bv, ev, hv, hgB, hgl, hz, hcell, hbb, hee⟩ := hlr.get hs
        simp only [Value.slice.injEq] at hv
        obtain ⟨rfl, -, rfl⟩ := hv
        obtain ⟨bp, bc, rfl⟩ := hbb.shape
        obtain ⟨ep, ec, rfl⟩ := hee.shape
        have g1 : decide ((k : Int) < (l.length : Int)) = true := decide_eq_true (by omega)
        have g1' : (k : Int) < (l.length : Int) := by omega
        have g2 : decide ((m : Int) < 1000) = true := decide_eq_true (by omega)
        have g2' : (m : Int) < 1000 := by omega
        have y7 : wr.cell? ⟨g, off + k * 9 + 7, none⟩ = some (.slice bp b.length bc) := hcell 7 _ rfl
        have y8 : wr.cell? ⟨g, off + k * 9 + 8, none⟩ = some (.slice ep e.length ec) := hcell 8 _ rfl
        have HEE := Lib.hid hee
        have HC1 := Lib.hid (IH.out b _ (wr.drewN 1) (hbb.kept ((Kept.refl (fun _ => False) wr).drewN 1) (fun _ q _ => ⟨id, q⟩)) (Nat.le_trans hB hbs))
        have hx1 := cut_le (d + 1) (wtSum (d + 1) b)
        have hx2 := cut_le (d + 1) (wtSum (d + 1) e)
        have hnext : wtSum d l = (m + 1 + wtL (d + 1) b + wtL (d + 1) e) + wtSum d (l.drop (k + 1)) := by
          rw [hsum, wtSum_drop d l k _ hs]
          unfold wtS wtL
          omega
        have HN := Lib.hid hnext
        change wtL (d + 1) b ≤ 1000 at hx1
        change wtL (d + 1) e ≤ 1000 at hx2
        have hbwr := hB
        obtain ⟨x1, hX1⟩ : ∃ x, wtL (d + 1) b = x := ⟨_, rfl⟩
        obtain ⟨x2, hX2⟩ : ∃ x, wtL (d + 1) e = x := ⟨_, rfl⟩
        rw [hX1] at hx1 HC1 HN hnext
        rw [hX2] at hx2 HN hnext
        have HX2 := Lib.hid hX2
        have hw1 : IntKind.i64.wrap ((m : Int) + 1) = (m : Int) + 1 := IntWalk.i64_in _ (by omega)
        have hw2 : IntKind.i64.wrap ((m : Int) + 1 + (x1 : Int)) = (m : Int) + 1 + (x1 : Int) := IntWalk.i64_in _ (by omega)
        have hw3 : IntKind.i64.wrap ((m : Int) + 1 + (x1 : Int) + (x2 : Int)) = (m : Int) + 1 + (x1 : Int) + (x2 : Int) := IntWalk.i64_in _ (by omega)
        clear hcell hlr hbb hee hsum hnext hs hb hX1 hX2
        go_wp2_with fail
        go_region_held3 (fun w' => w'.cell? ⟨g, off + k * 9 + 7, none⟩ = some (.slice bp b.length bc) ∧ w'.cell? ⟨g, off + k * 9 + 8, none⟩ = some (.slice ep e.length ec))
          (first | with_reducible exact ⟨y7, y8⟩ | with_reducible exact ⟨q7, q8⟩ | with_reducible exact ⟨r7, r8⟩ | go_keep)
          (first | (go_at_call 17; refine HC2.out.mono ?_; rintro e2 w2 ⟨rfl, hb2⟩; (have r7 := (hb2.cell (p := ⟨g, off + k * 9 + 7, none⟩) (Nat.lt_of_lt_of_le hgl hs1)).trans q7; have r8 := (hb2.cell (p := ⟨g, off + k * 9 + 8, none⟩) (Nat.lt_of_lt_of_le hgl hs1)).trans q8; have HB2 := Lib.hid (HB1.out.trans (hb2.mono HB1.out.size)); clear hb2)) | (go_at_call 17; refine HC1.out.mono ?_; rintro e1 w1 ⟨rfl, hb1⟩; (have hb1' : Below wr.heap.size wr w1 := ⟨hb1.os, hb1.tape, hb1.output, hb1.size, hb1.block⟩; have q7 := (hb1'.cell (p := ⟨g, off + k * 9 + 7, none⟩) hgl).trans y7; have q8 := (hb1'.cell (p := ⟨g, off + k * 9 + 8, none⟩) hgl).trans y8); (have HC2 := Lib.hid (IH.out e _ w1 (HEE.out.below hb1' (Nat.le_trans hB hbs)) (Nat.le_trans hB (Nat.le_trans hbs hb1'.size))); have HB1 := Lib.hid (show Below w.heap.size w w1 from HB.out.trans (hb1'.mono hbs)); have hs1 : wr.heap.size ≤ w1.heap.size := hb1'.size; clear hb1 hb1')))
        all_goals
          go_wp2
          rw [HX2.out, hw3]
          go_roundg gk'
          case measure => omega
          case rel => exact ⟨k + 1, m + 1 + x1 + x2, by go_num, by go_num, hlt, by omega, by omega, HB2.out, by rw [HN.out], by omega⟩
      · have HS := Lib.hid hsum
        have hmin : min (m : Int) 1000 = ((wtL d l : Nat) : Int) := by
          rw [HW.out, hsum]
          rcases Nat.lt_or_ge k l.length with h | h
          · omega
          · rw [List.drop_eq_nil_of_le h]
            have : wtSum d [] = 0 := by unfold wtSum; rfl
            omega
        clear hsum hb
        by_cases hk2 : k < l.length
        · have g1 : decide ((k : Int) < (l.length : Int)) = true := decide_eq_true (by omega)
          have g1' : (k : Int) < (l.length : Int) := by omega
          have g2 : decide ((m : Int) < 1000) = false := decide_eq_false (by omega)
          have g2' : ¬ (m : Int) < 1000 := by omega
          go_wp2
          go_ret
          exact ⟨rfl, HB.out⟩
        · obtain rfl : k = l.length := by omega
          have g1 : decide ((l.length : Int) < (l.length : Int)) = false := decide_eq_false (by omega)
          go_wp2
          go_ret
          exact ⟨rfl, HB.out⟩
theorem few_ok {B : Nat} {l : List St} {v : Value} {w : World} (hl : SlR B w l v) (hB : B ≤ w.heap.size) : Calls Tryz.prog 7 #[v] w fun e w' => e = .returned (.bool (decide (wtL 0 l ≤ 250))) ∧ Below w.heap.size w w' := by
  have HW := Lib.hid (weight_ok B 32 l v 0 w (by omega) hl hB)
  obtain ⟨pt, cp, rfl⟩ := hl.shape
  clear hl
  have hle := cut_le 0 (wtSum 0 l)
  obtain ⟨x, hx⟩ : ∃ x, wtL 0 l = x := ⟨_, rfl⟩
  have hg : decide ((x : Int) ≤ 250) = decide (x ≤ 250) := by
    by_cases h : x ≤ 250
    · rw [decide_eq_true h, decide_eq_true (by omega)]
    · rw [decide_eq_false h, decide_eq_false (by omega)]
  rw [hx] at HW ⊢
  clear hx hle
  go_enter Tryz.func7, Tryz.ntmps7
  go_wp2_with fail
  refine HW.out.mono ?_
  rintro _ w1 ⟨rfl, hb1⟩
  have HB1 := Lib.hid hb1
  clear hb1
  go_wp2
  go_ret
  exact ⟨by simp, HB1.out⟩
end Go.Proofs.YtikgbgminhgpdaaGreatDoor
