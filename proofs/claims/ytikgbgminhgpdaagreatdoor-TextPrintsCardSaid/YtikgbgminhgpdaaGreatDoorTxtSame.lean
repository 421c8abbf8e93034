/- Layers 9, 10: the document's Same, of statements that are the same. -/
import Derived.Test.YtikgbgminhgpdaaGreatDoorTxtWalk2
import Derived.Deep.RegionHeld3
namespace Go.Proofs.YtikgbgminhgpdaaGreatDoor
open Go.RowKit Tx
set_option maxRecDepth 10000

mutual
/-- All kinds are kinds. -/
def posS : St → Bool
  | .mk h b e => decide (1 ≤ h.kind) && posL b && posL e
def posL : List St → Bool
  | [] => true
  | s :: l => posS s && posL l
end
theorem pos_get : ∀ {l : List St} {k : Nat} {s : St}, posL l = true → l[k]? = some s → posS s = true
  | [], _, _, _, h => by simp at h
  | s0 :: l, k, s, hg, h => by
    unfold posL at hg
    simp only [Bool.and_eq_true] at hg
    cases k with
    | zero => simp only [List.getElem?_cons_zero, Option.some.injEq] at h; rw [← h]; exact hg.1
    | succ k => exact pos_get (l := l) (k := k) hg.2 (by simpa using h)
mutual
theorem one_cnt : ∀ (s : St), 1 ≤ cntS s
  | .mk h b e => by rw [show cntS (.mk h b e) = 1 + cntL b + cntL e from by rw [cntS]]; omega
theorem len_cnt : ∀ (l : List St), l.length ≤ cntL l
  | [] => Nat.zero_le _
  | s :: l => by
    rw [show cntL (s :: l) = cntS s + cntL l from by rw [cntL]]
    have := len_cnt l
    have := one_cnt s
    simp
    omega
end
def SamePost (w : World) (e : Ending) (w' : World) : Prop := e = .returned (.bool true) ∧ Below w.heap.size w w'
set_option maxHeartbeats 4000000 in
theorem same_ok : ∀ (N : Nat) (l : List St) (v1 v2 : Value) (B : Nat) (w : World), cntL l < N → cntL l ≤ 1048576 → posL l = true → SlR B w l v1 → SlR B w l v2 → B ≤ w.heap.size →
    Calls Tryz.prog 14 #[v1, v2] w (SamePost w)
  | 0, l, v1, v2, B, w, hN, _, _, _, _, _ => by omega
  | N + 1, l, v1, v2, B, w, hN, hll, hpos, h1, h2, hB => by
    have IH := Lib.hid (same_ok N)
    have hlc := len_cnt l
    obtain ⟨p1, c1, rfl⟩ := h1.shape
    obtain ⟨p2, c2, rfl⟩ := h2.shape
    have H1 := Lib.hid h1; have H2 := Lib.hid h2; have HP := Lib.hid hpos
    clear h1 h2 hpos
    go_enter Tryz.func14, Tryz.ntmps14
    go_wp2
    go_loopg [5] (l.length + 1) (fun gf i wx => ∃ (k : Nat), i = .int .i64 (k : Int) ∧ k ≤ l.length ∧ Below w.heap.size w wx ∧ l.length + 1 ≤ k + gf)
    case atStart => exact ⟨0, rfl, Nat.zero_le _, Below.refl _ _, by omega⟩
    case round =>
      obtain ⟨k, rfl, hk, hb, hfu⟩ := hrel
      by_cases hlt : k < l.length
      · obtain ⟨gk', rfl⟩ : ∃ g', gk = g' + 1 := ⟨gk - 1, by omega⟩
        obtain ⟨⟨h, b, e⟩, hs⟩ : ∃ s, l[k]? = some s := ⟨_, List.getElem?_eq_getElem hlt⟩
        have hlr := H1.out.below hb hB
        have hlr2 := H2.out.below hb hB
        obtain ⟨g, off, cp', z, bv, ev, hv, hgB, hgl, hz, hcell, hbb, hee⟩ := hlr.get hs
        obtain ⟨g2, off2, cp2, z2, bv2, ev2, hv2, hgB2, hgl2, hz2, hcell2, hbb2, hee2⟩ := hlr2.get hs
        simp only [Value.slice.injEq] at hv hv2
        obtain ⟨rfl, -, rfl⟩ := hv
        obtain ⟨rfl, -, rfl⟩ := hv2
        obtain ⟨bp, bc, rfl⟩ := hbb.shape
        obtain ⟨ep, ec, rfl⟩ := hee.shape
        obtain ⟨bp2, bc2, rfl⟩ := hbb2.shape
        obtain ⟨ep2, ec2, rfl⟩ := hee2.shape
        have hps := pos_get HP.out hs
        unfold posS at hps
        simp only [Bool.and_eq_true, decide_eq_true_eq] at hps
        obtain rfl : z2 = z := by omega
        have hcn := cnt_get hs
        have g1 : decide ((k : Int) < (l.length : Int)) = true := decide_eq_true (by omega)
        have g1' : (k : Int) < (l.length : Int) := by omega
        have y0 : wr.cell? ⟨g, off + k * 9, none⟩ = _ := hcell 0 _ rfl
        have y1 := hcell 1 _ rfl; have y2 := hcell 2 _ rfl; have y3 := hcell 3 _ rfl; have y4 := hcell 4 _ rfl; have y5 := hcell 5 _ rfl; have y6 := hcell 6 _ rfl; have y7 := hcell 7 _ rfl; have y8 := hcell 8 _ rfl
        have x0 : wr.cell? ⟨g2, off2 + k * 9, none⟩ = _ := hcell2 0 _ rfl
        have x1 := hcell2 1 _ rfl; have x2 := hcell2 2 _ rfl; have x3 := hcell2 3 _ rfl; have x4 := hcell2 4 _ rfl; have x5 := hcell2 5 _ rfl; have x6 := hcell2 6 _ rfl; have x7 := hcell2 7 _ rfl; have x8 := hcell2 8 _ rfl
        have HPS := Lib.hid hps; have HBB := Lib.hid hbb; have HEE := Lib.hid hee; have HBB2 := Lib.hid hbb2; have HEE2 := Lib.hid hee2; have HBW := Lib.hid hb
        clear hlr hlr2 hcell hcell2 hps hbb hee hbb2 hee2 hb hz hz2
        go_wp2
        go_region_held3 (fun w' => w'.cell? ⟨g, off + k * 9, none⟩ = some (.int .i64 z2) ∧ w'.cell? ⟨g, off + k * 9 + 1, none⟩ = some (.int .i64 h.coll) ∧ w'.cell? ⟨g, off + k * 9 + 2, none⟩ = some (.int .i64 h.reg) ∧ w'.cell? ⟨g, off + k * 9 + 3, none⟩ = some (.int .i64 h.a.1) ∧ w'.cell? ⟨g, off + k * 9 + 4, none⟩ = some (.int .i64 h.a.2) ∧ w'.cell? ⟨g, off + k * 9 + 5, none⟩ = some (.int .i64 h.b.1) ∧ w'.cell? ⟨g, off + k * 9 + 6, none⟩ = some (.int .i64 h.b.2) ∧ w'.cell? ⟨g, off + k * 9 + 7, none⟩ = some (.slice bp b.length bc) ∧ w'.cell? ⟨g, off + k * 9 + 8, none⟩ = some (.slice ep e.length ec) ∧ w'.cell? ⟨g2, off2 + k * 9, none⟩ = some (.int .i64 z2) ∧ w'.cell? ⟨g2, off2 + k * 9 + 1, none⟩ = some (.int .i64 h.coll) ∧ w'.cell? ⟨g2, off2 + k * 9 + 2, none⟩ = some (.int .i64 h.reg) ∧ w'.cell? ⟨g2, off2 + k * 9 + 3, none⟩ = some (.int .i64 h.a.1) ∧ w'.cell? ⟨g2, off2 + k * 9 + 4, none⟩ = some (.int .i64 h.a.2) ∧ w'.cell? ⟨g2, off2 + k * 9 + 5, none⟩ = some (.int .i64 h.b.1) ∧ w'.cell? ⟨g2, off2 + k * 9 + 6, none⟩ = some (.int .i64 h.b.2) ∧ w'.cell? ⟨g2, off2 + k * 9 + 7, none⟩ = some (.slice bp2 b.length bc2) ∧ w'.cell? ⟨g2, off2 + k * 9 + 8, none⟩ = some (.slice ep2 e.length ec2)) (first | with_reducible exact ⟨y0, y1, y2, y3, y4, y5, y6, y7, y8, x0, x1, x2, x3, x4, x5, x6, x7, x8⟩ | go_keep) (first | fail)
        · obtain ⟨W, hW⟩ : ∃ W, ((wr.alloc (.cells #[.int .i64 z2, .int .i64 h.coll, .int .i64 h.reg, .int .i64 h.a.1, .int .i64 h.a.2, .int .i64 h.b.1, .int .i64 h.b.2, .slice bp b.length bc, .slice ep e.length ec] 45)).alloc (.cells #[.int .i64 z2, .int .i64 h.coll, .int .i64 h.reg, .int .i64 h.a.1, .int .i64 h.a.2, .int .i64 h.b.1, .int .i64 h.b.2, .slice bp2 b.length bc2, .slice ep2 e.length ec2] 45)).drew = W := ⟨_, rfl⟩
          have ca := Cells.new wr [.int .i64 z2, .int .i64 h.coll, .int .i64 h.reg, .int .i64 h.a.1, .int .i64 h.a.2, .int .i64 h.b.1, .int .i64 h.b.2, .slice bp b.length bc, .slice ep e.length ec] 45
          have cb := Cells.new (wr.alloc (.cells #[.int .i64 z2, .int .i64 h.coll, .int .i64 h.reg, .int .i64 h.a.1, .int .i64 h.a.2, .int .i64 h.b.1, .int .i64 h.b.2, .slice bp b.length bc, .slice ep e.length ec] 45)) [.int .i64 z2, .int .i64 h.coll, .int .i64 h.reg, .int .i64 h.a.1, .int .i64 h.a.2, .int .i64 h.b.1, .int .i64 h.b.2, .slice bp2 b.length bc2, .slice ep2 e.length ec2] 45
          rw [World.size_alloc] at cb
          have hca : Cells W wr.heap.size [.int .i64 z2, .int .i64 h.coll, .int .i64 h.reg, .int .i64 h.a.1, .int .i64 h.a.2, .int .i64 h.b.1, .int .i64 h.b.2, .slice bp b.length bc, .slice ep e.length ec] 45 := by rw [← hW]; exact (ca.alloc _).drew
          have hcb : Cells W (wr.heap.size + 1) [.int .i64 z2, .int .i64 h.coll, .int .i64 h.reg, .int .i64 h.a.1, .int .i64 h.a.2, .int .i64 h.b.1, .int .i64 h.b.2, .slice bp2 b.length bc2, .slice ep2 e.length ec2] 45 := by rw [← hW]; exact cb.drew
          have hbW : Below wr.heap.size wr W := by rw [← hW]; exact (((Below.refl _ wr).alloc (Nat.le_refl _) _).alloc (by simp) _).drew
          rw [hW]
          obtain ⟨bx, hbx⟩ : ∃ bx, wr.heap.size = bx := ⟨_, rfl⟩
          obtain ⟨bY, hbY⟩ : ∃ bY, wr.heap.size + 1 = bY := ⟨_, rfl⟩
          have hlx : bx < W.heap.size := by rw [← hbx]; exact hca.lt
          have hly : bY < W.heap.size := by rw [← hbY]; exact hcb.lt
          have HX := Lib.hid (show Cells W bx [.int .i64 z2, .int .i64 h.coll, .int .i64 h.reg, .int .i64 h.a.1, .int .i64 h.a.2, .int .i64 h.b.1, .int .i64 h.b.2, .slice bp b.length bc, .slice ep e.length ec] 45 by rw [← hbx]; exact hca)
          have HY := Lib.hid (show Cells W bY [.int .i64 z2, .int .i64 h.coll, .int .i64 h.reg, .int .i64 h.a.1, .int .i64 h.a.2, .int .i64 h.b.1, .int .i64 h.b.2, .slice bp2 b.length bc2, .slice ep2 e.length ec2] 45 by rw [← hbY]; exact hcb)
          rw [hbY, hbx]
          have HBW2 := Lib.hid (HBW.out.trans (hbW.mono HBW.out.size)); have HBWW := Lib.hid hbW
          have hk6 : k + 1 ≤ 1048577 := by omega
          have HK1 := Lib.hid (show k + 1 ≤ l.length from hlt); have HFU := Lib.hid (show l.length + 1 ≤ k + 1 + gk' by omega)
          clear ca cb hca hcb hW hbx hbY hbW y0 y1 y2 y3 y4 y5 y6 y7 y8 x0 x1 x2 x3 x4 x5 x6 x7 x8
          obtain ⟨⟨u0, u1, u2, u3, u4, u5, u6, u7, u8⟩, -⟩ := nine_cells HX.out
          obtain ⟨⟨v0, v1, v2, v3, v4, v5, v6, v7, v8⟩, -⟩ := nine_cells HY.out
          have hBW2 := HBW2.out.mono hB
          have HC1 := Lib.hid (IH.out b _ _ B W (by omega) (by omega) HPS.out.1.2 (HBB.out.below HBWW.out (Nat.le_trans hB HBW.out.size)) (HBB2.out.below HBWW.out (Nat.le_trans hB HBW.out.size)) (Nat.le_trans hB HBW2.out.size))
          clear hBW2
          go_wp2_with fail
          refine HC1.out.mono ?_
          rintro _ w3 ⟨rfl, hb3⟩
          have HX3 := Lib.hid (HX.out.below hb3); have HY3 := Lib.hid (HY.out.below hb3)
          have HB3 := Lib.hid (HBW2.out.trans (hb3.mono HBW2.out.size)); have HWW3 := Lib.hid (HBWW.out.trans (hb3.mono HBWW.out.size))
          clear u0 u1 u2 u3 u4 u5 u6 u7 u8 v0 v1 v2 v3 v4 v5 v6 v7 v8 hb3 HC1
          obtain ⟨⟨u0, u1, u2, u3, u4, u5, u6, u7, u8⟩, -⟩ := nine_cells HX3.out
          obtain ⟨⟨v0, v1, v2, v3, v4, v5, v6, v7, v8⟩, -⟩ := nine_cells HY3.out
          have HC2 := Lib.hid (IH.out e _ _ B w3 (by omega) (by omega) HPS.out.2 (HEE.out.below HWW3.out (Nat.le_trans hB HBW.out.size)) (HEE2.out.below HWW3.out (Nat.le_trans hB HBW.out.size)) (Nat.le_trans hB HB3.out.size))
          go_wp2_with fail
          refine HC2.out.mono ?_
          rintro _ w4 ⟨rfl, hb4⟩
          have HB4 := Lib.hid (HB3.out.trans (hb4.mono HB3.out.size))
          clear u0 u1 u2 u3 u4 u5 u6 u7 u8 v0 v1 v2 v3 v4 v5 v6 v7 v8 hb4 HC2
          go_wp2
          go_roundg gk'
          case measure => omega
          case rel => exact ⟨k + 1, by go_num, HK1.out, HB4.out, HFU.out⟩
        · obtain ⟨W, hW⟩ : ∃ W, ((wr.alloc (.cells #[.int .i64 z2, .int .i64 h.coll, .int .i64 h.reg, .int .i64 h.a.1, .int .i64 h.a.2, .int .i64 h.b.1, .int .i64 h.b.2, .slice bp2 b.length bc2, .slice ep2 e.length ec2] 45)).alloc (.cells #[.int .i64 z2, .int .i64 h.coll, .int .i64 h.reg, .int .i64 h.a.1, .int .i64 h.a.2, .int .i64 h.b.1, .int .i64 h.b.2, .slice bp b.length bc, .slice ep e.length ec] 45)).drew = W := ⟨_, rfl⟩
          have ca := Cells.new wr [.int .i64 z2, .int .i64 h.coll, .int .i64 h.reg, .int .i64 h.a.1, .int .i64 h.a.2, .int .i64 h.b.1, .int .i64 h.b.2, .slice bp2 b.length bc2, .slice ep2 e.length ec2] 45
          have cb := Cells.new (wr.alloc (.cells #[.int .i64 z2, .int .i64 h.coll, .int .i64 h.reg, .int .i64 h.a.1, .int .i64 h.a.2, .int .i64 h.b.1, .int .i64 h.b.2, .slice bp2 b.length bc2, .slice ep2 e.length ec2] 45)) [.int .i64 z2, .int .i64 h.coll, .int .i64 h.reg, .int .i64 h.a.1, .int .i64 h.a.2, .int .i64 h.b.1, .int .i64 h.b.2, .slice bp b.length bc, .slice ep e.length ec] 45
          rw [World.size_alloc] at cb
          have hca : Cells W wr.heap.size [.int .i64 z2, .int .i64 h.coll, .int .i64 h.reg, .int .i64 h.a.1, .int .i64 h.a.2, .int .i64 h.b.1, .int .i64 h.b.2, .slice bp2 b.length bc2, .slice ep2 e.length ec2] 45 := by rw [← hW]; exact (ca.alloc _).drew
          have hcb : Cells W (wr.heap.size + 1) [.int .i64 z2, .int .i64 h.coll, .int .i64 h.reg, .int .i64 h.a.1, .int .i64 h.a.2, .int .i64 h.b.1, .int .i64 h.b.2, .slice bp b.length bc, .slice ep e.length ec] 45 := by rw [← hW]; exact cb.drew
          have hbW : Below wr.heap.size wr W := by rw [← hW]; exact (((Below.refl _ wr).alloc (Nat.le_refl _) _).alloc (by simp) _).drew
          rw [hW]
          obtain ⟨bx, hbx⟩ : ∃ bx, wr.heap.size + 1 = bx := ⟨_, rfl⟩
          obtain ⟨bY, hbY⟩ : ∃ bY, wr.heap.size = bY := ⟨_, rfl⟩
          have hlx : bx < W.heap.size := by rw [← hbx]; exact hcb.lt
          have hly : bY < W.heap.size := by rw [← hbY]; exact hca.lt
          have HX := Lib.hid (show Cells W bx [.int .i64 z2, .int .i64 h.coll, .int .i64 h.reg, .int .i64 h.a.1, .int .i64 h.a.2, .int .i64 h.b.1, .int .i64 h.b.2, .slice bp b.length bc, .slice ep e.length ec] 45 by rw [← hbx]; exact hcb)
          have HY := Lib.hid (show Cells W bY [.int .i64 z2, .int .i64 h.coll, .int .i64 h.reg, .int .i64 h.a.1, .int .i64 h.a.2, .int .i64 h.b.1, .int .i64 h.b.2, .slice bp2 b.length bc2, .slice ep2 e.length ec2] 45 by rw [← hbY]; exact hca)
          rw [hbx, hbY]
          have HBW2 := Lib.hid (HBW.out.trans (hbW.mono HBW.out.size)); have HBWW := Lib.hid hbW
          have hk6 : k + 1 ≤ 1048577 := by omega
          have HK1 := Lib.hid (show k + 1 ≤ l.length from hlt); have HFU := Lib.hid (show l.length + 1 ≤ k + 1 + gk' by omega)
          clear ca cb hca hcb hW hbx hbY hbW y0 y1 y2 y3 y4 y5 y6 y7 y8 x0 x1 x2 x3 x4 x5 x6 x7 x8
          obtain ⟨⟨u0, u1, u2, u3, u4, u5, u6, u7, u8⟩, -⟩ := nine_cells HX.out
          obtain ⟨⟨v0, v1, v2, v3, v4, v5, v6, v7, v8⟩, -⟩ := nine_cells HY.out
          have hBW2 := HBW2.out.mono hB
          have HC1 := Lib.hid (IH.out b _ _ B W (by omega) (by omega) HPS.out.1.2 (HBB.out.below HBWW.out (Nat.le_trans hB HBW.out.size)) (HBB2.out.below HBWW.out (Nat.le_trans hB HBW.out.size)) (Nat.le_trans hB HBW2.out.size))
          clear hBW2
          go_wp2_with fail
          refine HC1.out.mono ?_
          rintro _ w3 ⟨rfl, hb3⟩
          have HX3 := Lib.hid (HX.out.below hb3); have HY3 := Lib.hid (HY.out.below hb3)
          have HB3 := Lib.hid (HBW2.out.trans (hb3.mono HBW2.out.size)); have HWW3 := Lib.hid (HBWW.out.trans (hb3.mono HBWW.out.size))
          clear u0 u1 u2 u3 u4 u5 u6 u7 u8 v0 v1 v2 v3 v4 v5 v6 v7 v8 hb3 HC1
          obtain ⟨⟨u0, u1, u2, u3, u4, u5, u6, u7, u8⟩, -⟩ := nine_cells HX3.out
          obtain ⟨⟨v0, v1, v2, v3, v4, v5, v6, v7, v8⟩, -⟩ := nine_cells HY3.out
          have HC2 := Lib.hid (IH.out e _ _ B w3 (by omega) (by omega) HPS.out.2 (HEE.out.below HWW3.out (Nat.le_trans hB HBW.out.size)) (HEE2.out.below HWW3.out (Nat.le_trans hB HBW.out.size)) (Nat.le_trans hB HB3.out.size))
          go_wp2_with fail
          refine HC2.out.mono ?_
          rintro _ w4 ⟨rfl, hb4⟩
          have HB4 := Lib.hid (HB3.out.trans (hb4.mono HB3.out.size))
          clear u0 u1 u2 u3 u4 u5 u6 u7 u8 v0 v1 v2 v3 v4 v5 v6 v7 v8 hb4 HC2
          go_wp2
          go_roundg gk'
          case measure => omega
          case rel => exact ⟨k + 1, by go_num, HK1.out, HB4.out, HFU.out⟩
      · obtain rfl : k = l.length := by omega
        have g1 : decide ((l.length : Int) < (l.length : Int)) = false := decide_eq_false (by omega)
        have HBW := Lib.hid hb
        clear hb
        go_wp2
        go_ret
        exact ⟨rfl, HBW.out⟩
end Go.Proofs.YtikgbgminhgpdaaGreatDoor
