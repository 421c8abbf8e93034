/- Layer 9: the document's list of all statements. -/
import Derived.Test.YtikgbgminhgpdaaGreatDoorDoc2
import Derived.Test.YtikgbgminhgpdaaGreatDoorTxtSame
namespace Go.Proofs.YtikgbgminhgpdaaGreatDoor
open Go.RowKit Tx
set_option maxRecDepth 10000

/-- A Line's cells. -/
def lnL (z : Int) (h : Sh) (bv ev : Value) (d : Nat) : List Value := [.int .i64 z, .int .i64 h.coll, .int .i64 h.reg, .int .i64 h.a.1, .int .i64 h.a.2, .int .i64 h.b.1, .int .i64 h.b.2, bv, ev, .int .i64 (d : Int)]
def LnL : St × Nat → List Value → Prop
  | (.mk h b e, d), c => ∃ z bp bc ep ec, z.toNat = h.kind ∧ c = lnL z h (.slice bp b.length bc) (.slice ep e.length ec) d
def LnsR : List (St × Nat) → List (List Value) → Prop
  | [], cs => cs = []
  | x :: l, cs => ∃ c cs', cs = c :: cs' ∧ LnL x c ∧ LnsR l cs'
theorem LnL.len {x : St × Nat} {c : List Value} (h : LnL x c) : c.length = 10 := by
  obtain ⟨⟨hh, b, e⟩, d⟩ := x
  obtain ⟨z, bp, bc, ep, ec, _, rfl⟩ := h
  rfl
theorem LnsR.snoc {x : St × Nat} {c : List Value} (hc : LnL x c) : ∀ {l : List (St × Nat)} {cs : List (List Value)}, LnsR l cs → LnsR (l ++ [x]) (cs ++ [c])
  | [], cs, h => by
    unfold LnsR at h
    subst h
    exact ⟨c, [], rfl, hc, rfl⟩
  | y :: l, cs, h => by
    obtain ⟨c', cs', rfl, h1, h2⟩ := h
    exact ⟨c', cs' ++ [c], rfl, h1, LnsR.snoc hc h2⟩
theorem LnsR.get : ∀ {l : List (St × Nat)} {cs : List (List Value)} {i : Nat} {x : St × Nat}, LnsR l cs → l[i]? = some x → ∃ c, LnL x c ∧ ∀ j, j < 10 → cs.flatten[10 * i + j]? = c[j]?
  | [], _, i, _, _, hi => by simp at hi
  | y :: l, cs, i, x, h, hi => by
    obtain ⟨c, cs', rfl, h1, h2⟩ := h
    cases i with
    | zero =>
      simp only [List.getElem?_cons_zero, Option.some.injEq] at hi
      subst hi
      refine ⟨c, h1, fun j hj => ?_⟩
      rw [List.flatten_cons, Nat.mul_zero, Nat.zero_add, List.getElem?_append_left (by rw [h1.len]; exact hj)]
    | succ i =>
      obtain ⟨c', q1, q2⟩ := LnsR.get h2 (i := i) (x := x) (by simpa using hi)
      refine ⟨c', q1, fun j hj => ?_⟩
      rw [List.flatten_cons, List.getElem?_append_right (by rw [h1.len]; omega), h1.len, show 10 * (i + 1) + j - 10 = 10 * i + j by omega]
      exact q2 j hj
theorem lineInfo : (Tryz.prog.info? 88).map (fun i => (i.zero, i.size, i.bytes)) = some (some (.agg #[.int .i64 0, .int .i64 0, .int .i64 0, .int .i64 0, .int .i64 0, .int .i64 0, .int .i64 0, .slice none 0 0, .slice none 0 0, .int .i64 0]), 10, 112) := by kernel_rfl
/-- What Lines answers. -/
def LnPost (B : Nat) (ls : List (St × Nat)) (w : World) (e : Ending) (w' : World) : Prop :=
  ∃ p n c cs, ls.length = n ∧ e = .returned (.slice p n c) ∧ w'.ownsRow B 88 10 (.slice p n c) n cs.flatten ∧ LnsR ls cs ∧ Below B w w'
def LnJ (B d : Nat) (l : List St) (ls : List (St × Nat)) (w0 : World) (gf : Nat) (out i : Value) (wx : World) : Prop :=
  ∃ (k : Nat) (ls' : List (St × Nat)) (p : Option Addr) (n c : Nat) (cs : List (List Value)), ls'.length = n ∧ out = .slice p n c ∧ i = .int .i64 (k : Int) ∧ k ≤ l.length ∧ l.length + 1 ≤ k + gf ∧ wx.ownsRow B 88 10 (.slice p n c) n cs.flatten ∧ LnsR ls' cs ∧ Below B w0 wx ∧
    ls' ++ flatL d (l.drop k) = ls ++ flatL d l ∧ ls'.length + cntL (l.drop k) ≤ 1000
theorem lines_mid {B0 : Nat} {wr w8 : World} {o : Obj} {row : Option Nat} (hb : B0 ≤ wr.heap.size) (hg : (wr.alloc o).grownBy w8 row) (hr : ∀ b, row = some b → B0 ≤ b) : Below B0 wr w8 :=
  (((Kept.refl (fun k => B0 ≤ k) wr).alloc o).trans ((Kept.of_grown hg).mono fun k _ e => hr k e.symm)).below hb (fun k h1 h2 => by omega)
theorem cnt_drop : ∀ (l : List St) (k : Nat) (h : Sh) (b e : List St), l[k]? = some (.mk h b e) → cntL (l.drop k) = 1 + cntL b + cntL e + cntL (l.drop (k + 1))
  | [], k, h, b, e, hk => by simp at hk
  | x :: l, 0, h, b, e, hk => by
    simp only [List.getElem?_cons_zero, Option.some.injEq] at hk
    subst hk
    simp [cntL, cntS]
  | x :: l, k + 1, h, b, e, hk => by simpa using cnt_drop l k h b e (by simpa using hk)
mutual
theorem flatS_len : ∀ (d : Nat) (s : St), (flatS d s).length = cntS s
  | d, .mk h b e => by
    unfold flatS cntS
    rw [List.length_cons, List.length_append, flatL_len, flatL_len]
    omega
theorem flatL_len : ∀ (d : Nat) (l : List St), (flatL d l).length = cntL l
  | d, [] => by
    unfold flatL cntL
    rfl
  | d, s :: l => by
    unfold flatL cntL
    rw [List.length_append, flatS_len, flatL_len]
end
set_option maxHeartbeats 4000000 in
theorem linesN_ok (B B0 : Nat) : ∀ (N : Nat) (l : List St) (v : Value) (d : Nat) (ls : List (St × Nat)) (p : Option Addr) (n c : Nat) (cs : List (List Value)) (w : World), cntL l < N → SlR B w l v → B ≤ B0 → B0 ≤ w.heap.size → ls.length = n → w.ownsRow B0 88 10 (.slice p n c) n cs.flatten → LnsR ls cs → ls.length + cntL l ≤ 1000 → d + cntL l ≤ 2000 →
    Calls Tryz.prog 38 #[.slice p n c, v, .int .i64 (d : Int)] w (LnPost B0 (ls ++ flatL d l) w)
  | 0, l, v, d, ls, p, n, c, cs, w, hN, _, _, _, _, _, _, _, _ => by omega
  | N + 1, l, v, d, ls, p, n, c, cs, w, hN, hl, hB, hB0, hn, hrow, hls, hcnt, hd => by
    have IH := Lib.hid (linesN_ok B B0 N)
    have hlc := len_cnt l
    obtain ⟨pt, cp, rfl⟩ := hl.shape
    have HL := Lib.hid hl; have HROW0 := Lib.hid hrow; have HLS0 := Lib.hid hls
    obtain ⟨i0, hi0, hz0, hz1, hz2⟩ := info_parts lineInfo
    clear hl hrow hls
    go_enter Tryz.func38, Tryz.ntmps38
    go_wp2
    go_loopg [0, 7] (l.length + 1) (fun gf out i wx => LnJ B0 d l ls w gf out i wx)
    case atStart => exact ⟨0, ls, p, n, c, cs, hn, rfl, rfl, Nat.zero_le _, by omega, HROW0.out, HLS0.out, Below.refl _ _, rfl, hcnt⟩
    case round =>
      obtain ⟨k, ls', p', n', c', cs', hn', rfl, rfl, hk, hfu, hrow, hls, hb, hfl, hlen⟩ := hrel
      have HB := Lib.hid hb
      have hbs := hb.size
      by_cases hlt : k < l.length
      · obtain ⟨gk', rfl⟩ : ∃ g', gk = g' + 1 := ⟨gk - 1, by omega⟩
        obtain ⟨⟨h, b, e⟩, hs⟩ : ∃ s, l[k]? = some s := ⟨_, List.getElem?_eq_getElem hlt⟩
        have hlr := HL.out.below hb hB
        obtain ⟨g, off, cp', z, bv, ev, hv, hgB, hgl, hz, hcell, hbb, hee⟩ := hlr.get hs
        simp only [Value.slice.injEq] at hv
        obtain ⟨rfl, -, rfl⟩ := hv
        obtain ⟨bp, bc, rfl⟩ := hbb.shape
        obtain ⟨ep, ec, rfl⟩ := hee.shape
        have hcd := cnt_drop l k h b e hs
        have hcg := cnt_get hs
        have hfd := flatL_drop d l k _ hs
        have g1 : decide ((k : Int) < (l.length : Int)) = true := decide_eq_true (by omega)
        have g1' : (k : Int) < (l.length : Int) := by omega
        have y0 : wr.cell? ⟨g, off + k * 9, none⟩ = _ := hcell 0 _ rfl; have y1 := hcell 1 _ rfl; have y2 := hcell 2 _ rfl; have y3 := hcell 3 _ rfl; have y4 := hcell 4 _ rfl; have y5 := hcell 5 _ rfl; have y6 := hcell 6 _ rfl
        have y7 : wr.cell? ⟨g, off + k * 9 + 7, none⟩ = some (.slice bp b.length bc) := hcell 7 _ rfl
        have y8 : wr.cell? ⟨g, off + k * 9 + 8, none⟩ = some (.slice ep e.length ec) := hcell 8 _ rfl
        have HBB := Lib.hid hbb; have HEE := Lib.hid hee
        have HLNL := Lib.hid (show LnL (.mk h b e, d) (lnL z h (.slice bp b.length bc) (.slice ep e.length ec) d) from ⟨z, bp, bc, ep, ec, hz, rfl⟩)
        have HROW := Lib.hid (show (wr.alloc (.cells (lnL z h (.slice bp b.length bc) (.slice ep e.length ec) d).toArray 88)).ownsRow B0 88 10 (.slice p' n' c') n' cs'.flatten from World.ownsRow.alloc hrow _)
        have HNEWS := Lib.hid (show ∀ j u, (lnL z h (.slice bp b.length bc) (.slice ep e.length ec) d)[j]? = some u → (wr.alloc (.cells (lnL z h (.slice bp b.length bc) (.slice ep e.length ec) d).toArray 88)).cell? ((⟨wr.heap.size, 0, none⟩ : Addr).add j) = some u from by
          have := World.news_of_block (w := wr.alloc (.cells (lnL z h (.slice bp b.length bc) (.slice ep e.length ec) d).toArray 88)) (B := wr.heap.size) (cs := (lnL z h (.slice bp b.length bc) (.slice ep e.length ec) d).toArray) (t := 88) (fr := (0, 0)) (heap_alloc_new wr _)
          simpa using this)
        have HONE := Lib.hid (show ∀ u ∈ lnL z h (.slice bp b.length bc) (.slice ep e.length ec) d, u.oneCell' = true from by
          intro u hu
          simp only [lnL, List.mem_cons, List.not_mem_nil, or_false] at hu
          rcases hu with rfl | rfl | rfl | rfl | rfl | rfl | rfl | rfl | rfl | rfl <;> rfl)
        have HOLD := Lib.hid (fun b hb => (hrow.lt b hb).1)
        have HLS := Lib.hid hls
        have HFL := Lib.hid (show (ls' ++ [(St.mk h b e, d)] ++ flatL (d + 1) b ++ flatL (d + 1) e) ++ flatL d (l.drop (k + 1)) = ls ++ flatL d l by
          rw [← hfl, hfd]
          unfold flatS
          simp)
        have hbz : B0 ≤ (wr.alloc (.cells (lnL z h (.slice bp b.length bc) (.slice ep e.length ec) d).toArray 88)).heap.size := by simp; omega
        have hwd : IntKind.i64.wrap ((d : Int) + 1) = (d : Int) + 1 := IntWalk.i64_in _ (by omega)
        have hd1 : ((d + 1 : Nat) : Int) = (d : Int) + 1 := by omega
        have hB0r : B0 ≤ wr.heap.size := by omega
        have hn1 : (ls' ++ [(St.mk h b e, d)]).length = n' + 1 := by rw [List.length_append, hn']; rfl
        clear hrow hls hb hfl hlr hcell hbb hee hs hfd
        go_wp2_with (at_builtin; refine wpList_append_lies _ rfl _ _ 85 rfl B0 88 i0 _ 10 112 Tryz.underlying85 hi0 hz0 hz1 hz2 rfl (by omega) _ n' cs'.flatten rfl HROW.out ⟨wr.heap.size, 0, none⟩ 1 1 (lnL z h (.slice bp b.length bc) (.slice ep e.length ec) d) rfl rfl HNEWS.out HONE.out (by omega) (by unfold maxLen; omega) (by omega) hbz _ rfl ?_; intro gg cap8 w8 hown8 hgrow8 hat8 hlt8; have HB8 := Lib.hid (lines_mid hB0r hgrow8 HOLD.out); have z7 := (HB8.out.cell (p := ⟨g, off + k * 9 + 7, none⟩) (Nat.lt_of_lt_of_le hgB hB)).trans y7; have HOWN8 := Lib.hid hown8; have hs8 := HB8.out.size; clear hown8 hgrow8 hat8)
        have HC1 := IH.out b _ (d + 1) (ls' ++ [(St.mk h b e, d)]) _ (n' + 1) cap8 (cs' ++ [lnL z h (.slice bp b.length bc) (.slice ep e.length ec) d]) w8 (by omega) (HBB.out.below HB8.out hB) hB (by omega) hn1 (by rw [List.flatten_append]; simpa using HOWN8.out) (LnsR.snoc HLNL.out HLS.out) (by omega) (by omega)
        rw [hd1] at HC1
        have HC1 := Lib.hid HC1
        refine HC1.out.mono ?_
        rintro _ w9 ⟨p9, n9, c9, cs9, hn9, rfl, hrow9, hls9, hb9⟩
        have HB9 := Lib.hid (HB8.out.trans hb9)
        have z8 := (HB9.out.cell (p := ⟨g, off + k * 9 + 8, none⟩) (Nat.lt_of_lt_of_le hgB hB)).trans y8
        have hs9 := hb9.size
        have hl9 := flatL_len (d + 1) b
        have HC2 := IH.out e _ (d + 1) _ p9 n9 c9 cs9 w9 (by omega) (HEE.out.below HB9.out hB) hB (by omega) hn9 hrow9 hls9 (by rw [List.length_append]; omega) (by omega)
        rw [hd1] at HC2
        have HC2 := Lib.hid HC2
        clear hb9 hrow9 hls9 HC1 y0 y1 y2 y3 y4 y5 y6 y7 y8 z7
        go_wp2_with fail
        refine HC2.out.mono ?_
        rintro _ w10 ⟨p10, n10, c10, cs10, hn10, rfl, hrow10, hls10, hb10⟩
        have HB10 := Lib.hid (HB.out.trans (HB9.out.trans hb10))
        have HROW10 := Lib.hid hrow10; have HLS10 := Lib.hid hls10
        have hl10 := flatL_len (d + 1) e
        clear hrow10 hls10 hb10 HC2 z8
        go_wp2
        go_roundg gk'
        case measure => omega
        case rel =>
          refine ⟨k + 1, _, p10, n10, c10, cs10, hn10, rfl, by go_num, hlt, by omega, HROW10.out, HLS10.out, HB10.out, HFL.out, ?_⟩
          rw [List.length_append, List.length_append, hl9, hl10]
          omega
      · obtain rfl : k = l.length := by omega
        have g1 : decide ((l.length : Int) < (l.length : Int)) = false := decide_eq_false (by omega)
        have HFL := Lib.hid (show ls' = ls ++ flatL d l by
          rw [← hfl, List.drop_eq_nil_of_le (Nat.le_refl _)]
          unfold flatL
          simp)
        have HROW := Lib.hid hrow; have HLS := Lib.hid hls
        clear hrow hls hb hfl
        go_wp2
        go_ret
        unfold LnPost
        rw [← HFL.out]
        exact ⟨p', n', c', cs', hn', rfl, HROW.out, HLS.out, HB.out⟩
end Go.Proofs.YtikgbgminhgpdaaGreatDoor
