/- Layer 29's laws: ask. -/
import Derived.Test.YtkpdacfiglpgeaaGreatDoorTqCln9
import Derived.Deep.CutRange
namespace Go.Proofs.YtkpdacfiglpgeaaGreatDoor
open Go.RowKit Bl Th
set_option maxRecDepth 10000

theorem wrap_toU (x : Int) : IntKind.u64.wrap x = ((toU x : Nat) : Int) := by
  show x % 18446744073709551616 = _
  unfold toU
  omega
/-- What ask leaves. -/
def AskPost (W : World) (R : List Nat) (pa pb pc pt : Nat) (B : List Nat) (w : World) (p : Tree (Nat × (List Nat × Tx))) (c : CS) (e : Ending) (w' : World) : Prop :=
  ∃ m l t' c' lv v E B', exec p c = ((m, (l, t')), c') ∧ e = .returned (.tuple #[lv, v]) ∧ Err w' v m E ∧ w'.ownsRow w.heap.size 25 1 lv l.length (encU l) ∧ TxAt W pt t' B' w' ∧ Ctx W (E ++ (B' ++ (lv.ownBlock.toList ++ R))) pa pb pc c' w' ∧ HeldBy R w w' ∧ (∀ b ∈ E ++ B', b ∈ B ∨ w.heap.size ≤ b) ∧ (∀ b ∈ E, b ∉ B') ∧ (∀ b ∈ E ++ B', b ∉ lv.ownBlock.toList)
/-- What holds at each call's head. -/
structure AskJ (W : World) (Y B0 : List Nat) (pa pb pc pt px pu g n cap pu2 g2 n2 cap2 bq : Nat) (r r2 : Ring) (w0 : World) (l : List ActQ) (P : Tree (Nat × (List Nat × Tx))) (c0 : CS) (k tlen : Nat) (told : List Nat) (t : Tx) (c : CS) (B : List Nat) (lv : Value) (wr : World) : Prop where
  q : QIn W (lv.ownBlock.toList ++ Y) B pa pb pc pt px pu g n cap r t c wr
  o : QOther (lv.ownBlock.toList ++ Y) px pu2 g2 n2 cap2 r2 wr
  box : Cells wr bq [.pointer (some ⟨pu, 0, none⟩), .pointer (some ⟨pu2, 0, none⟩)] 150
  inB : bq ∈ Y
  yX : px ∈ Y
  yU : pu ∈ Y ∧ g ∈ Y
  yO : pu2 ∈ Y ∧ g2 ∈ Y
  held : HeldBy Y w0 wr
  old : ∀ b ∈ B, b ∈ B0 ∨ w0.heap.size ≤ b
  row : wr.ownsRow w0.heap.size 25 1 lv tlen (encU told)
  tl : told.length = tlen
  few : tlen ≤ 1001 * k
  cln : Cln t
  run : exec P c0 = exec (qAsk r r2 (l.drop k) told t) c
def AskJJ (W : World) (Y B0 : List Nat) (pa pb pc pt px pu g n cap pu2 g2 n2 cap2 bq : Nat) (r r2 : Ring) (w0 : World) (l : List ActQ) (len : Nat) (P : Tree (Nat × (List Nat × Tx))) (c0 : CS) (lv iv : Value) (wr : World) : Prop :=
  ∃ k tlen told t c B, k ≤ len ∧ iv = .int .i64 (k : Int) ∧ AskJ W Y B0 pa pb pc pt px pu g n cap pu2 g2 n2 cap2 bq r r2 w0 l P c0 k tlen told t c B lv wr
theorem QIn.grown {W : World} {Q Q' Y B : List Nat} {pa pb pc pt px pu g n cap : Nat} {r : Ring} {t : Tx} {c : CS} {w w' : World} (h : QIn W (Q ++ Y) B pa pb pc pt px pu g n cap r t c w) (k : Kept (fun b => b ∈ Q) w w') (hQ : ∀ b ∈ Q, W.heap.size ≤ b) (hQY : ∀ b ∈ Q, b ∉ Y) (hx : px ∈ Y) (hu : pu ∈ Y ∧ g ∈ Y) (hQ' : ∀ b ∈ Q', (b ∈ Q ∨ w.heap.size ≤ b) ∧ b < w'.heap.size) : QIn W (Q' ++ Y) B pa pb pc pt px pu g n cap r t c w' ∧ HeldBy (B ++ Y) w w' := by
  obtain ⟨e1, e2⟩ := Ctx.objs (B := Q) (B' := Q') (R := B ++ Y) (h.ctx.less fun b hb => by
    simp only [List.mem_append] at hb ⊢
    rcases hb with q | q | q <;> simp [q]) k hQ (fun b hb hm => by
    rcases List.mem_append.1 hm with q | q
    · exact h.apart b q (by simp [hb])
    · exact hQY b hb q) hQ'
  refine ⟨⟨e1.less fun b hb => by
    simp only [List.mem_append] at hb ⊢
    rcases hb with q | q | q <;> simp [q], h.tx.heldBy e2 (fun b hb => by simp [hb]), fun b hb hm => ?_, h.tn.heldBy e2 (by simp [hx]), by simp [hx], h.use.heldBy e2 (by simp [hu.1]) (by simp [hu.2]), by simp [hu.1], by simp [hu.2], h.ok, h.hand⟩, e2⟩
  rcases List.mem_append.1 hm with q | q
  · rcases (hQ' b q).1 with z | z
    · exact h.apart b hb (by simp [z])
    · have := h.ctx.heldR b (by simp [hb])
      omega
  · exact h.apart b hb (by simp [q])
set_option maxHeartbeats 16000000 in
theorem ask_ok {W : World} {R B Qo : List Nat} {pa pb pc pt px pu g n cap pu2 g2 n2 cap2 : Nat} {r r2 : Ring} {t : Tx} {c : CS} {w : World} {l : List ActQ} {lp : Option Addr} {len lcap : Nat} (h : QIn W R B pa pb pc pt px pu g n cap r t c w) (h2 : QOther R px pu2 g2 n2 cap2 r2 w) (hl : ActsIn W w (.slice lp len lcap) Qo l) (hlen : l.length = len) (hl100 : len ≤ 100) (hQo : ∀ b ∈ Qo, b ∈ R) (hcl : Cln t) (h99 : (exec (qAsk r r2 l [] t) c).1.1 ≠ 99) :
    Calls Tryz.prog 62 #[.pointer (some ⟨px, 0, none⟩), .agg #[.pointer (some ⟨pu, 0, none⟩), .pointer (some ⟨pu2, 0, none⟩)], .slice lp len lcap] w (AskPost W R pa pb pc pt B w (qAsk r r2 l [] t) c) := by
  have HRL := Lib.hid h.loR
  have HWI := Lib.hid h.ctx.below.size
  obtain ⟨P, hP⟩ : ∃ P, qAsk r r2 l [] t = P := ⟨_, rfl⟩
  obtain ⟨bq, hbq⟩ : ∃ bq, w.heap.size = bq := ⟨_, rfl⟩
  have B0 := (Below.refl w.heap.size w).alloc (Nat.le_refl _) (.cells #[.pointer (some ⟨pu, 0, none⟩), .pointer (some ⟨pu2, 0, none⟩)] 150)
  have C0 := Cells.new w [.pointer (some ⟨pu, 0, none⟩), .pointer (some ⟨pu2, 0, none⟩)] 150
  obtain ⟨w0, hw0⟩ : ∃ w0, w.alloc (.cells #[.pointer (some ⟨pu, 0, none⟩), .pointer (some ⟨pu2, 0, none⟩)] 150) = w0 := ⟨_, rfl⟩
  have hz0 : w0.heap.size = bq + 1 := by rw [← hw0, ← hbq]; simp
  rw [hw0] at B0 C0
  rw [hbq] at C0
  obtain ⟨Y, hY⟩ : ∃ Y, bq :: R = Y := ⟨_, rfl⟩
  have h0 := h.under B0
  have hk0 : HeldBy R w w0 := HeldBy.of_below B0 h.loR
  have hq0 : QIn W Y B pa pb pc pt px pu g n cap r t c w0 := by
    rw [← hY]
    exact h0.held (Q := [bq]) ((h.ctx.came B0 [bq] (by simp; omega)).less fun b hb => by
      simp only [List.mem_append, List.mem_cons, List.not_mem_nil, or_false] at hb ⊢
      rcases hb with q | q | q <;> simp [q]) (fun b hb hm => by
      simp only [List.mem_singleton] at hm
      have := h.ctx.heldR b (by simp [hb])
      omega)
  have ho0 : QOther Y px pu2 g2 n2 cap2 r2 w0 := by
    have := h2.heldBy hk0
    exact ⟨this.use, by rw [← hY]; simp [this.inU], by rw [← hY]; simp [this.inG], this.ok⟩
  have HJ := Lib.hid (show AskJJ W Y B pa pb pc pt px pu g n cap pu2 g2 n2 cap2 bq r r2 w0 l len P c (.slice none 0 0) (.int .i64 0) w0 from ⟨0, 0, [], t, c, B, Nat.zero_le _, rfl, ⟨by simpa [Value.ownBlock] using hq0, by simpa [Value.ownBlock] using ho0, C0, by rw [← hY]; simp, by rw [← hY]; simp [h.inX], by rw [← hY]; simp [h.inU, h.inG], by rw [← hY]; simp [h2.inU, h2.inG], HeldBy.refl _ _, fun b hb => .inl hb, World.ownsRow_nil _ _ _ _, rfl, Nat.zero_le _, hcl, by rw [← hP, List.drop_zero]⟩⟩)
  have HL := Lib.hid (show ActsIn W w0 (.slice lp len lcap) Qo l from hl.heldBy hk0 hQo)
  have HQO := Lib.hid (show ∀ b ∈ Qo, b ∈ Y from fun b hb => by rw [← hY]; simp [hQo b hb])
  have HLEN := Lib.hid hlen; have HW0 := Lib.hid hw0; have HK0 := Lib.hid hk0; have HYY := Lib.hid hY; have HZ0 := Lib.hid hz0; have HBQ := Lib.hid hbq
  have H99 := Lib.hid (show (exec P c).1.1 ≠ 99 by rw [← hP]; exact h99)
  have HLW0 := Lib.hid (show ∀ b ∈ Y, b < w0.heap.size from hq0.loR)
  rw [hP]
  clear h h2 hl hlen hQo hcl h99 hP B0 C0 hz0 h0 hk0 hq0 ho0 hY hw0
  go_enter Tryz.func62, Tryz.ntmps62
  go_wp2
  rw [HW0.out]
  go_loopg [8, 28] len (fun gk lv iv wr => (∃ k : Nat, iv = .int .i64 (k : Int) ∧ gk = len - k) ∧ AskJJ W Y B pa pb pc pt px pu g n cap pu2 g2 n2 cap2 bq r r2 w0 l len P c lv iv wr)
  case atStart => exact ⟨⟨0, rfl, rfl⟩, HJ.out⟩
  case round =>
    clear HJ
    obtain ⟨⟨k', hk', rfl⟩, k, tlen, told, t1, c1, B1, hk, rfl, hj⟩ := hrel
    simp only [Value.int.injEq, true_and, Int.natCast_inj] at hk'
    subst hk'
    obtain ⟨tp, tcap, rfl⟩ := ownsRow_shape hj.row
    obtain ⟨tl, htl⟩ : ∃ tl, (Value.slice tp tlen tcap).ownBlock.toList = tl := ⟨_, rfl⟩
    by_cases hlt : k < len
    · have hlt' : (k : Int) < (len : Int) := by omega
      have hkl : k < l.length := by rw [HLEN.out]; exact hlt
      obtain ⟨a, hka⟩ : ∃ a, l[k]? = some a := ⟨l[k], List.getElem?_eq_getElem hkl⟩
      obtain ⟨ga, oa, rfl, a0, a1, a2, ax⟩ := (HL.out.heldBy hj.held HQO.out).at hj.q.ctx.below hka
      have hq1 := hj.q; have ho1 := hj.o
      rw [htl] at hq1 ho1
      have HJJ := Lib.hid hj; have HAX := Lib.hid ax; have HKA := Lib.hid hka; have HTL := Lib.hid htl
      have hxx := hj.run
      rw [qAsk_drop hka] at hxx
      have B2 := (Below.refl wr.heap.size wr).alloc (Nat.le_refl _) (.cells #[.int .i64 a.kind, .int .u64 (a.x : Int), .bool a.other] 92)
      have C2 := Cells.new wr [.int .i64 a.kind, .int .u64 (a.x : Int), .bool a.other] 92
      obtain ⟨nb, hnb⟩ : ∃ nb, wr.heap.size = nb := ⟨_, rfl⟩
      obtain ⟨wk, hwk⟩ : ∃ wk, wr.alloc (.cells #[.int .i64 a.kind, .int .u64 (a.x : Int), .bool a.other] 92) = wk := ⟨_, rfl⟩
      rw [hwk] at B2 C2
      rw [hnb] at C2
      have hbx := hj.box.heldBy (HeldBy.of_below (R := [bq]) B2 (fun b hb => by simp only [List.mem_singleton] at hb; subst hb; exact hj.box.lt)) (by simp)
      have b0 : wk.cell? ⟨bq, 0, none⟩ = some (.pointer (some ⟨pu, 0, none⟩)) := hbx.cell 0
      have b1 : wk.cell? ⟨bq, 1, none⟩ = some (.pointer (some ⟨pu2, 0, none⟩)) := hbx.cell 1
      have HBW := Lib.hid B2; have HC2 := Lib.hid C2; have HQ1 := Lib.hid hq1; have HO1 := Lib.hid ho1; have HXX := Lib.hid hxx; have HWK := Lib.hid hwk; have HNB := Lib.hid hnb
      clear hj ax hka hq1 ho1 hxx B2 C2 hbx hwk hnb htl hkl
      go_wp2
      rw [HWK.out, HNB.out]
      go_region_held3 (fun w' => w'.cell? ⟨bq, 0, none⟩ = some (.pointer (some ⟨pu, 0, none⟩)) ∧ w'.cell? ⟨bq, 1, none⟩ = some (.pointer (some ⟨pu2, 0, none⟩)))
        (first | with_reducible exact ⟨b0, b1⟩ | go_keep)
        (fail)
      rename_i K6 hK6 hheld
      clear hheld
      refine hK6 _ _ ?_
      go_step
      obtain ⟨wd, hwd⟩ : ∃ wd, wk.drew = wd := ⟨_, rfl⟩
      rw [hwd]
      have hbd : Below wk.heap.size wk wd := by rw [← hwd]; exact below_drewN (Below.refl _ _) 1
      have HBD := Lib.hid hbd
      have hmk : Below wr.heap.size wr wd := HBW.out.trans (hbd.mono HBW.out.size)
      have HMK := Lib.hid hmk
      have hcd := HC2.out.heldBy (HeldBy.of_below (R := [nb]) hbd (fun b hb => by simp only [List.mem_singleton] at hb; subst hb; exact HC2.out.lt)) (by simp)
      have k0 : wd.cell? ⟨nb, 0, none⟩ = some (.int .i64 a.kind) := hcd.cell 0
      have k1 : wd.cell? ⟨nb, 1, none⟩ = some (.int .u64 (a.x : Int)) := hcd.cell 1
      have k2 : wd.cell? ⟨nb, 2, none⟩ = some (.bool a.other) := hcd.cell 2
      clear hcd hbd hwd b0 b1 a0 a1 a2
      go_cut [11, 12] from 29 to 130 (fun s11 s12 wx => (∃ pU gU nU cU rU pO gO nO cO rO, s11 = .pointer (some ⟨pU, 0, none⟩) ∧ s12 = .pointer (some ⟨pO, 0, none⟩) ∧ AskU W (tl ++ Y) B1 pa pb pc pt px pU gU nU cU pO gO nO cO rU rO r r2 l k told a P c t1 c1 wd) ∧ wd = wx)
      case first =>
        have hq2 := HQ1.out.under hmk
        have ho2 := HO1.out.heldBy (HeldBy.of_below hmk HQ1.out.loR)
        have hxx := HXX.out
        have hcl := HJJ.out.cln
        obtain ⟨ob, hob⟩ : ∃ ob, a.other = ob := ⟨_, rfl⟩
        rw [hob] at k2 hxx
        cases ob with
        | false =>
          simp only [Bool.false_eq_true, if_false] at hxx
          have HF := Lib.hid (show AskU W (tl ++ Y) B1 pa pb pc pt px pu g n cap pu2 g2 n2 cap2 r r2 r r2 l k told a P c t1 c1 wd from ⟨hq2, ho2, hxx, hcl⟩)
          clear hq2 ho2 hxx hcl hmk
          go_wp2
          go_meet
          case rel => exact ⟨⟨_, _, _, _, _, _, _, _, _, _, rfl, rfl, HF.out⟩, rfl⟩
        | true =>
          simp only [if_true] at hxx
          have HF := Lib.hid (show AskU W (tl ++ Y) B1 pa pb pc pt px pu2 g2 n2 cap2 pu g n cap r2 r r r2 l k told a P c t1 c1 wd from ⟨hq2.swap ho2, hq2.other, hxx, hcl⟩)
          clear hq2 ho2 hxx hcl hmk
          go_wp2
          go_meet
          case rel => exact ⟨⟨_, _, _, _, _, _, _, _, _, _, rfl, rfl, HF.out⟩, rfl⟩
      case rest =>
        obtain ⟨⟨pU, gU, nU, cU, rU, pO, gO, nO, cO, rO, rfl, rfl, hU⟩, rfl⟩ := hcut
        clear hmk k2
        go_upto_region 9 with (fail)
        iterate 8 go_step
        go_cut [13, 14] from 29 to 130 (fun s13 s14 wx => AskM W (tl ++ Y) B1 pa pb pc pt r r2 l k told P c wd s13 s14 wx)
        case first =>
            by_cases hk0 : a.kind = 0
            · have g0 : (a.kind == 0) = true := by simp [hk0]
              have HC := Lib.hid (qlen_ok hU.hu)
              go_wp2_with fail
              refine HC.out.mono ?_
              rintro e w2 ⟨m, ⟨y, t2⟩, c2, v2, E2, B2, hx2, hG2, rfl, he2, ht2, hc2, hh2, hB2, hEB2⟩
              have gt := wrap_toU y
              have HF := Lib.hid (show AskM W (tl ++ Y) B1 pa pb pc pt r r2 l k told P c wd v2 (.slice (some ⟨w2.heap.size, 0, none⟩) 1 1) (w2.alloc (.cells #[.int .u64 ((toU y : Nat) : Int)] 25)) from AskU.fin hU (by unfold qAct; rw [if_pos hk0]; simp only [exec_bind, hx2, exec]) he2 ht2 hc2 hh2 hB2 hEB2 (fun _ => ⟨SomeAt.one w2 (toU y), by simp⟩) ((Below.refl w2.heap.size w2).alloc (Nat.le_refl _) _))
              clear hx2 hG2 he2 ht2 hc2 hh2 hB2 hEB2 HC hU
              go_wp2
              go_meet
              case rel => exact HF.out
            have g0 : (a.kind == 0) = false := by simp [hk0]
            by_cases hk12 : a.kind = 1 ∨ a.kind = 2
            · have HC := Lib.hid (qput_ok hU.hu HAX.out (by rw [hU.cln.1]; simp))
              have HACT := Lib.hid (fun (m : Nat) (t2 : Tx) (c2 : CS) (hx : exec (qPut rU a.x t1) c1 = ((m, t2), c2)) => (show exec (qAct rU rO a t1) c1 = ((m, ([], t2)), c2) by unfold qAct; rw [if_neg hk0, if_pos hk12]; simp only [exec_bind, hx, exec]))
              rcases hk12 with hk1 | hk1
              · have g1 : (a.kind == 1) = true := by simp [hk1]
                go_wp2_with fail
                refine HC.out.mono ?_
                rintro e w2 ⟨m, t2, c2, v2, E2, B2, hx2, -, rfl, he2, ht2, hc2, hh2, hB2, hEB2⟩
                have HF := Lib.hid (show AskM W (tl ++ Y) B1 pa pb pc pt r r2 l k told P c wd v2 (.slice none 0 0) w2 from AskU.fin hU (HACT.out _ _ _ hx2) he2 ht2 hc2 hh2 hB2 hEB2 (fun _ => ⟨SomeAt.nil _, by simp⟩) (Below.refl _ _))
                clear hx2 he2 ht2 hc2 hh2 hB2 hEB2 HC hU
                go_wp2
                go_meet
                case rel => exact HF.out
              · have g1 : (a.kind == 1) = false := by simp [hk1]
                have g2 : (a.kind == 2) = true := by simp [hk1]
                go_wp2_with fail
                refine HC.out.mono ?_
                rintro e w2 ⟨m, t2, c2, v2, E2, B2, hx2, -, rfl, he2, ht2, hc2, hh2, hB2, hEB2⟩
                have HF := Lib.hid (show AskM W (tl ++ Y) B1 pa pb pc pt r r2 l k told P c wd v2 (.slice none 0 0) w2 from AskU.fin hU (HACT.out _ _ _ hx2) he2 ht2 hc2 hh2 hB2 hEB2 (fun _ => ⟨SomeAt.nil _, by simp⟩) (Below.refl _ _))
                clear hx2 he2 ht2 hc2 hh2 hB2 hEB2 HC hU
                go_wp2
                go_meet
                case rel => exact HF.out
            have g1 : (a.kind == 1) = false := by simp; omega
            have g2 : (a.kind == 2) = false := by simp; omega
            by_cases hk3 : a.kind = 3
            · have g3 : (a.kind == 3) = true := by simp [hk3]
              have HC := Lib.hid (qpeek_ok hU.hu)
              go_wp2_with fail
              refine HC.out.mono ?_
              rintro e w2 ⟨m, ⟨y, t2⟩, c2, v2, E2, B2, hx2, hG2, rfl, he2, ht2, hc2, hh2, hB2, hEB2⟩
              have HF := Lib.hid (show AskM W (tl ++ Y) B1 pa pb pc pt r r2 l k told P c wd v2 (.slice (some ⟨w2.heap.size, 0, none⟩) 1 1) (w2.alloc (.cells #[.int .u64 (y : Int)] 25)) from AskU.fin hU (by unfold qAct; rw [if_neg hk0, if_neg hk12, if_pos hk3]; simp only [exec_bind, hx2, exec]) he2 ht2 hc2 hh2 hB2 hEB2 (fun _ => ⟨SomeAt.one w2 y, by simp⟩) ((Below.refl w2.heap.size w2).alloc (Nat.le_refl _) _))
              clear hx2 hG2 he2 ht2 hc2 hh2 hB2 hEB2 HC hU
              go_wp2
              go_meet
              case rel => exact HF.out
            have g3 : (a.kind == 3) = false := by simp [hk3]
            by_cases hk4 : a.kind = 4
            · have g4 : (a.kind == 4) = true := by simp [hk4]
              have HC := Lib.hid (qtake_ok hU.hu (by rw [hU.cln.1]; simp))
              go_wp2_with fail
              refine HC.out.mono ?_
              rintro e w2 ⟨m, ⟨y, t2⟩, c2, v2, E2, B2, hx2, hG2, rfl, he2, ht2, hc2, hh2, hB2, hEB2⟩
              have HF := Lib.hid (show AskM W (tl ++ Y) B1 pa pb pc pt r r2 l k told P c wd v2 (.slice (some ⟨w2.heap.size, 0, none⟩) 1 1) (w2.alloc (.cells #[.int .u64 (y : Int)] 25)) from AskU.fin hU (by unfold qAct; rw [if_neg hk0, if_neg hk12, if_neg hk3, if_pos hk4]; simp only [exec_bind, hx2, exec]) he2 ht2 hc2 hh2 hB2 hEB2 (fun _ => ⟨SomeAt.one w2 y, by simp⟩) ((Below.refl w2.heap.size w2).alloc (Nat.le_refl _) _))
              clear hx2 hG2 he2 ht2 hc2 hh2 hB2 hEB2 HC hU
              go_wp2
              go_meet
              case rel => exact HF.out
            have g4 : (a.kind == 4) = false := by simp [hk4]
            by_cases hk5 : a.kind = 5
            · have g5 : (a.kind == 5) = true := by simp [hk5]
              have HC := Lib.hid (qtry_ok hU.hu (by rw [hU.cln.1]; simp))
              go_wp2_with fail
              refine HC.out.mono ?_
              rintro e w2 ⟨m, ⟨⟨y, is⟩, t2⟩, c2, v2, E2, B2, hx2, hG2, rfl, he2, ht2, hc2, hh2, hB2, hEB2⟩
              cases is with
              | true =>
                have HF := Lib.hid (show AskM W (tl ++ Y) B1 pa pb pc pt r r2 l k told P c wd v2 (.slice (some ⟨w2.heap.size, 0, none⟩) 1 1) (w2.alloc (.cells #[.int .u64 (y : Int)] 25)) from AskU.fin hU (by unfold qAct; rw [if_neg hk0, if_neg hk12, if_neg hk3, if_neg hk4, if_pos hk5]; simp only [exec_bind, hx2, exec, if_true]) he2 ht2 hc2 hh2 hB2 hEB2 (fun _ => ⟨SomeAt.one w2 y, by simp⟩) ((Below.refl w2.heap.size w2).alloc (Nat.le_refl _) _))
                clear hx2 hG2 he2 ht2 hc2 hh2 hB2 hEB2 HC hU
                go_wp2
                go_meet
                case rel => exact HF.out
              | false =>
                have HF := Lib.hid (show AskM W (tl ++ Y) B1 pa pb pc pt r r2 l k told P c wd v2 (.slice none 0 0) w2 from AskU.fin hU (by unfold qAct; rw [if_neg hk0, if_neg hk12, if_neg hk3, if_neg hk4, if_pos hk5]; simp only [exec_bind, hx2, exec, Bool.false_eq_true, if_false]) he2 ht2 hc2 hh2 hB2 hEB2 (fun _ => ⟨SomeAt.nil _, by simp⟩) (Below.refl _ _))
                clear hx2 hG2 he2 ht2 hc2 hh2 hB2 hEB2 HC hU
                go_wp2
                go_meet
                case rel => exact HF.out
            have g5 : (a.kind == 5) = false := by simp [hk5]
            by_cases hk6 : a.kind = 6
            · have g6 : (a.kind == 6) = true := by simp [hk6]
              have HC := Lib.hid (qall_ok hU.hu (fun e => H99.out (by rw [hU.run, exec_bind]; unfold qAct; rw [if_neg hk0, if_neg hk12, if_neg hk3, if_neg hk4, if_neg hk5, if_pos hk6]; unfold askK; rw [if_neg (by rw [e]; omega)]; exact e)))
              go_wp2_with fail
              refine HC.out.mono ?_
              rintro e w2 ⟨m, y, t2, c2, lv2, v2, E2, B2, hx2, rfl, he2, hr2, ht2, hc2, hh2, hB2, hEB2, hBl2, hl2, hf2⟩
              have HF := Lib.hid (show AskM W (tl ++ Y) B1 pa pb pc pt r r2 l k told P c wd v2 lv2 w2 from AskU.fin hU (by unfold qAct; rw [if_neg hk0, if_neg hk12, if_neg hk3, if_neg hk4, if_neg hk5, if_pos hk6]; exact hx2) he2 ht2 (hc2.less fun b hb => by
                simp only [List.mem_append] at hb ⊢
                rcases hb with q | q | q | q <;> simp [q]) hh2 hB2 hEB2 (fun _ => ⟨SomeAt.row hr2, hl2⟩) (Below.refl _ _))
              clear hx2 he2 hr2 ht2 hc2 hh2 hB2 hEB2 hBl2 hl2 hf2 HC hU
              go_wp2
              go_meet
              case rel => exact HF.out
            have g6 : (a.kind == 6) = false := by simp [hk6]
            by_cases hk7 : a.kind = 7
            · have g7 : (a.kind == 7) = true := by simp [hk7]
              have HC := Lib.hid (qdrain_ok hU.hu (fun e => H99.out (by rw [hU.run, exec_bind]; unfold qAct; rw [if_neg hk0, if_neg hk12, if_neg hk3, if_neg hk4, if_neg hk5, if_neg hk6, if_pos hk7]; unfold askK; rw [if_neg (by rw [e]; omega)]; exact e)) (by rw [hU.cln.1]; simp))
              go_wp2_with fail
              refine HC.out.mono ?_
              rintro e w2 ⟨m, y, t2, c2, lv2, v2, E2, B2, hx2, rfl, he2, hr2, ht2, hc2, hh2, hB2, hEB2, hBl2, hl2, hf2⟩
              have HF := Lib.hid (show AskM W (tl ++ Y) B1 pa pb pc pt r r2 l k told P c wd v2 lv2 w2 from AskU.fin hU (by unfold qAct; rw [if_neg hk0, if_neg hk12, if_neg hk3, if_neg hk4, if_neg hk5, if_neg hk6, if_pos hk7]; exact hx2) he2 ht2 (hc2.less fun b hb => by
                simp only [List.mem_append] at hb ⊢
                rcases hb with q | q | q | q <;> simp [q]) hh2 hB2 hEB2 (fun _ => ⟨SomeAt.row hr2, hl2⟩) (Below.refl _ _))
              clear hx2 he2 hr2 ht2 hc2 hh2 hB2 hEB2 hBl2 hl2 hf2 HC hU
              go_wp2
              go_meet
              case rel => exact HF.out
            have g7 : (a.kind == 7) = false := by simp [hk7]
            by_cases hk8 : a.kind = 8
            · have g8 : (a.kind == 8) = true := by simp [hk8]
              have HC := Lib.hid (qmove_ok hU.hu hU.ho (by rw [hU.cln.1]; simp))
              go_wp2_with fail
              refine HC.out.mono ?_
              rintro e w2 ⟨m, t2, c2, v2, E2, B2, hx2, -, rfl, he2, ht2, hc2, hh2, hB2, hEB2⟩
              have HF := Lib.hid (show AskM W (tl ++ Y) B1 pa pb pc pt r r2 l k told P c wd v2 (.slice none 0 0) w2 from AskU.fin hU (by unfold qAct; rw [if_neg hk0, if_neg hk12, if_neg hk3, if_neg hk4, if_neg hk5, if_neg hk6, if_neg hk7, if_pos hk8]; simp only [exec_bind, hx2, exec]; rfl) he2 ht2 hc2 hh2 hB2 hEB2 (fun _ => ⟨SomeAt.nil _, by simp⟩) (Below.refl _ _))
              clear hx2 he2 ht2 hc2 hh2 hB2 hEB2 HC hU
              go_wp2
              go_meet
              case rel => exact HF.out
            have g8 : (a.kind == 8) = false := by simp [hk8]
            by_cases hk9 : a.kind = 9
            · have g9 : (a.kind == 9) = true := by simp [hk9]
              have HC := Lib.hid (either_ok hU.hu hU.ho hU.cln)
              go_wp2_with fail
              refine HC.out.mono ?_
              rintro e w2 ⟨m, ⟨y, t2⟩, c2, v2, E2, B2, hx2, hG2, rfl, he2, ht2, hc2, hh2, hB2, hEB2⟩
              have HF := Lib.hid (show AskM W (tl ++ Y) B1 pa pb pc pt r r2 l k told P c wd v2 (.slice (some ⟨w2.heap.size, 0, none⟩) 1 1) (w2.alloc (.cells #[.int .u64 (y : Int)] 25)) from AskU.fin hU (by unfold qAct; rw [if_neg hk0, if_neg hk12, if_neg hk3, if_neg hk4, if_neg hk5, if_neg hk6, if_neg hk7, if_neg hk8, if_pos hk9]; simp only [exec_bind, hx2, exec]) he2 ht2 hc2 hh2 hB2 hEB2 (fun _ => ⟨SomeAt.one w2 y, by simp⟩) ((Below.refl w2.heap.size w2).alloc (Nat.le_refl _) _))
              clear hx2 hG2 he2 ht2 hc2 hh2 hB2 hEB2 HC hU
              go_wp2
              go_meet
              case rel => exact HF.out
            have g9 : (a.kind == 9) = false := by simp [hk9]
            have HF := Lib.hid (show AskM W (tl ++ Y) B1 pa pb pc pt r r2 l k told P c wd .nilIface (.slice none 0 0) wd from AskU.fin hU (m := 0) (x := []) (t2 := t1) (c2 := c1) (by unfold qAct; rw [if_neg hk0, if_neg hk12, if_neg hk3, if_neg hk4, if_neg hk5, if_neg hk6, if_neg hk7, if_neg hk8, if_neg hk9]; rfl) .none hU.hu.tx hU.hu.ctx (HeldBy.refl _ _) (fun b hb => .inl (by simpa using hb)) (by simp) (fun _ => ⟨SomeAt.nil _, by simp⟩) (Below.refl _ _))
            clear hU
            go_wp2
            go_meet
            case rel => exact HF.out
        case rest =>
          have HCUT := Lib.hid hcut
          clear hcut hU k0 k1
          obtain ⟨m, x, t2, c2, E2, B2, he2, hs2, hx2, ht2, hc2, hh2, hB2, hEB2, hcl2⟩ := HCUT.out
          by_cases h0 : m = 0
          · subst h0
            obtain ⟨rfl, rfl⟩ := he2.isNil rfl
            obtain ⟨hsa, hxl⟩ := hs2 rfl
            have hkk : HeldBy (tl ++ Y) wr wc := (HeldBy.of_below HMK.out HQ1.out.loR).trans hh2
            have hrow := HJJ.out.row
            have hrow2 := ownsRow_heldBy hrow hkk (fun b hb => by
              have q : b ∈ tl := by rw [← HTL.out]; simpa using hb
              simp [q])
            have htl3 := HJJ.out.tl
            have hfew3 := HJJ.out.few
            have HQ3 := Lib.hid ((HQ1.out.under HMK.out).next ht2 hc2 hh2 hB2)
            have HO3 := Lib.hid (HO1.out.heldBy hkk)
            have HROW := Lib.hid hrow2; have HKK := Lib.hid hkk; have HSA := Lib.hid hsa; have HT2 := Lib.hid ht2; have HC2' := Lib.hid (show Ctx W (B2 ++ (tl ++ Y)) pa pb pc c2 wc from hc2); have HX2 := Lib.hid hx2; have HCL2 := Lib.hid hcl2; have HXL := Lib.hid hxl; have HTL3 := Lib.hid htl3; have HFEW := Lib.hid hfew3
            have HB2 := Lib.hid (show ∀ b ∈ B2, b ∈ B ∨ w0.heap.size ≤ b from fun b hb => by
              rcases hB2 b (by simpa using hb) with q | q
              · exact HJJ.out.old b q
              · exact .inr (Nat.le_trans HJJ.out.held.1 (Nat.le_trans HMK.out.size q)))
            have hn : tlen + x.length ≤ 1000000 := by omega
            have hb : w0.heap.size ≤ wc.heap.size := Nat.le_trans HJJ.out.held.1 hkk.1
            clear he2 hs2 hx2 ht2 hc2 hh2 hB2 hEB2 hcl2 hsa hxl hkk hrow hrow2 htl3 hfew3 HCUT
            go_wp2_with (first
              | (at_builtin; refine wpList_append_words rfl _ _ rfl (v := .slice tp tlen tcap) rfl HROW.out rfl HSA.out hn hb ?_; intro v5 w5 hown5 hgrow5 hat5 hsh5; obtain ⟨p5, c5, rfl⟩ := hsh5)
              | go_in)
            have hlo : ∀ b ∈ tl, w0.heap.size ≤ b := fun b hb => by
              have q : b ∈ (Value.slice tp tlen tcap).ownBlock.toList := by rw [HTL.out]; exact hb
              exact (HROW.out.lt b (by simpa using q)).1
            have kk : Kept (fun b => b ∈ tl) wc w5 := (Kept.of_grown hgrow5).mono (fun b _ e => by rw [← HTL.out]; simp [← e])
            have hnew : ∀ b ∈ (Value.slice p5 (tlen + x.length) c5).ownBlock.toList, (b ∈ tl ∨ wc.heap.size ≤ b) ∧ b < w5.heap.size := fun b hb => by
              refine ⟨?_, (hown5.lt b (by simpa using hb)).2⟩
              rcases hat5 with q | q
              · exact .inl (by rw [← HTL.out, ← q]; exact hb)
              · right
                rw [q] at hb
                simp at hb
                omega
            obtain ⟨e1, e2⟩ := HQ3.out.grown kk (fun b hb => Nat.le_trans (Nat.le_trans HWI.out (by have := HZ0.out; have := HBQ.out; omega)) (hlo b hb)) (fun b hb hm => by have := hlo b hb; have := HLW0.out b hm; omega) HJJ.out.yX HJJ.out.yU hnew
            have hy2 := HJJ.out.yO
            have HREL := Lib.hid (show AskJJ W Y B pa pb pc pt px pu g n cap pu2 g2 n2 cap2 bq r r2 w0 l len P c (.slice p5 (tlen + x.length) c5) (.int .i64 ((k + 1 : Nat) : Int)) w5 from ⟨k + 1, tlen + x.length, told ++ x, t2, c2, B2, by omega, rfl, ⟨e1, ⟨HO3.out.use.heldBy e2 (by simp [hy2.1]) (by simp [hy2.2]), by simp [hy2.1], by simp [hy2.2], HO3.out.ok⟩, (HJJ.out.box.heldBy HKK.out (by simp [HJJ.out.inB])).heldBy e2 (by simp [HJJ.out.inB]), HJJ.out.inB, HJJ.out.yX, HJJ.out.yU, hy2, (HJJ.out.held.trans (HKK.out.less fun b hb => by simp [hb])).trans (e2.less fun b hb => by simp [hb]), HB2.out, by simpa [encU] using hown5, by rw [List.length_append, HTL3.out], by have := HXL.out; have := HFEW.out; omega, HCL2.out, by rw [HX2.out]; unfold askK; rw [if_pos rfl]⟩⟩)
            clear hlo kk hnew e1 e2 hy2 hown5 hgrow5 hat5 hn hb
            go_roundg (len - (k + 1))
            case rel => exact ⟨⟨k + 1, rfl, rfl⟩, HREL.out⟩
            case measure => omega
          · have HF := Lib.hid (show AskPost W R pa pb pc pt B w P c (.returned (.tuple #[.slice tp tlen tcap, u13])) wc from by
              have hkk : HeldBy (tl ++ Y) wr wc := (HeldBy.of_below HMK.out HQ1.out.loR).trans hh2
              have htl' : ∀ b ∈ (Value.slice tp tlen tcap).ownBlock.toList, b ∈ tl := fun b hb => by rw [← HTL.out]; exact hb
              have hsz : w.heap.size ≤ w0.heap.size := HK0.out.1
              refine ⟨m, told, t2, c2, _, u13, E2, B2, by rw [hx2]; unfold askK; rw [if_neg h0]; rfl, rfl, he2, row_mono (by rw [HJJ.out.tl]; exact ownsRow_heldBy HJJ.out.row hkk (fun b hb => by have q := htl' b (by simpa using hb); simp [q])) hsz, ht2, hc2.less (fun b hb => ?_), (HK0.out.trans (HJJ.out.held.less fun b hb => by rw [← HYY.out]; simp [hb])).trans (hkk.less fun b hb => by rw [← HYY.out]; simp [hb]), fun b hb => ?_, hEB2, fun b hb hm => ?_⟩
              · rw [← HYY.out]
                simp only [List.mem_append, List.mem_cons] at hb ⊢
                rcases hb with q | q | q | q
                · simp [q]
                · simp [q]
                · have := htl' b q; simp [this]
                · simp [q]
              · rcases hB2 b hb with q | q
                · rcases HJJ.out.old b q with z | z
                  · exact .inl z
                  · exact .inr (Nat.le_trans hsz z)
                · exact .inr (Nat.le_trans hsz (Nat.le_trans HJJ.out.held.1 (Nat.le_trans HMK.out.size q)))
              · have hm' := htl' b hm
                rcases hB2 b hb with q | q
                · exact HQ1.out.apart b q (by simp [hm'])
                · have z := HQ1.out.loR b (by simp [hm'])
                  have z2 := HMK.out.size
                  omega)
            obtain ⟨tt, xx, rfl⟩ := he2.iface h0
            clear he2 hs2 hx2 ht2 hc2 hh2 hB2 hEB2 hcl2 h0 HCUT
            go_wp2
            go_ret2
            exact HF.out
    · obtain rfl : k = len := by omega
      have hki : decide ((k : Int) < (k : Int)) = false := by simp
      have HF := Lib.hid (show AskPost W R pa pb pc pt B w P c (.returned (.tuple #[.slice tp tlen tcap, .nilIface])) wr from by
        have hsz : w.heap.size ≤ w0.heap.size := HK0.out.1
        refine ⟨0, told, t1, c1, _, .nilIface, [], B1, by rw [hj.run, ← HLEN.out, List.drop_length]; rfl, rfl, .none, row_mono (by rw [hj.tl]; exact hj.row) hsz, hj.q.tx, hj.q.ctx.less (fun b hb => ?_), HK0.out.trans (hj.held.less fun b hb => by rw [← HYY.out]; simp [hb]), fun b hb => ?_, by simp, fun b hb hm => hj.q.apart b (by simpa using hb) (by simp only [List.mem_append]; exact .inl hm)⟩
        · rw [← HYY.out]
          simp only [List.nil_append, List.mem_append, List.mem_cons] at hb ⊢
          rcases hb with q | q | q
          · simp [q]
          · exact .inr (.inl q)
          · simp [q]
        · rcases hj.old b (by simpa using hb) with z | z
          · exact .inl z
          · exact .inr (Nat.le_trans hsz z))
      clear hj hlt
      go_wp2
      go_ret2
      exact HF.out
end Go.Proofs.YtkpdacfiglpgeaaGreatDoor
