/- Layer 6 (meta): turn, Lock. -/
import Derived.Test.YtmdganpealbmpaaGreatDoorMeta2
import Derived.ScopeJumps
namespace Go.Proofs.YtmdganpealbmpaaGreatDoor
open Go.RowKit Bl Th
set_option maxRecDepth 10000

theorem eqlMt (a b : Mt) (w : World) : (binOp .eql 205 (.agg #[.int .i64 a.ver, .int .i64 a.own, .bool a.chg, .bool a.wait]) (.agg #[.int .i64 b.ver, .int .i64 b.own, .bool b.chg, .bool b.wait])).run Tryz.prog w = .ok (.bool (decide (a = b))) w := by
  have h : decide (a = b) = (a.ver == b.ver && a.own == b.own && (a.chg == b.chg) && (a.wait == b.wait)) := by
    obtain ⟨v, o, c, t⟩ := a
    obtain ⟨v', o', c', t'⟩ := b
    rw [Bool.eq_iff_iff]
    simp [and_assoc]
  rw [h]
  simp [go_sem, Tryz.underlying205]
  repeat' split
  all_goals simp_all

theorem Err.under {w w' : World} {v : Value} {n : Nat} {E : List Nat} (h : Err w v n E) (hb : Below w.heap.size w w') : Err w' v n E := h.heldBy (R := E) (HeldBy.of_below hb h.lt) (fun _ h => h)
/-- A function value that makes of a Meta another one, as long as R is held. -/
structure Turns (R : List Nat) (wi : World) (g : Nat) (caps : Array Value) (to' : Mt → Mt) : Prop where
  enters : ∀ (args : Array Value) (w : World), (callFunc g args).run Tryz.prog w = .ok (.enter g args) w
  does : ∀ (mv mo : Int) (mc mw : Bool) (w : World), HeldBy R wi w → Calls Tryz.prog g (#[.agg #[.int .i64 mv, .int .i64 mo, .bool mc, .bool mw]] ++ caps) w fun e w' => ∃ ov oo oc ow, to' ⟨mv, mo, mc, mw⟩ = ⟨ov, oo, oc, ow⟩ ∧ e = .returned (.agg #[.int .i64 ov, .int .i64 oo, .bool oc, .bool ow]) ∧ Below w.heap.size w w'

/-- What holds at each jump back. -/
def TurnJ (W : World) (R : List Nat) (pa pb pc : Nat) (wi : World) (cell : Nat) (s : ByteArray) (ver : Int) (g : Nat) (caps : Array Value) (to' : Mt → Mt) (c : CS) : Act → World → Prop :=
  fun a' w' => ∃ (k : Nat) (c1 : CS) (u12 u13 u14 u15 u16 u17 u18 u19 u20 u21 u22 u23 u24 u25 u26 u27 u28 u29 u30 u31 u32 u33 u34 u35 u36 u37 u38 u39 u40 u41 u42 u43 u44 u45 u46 u47 u48 u49 u50 u51 u52 u53 u54 u55 u56 u57 u58 u59 u60 u61 u62 u63 u64 u65 u66 u67 u68 u69 u70 u71 u72 u73 u74 u75 u76 u77 u78 u79 u80 u81 u82 u83 u84 u85 u86 u87 : Value), a' = { tmps := #[.pointer (some ⟨pc, 0, none⟩), .string s, .int .u64 (cell : Int), .int .i64 ver, .func (.func g) #[] caps, undef, undef, undef, undef, undef, .nilIface, .int .i64 (k : Int), u12, u13, u14, u15, u16, u17, u18, u19, u20, u21, u22, u23, u24, u25, u26, u27, u28, u29, u30, u31, u32, u33, u34, u35, u36, u37, u38, u39, u40, u41, u42, u43, u44, u45, u46, u47, u48, u49, u50, u51, u52, u53, u54, u55, u56, u57, u58, u59, u60, u61, u62, u63, u64, u65, u66, u67, u68, u69, u70, u71, u72, u73, u74, u75, u76, u77, u78, u79, u80, u81, u82, u83, u84, u85, u86, u87], defers := [] } ∧ k ≤ 8 ∧ Ctx W R pa pb pc c1 w' ∧ HeldBy R wi w' ∧ exec (mTurnN cell ver to' 8) c = exec (mTurnN cell ver to' (8 - k)) c1
set_option maxHeartbeats 4000000 in
theorem turn_ok {W : World} {R : List Nat} {pa pb pc : Nat} {c : CS} {wi : World} (h : Ctx W R pa pb pc c wi) (hg : Handle W) {cell : Nat} (hr : cell < 18446744073709551616) (s : ByteArray) (ver : Int) {g : Nat} {caps : Array Value} {to' : Mt → Mt} (ht : Turns R wi g caps to') :
    Calls Tryz.prog 126 #[.pointer (some ⟨pc, 0, none⟩), .string s, .int .u64 (cell : Int), .int .i64 ver, .func (.func g) #[] caps] wi (CameX W R pa pb pc wi (mTurnN cell ver to' 8) c (fun _ => True) fun _ v => v) := by
  have H := Lib.hid h; have HG := Lib.hid hg; have HR := Lib.hid hr; have HT := Lib.hid ht
  have ef := ht.enters
  clear h hg hr ht
  go_enter Tryz.func126, Tryz.ntmps126
  go_wp2
  refine wp_scope_jumps 0 (TurnJ W R pa pb pc wi cell s ver g caps to' c) (fun a' _ => 8 - (intOf (a'.tmps.getD 11 undef)).toNat) rfl ?_ ?_
  · go_wp2
    go_step3
    have hc := H.out
    have hh := HeldBy.refl R wi
    obtain ⟨t, ht⟩ : ∃ t, 8 - 0 = t + 1 := ⟨7, rfl⟩
    have hx : exec (mTurnN cell ver to' 8) c = exec (mTurnN cell ver to' (8 - 0)) c := rfl
    have hk : 0 < 8 := by omega
    obtain ⟨k, hk0⟩ : ∃ k : Nat, 0 = k := ⟨0, rfl⟩
    rw [hk0] at ht hx hk
    have HK0 := Lib.hid hk0
    clear hk0
    have ht' : 8 - (k + 1) = t := by omega
    have HTT := Lib.hid ht'
    have HK := Lib.hid hk
    rw [ht] at hx
    have HX := Lib.hid hx
    have HH := Lib.hid hh
    have HP := Lib.hid (peek_ok hc HG.out HR.out)
    clear hc hh hx ht ht'
    go_wp2_with fail
    refine HP.out.mono ?_
    rintro e w1 ⟨n, m, c2, v, E, hx, -, rfl, he, hc, hh, hE⟩
    have HH1 := Lib.hid (HH.out.trans hh)
    obtain ⟨mv, mo, mc, mw⟩ := m
    simp only [mtV]
    by_cases h0 : n = 0
    · subst h0
      obtain ⟨rfl, rfl⟩ := he.isNil rfl
      have HX1 := Lib.hid (show exec (mTurnN cell ver to' 8) c = exec (mTurnIn cell ver ⟨mv, mo, mc, mw⟩ (to' ⟨mv, mo, mc, mw⟩) (mTurnN cell ver to' t)) c2 by rw [HX.out]; simp only [mTurnN, exec_bind, hx, if_true])
      have HC1 := Lib.hid (show Ctx W R pa pb pc c2 w1 from hc)
      have B1 := (Below.refl w1.heap.size w1).alloc (Nat.le_refl _) (.cells #[.int .i64 mv, .int .i64 mo, .bool mc, .bool mw] 205)
      have C1 := Cells.new w1 [.int .i64 mv, .int .i64 mo, .bool mc, .bool mw] 205
      have q2 := C1.cell 2
      have q0 := C1.cell 0
      simp only [List.getElem?_cons_succ, List.getElem?_cons_zero] at q2 q0
      have HB1 := Lib.hid B1; have HCL1 := Lib.hid C1
      clear hx he hc hh hE HP HX HH B1 C1
      by_cases hbad : mc = true ∨ mv ≠ ver
      · have HX2 := Lib.hid (show exec (mTurnN cell ver to' 8) c = ((12, ()), c2) by rw [HX1.out]; unfold mTurnIn; rw [if_pos hbad]; rfl)
        have HI := Lib.hid (in_no (wr := wi) s 12 (HC1.out.under HB1.out) (HH1.out.under HC1.out HB1.out) (by omega) (by omega))
        cases mc with
        | true =>
          clear hbad HX1
          go_wp2_with fail
          refine HI.out.mono ?_
          rintro e w3 ⟨v, E, rfl, he, hc, hh, hE⟩
          have HF := Lib.hid (cameX_in (G := fun _ => True) (mk := fun (_ : Unit) v => v) HX2.out trivial he hc hh hE)
          clear he hc hh hE HI HX2
          go_wp2
          try rw [Exit.noGoto_ret]
          go_ret
          exact HF.out
        | false =>
          have hv : (mv != ver) = true := by simpa using hbad
          clear hbad HX1
          go_wp2_with fail
          refine HI.out.mono ?_
          rintro e w3 ⟨v, E, rfl, he, hc, hh, hE⟩
          have HF := Lib.hid (cameX_in (G := fun _ => True) (mk := fun (_ : Unit) v => v) HX2.out trivial he hc hh hE)
          clear he hc hh hE HI HX2
          go_wp2
          try rw [Exit.noGoto_ret]
          go_ret
          exact HF.out
      · obtain rfl : mc = false := by cases mc <;> simp_all
        obtain rfl : mv = ver := by
          by_cases q : mv = ver
          · exact q
          · exact absurd (.inr q) hbad
        have HDO := Lib.hid (fun (w : World) (hh : HeldBy R wi w) => HT.out.does mv mo false mw w hh)
        have HBAD := Lib.hid hbad
        have HB1' := HB1.out; have HH1' := HH1.out.under HC1.out HB1'
        have HDO1 := Lib.hid (HDO.out _ HH1')
        clear hbad HB1' HH1' HDO
        have q1 := HCL1.out.cell 1
        have q3 := HCL1.out.cell 3
        simp only [List.getElem?_cons_succ, List.getElem?_cons_zero] at q1 q3
        go_wp2_with fail
        generalize w1.alloc (.cells #[.int .i64 mv, .int .i64 mo, .bool false, .bool mw] 205) = w1' at *
        refine HDO1.out.mono ?_
        rintro e w2 ⟨ov, oo, oc, ow, ho, rfl, hb2⟩
        rw [show to' ⟨mv, mo, false, mw⟩ = ⟨ov, oo, oc, ow⟩ from ho] at HX1
        have C2 := HCL1.out.kept (Kept.of_below hb2) (by have := HCL1.out.lt; omega)
        have B2 := HB1.out.trans (hb2.mono HB1.out.size)
        have B3 := B2.alloc (B2.size) (.cells #[.int .i64 ov, .int .i64 oo, .bool oc, .bool ow] 205)
        have C3 := C2.alloc (.cells #[.int .i64 ov, .int .i64 oo, .bool oc, .bool ow] 205)
        have D3 := Cells.new w2 [.int .i64 ov, .int .i64 oo, .bool oc, .bool ow] 205
        have heq := eqlMt ⟨ov, oo, oc, ow⟩ ⟨mv, mo, false, mw⟩
        simp only at heq
        have HB3 := Lib.hid B3; have HC3 := Lib.hid C3; have HD3 := Lib.hid D3
        have HPK := Lib.hid (pack_any mv mo false mw)
        have HPO := Lib.hid (pack_any ov oo oc ow)
        clear q0 q1 q2 q3 hb2 C2 B2 B3 HDO1
        obtain ⟨q0, q1, q2, q3, -⟩ := four C3
        obtain ⟨p0, p1, p2, p3, -⟩ := four D3
        clear C3 D3 ho
        by_cases heqm : (⟨ov, oo, oc, ow⟩ : Mt) = ⟨mv, mo, false, mw⟩
        · rw [decide_eq_true heqm] at heq
          have HX2 := Lib.hid (show exec (mTurnN cell mv to' 8) c = ((0, ()), c2) by rw [HX1.out]; unfold mTurnIn; rw [if_neg HBAD.out, if_pos heqm]; rfl)
          clear heqm HX1
          go_wp2
          try rw [Exit.noGoto_ret]
          go_ret
          exact ⟨0, (), c2, _, [], HX2.out, trivial, rfl, .none, HC1.out.under HB3.out, HH1.out.under HC1.out HB3.out, by simp⟩
        · rw [decide_eq_false heqm] at heq
          have HNE := Lib.hid heqm
          clear heqm
          go_wp2_with fail
          have HB3' := HB3.out; have HD3' := HD3.out
          generalize w2.alloc (.cells #[.int .i64 ov, .int .i64 oo, .bool oc, .bool ow] 205) = w3 at *
          refine (HPK.out _).mono ?_
          rintro e w4 ⟨v, E, rfl, he, hE, hb4⟩
          have D4 := HD3'.kept (Kept.of_below hb4) (by have := HD3'.lt; omega)
          have HB4 := Lib.hid (HB3'.trans (hb4.mono HB3'.size))
          have HPL := Lib.hid (packM_lt ⟨mv, mo, false, mw⟩)
          by_cases h1 : (packM ⟨mv, mo, false, mw⟩).1 = 0
          · rw [h1] at he
            obtain ⟨rfl, rfl⟩ := he.isNil rfl
            have HX2 := Lib.hid (show exec (mTurnN cell mv to' 8) c = exec (if (packM ⟨ov, oo, oc, ow⟩).1 = 0 then
              (cas cell 0 (packM ⟨mv, mo, false, mw⟩).2 (packM ⟨ov, oo, oc, ow⟩).2).bind fun q => if q.1 = 0 then (if q.2 then .ret (0, ()) else mTurnN cell mv to' t) else .ret (q.1, ()) else .ret ((packM ⟨ov, oo, oc, ow⟩).1, ())) c2 by rw [HX1.out]; unfold mTurnIn; rw [if_neg HBAD.out, if_neg HNE.out, if_pos h1])
            clear HB3' HD3' q0 q1 q2 q3 p0 p1 p2 p3 h1 he hE hb4 HX1
            obtain ⟨p0, p1, p2, p3, -⟩ := four D4
            clear D4
            obtain ⟨old, hold⟩ : ∃ old, (packM ⟨mv, mo, false, mw⟩).2 = old := ⟨_, rfl⟩
            rw [hold] at HX2 HPL ⊢
            clear hold
            go_wp2_with fail
            refine (HPO.out _).mono ?_
            rintro e w5 ⟨v, E, rfl, he, hE, hb5⟩
            have HB5 := Lib.hid (HB4.out.trans (hb5.mono HB4.out.size))
            have HPL2 := Lib.hid (packM_lt ⟨ov, oo, oc, ow⟩)
            by_cases h1 : (packM ⟨ov, oo, oc, ow⟩).1 = 0
            · rw [h1] at he
              obtain ⟨rfl, rfl⟩ := he.isNil rfl
              rw [if_pos h1] at HX2
              obtain ⟨nxt, hnxt⟩ : ∃ nxt, (packM ⟨ov, oo, oc, ow⟩).2 = nxt := ⟨_, rfl⟩
              rw [hnxt] at HX2 HPL2 ⊢
              have HCAS := Lib.hid (cas_ok (HC1.out.under HB5.out) HG.out HR.out HPL2.out 0 old)
              have HH5 := Lib.hid (HH1.out.under HC1.out HB5.out)
              clear p0 p1 p2 p3 h1 he hE hb5 hnxt
              go_wp2_with fail
              refine HCAS.out.mono ?_
              rintro e w6 ⟨n, b, c3, hx, hn, -, rfl, hc, hh⟩
              have HH6 := Lib.hid (HH5.out.trans hh)
              have HC6 := Lib.hid hc
              by_cases h0 : n = 0
              · subst h0
                rw [errV_zero]
                cases b with
                | true =>
                  have HX3 := Lib.hid (show exec (mTurnN cell mv to' 8) c = ((0, ()), c3) by rw [HX2.out]; simp only [exec_bind, hx, if_true, exec])
                  clear hx hn hc hh HCAS HX2
                  go_wp2
                  try rw [Exit.noGoto_ret]
                  go_ret
                  exact ⟨0, (), c3, _, [], HX3.out, trivial, rfl, .none, HC6.out, HH6.out, by simp⟩
                | false =>
                  have HX3 := Lib.hid (show exec (mTurnN cell mv to' 8) c = exec (mTurnN cell mv to' t) c3 by rw [HX2.out]; simp only [exec_bind, hx, if_true, Bool.false_eq_true, if_false])
                  clear hx hn hc hh HCAS HX2
                  go_wp2
                  go_step3
                  first
                  | (refine ⟨rfl, 1, c3, _, _, _, _, _, _, _, _, _, _, _, _, _, _, _, _, _, _, _, _, _, _, _, _, _, _, _, _, _, _, _, _, _, _, _, _, _, _, _, _, _, _, _, _, _, _, _, _, _, _, _, _, _, _, _, _, _, _, _, _, _, _, _, _, _, _, _, _, _, _, _, _, _, _, _, _, rfl, by omega, HC6.out, HH6.out, ?_⟩; have q1 := HTT.out; have q2 := HK0.out; rw [show 8 - 1 = t by omega]; exact HX3.out)
                  | (refine ⟨rfl, ⟨k + 1, c3, _, _, _, _, _, _, _, _, _, _, _, _, _, _, _, _, _, _, _, _, _, _, _, _, _, _, _, _, _, _, _, _, _, _, _, _, _, _, _, _, _, _, _, _, _, _, _, _, _, _, _, _, _, _, _, _, _, _, _, _, _, _, _, _, _, _, _, _, _, _, _, _, _, _, _, _, by go_num, ?_, HC6.out, HH6.out, ?_⟩, ?_⟩
                     · have := HK.out; omega
                     · rw [HTT.out]; exact HX3.out
                     · have := HK.out; simp [intOf]; omega)
              · have HX3 := Lib.hid (show exec (mTurnN cell mv to' 8) c = ((n, ()), c3) by rw [HX2.out]; simp only [exec_bind, hx, if_neg h0, exec])
                have HI := Lib.hid (in_acc s hc HH6.out hn)
                rw [errV_pos h0] at HI ⊢
                clear hx hn hc hh h0 HCAS HX2
                go_wp2_with fail
                refine HI.out.mono ?_
                rintro e w7 ⟨v, E, rfl, he, hc, hh, hE⟩
                have HF := Lib.hid (cameX_in (G := fun _ => True) (mk := fun (_ : Unit) v => v) HX3.out trivial he hc hh hE)
                clear he hc hh hE HI HX3
                go_wp2
                try rw [Exit.noGoto_ret]
                go_ret
                exact HF.out
            · rw [if_neg h1] at HX2
              have HX3 := Lib.hid (show exec (mTurnN cell mv to' 8) c = (((packM ⟨ov, oo, oc, ow⟩).1, ()), c2) by rw [HX2.out]; rfl)
              obtain ⟨tt, xx, rfl⟩ := he.iface h1
              have HI := Lib.hid (Came.in' (wr := wi) s (HC1.out.came HB5.out E (fun b hb => ⟨Nat.le_trans HB4.out.size (hE b hb), he.lt b hb⟩)) (HH1.out.under HC1.out HB5.out) he (fun b hb => Nat.le_trans HH1.out.1 (Nat.le_trans HB4.out.size (hE b hb))) (Nat.le_trans HH1.out.1 HB5.out.size))
              clear p0 p1 p2 p3 h1 he hE hb5 HX2
              go_wp2_with fail
              refine HI.out.mono ?_
              rintro e w7 ⟨v, E, rfl, he, hc, hh, hE⟩
              have HF := Lib.hid (cameX_in (G := fun _ => True) (mk := fun (_ : Unit) v => v) HX3.out trivial he hc hh hE)
              clear he hc hh hE HI HX3
              go_wp2
              try rw [Exit.noGoto_ret]
              go_ret
              exact HF.out
          · have HX3 := Lib.hid (show exec (mTurnN cell mv to' 8) c = (((packM ⟨mv, mo, false, mw⟩).1, ()), c2) by rw [HX1.out]; unfold mTurnIn; rw [if_neg HBAD.out, if_neg HNE.out, if_neg h1]; rfl)
            obtain ⟨tt, xx, rfl⟩ := he.iface h1
            have HI := Lib.hid (Came.in' (wr := wi) s (HC1.out.came HB4.out E (fun b hb => ⟨Nat.le_trans HB3'.size (hE b hb), he.lt b hb⟩)) (HH1.out.under HC1.out HB4.out) he (fun b hb => Nat.le_trans HH1.out.1 (Nat.le_trans HB3'.size (hE b hb))) (Nat.le_trans HH1.out.1 HB4.out.size))
            clear HB3' HD3' q0 q1 q2 q3 p0 p1 p2 p3 h1 he hE hb4 HX1 D4
            go_wp2_with fail
            refine HI.out.mono ?_
            rintro e w7 ⟨v, E, rfl, he, hc, hh, hE⟩
            have HF := Lib.hid (cameX_in (G := fun _ => True) (mk := fun (_ : Unit) v => v) HX3.out trivial he hc hh hE)
            clear he hc hh hE HI HX3
            go_wp2
            try rw [Exit.noGoto_ret]
            go_ret
            exact HF.out
    · have HX1 := Lib.hid (show exec (mTurnN cell ver to' 8) c = ((n, ()), c2) by rw [HX.out]; simp only [mTurnN, exec_bind, hx, if_neg h0, exec])
      have B1 := (Below.refl w1.heap.size w1).alloc (Nat.le_refl _) (.cells #[.int .i64 mv, .int .i64 mo, .bool mc, .bool mw] 205)
      have HI := Lib.hid (Came.in' s (hc.under B1) ((HH1.out).under (hc.less (fun b hb => by simp [hb])) B1) (he.under B1) (fun b hb => Nat.le_trans HH.out.1 (hE b hb)) (Nat.le_trans HH1.out.1 B1.size))
      obtain ⟨tt, xx, rfl⟩ := he.iface h0
      clear hx he hc hh hE HP HX HH h0 B1
      go_wp2_with fail
      refine HI.out.mono ?_
      rintro e w3 ⟨v, E, rfl, he, hc, hh, hE⟩
      have HF := Lib.hid (cameX_in (G := fun _ => True) (mk := fun (_ : Unit) v => v) HX1.out trivial he hc hh hE)
      clear he hc hh hE HI HX1
      go_wp2
      try rw [Exit.noGoto_ret]
      go_ret
      exact HF.out
  · rintro a' w' ⟨k, c1, u12, u13, u14, u15, u16, u17, u18, u19, u20, u21, u22, u23, u24, u25, u26, u27, u28, u29, u30, u31, u32, u33, u34, u35, u36, u37, u38, u39, u40, u41, u42, u43, u44, u45, u46, u47, u48, u49, u50, u51, u52, u53, u54, u55, u56, u57, u58, u59, u60, u61, u62, u63, u64, u65, u66, u67, u68, u69, u70, u71, u72, u73, u74, u75, u76, u77, u78, u79, u80, u81, u82, u83, u84, u85, u86, u87, rfl, hk8, hc, hh, hx⟩
    by_cases hk : k < 8
    · obtain ⟨t, ht⟩ : ∃ t, 8 - k = t + 1 := ⟨7 - k, by omega⟩
      have HK0 := Lib.hid hk8
      have g1 : ((k : Int) == 8) = false := by rw [beq_eq_false_iff_ne]; omega
      clear hk8
      have ht' : 8 - (k + 1) = t := by omega
      have HTT := Lib.hid ht'
      have HK := Lib.hid hk
      rw [ht] at hx
      have HX := Lib.hid hx
      have HH := Lib.hid hh
      have HP := Lib.hid (peek_ok hc HG.out HR.out)
      clear hc hh hx ht ht'
      go_wp2_with fail
      refine HP.out.mono ?_
      rintro e w1 ⟨n, m, c2, v, E, hx, -, rfl, he, hc, hh, hE⟩
      have HH1 := Lib.hid (HH.out.trans hh)
      obtain ⟨mv, mo, mc, mw⟩ := m
      simp only [mtV]
      by_cases h0 : n = 0
      · subst h0
        obtain ⟨rfl, rfl⟩ := he.isNil rfl
        have HX1 := Lib.hid (show exec (mTurnN cell ver to' 8) c = exec (mTurnIn cell ver ⟨mv, mo, mc, mw⟩ (to' ⟨mv, mo, mc, mw⟩) (mTurnN cell ver to' t)) c2 by rw [HX.out]; simp only [mTurnN, exec_bind, hx, if_true])
        have HC1 := Lib.hid (show Ctx W R pa pb pc c2 w1 from hc)
        have B1 := (Below.refl w1.heap.size w1).alloc (Nat.le_refl _) (.cells #[.int .i64 mv, .int .i64 mo, .bool mc, .bool mw] 205)
        have C1 := Cells.new w1 [.int .i64 mv, .int .i64 mo, .bool mc, .bool mw] 205
        have q2 := C1.cell 2
        have q0 := C1.cell 0
        simp only [List.getElem?_cons_succ, List.getElem?_cons_zero] at q2 q0
        have HB1 := Lib.hid B1; have HCL1 := Lib.hid C1
        clear hx he hc hh hE HP HX HH B1 C1
        by_cases hbad : mc = true ∨ mv ≠ ver
        · have HX2 := Lib.hid (show exec (mTurnN cell ver to' 8) c = ((12, ()), c2) by rw [HX1.out]; unfold mTurnIn; rw [if_pos hbad]; rfl)
          have HI := Lib.hid (in_no (wr := wi) s 12 (HC1.out.under HB1.out) (HH1.out.under HC1.out HB1.out) (by omega) (by omega))
          cases mc with
          | true =>
            clear hbad HX1
            go_wp2_with fail
            refine HI.out.mono ?_
            rintro e w3 ⟨v, E, rfl, he, hc, hh, hE⟩
            have HF := Lib.hid (cameX_in (G := fun _ => True) (mk := fun (_ : Unit) v => v) HX2.out trivial he hc hh hE)
            clear he hc hh hE HI HX2
            go_wp2
            try rw [Exit.noGoto_ret]
            go_ret
            exact HF.out
          | false =>
            have hv : (mv != ver) = true := by simpa using hbad
            clear hbad HX1
            go_wp2_with fail
            refine HI.out.mono ?_
            rintro e w3 ⟨v, E, rfl, he, hc, hh, hE⟩
            have HF := Lib.hid (cameX_in (G := fun _ => True) (mk := fun (_ : Unit) v => v) HX2.out trivial he hc hh hE)
            clear he hc hh hE HI HX2
            go_wp2
            try rw [Exit.noGoto_ret]
            go_ret
            exact HF.out
        · obtain rfl : mc = false := by cases mc <;> simp_all
          obtain rfl : mv = ver := by
            by_cases q : mv = ver
            · exact q
            · exact absurd (.inr q) hbad
          have HDO := Lib.hid (fun (w : World) (hh : HeldBy R wi w) => HT.out.does mv mo false mw w hh)
          have HBAD := Lib.hid hbad
          have HB1' := HB1.out; have HH1' := HH1.out.under HC1.out HB1'
          have HDO1 := Lib.hid (HDO.out _ HH1')
          clear hbad HB1' HH1' HDO
          have q1 := HCL1.out.cell 1
          have q3 := HCL1.out.cell 3
          simp only [List.getElem?_cons_succ, List.getElem?_cons_zero] at q1 q3
          go_wp2_with fail
          generalize w1.alloc (.cells #[.int .i64 mv, .int .i64 mo, .bool false, .bool mw] 205) = w1' at *
          refine HDO1.out.mono ?_
          rintro e w2 ⟨ov, oo, oc, ow, ho, rfl, hb2⟩
          rw [show to' ⟨mv, mo, false, mw⟩ = ⟨ov, oo, oc, ow⟩ from ho] at HX1
          have C2 := HCL1.out.kept (Kept.of_below hb2) (by have := HCL1.out.lt; omega)
          have B2 := HB1.out.trans (hb2.mono HB1.out.size)
          have B3 := B2.alloc (B2.size) (.cells #[.int .i64 ov, .int .i64 oo, .bool oc, .bool ow] 205)
          have C3 := C2.alloc (.cells #[.int .i64 ov, .int .i64 oo, .bool oc, .bool ow] 205)
          have D3 := Cells.new w2 [.int .i64 ov, .int .i64 oo, .bool oc, .bool ow] 205
          have heq := eqlMt ⟨ov, oo, oc, ow⟩ ⟨mv, mo, false, mw⟩
          simp only at heq
          have HB3 := Lib.hid B3; have HC3 := Lib.hid C3; have HD3 := Lib.hid D3
          have HPK := Lib.hid (pack_any mv mo false mw)
          have HPO := Lib.hid (pack_any ov oo oc ow)
          clear q0 q1 q2 q3 hb2 C2 B2 B3 HDO1
          obtain ⟨q0, q1, q2, q3, -⟩ := four C3
          obtain ⟨p0, p1, p2, p3, -⟩ := four D3
          clear C3 D3 ho
          by_cases heqm : (⟨ov, oo, oc, ow⟩ : Mt) = ⟨mv, mo, false, mw⟩
          · rw [decide_eq_true heqm] at heq
            have HX2 := Lib.hid (show exec (mTurnN cell mv to' 8) c = ((0, ()), c2) by rw [HX1.out]; unfold mTurnIn; rw [if_neg HBAD.out, if_pos heqm]; rfl)
            clear heqm HX1
            go_wp2
            try rw [Exit.noGoto_ret]
            go_ret
            exact ⟨0, (), c2, _, [], HX2.out, trivial, rfl, .none, HC1.out.under HB3.out, HH1.out.under HC1.out HB3.out, by simp⟩
          · rw [decide_eq_false heqm] at heq
            have HNE := Lib.hid heqm
            clear heqm
            go_wp2_with fail
            have HB3' := HB3.out; have HD3' := HD3.out
            generalize w2.alloc (.cells #[.int .i64 ov, .int .i64 oo, .bool oc, .bool ow] 205) = w3 at *
            refine (HPK.out _).mono ?_
            rintro e w4 ⟨v, E, rfl, he, hE, hb4⟩
            have D4 := HD3'.kept (Kept.of_below hb4) (by have := HD3'.lt; omega)
            have HB4 := Lib.hid (HB3'.trans (hb4.mono HB3'.size))
            have HPL := Lib.hid (packM_lt ⟨mv, mo, false, mw⟩)
            by_cases h1 : (packM ⟨mv, mo, false, mw⟩).1 = 0
            · rw [h1] at he
              obtain ⟨rfl, rfl⟩ := he.isNil rfl
              have HX2 := Lib.hid (show exec (mTurnN cell mv to' 8) c = exec (if (packM ⟨ov, oo, oc, ow⟩).1 = 0 then
                (cas cell 0 (packM ⟨mv, mo, false, mw⟩).2 (packM ⟨ov, oo, oc, ow⟩).2).bind fun q => if q.1 = 0 then (if q.2 then .ret (0, ()) else mTurnN cell mv to' t) else .ret (q.1, ()) else .ret ((packM ⟨ov, oo, oc, ow⟩).1, ())) c2 by rw [HX1.out]; unfold mTurnIn; rw [if_neg HBAD.out, if_neg HNE.out, if_pos h1])
              clear HB3' HD3' q0 q1 q2 q3 p0 p1 p2 p3 h1 he hE hb4 HX1
              obtain ⟨p0, p1, p2, p3, -⟩ := four D4
              clear D4
              obtain ⟨old, hold⟩ : ∃ old, (packM ⟨mv, mo, false, mw⟩).2 = old := ⟨_, rfl⟩
              rw [hold] at HX2 HPL ⊢
              clear hold
              go_wp2_with fail
              refine (HPO.out _).mono ?_
              rintro e w5 ⟨v, E, rfl, he, hE, hb5⟩
              have HB5 := Lib.hid (HB4.out.trans (hb5.mono HB4.out.size))
              have HPL2 := Lib.hid (packM_lt ⟨ov, oo, oc, ow⟩)
              by_cases h1 : (packM ⟨ov, oo, oc, ow⟩).1 = 0
              · rw [h1] at he
                obtain ⟨rfl, rfl⟩ := he.isNil rfl
                rw [if_pos h1] at HX2
                obtain ⟨nxt, hnxt⟩ : ∃ nxt, (packM ⟨ov, oo, oc, ow⟩).2 = nxt := ⟨_, rfl⟩
                rw [hnxt] at HX2 HPL2 ⊢
                have HCAS := Lib.hid (cas_ok (HC1.out.under HB5.out) HG.out HR.out HPL2.out 0 old)
                have HH5 := Lib.hid (HH1.out.under HC1.out HB5.out)
                clear p0 p1 p2 p3 h1 he hE hb5 hnxt
                go_wp2_with fail
                refine HCAS.out.mono ?_
                rintro e w6 ⟨n, b, c3, hx, hn, -, rfl, hc, hh⟩
                have HH6 := Lib.hid (HH5.out.trans hh)
                have HC6 := Lib.hid hc
                by_cases h0 : n = 0
                · subst h0
                  rw [errV_zero]
                  cases b with
                  | true =>
                    have HX3 := Lib.hid (show exec (mTurnN cell mv to' 8) c = ((0, ()), c3) by rw [HX2.out]; simp only [exec_bind, hx, if_true, exec])
                    clear hx hn hc hh HCAS HX2
                    go_wp2
                    try rw [Exit.noGoto_ret]
                    go_ret
                    exact ⟨0, (), c3, _, [], HX3.out, trivial, rfl, .none, HC6.out, HH6.out, by simp⟩
                  | false =>
                    have HX3 := Lib.hid (show exec (mTurnN cell mv to' 8) c = exec (mTurnN cell mv to' t) c3 by rw [HX2.out]; simp only [exec_bind, hx, if_true, Bool.false_eq_true, if_false])
                    clear hx hn hc hh HCAS HX2
                    go_wp2
                    go_step3
                    first
                    | (refine ⟨rfl, 1, c3, _, _, _, _, _, _, _, _, _, _, _, _, _, _, _, _, _, _, _, _, _, _, _, _, _, _, _, _, _, _, _, _, _, _, _, _, _, _, _, _, _, _, _, _, _, _, _, _, _, _, _, _, _, _, _, _, _, _, _, _, _, _, _, _, _, _, _, _, _, _, _, _, _, _, _, _, rfl, by omega, HC6.out, HH6.out, ?_⟩; have q1 := HTT.out; have q2 := HK0.out; rw [show 8 - 1 = t by omega]; exact HX3.out)
                    | (refine ⟨rfl, ⟨k + 1, c3, _, _, _, _, _, _, _, _, _, _, _, _, _, _, _, _, _, _, _, _, _, _, _, _, _, _, _, _, _, _, _, _, _, _, _, _, _, _, _, _, _, _, _, _, _, _, _, _, _, _, _, _, _, _, _, _, _, _, _, _, _, _, _, _, _, _, _, _, _, _, _, _, _, _, _, _, by go_num, ?_, HC6.out, HH6.out, ?_⟩, ?_⟩
                       · have := HK.out; omega
                       · rw [HTT.out]; exact HX3.out
                       · have := HK.out; simp [intOf]; omega)
                · have HX3 := Lib.hid (show exec (mTurnN cell mv to' 8) c = ((n, ()), c3) by rw [HX2.out]; simp only [exec_bind, hx, if_neg h0, exec])
                  have HI := Lib.hid (in_acc s hc HH6.out hn)
                  rw [errV_pos h0] at HI ⊢
                  clear hx hn hc hh h0 HCAS HX2
                  go_wp2_with fail
                  refine HI.out.mono ?_
                  rintro e w7 ⟨v, E, rfl, he, hc, hh, hE⟩
                  have HF := Lib.hid (cameX_in (G := fun _ => True) (mk := fun (_ : Unit) v => v) HX3.out trivial he hc hh hE)
                  clear he hc hh hE HI HX3
                  go_wp2
                  try rw [Exit.noGoto_ret]
                  go_ret
                  exact HF.out
              · rw [if_neg h1] at HX2
                have HX3 := Lib.hid (show exec (mTurnN cell mv to' 8) c = (((packM ⟨ov, oo, oc, ow⟩).1, ()), c2) by rw [HX2.out]; rfl)
                obtain ⟨tt, xx, rfl⟩ := he.iface h1
                have HI := Lib.hid (Came.in' (wr := wi) s (HC1.out.came HB5.out E (fun b hb => ⟨Nat.le_trans HB4.out.size (hE b hb), he.lt b hb⟩)) (HH1.out.under HC1.out HB5.out) he (fun b hb => Nat.le_trans HH1.out.1 (Nat.le_trans HB4.out.size (hE b hb))) (Nat.le_trans HH1.out.1 HB5.out.size))
                clear p0 p1 p2 p3 h1 he hE hb5 HX2
                go_wp2_with fail
                refine HI.out.mono ?_
                rintro e w7 ⟨v, E, rfl, he, hc, hh, hE⟩
                have HF := Lib.hid (cameX_in (G := fun _ => True) (mk := fun (_ : Unit) v => v) HX3.out trivial he hc hh hE)
                clear he hc hh hE HI HX3
                go_wp2
                try rw [Exit.noGoto_ret]
                go_ret
                exact HF.out
            · have HX3 := Lib.hid (show exec (mTurnN cell mv to' 8) c = (((packM ⟨mv, mo, false, mw⟩).1, ()), c2) by rw [HX1.out]; unfold mTurnIn; rw [if_neg HBAD.out, if_neg HNE.out, if_neg h1]; rfl)
              obtain ⟨tt, xx, rfl⟩ := he.iface h1
              have HI := Lib.hid (Came.in' (wr := wi) s (HC1.out.came HB4.out E (fun b hb => ⟨Nat.le_trans HB3'.size (hE b hb), he.lt b hb⟩)) (HH1.out.under HC1.out HB4.out) he (fun b hb => Nat.le_trans HH1.out.1 (Nat.le_trans HB3'.size (hE b hb))) (Nat.le_trans HH1.out.1 HB4.out.size))
              clear HB3' HD3' q0 q1 q2 q3 p0 p1 p2 p3 h1 he hE hb4 HX1 D4
              go_wp2_with fail
              refine HI.out.mono ?_
              rintro e w7 ⟨v, E, rfl, he, hc, hh, hE⟩
              have HF := Lib.hid (cameX_in (G := fun _ => True) (mk := fun (_ : Unit) v => v) HX3.out trivial he hc hh hE)
              clear he hc hh hE HI HX3
              go_wp2
              try rw [Exit.noGoto_ret]
              go_ret
              exact HF.out
      · have HX1 := Lib.hid (show exec (mTurnN cell ver to' 8) c = ((n, ()), c2) by rw [HX.out]; simp only [mTurnN, exec_bind, hx, if_neg h0, exec])
        have B1 := (Below.refl w1.heap.size w1).alloc (Nat.le_refl _) (.cells #[.int .i64 mv, .int .i64 mo, .bool mc, .bool mw] 205)
        have HI := Lib.hid (Came.in' s (hc.under B1) ((HH1.out).under (hc.less (fun b hb => by simp [hb])) B1) (he.under B1) (fun b hb => Nat.le_trans HH.out.1 (hE b hb)) (Nat.le_trans HH1.out.1 B1.size))
        obtain ⟨tt, xx, rfl⟩ := he.iface h0
        clear hx he hc hh hE HP HX HH h0 B1
        go_wp2_with fail
        refine HI.out.mono ?_
        rintro e w3 ⟨v, E, rfl, he, hc, hh, hE⟩
        have HF := Lib.hid (cameX_in (G := fun _ => True) (mk := fun (_ : Unit) v => v) HX1.out trivial he hc hh hE)
        clear he hc hh hE HI HX1
        go_wp2
        try rw [Exit.noGoto_ret]
        go_ret
        exact HF.out
    · obtain rfl : k = 8 := by omega
      have HI := Lib.hid (in_no (wr := wi) s 12 hc hh (by omega) (by omega))
      have HX2 := Lib.hid (show exec (mTurnN cell ver to' 8) c = ((12, ()), c1) by rw [hx]; rfl)
      clear hk hk8 hc hh hx
      go_wp2_with fail
      refine HI.out.mono ?_
      rintro e w3 ⟨v, E, rfl, he, hc, hh, hE⟩
      have HF := Lib.hid (cameX_in (G := fun _ => True) (mk := fun (_ : Unit) v => v) HX2.out trivial he hc hh hE)
      clear he hc hh hE HI HX2
      go_wp2
      try rw [Exit.noGoto_ret]
      go_ret
      exact HF.out
end Go.Proofs.YtmdganpealbmpaaGreatDoor
