/- RefNothing: its transaction as a body: the walk. -/
import Derived.Test.YthiplbcmafdlbaaGreatDoorBodyN13
import Derived.Test.YthiplbcmafdlbaaGreatDoorBody13a
import Derived.StillTailTactics
import Derived.Deep.RegionHeld3
namespace Go.Proofs.YthiplbcmafdlbaaGreatDoor
open Go.RowKit Bl Th
set_option maxRecDepth 10000

theorem nops_read {cells : List Nat} {l : List Op13} {t t2 : Tx} {n rv ox : Nat} {kd oa : Int} {c c3 : CS} (hk : kd ≠ 2) (h : exec (tRead t (cellAt cells oa)) c = ((n, rv, t2), c3)) : exec (nothOps cells (⟨kd, oa, ox⟩ :: l) t) c = if n = 0 then exec (nothOps cells l t2) c3 else ((n, t2), c3) := by
  rw [nothOps, if_neg hk, exec_bind, h]
  simp only
  split <;> rfl
theorem nops_write {cells : List Nat} {l : List Op13} {t t2 : Tx} {n ox : Nat} {oa : Int} {c : CS} (h : tWrite t (cellAt cells oa) ox = (n, t2)) : exec (nothOps cells (⟨2, oa, ox⟩ :: l) t) c = if n = 0 then exec (nothOps cells l t2) c else ((n, t2), c) := by
  rw [nothOps, if_pos rfl, h]
  simp only
  split <;> rfl
/-- What holds at each operation's head. -/
def NothJ (W : World) (Y : List Nat) (pa pb pc pt : Nat) (wi : World) (cells : List Nat) (l : List Op13) (len : Nat) (t0 : Tx) (c0 : CS) (v i : Value) (wr : World) : Prop :=
  ∃ (k n : Nat) (t : Tx) (B E : List Nat) (c1 : CS), k ≤ len ∧ i = .int .i64 (k : Int) ∧ t.sets.log.length ≤ k ∧ Err wr v n E ∧ WayN W Y pa pb pc pt wi t B E c1 wr ∧
    exec (nothOps cells l t0) c0 = if n = 0 then exec (nothOps cells (l.drop k) t) c1 else ((n, t), c1)
theorem hsN {W : World} {X : List Nat} {bc bl bs bn bR bW g : Nat} {lv : Value} {Qo : List Nat} {l : List Op13} {clock : Nat} {cells : List Nat} {wi w : World} (h : SharedN W bc bl bs bn g lv Qo l clock cells wi) (k : HeldBy (bR :: bW :: X) wi w) (hs : ∀ b ∈ shN bc bl bs bn g Qo, b ∈ X) : SharedN W bc bl bs bn g lv Qo l clock cells w := h.heldBy k fun b hb => by simp [hs b hb]
theorem ef_noth1 (args : Array Value) (w : World) : (callFunc 9 args).run Tryz.prog w = .ok (.enter 9 args) w := enters_of Tryz.func9 (by kernel_rfl) rfl args w

set_option maxHeartbeats 4000000 in
theorem noth1_ok {W : World} {X : List Nat} {pa pb pc bc bl bs bn bR bW g round : Nat} {lp : Option Addr} {lcap : Nat} {Qo : List Nat} {l : List Op13} {clock : Nat} {cells : List Nat} {c : CS} {s : Sets} {wi : World} (hg : Handle W) (hn1 : 1 ≤ cells.length) (hn4 : cells.length ≤ 100) (hclock : clock < 18446744073709551616) (hcells : ∀ x ∈ cells, x < 18446744073709551616)
    (hs : SharedN W bc bl bs bn g (.slice lp l.length lcap) Qo l clock cells wi) (hSh : ∀ b ∈ shN bc bl bs bn g Qo, b ∈ X) (ha : (nothAux W bR bW).at' s [bR, bW] wi) (h : Ctx W (bR :: bW :: X) pa pb pc c wi) (hXQ : ∀ b ∈ X, b ∉ [bR, bW]) :
    Calls Tryz.prog 9 #[.pointer (some ⟨pc, 0, none⟩), .int .i64 (round : Int), .pointer (some ⟨bc, 0, none⟩), .pointer (some ⟨bl, 0, none⟩), .pointer (some ⟨bs, 0, none⟩), .pointer (some ⟨bn, 0, none⟩), .pointer (some ⟨bR, 0, none⟩), .pointer (some ⟨bW, 0, none⟩)] wi (BodyPost W pa pb pc (nothAux W bR bW) X [bR, bW] wi (treeBody (fun _ => nothT l clock cells 1) s round c)) := by
  have H := Lib.hid h; have HG := Lib.hid hg; have HS := Lib.hid hs; have HSH := Lib.hid hSh; have HA := Lib.hid ha; have HXQ := Lib.hid hXQ; have HN1 := Lib.hid hn1; have HN4 := Lib.hid hn4; have HCF := Lib.hid hcells
  have HBEG := Lib.hid (begin_ok h hg hclock 1)
  have q0 := hs.clock'.cell 0
  simp only [List.getElem?_cons_zero] at q0
  clear h hg hs hSh ha hXQ hn1 hn4 hclock hcells
  go_enter Tryz.func9, Tryz.ntmps9
  go_wp2_with fail
  refine HBEG.out.mono ?_
  rintro e w2 ⟨n, t, c1, hx, hh, ⟨rfl, pt, B, rfl, ht, hc, hB⟩ | ⟨h0, v, E, rfl, he, hc, hE⟩⟩
  · have HY := Lib.hid (show (∀ b ∈ (bR :: bW :: X), b < wi.heap.size) ∧ W.heap.size ≤ wi.heap.size from ⟨H.out.heldR, H.out.below.size⟩)
    have hway : WayN W (bR :: bW :: X) pa pb pc pt wi t B [] c1 w2 := ⟨hc, hh, ht, hB, by simp, HY.out⟩
    have HWAY := Lib.hid hway
    have HX := Lib.hid (show exec (nothT l clock cells 1) c = exec ((nothOps cells l t).bind fun r => .ret (r.1, fun _ => r.2.sets)) c1 by simp only [nothT, exec_bind, hx, if_true])
    have HLOG := Lib.hid (show t.sets.log.length ≤ 0 by
      simp only [tBegin, exec_bind] at hx
      have := (Prod.ext_iff.1 (Prod.ext_iff.1 hx).1).2
      simp only [exec] at this
      rw [← this]
      simp [Sets.empty])
    obtain ⟨len, hlen⟩ : ∃ len, l.length = len := ⟨_, rfl⟩
    have HLEN := Lib.hid hlen
    rw [hlen] at HS
    have hfew : len ≤ 1000 := by rw [← hlen]; exact HS.out.lies.few
    have q2 := (hsN HS.out hway.held HSH.out).ops.cell 0
    simp only [List.getElem?_cons_zero] at q2
    clear hx hh ht hc hB hway hlen HBEG q0
    go_wp2
    go_loopw [12, 13] (NothJ W (bR :: bW :: X) pa pb pc pt wi cells l len t c1) (fun _ i _ => len - (intOf i).toNat)
    case atStart => exact ⟨0, 0, t, B, [], c1, by omega, rfl, HLOG.out, .none, HWAY.out, rfl⟩
    case round =>
      clear HWAY
      obtain ⟨k, n, t1, B1, E1, c2, hk, rfl, hlg, he, hw, hx⟩ := hrel
      have HE := Lib.hid he
      have HX1 := Lib.hid hx
      have HW1 := Lib.hid hw
      have q2 := (hsN HS.out hw.held HSH.out).ops.cell 0
      simp only [List.getElem?_cons_zero] at q2
      clear he hx hw
      by_cases h0 : n = 0
      · subst h0
        obtain ⟨rfl, rfl⟩ := HE.out.isNil rfl
        by_cases hlt : k < len
        · have hlen' : k < l.length := by rw [HLEN.out]; exact hlt
          obtain ⟨o, hxk⟩ : ∃ o, l[k]? = some o := ⟨l[k], List.getElem?_eq_getElem hlen'⟩
          have hdrop : l.drop k = o :: l.drop (k + 1) := by
            rw [List.drop_eq_getElem_cons hlen']
            rw [List.getElem?_eq_getElem hlen'] at hxk
            rw [Option.some.inj hxk]
          have hx := HX1.out
          rw [if_pos rfl, hdrop] at hx
          have hs3 := hsN HS.out HW1.out.held HSH.out
          obtain ⟨go, oo, rfl, o0, o1, o2⟩ := hs3.lies.at HW1.out.ctx.below hxk
          have hof := hs3.lies.fit o (List.mem_of_getElem? hxk)
          obtain ⟨kd, oa, ox⟩ := o
          simp only at o0 o1 o2 hof
          have q3 := hs3.cells'.cell 0
          have q4 := hs3.n'.cell 0
          have qa := hs3.arr.cell (oa % (cells.length : Int)).toNat
          have hia : (oa % (cells.length : Int)).toNat < cells.length := by
            have h1 := Int.emod_lt_of_pos oa (b := (cells.length : Int)) (by have := HN1.out; omega)
            have h2 := Int.emod_nonneg oa (b := (cells.length : Int)) (by have := HN1.out; omega)
            omega
          rw [List.getElem?_map, List.getElem?_eq_getElem hia] at qa
          simp only [Option.map_some, List.getElem?_cons_zero] at qa q3 q4
          have hci : cellAt cells oa = cells[(oa % (cells.length : Int)).toNat] := by simp [cellAt, List.getD, List.getElem?_eq_getElem hia]
          have hcf : cells[(oa % (cells.length : Int)).toNat] < 18446744073709551616 := HCF.out _ (List.getElem_mem hia)
          rw [← hci] at qa hcf
          have HKEEP := Lib.hid (show ∀ w', HeldBy (bR :: bW :: X) wi w' → Below W.heap.size W w' → w'.cell? ⟨bs, 0, none⟩ = some (.slice (some ⟨g, 0, none⟩) cells.length cells.length) ∧ w'.cell? ⟨g, (oa % (cells.length : Int)).toNat, none⟩ = some (.int .u64 (cellAt cells oa : Int)) ∧ w'.cell? ⟨bl, 0, none⟩ = some (.slice (some ⟨go, oo, none⟩) len lcap) ∧ w'.cell? ⟨go, oo + k * 3 + 1, none⟩ = some (.int .i64 oa) ∧ w'.cell? ⟨bn, 0, none⟩ = some (.int .i64 (cells.length : Int)) from fun w' hh hb => by
            have hs4 := hsN HS.out hh HSH.out
            obtain ⟨go', oo', he', -, o1', -⟩ := hs4.lies.at hb hxk
            obtain ⟨rfl, rfl⟩ : go = go' ∧ oo = oo' := by simpa using he'
            refine ⟨hs4.cells'.cell 0, ?_, hs4.ops.cell 0, o1', hs4.n'.cell 0⟩
            rw [hs4.arr.cell, List.getElem?_map, List.getElem?_eq_getElem hia, hci]
            rfl)
          have HCELL := Lib.hid (cell13_ok oa cells.length HN1.out HN4.out)
          obtain ⟨ci, hce⟩ : ∃ ci, cellAt cells oa = ci := ⟨_, rfl⟩
          obtain ⟨ia, hie⟩ : ∃ ia, (oa % (cells.length : Int)).toNat = ia := ⟨_, rfl⟩
          obtain ⟨nc, hnc⟩ : ∃ nc, cells.length = nc := ⟨_, rfl⟩
          rw [hce] at qa hcf HKEEP
          rw [hie] at qa hia HCELL HKEEP
          rw [hnc] at q3 q4 hia HCELL HKEEP
          have HCE := Lib.hid hce
          have HHX := Lib.hid hx
          have hki : (k : Int) < (len : Int) := by omega
          have hii : (ia : Int) < (nc : Int) := by omega
          have HN := Lib.hid HN4.out
          rw [hnc] at HN
          have hnc4 := HN.out
          clear hx hdrop hxk hlen' hci hce hie hnc hs3 HX1
          by_cases hk2 : kd = 2
          · subst hk2
            have hw2 := HW1.out.under (w' := wr.drew) ⟨rfl, rfl, rfl, Nat.le_refl _, fun _ _ => rfl⟩
            have HW2 := Lib.hid hw2
            have hlog9 : t1.sets.log.length < 1000000000 := by omega
            obtain ⟨n, t2, hwr⟩ : ∃ n t2, tWrite t1 ci ox = (n, t2) := ⟨_, _, rfl⟩
            have hwc := twrite_ok hw2.tx hcf hof hw2.ctx.below.size hlog9
            rw [hwr] at hwc
            have HWC := Lib.hid hwc
            have hlg2 : t2.sets.log.length ≤ k + 1 := by
              have := tWrite_log t1 ci ox
              rw [hwr] at this
              simp only at this
              omega
            rw [← HCE.out] at hwr
            have HX2 := Lib.hid (HHX.out.trans (nops_write hwr))
            clear hw2 HW1 hwc hwr HHX
            go_wp2
            go_still_tail 16, (by kernel_rfl)
            still_call ((HCELL.out _).mono fun _ _ h => ⟨h.1, h.2.symm⟩)
            repeat still_step
            refine wpStill_nil ?_
            change wpList _ _ _ _ _ wr.drew
            generalize wr.drew = w2 at HW2 HWC ⊢
            go_wp2_with fail
            refine HWC.out.mono ?_
            rintro e w3 ⟨v, E, B2, rfl, he, ht, hkk, hB, hE, -⟩
            have HW3 := Lib.hid (HW2.out.set ht he hkk hB hE)
            have HE2 := Lib.hid he
            have hsh := he.shape
            clear he ht hkk hB hE HWC HW2
            have HREL := Lib.hid (show NothJ W (bR :: bW :: X) pa pb pc pt wi cells l len t c1 v (.int .i64 ((k : Int) + 1)) w3 from ⟨k + 1, n, t2, B2, E, c2, by omega, by go_num, hlg2, HE2.out, HW3.out, HX2.out⟩)
            rcases hsh with rfl | ⟨tt, xx, rfl⟩
            all_goals
              go_wp2
              go_roundw
              case rel => exact HREL.out
              case measure => simp [intOf]; omega
          · have g2 : (kd == 2) = false := by simpa using hk2
            have hw2 := HW1.out.under (w' := wr.drewN 1) ⟨rfl, rfl, rfl, Nat.le_refl _, fun _ _ => rfl⟩
            have HW2 := Lib.hid hw2
            have HRD := Lib.hid (tread_ok (R := (bR :: bW :: X)) hw2.ctx HG.out hw2.tx hw2.apart hcf)
            clear hw2 HW1
            go_wp2
            go_region_held3 (fun w' => w'.cell? ⟨bs, 0, none⟩ = some (.slice (some ⟨g, 0, none⟩) nc nc) ∧ w'.cell? ⟨g, ia, none⟩ = some (.int .u64 (ci : Int)) ∧ w'.cell? ⟨bl, 0, none⟩ = some (.slice (some ⟨go, oo, none⟩) len lcap) ∧ w'.cell? ⟨go, oo + k * 3 + 1, none⟩ = some (.int .i64 oa) ∧ w'.cell? ⟨bn, 0, none⟩ = some (.int .i64 (nc : Int)))
              (first | with_reducible exact ⟨q3, qa, q2, o1, q4⟩ | with_reducible exact ⟨k3, ka, k2, k1, k4⟩ | go_keep)
              (first
                | (go_at_call 12; refine (HCELL.out _).mono ?_; rintro e w' ⟨rfl, rfl⟩)
                | (go_at_call 13; refine HRD.out.mono ?_; rintro e w3 ⟨n, ⟨rv, t2⟩, c3, v, E, B2, hx2, -, rfl, he, ht, hc, hh, hB, -⟩; have HW3 := Lib.hid (HW2.out.call ht hc hh hB); obtain ⟨k3, ka, k2, k1, k4⟩ := HKEEP.out w3 HW3.out.held HW3.out.ctx.below; have HX2 := Lib.hid hx2; have HE2 := Lib.hid he; clear ht hc hh hB he hx2))
            have hlg2 : t2.sets.log.length ≤ k := by
              have := tRead_log t1 ci c2
              rw [HX2.out] at this
              simp only at this
              rw [this]; exact hlg
            have hx2 := HX2.out
            rw [← HCE.out] at hx2
            have HX3 := Lib.hid (HHX.out.trans (nops_read hk2 hx2))
            have hsh := HE2.out.shape
            clear hx2 HX2 HHX HRD HW2
            have HREL := Lib.hid (show NothJ W (bR :: bW :: X) pa pb pc pt wi cells l len t c1 v (.int .i64 ((k : Int) + 1)) w3 from ⟨k + 1, n, t2, B2, E, c3, by omega, by go_num, by omega, HE2.out, HW3.out, HX3.out⟩)
            rcases hsh with rfl | ⟨tt, xx, rfl⟩
            all_goals
              go_wp2
              go_roundw
              case rel => exact HREL.out
              case measure => simp [intOf]; omega
        · obtain rfl : k = len := by omega
          have hki : decide ((k : Int) < (k : Int)) = false := by simp
          have hx := HX1.out
          rw [if_pos rfl, ← HLEN.out, List.drop_length] at hx
          have HXE := Lib.hid (show exec (nothT l clock cells 1) c = ((0, fun _ => t1.sets), c2) by rw [HX.out, exec_bind, hx]; rfl)
          have HRDS := Lib.hid (treads_ok HW1.out.tx)
          clear hx HX1
          go_wp2_with fail
          refine HRDS.out.mono ?_
          rintro e w4 ⟨v', rfl, hrow, hb⟩
          obtain ⟨pr, cr, rfl⟩ := ownsRow_shape hrow
          have HW4 := Lib.hid (HW1.out.under hb)
          have HWRS := Lib.hid (twrites_ok HW4.out.tx)
          have HE4 := Lib.hid (HE.out.heldBy (HeldBy.of_below hb HE.out.lt) (fun b h => h))
          clear hrow hb HRDS HW1 HE
          go_wp2_with fail
          refine HWRS.out.mono ?_
          rintro e w5 ⟨v', rfl, ⟨pw, cw, rfl, -⟩, hb⟩
          have HW5 := Lib.hid (HW4.out.under hb)
          have HE5 := Lib.hid (HE4.out.heldBy (HeldBy.of_below hb HE4.out.lt) (fun b h => h))
          obtain ⟨-, nRW, -, -, ⟨p0, c0, a4⟩, q0', d0, a5⟩ := HA.out
          have NRW := Lib.hid nRW
          have a4' := a4.heldBy HW5.out.held (by simp)
          have a5' := a5.heldBy HW5.out.held (by simp)
          have q8 := a4'.cell 0
          have f8 := a4'.free 0
          have q9 := a5'.cell 0
          have f9 := a5'.free 0
          simp only [List.getElem?_cons_zero] at q8 q9
          have HF := Lib.hid (noth_end (s := t1.sets) (p := pr) (q := pw) (cp := cr) (cq := cw) HA.out HXQ.out (HW5.out.ctx.less fun b hb => by simp only [List.mem_append, List.mem_cons] at hb ⊢; rcases hb with q | q | q | q <;> simp [q]) HW5.out.held HW5.out.newE HE5.out)
          clear hb HWRS HW4 HE4 a4 a5 a4' a5' HW5 HE5 HA
          go_wp2
          go_ret
          unfold treeBody
          rw [HXE.out]
          exact HF.out
      · have hx := HX1.out
        rw [if_neg h0] at hx
        have HXE := Lib.hid (show exec (nothT l clock cells 1) c = ((n, fun _ => t1.sets), c2) by rw [HX.out, exec_bind, hx]; rfl)
        obtain ⟨tt, xx, rfl⟩ := HE.out.iface h0
        have HRDS := Lib.hid (treads_ok HW1.out.tx)
        clear hx HX1
        go_wp2_with fail
        refine HRDS.out.mono ?_
        rintro e w4 ⟨v', rfl, hrow, hb⟩
        obtain ⟨pr, cr, rfl⟩ := ownsRow_shape hrow
        have HW4 := Lib.hid (HW1.out.under hb)
        have HWRS := Lib.hid (twrites_ok HW4.out.tx)
        have HE4 := Lib.hid (HE.out.heldBy (HeldBy.of_below hb HE.out.lt) (fun b h => h))
        clear hrow hb HRDS HW1 HE
        go_wp2_with fail
        refine HWRS.out.mono ?_
        rintro e w5 ⟨v', rfl, ⟨pw, cw, rfl, -⟩, hb⟩
        have HW5 := Lib.hid (HW4.out.under hb)
        have HE5 := Lib.hid (HE4.out.heldBy (HeldBy.of_below hb HE4.out.lt) (fun b h => h))
        obtain ⟨-, nRW, -, -, ⟨p0, c0, a4⟩, q0', d0, a5⟩ := HA.out
        have NRW := Lib.hid nRW
        have a4' := a4.heldBy HW5.out.held (by simp)
        have a5' := a5.heldBy HW5.out.held (by simp)
        have q8 := a4'.cell 0
        have f8 := a4'.free 0
        have q9 := a5'.cell 0
        have f9 := a5'.free 0
        simp only [List.getElem?_cons_zero] at q8 q9
        have HF := Lib.hid (noth_end (s := t1.sets) (p := pr) (q := pw) (cp := cr) (cq := cw) HA.out HXQ.out (HW5.out.ctx.less fun b hb => by simp only [List.mem_append, List.mem_cons] at hb ⊢; rcases hb with q | q | q | q <;> simp [q]) HW5.out.held HW5.out.newE HE5.out)
        clear hb HWRS HW4 HE4 a4 a5 a4' a5' HW5 HE5 HA
        go_wp2
        go_ret
        unfold treeBody
        rw [HXE.out]
        exact HF.out
  · have HXE := Lib.hid (show exec (nothT l clock cells 1) c = ((n, fun _ => Sets.empty), c1) by simp only [nothT, exec_bind, hx, if_neg h0, exec])
    obtain ⟨-, nRW, -, -, ⟨p0, c0, a4⟩, q0', d0, a5⟩ := HA.out
    have NRW := Lib.hid nRW
    have a4' := a4.heldBy hh (by simp)
    have a5' := a5.heldBy hh (by simp)
    have q8 := a4'.cell 0
    have f8 := a4'.free 0
    have q9 := a5'.cell 0
    have f9 := a5'.free 0
    simp only [List.getElem?_cons_zero] at q8 q9
    have HF := Lib.hid (noth_end (s := Sets.empty) (p := none) (q := none) (cp := 0) (cq := 0) HA.out HXQ.out (hc.less fun b hb => by simp only [List.mem_append, List.mem_cons] at hb ⊢; rcases hb with q | q | q | q <;> simp [q]) hh hE he)
    obtain ⟨tt, xx, rfl⟩ := he.iface h0
    clear hx hh he hc hE a4 a5 a4' a5' HBEG HA q0
    go_wp2
    go_loopw [12, 13] (fun v' i wr => v' = .iface tt xx ∧ i = .int .i64 0 ∧ wr = w2) (fun _ _ _ => 0)
    case atStart => exact ⟨rfl, rfl, rfl⟩
    case round =>
      obtain ⟨rfl, rfl, rfl⟩ := hrel
      go_wp2_with (go_at_call 14; refine (treads_nil _).mono ?_; rintro e w' ⟨rfl, rfl⟩)
      refine (twrites_nil _).mono ?_
      rintro e w' ⟨rfl, rfl⟩
      go_wp2
      go_ret
      unfold treeBody
      rw [HXE.out]
      exact HF.out

theorem noth_body {W : World} {pa pb bc bl bs bn bR bW g : Nat} {lp : Option Addr} {lcap : Nat} {Qo : List Nat} {l : List Op13} {clock : Nat} {cells : List Nat} (hg : Handle W) (hn1 : 1 ≤ cells.length) (hn4 : cells.length ≤ 100) (hclock : clock < 18446744073709551616) (hcells : ∀ x ∈ cells, x < 18446744073709551616) :
    BodyOk W pa pb 9 #[.pointer (some ⟨bc, 0, none⟩), .pointer (some ⟨bl, 0, none⟩), .pointer (some ⟨bs, 0, none⟩), .pointer (some ⟨bn, 0, none⟩), .pointer (some ⟨bR, 0, none⟩), .pointer (some ⟨bW, 0, none⟩)] (nothAux W bR bW) (treeBody fun _ => nothT l clock cells 1) (shN bc bl bs bn g Qo) (SharedN W bc bl bs bn g (.slice lp l.length lcap) Qo l clock cells) where
  enters := ef_noth1
  keeps _ _ k h := h.heldBy k fun _ hb => hb
  does s X Q wr pc c round hP hSh ha h hx _ := by
    obtain ⟨rfl, h2⟩ := ha
    exact noth1_ok hg hn1 hn4 hclock hcells hP hSh ⟨rfl, h2⟩ (h.less fun b hb => by simp only [List.mem_append, List.mem_cons] at hb ⊢; rcases hb with q | q | q <;> simp [q]) hx
end Go.Proofs.YthiplbcmafdlbaaGreatDoor
