/- RnRun: RnAll, RnBody, RnRun. -/
import Derived.Test.YtkpdacfiglpgeaaGreatDoorRnOne
import Derived.Test.YtkpdacfiglpgeaaGreatDoorAlone16
import Derived.Test.YtkpdacfiglpgeaaGreatDoorRnGoes

/- Layer 14's laws: statements by a runner, one behind the other. -/
namespace Go.Proofs.YtkpdacfiglpgeaaGreatDoor
open Go.RowKit Bl Th Tx
set_option maxRecDepth 10000

theorem rgL_get : ∀ {l : List St} {k : Nat} {s : St}, l[k]? = some s → rgL l → rgS s
  | [], _, _, h, _ => by simp at h
  | s0 :: l, 0, s, h, hr => by
    simp only [List.getElem?_cons_zero, Option.some.injEq] at h
    subst h
    unfold rgL at hr
    exact hr.1
  | s0 :: l, k + 1, s, h, hr => by
    unfold rgL at hr
    exact rgL_get (by simpa using h) hr.2
theorem wlog_drop : ∀ (l : List St) (k : Nat) (s : St), l[k]? = some s → wlogL (l.drop k) = wlogS s + wlogL (l.drop (k + 1))
  | [], k, s, h => by simp at h
  | x :: l, 0, s, h => by
    simp only [List.getElem?_cons_zero, Option.some.injEq] at h
    subst h
    simp [wlogL]
  | x :: l, k + 1, s, h => by simpa using wlog_drop l k s (by simpa using h)
/-- What holds at each statement's head. -/
def AllJ (W : World) (R T X Q : List Nat) (pa pb pc pt px pr gc n cap : Nat) (cells : List Nat) (lv0 : Value) (told0 : List Int) (l : List St) (len : Nat) (r : Rn) (t : Th.Tx) (c : CS) (w : World) (gf : Nat) (i : Value) (wx : World) : Prop :=
  ∃ (k : Nat) (r1 : Rn) (t1 : Th.Tx) (c1 : CS) (T1 X1 : List Nat), i = .int .i64 (k : Int) ∧ k ≤ len ∧ RnAt W R T1 X1 Q pa pb pc pt px pr gc n cap cells lv0 told0 r1 t1 c1 wx ∧ HeldBy R w wx ∧ (∀ b ∈ T1 ++ X1, b ∈ T ++ X ∨ w.heap.size ≤ b) ∧ exec (rAll cells l r t) c = exec (rAll cells (l.drop k) r1 t1) c1 ∧ t1.sets.log.length + wlogL (l.drop k) < 900000000 ∧ r1.told.length + wlogL (l.drop k) ≤ 900000 ∧ len + 1 ≤ k + gf
theorem all_next {W : World} {R T X Q T1 X1 T2 X2 : List Nat} {pa pb pc pt px pr gc n cap k gk len : Nat} {cells : List Nat} {lv0 : Value} {told0 : List Int} {l : List St} {s : St} {r r1 r2 : Rn} {t t1 t2 : Th.Tx} {c c1 c2 : CS} {w wr wa w3 : World} {iv : Value} (hs : l[k]? = some s) (hlen : l.length = len) (hA : RnAt W R T1 X1 Q pa pb pc pt px pr gc n cap cells lv0 told0 r1 t1 c1 wa) (hwa : wr.heap.size ≤ wa.heap.size) (hh : HeldBy R w wa) (hB : ∀ b ∈ T1 ++ X1, b ∈ T ++ X ∨ w.heap.size ≤ b) (hw : w.heap.size ≤ wr.heap.size) (hx : exec (rAll cells l r t) c = exec (rAll cells (l.drop k) r1 t1) c1) (hl : t1.sets.log.length + wlogL (l.drop k) < 900000000) (ht : r1.told.length + wlogL (l.drop k) ≤ 900000) (hfu : len + 1 ≤ k + (gk + 1))
    (hx2 : exec (rOne cells s r1 t1) c1 = ((0, r2, t2), c2)) (hst : PartSt W pt (rnAux W pr px (.slice (some ⟨gc, 0, none⟩) n cap) lv0 told0) T2 X2 (r2, t2) w3) (hc : Ctx W ([] ++ ((T2 ++ X2) ++ R)) pa pb pc c2 w3) (hh2 : HeldBy R wa w3) (hB2 : ∀ b ∈ [] ++ (T2 ++ X2), b ∈ T1 ++ X1 ∨ wa.heap.size ≤ b) (hiv : iv = .int .i64 ((k + 1 : Nat) : Int)) :
    AllJ W R T X Q pa pb pc pt px pr gc n cap cells lv0 told0 l len r t c w gk iv w3 := by
  have hcl : 1 ≤ cells.length := by rw [hA.len]; exact hA.pos
  have g := rOne_kp hcl s r1 t1 c1 hA.ok
  have g2 := rOne_b cells s r1 t1 c1
  rw [hx2] at g g2
  have hm := wlog_drop l k s hs
  have hk := (List.getElem?_eq_some_iff.1 hs).1
  have h1 := g.few
  have h2 := g2.told
  refine ⟨k + 1, r2, t2, c2, T2, X2, hiv, by omega, (hA.next hst hc hh2 hB2 (by simp) (by simp only at h1; omega) g.ok).less hA.part.inX hA.in0 hA.inG hA.inQ, hh.trans hh2, fun b hb => ?_, ?_, by simp only at h1; omega, by simp only at h2; omega, by omega⟩
  · rcases hB2 b (by simpa using hb) with q | q
    · exact hB b q
    · exact .inr (Nat.le_trans hw (Nat.le_trans hwa q))
  · rw [hx, rAll_drop hs]
    simp only [exec_bind, hx2, if_true]
set_option maxHeartbeats 8000000 in
theorem all_step {W : World} {Q : List Nat} {pa pb pc pt px pr gc n cap : Nat} {cells : List Nat} {N : Nat} (hg : Handle W) (hN6 : N < 1000000) (hIH : AllAt W Q pa pb pc pt px pr gc n cap cells N) : AllAt W Q pa pb pc pt px pr gc n cap cells (N + 1) := by
  intro R T X lv0 told0 r t c w l v hA hl hN hrg hlog htold
  obtain ⟨pt', cp, rfl⟩ := hl.shape
  obtain ⟨len, hlen⟩ : ∃ len, l.length = len := ⟨_, rfl⟩
  have HIH := Lib.hid hIH; have HL := Lib.hid hl; have HRG := Lib.hid hrg; have HG := Lib.hid hg; have HINQ := Lib.hid hA.inQ; have HLEN := Lib.hid hlen; have HN := Lib.hid hN
  have hlc : len ≤ 1000000 := by
    have := len_cnt l
    omega
  have HJ := Lib.hid (show AllJ W R T X Q pa pb pc pt px pr gc n cap cells lv0 told0 l len r t c w (len + 1) (.int .i64 0) w from ⟨0, r, t, c, T, X, rfl, Nat.zero_le _, hA, HeldBy.refl _ _, fun b hb => .inl hb, rfl, hlog, htold, by omega⟩)
  rw [hlen]
  clear hIH hl hrg hg hlog htold hA hN hlen
  go_enter Tryz.func45, Tryz.ntmps45
  go_wp2
  go_loopg [10] (len + 1) (fun gf i wx => AllJ W R T X Q pa pb pc pt px pr gc n cap cells lv0 told0 l len r t c w gf i wx)
  case atStart => exact HJ.out
  case round =>
    clear HJ
    obtain ⟨k, r1, t1, c1, T1, X1, rfl, hk, hA1, hh1, hB1, hx1, hl1, ht1, hfu⟩ := hrel
    by_cases hlt : k < len
    · obtain ⟨gk', rfl⟩ : ∃ g', gk = g' + 1 := ⟨gk - 1, by omega⟩
      obtain ⟨⟨h, b, e⟩, hs⟩ : ∃ s, l[k]? = some s := ⟨_, List.getElem?_eq_getElem (by rw [HLEN.out]; exact hlt)⟩
      have hcg := cnt_get hs
      have hlr := HL.out.heldBy hh1 HINQ.out
      obtain ⟨g, off, cp', z, bv, ev, hv, hgQ, hz, hcell, hbb, hee⟩ := hlr.get hs
      rw [HLEN.out] at hv
      simp only [Value.slice.injEq] at hv
      obtain ⟨rfl, -, rfl⟩ := hv
      obtain ⟨bp, bc, rfl⟩ := hbb.shape
      obtain ⟨ep, ec, rfl⟩ := hee.shape
      have g1 : decide ((k : Int) < (len : Int)) = true := decide_eq_true (by omega)
      have g1' : (k : Int) < (len : Int) := by omega
      have y0 : wr.cell? ⟨g, off + k * 9, none⟩ = _ := hcell 0 _ rfl
      have y1 := hcell 1 _ rfl; have y2 := hcell 2 _ rfl; have y3 := hcell 3 _ rfl; have y4 := hcell 4 _ rfl; have y5 := hcell 5 _ rfl; have y6 := hcell 6 _ rfl; have y7 := hcell 7 _ rfl; have y8 := hcell 8 _ rfl
      have hba := (Below.refl wr.heap.size wr).alloc (Nat.le_refl _) (.cells #[.int .i64 z, .int .i64 h.coll, .int .i64 h.reg, .int .i64 h.a.1, .int .i64 h.a.2, .int .i64 h.b.1, .int .i64 h.b.2, .slice bp b.length bc, .slice ep e.length ec] 50)
      have hA2 := hA1.under hba
      have hka := HeldBy.of_below (R := R) hba hA1.heldR
      have hdr := wlog_drop l k _ hs
      have hONE := one_step HG.out HIH.out hA2 hz (hbb.heldBy hka HINQ.out) (hee.heldBy hka HINQ.out) (by have := HN.out; omega) (by have := HN.out; omega) (rgL_get hs HRG.out) (by omega) (by omega)
      unfold stV at hONE
      have HONE := Lib.hid hONE; have HA2 := Lib.hid hA2; have HHA := Lib.hid (hh1.trans hka); have HB1 := Lib.hid hB1; have HX1 := Lib.hid hx1; have HL1 := Lib.hid hl1; have HT1 := Lib.hid ht1; have HSK := Lib.hid hs; have HWW := Lib.hid hh1.1; have HBZ := Lib.hid hba.size
      clear hcg hlr hz hcell hbb hee hba hA2 hka hdr hONE hA1 hh1 hB1 hx1 hl1 ht1 hs
      go_wp2_with fail
      refine HONE.out.mono ?_
      rintro en w3 ⟨m, ⟨r2, t2⟩, c2, v, E, B', hx2, rfl, he2, ⟨T2, X2, rfl, hst⟩, hc2, hh2, hB2, hEB2⟩
      by_cases h0 : m = 0
      · subst h0
        obtain ⟨rfl, rfl⟩ := he2.isNil rfl
        have HX2 := Lib.hid hx2; have HST := Lib.hid hst; have HC2 := Lib.hid hc2; have HH2 := Lib.hid hh2; have HB2 := Lib.hid hB2
        clear hx2 he2 hst hc2 hh2 hB2 hEB2 HONE y0 y1 y2 y3 y4 y5 y6 y7 y8
        go_wp2
        go_roundg gk'
        case measure => omega
        case rel => exact all_next HSK.out HLEN.out HA2.out HBZ.out HHA.out HB1.out HWW.out HX1.out HL1.out HT1.out hfu HX2.out HST.out HC2.out HH2.out HB2.out (by go_num)
      · have hsh := he2.iface h0
        have HF := Lib.hid (show RnPost W R T X pa pb pc pt px pr gc n cap lv0 told0 (rAll cells l r t) c w (.returned v) w3 from
          ⟨m, (r2, t2), c2, v, E, T2 ++ X2, by rw [HX1.out, rAll_drop HSK.out]; simp only [exec_bind, hx2, if_neg h0, exec], rfl, he2, ⟨T2, X2, rfl, hst⟩, hc2, HHA.out.trans hh2, fun q hq => by
            rcases hB2 q hq with y | y
            · exact HB1.out q y
            · exact .inr (Nat.le_trans HHA.out.1 y), hEB2⟩)
        obtain ⟨tt, xx, rfl⟩ := hsh
        clear hx2 he2 hst hc2 hh2 hB2 hEB2 HONE h0 y0 y1 y2 y3 y4 y5 y6 y7 y8
        go_wp2
        go_ret
        exact HF.out
    · obtain rfl : k = len := by omega
      have g1 : decide ((k : Int) < (k : Int)) = false := decide_eq_false (by omega)
      have hd : l.drop k = [] := List.drop_eq_nil_of_le (by rw [HLEN.out]; exact Nat.le_refl _)
      rw [hd] at hx1
      have HF := Lib.hid (show RnPost W R T X pa pb pc pt px pr gc n cap lv0 told0 (rAll cells l r t) c w (.returned .nilIface) wr from
        ⟨0, (r1, t1), c1, _, [], T1 ++ X1, by rw [hx1]; unfold rAll; rfl, rfl, .none, ⟨T1, X1, rfl, hA1.part.st⟩, hA1.part.ctx, hh1, by simpa using hB1, by simp⟩)
      clear hA1 hh1 hB1 hx1 hl1 ht1 hd
      go_wp2
      go_ret
      exact HF.out
theorem all_all {W : World} {Q : List Nat} {pa pb pc pt px pr gc n cap : Nat} {cells : List Nat} (hg : Handle W) : ∀ N, N ≤ 1000000 → AllAt W Q pa pb pc pt px pr gc n cap cells N
  | 0, _ => fun _ _ _ _ _ _ _ _ _ _ _ _ _ hN => absurd hN (by omega)
  | N + 1, h => all_step hg (by omega) (all_all hg N (by omega))
end Go.Proofs.YtkpdacfiglpgeaaGreatDoor

/- Layer 14's laws: a transaction as a body. -/
namespace Go.Proofs.YtkpdacfiglpgeaaGreatDoor
open Go.RowKit Bl Th Tx
set_option maxRecDepth 10000

/-- What such a body reads. -/
structure SharedX (W : World) (bc bw bs bp bo po g n cap : Nat) (pv : Value) (Q : List Nat) (p : List St) (clock : Nat) (cells : List Nat) (w : World) : Prop where
  clock' : Cells w bc [.int .u64 (clock : Int)] 25
  owner' : Cells w bw [.int .i64 1] 3
  cells' : Cells w bs [.slice (some ⟨g, 0, none⟩) n cap] 26
  stmts : Cells w bp [pv] 42
  out : Cells w bo [.pointer (some ⟨po, 0, none⟩)] 56
  arr : CellsIn w g cells
  lies : SlQ Q w p pv
def shX (bc bw bs bp bo g : Nat) (Q : List Nat) : List Nat := [bc, bw, bs, bp, bo, g] ++ Q
theorem SharedX.heldBy {W : World} {bc bw bs bp bo po g n cap : Nat} {pv : Value} {Q R : List Nat} {p : List St} {clock : Nat} {cells : List Nat} {w w' : World} (h : SharedX W bc bw bs bp bo po g n cap pv Q p clock cells w) (k : HeldBy R w w') (hs : ∀ b ∈ shX bc bw bs bp bo g Q, b ∈ R) : SharedX W bc bw bs bp bo po g n cap pv Q p clock cells w' := by
  have m : ∀ b, b = bc ∨ b = bw ∨ b = bs ∨ b = bp ∨ b = bo ∨ b = g ∨ b ∈ Q → b ∈ R := fun b hb => hs b (by simpa [shX, or_assoc] using hb)
  exact ⟨h.clock'.heldBy k (m bc (by simp)), h.owner'.heldBy k (m bw (by simp)), h.cells'.heldBy k (m bs (by simp)), h.stmts.heldBy k (m bp (by simp)), h.out.heldBy k (m bo (by simp)), h.arr.heldBy k (m g (by simp)), h.lies.heldBy k (fun b hb => m b (by simp [hb]))⟩
def rslV (r : Rsl) : List Value := [.int .i64 r.fin, .int .i64 r.stamp, .bool r.wrote, .bool r.waits]
/-- What it keeps: how it ended, what was told. -/
def outAuxX (W : World) (po : Nat) : Aux (Rsl × List Int) where
  at' s Q w := ∃ lv, Q = po :: lv.ownBlock.toList ∧ po ∉ lv.ownBlock.toList ∧ W.heap.size ≤ po ∧ Cells w po (rslV s.1 ++ [lv]) 60 ∧ IntsAt w lv s.2 ∧ ∀ b ∈ lv.ownBlock.toList, W.heap.size ≤ b
  loc := by
    rintro s Q w w' ⟨lv, rfl, h1, h2, h3, h4, h5⟩ k
    exact ⟨lv, rfl, h1, h2, h3.heldBy k (by simp), h4.heldBy k (fun b hb => List.mem_cons_of_mem _ hb), h5⟩
theorem ef_bodyX (args : Array Value) (w : World) : (callFunc 42 args).run Tryz.prog w = .ok (.enter 42 args) w := enters_of Tryz.func42 (by kernel_rfl) rfl args w
/-- A runner that is new. -/
theorem rn_start {W : World} {Y B Q : List Nat} {pa pb pc pt px g n cap lo pr : Nat} {cells : List Nat} {t : Th.Tx} {c : CS} {w2 w3 : World} (hc : Ctx W (B ++ (px :: Y)) pa pb pc c w2) (ht : TxAt W pt t B w2) (htn : TnAt px pt pc w2) (hB : ∀ b ∈ B, lo ≤ b) (hpB : px ∉ B) (hY : ∀ b ∈ Y, b < lo) (harr : CellsIn w2 g cells) (hgY : g ∈ Y) (hlen : cells.length = n) (h1 : 1 ≤ n) (h2 : n ≤ 400) (hsm : ∀ x ∈ cells, x < 18446744073709551616) (hQ : ∀ b ∈ Q, b ∈ Y) (hts : t.sets = .empty)
    (hb : Below w2.heap.size w2 w3) (hpr : w2.heap.size ≤ pr) (hcp : Cells w3 pr (rnV px (.slice (some ⟨g, 0, none⟩) n cap) Rn.none.regs (.slice none 0 0)) 113) :
    RnAt W (px :: Y) B [pr] Q pa pb pc pt px pr g n cap cells (.slice none 0 0) [] .none t c w3 := by
  have hk := HeldBy.of_below (R := B ++ (px :: Y)) hb hc.heldR
  have hlt := hcp.lt
  have hW := hc.below.size
  have hBl : ∀ b ∈ B, b < w2.heap.size := fun b hb => hc.heldR b (by simp [hb])
  refine ⟨⟨(hc.came hb [pr] (by simp; omega)).less fun b hb => ?_, ⟨ht.heldBy hk (fun b hb => by simp [hb]), ⟨_, by simp [Rn.none], by omega, hcp, .inl ⟨rfl, rfl, rfl⟩⟩, fun b hb hm => ?_⟩, fun b hb hm => ?_, htn.heldBy hk (by simp), by simp, by rw [hts]; show 0 < 1000000000; omega⟩, IntsAt.none _, by simp [Value.ownBlock], harr.heldBy hk (by simp [hgY]), by simp [hgY], hlen, h1, h2, hsm, by rw [hts]; exact RnS.empty _, fun b hb => by simp [hQ b hb]⟩
  · simp only [List.mem_append, List.mem_cons, List.not_mem_nil, or_false] at hb ⊢
    rcases hb with (q | q) | q | q <;> simp [q]
  · rw [List.mem_singleton] at hm
    have := hBl b hb; omega
  · rcases List.mem_append.1 hb with q | q
    · rcases List.mem_cons.1 hm with z | z
      · exact hpB (z ▸ q)
      · have := hB b q; have := hY b z; omega
    · rw [List.mem_singleton] at q
      rcases List.mem_cons.1 hm with z | z
      · have := hc.heldR px (by simp); omega
      · have := hc.heldR b (by simp [z]); omega
set_option maxHeartbeats 16000000 in
theorem bodyX_ok {W : World} {X Qa Q : List Nat} {pa pb pc bc bw bs bp bo po g n cap clock round : Nat} {pv : Value} {p : List St} {cells : List Nat} {s : Rsl × List Int} {c : CS} {wi : World} (hg : Handle W) (hclock : clock < 18446744073709551616) (hlen : cells.length = n) (h1 : 1 ≤ n) (h2 : n ≤ 400) (hsm : ∀ x ∈ cells, x < 18446744073709551616) (hcnt : cntL p < 100000) (hrg : rgL p) (hwl : wlogL p ≤ 900000)
    (hs : SharedX W bc bw bs bp bo po g n cap pv Q p clock cells wi) (hSh : ∀ b ∈ shX bc bw bs bp bo g Q, b ∈ X) (ha : (outAuxX W po).at' s Qa wi) (h : Ctx W (X ++ Qa) pa pb pc c wi) (hXQ : ∀ b ∈ X, b ∉ Qa) :
    Calls Tryz.prog 42 #[.pointer (some ⟨pc, 0, none⟩), .int .i64 (round : Int), .pointer (some ⟨bc, 0, none⟩), .pointer (some ⟨bw, 0, none⟩), .pointer (some ⟨bs, 0, none⟩), .pointer (some ⟨bp, 0, none⟩), .pointer (some ⟨bo, 0, none⟩)] wi (BodyPost W pa pb pc (outAuxX W po) X Qa wi (treeBody (fun _ => bodyX p clock cells) s round c)) := by
  have HG := Lib.hid hg; have HS := Lib.hid hs; have HA := Lib.hid ha; have HXQ := Lib.hid hXQ; have HLEN := Lib.hid hlen; have HSM := Lib.hid hsm; have HCNT := Lib.hid hcnt; have HRG := Lib.hid hrg; have HWL := Lib.hid hwl; have HN1 := Lib.hid h1; have HN2 := Lib.hid h2
  have HSH := Lib.hid (show ∀ b ∈ shX bc bw bs bp bo g Q, b ∈ X ++ Qa from fun b hb => List.mem_append_left _ (hSh b hb))
  have HSX := Lib.hid hSh
  have HBEG := Lib.hid (xbegin_ok h hg hclock 1)
  have HLO := Lib.hid h.heldR
  have HWI := Lib.hid h.below.size
  have q0 : wi.cell? ⟨bc, 0, none⟩ = some (.int .u64 (clock : Int)) := hs.clock'.cell 0
  have q1 : wi.cell? ⟨bw, 0, none⟩ = some (.int .i64 1) := hs.owner'.cell 0
  clear h hg hs hSh ha hXQ hlen h1 h2 hsm hcnt hrg hwl hclock
  go_enter Tryz.func42, Tryz.ntmps42
  go_wp2_with fail
  refine HBEG.out.mono ?_
  rintro e w2 ⟨nn, t, c1, hx, hh, ⟨rfl, px, pt, B, rfl, ht, htn, hc, hpx, hB, hpB⟩ | ⟨h0, v, E, rfl, he, hc, hE⟩⟩
  · have HX := Lib.hid (show exec (bodyX p clock cells) c = exec ((rAll cells p .none t).bind fun a => (tEnd a.2.2 a.1).bind fun f => .ret (f.1, fun _ => (f.2.1, a.2.1.told))) c1 by simp only [bodyX, exec_bind, hx, if_true])
    have hts : t.sets = .empty := by
      simp only [tBegin, exec_bind] at hx
      have := (Prod.ext_iff.1 (Prod.ext_iff.1 hx).1).2
      simp only [exec] at this
      rw [← this]
    have hs2 := HS.out.heldBy hh HSH.out
    have HSW := Lib.hid (fun (w' : World) (k : HeldBy (px :: (X ++ Qa)) w2 w') => hs2.heldBy k (fun b hb => List.mem_cons_of_mem _ (HSH.out b hb)))
    have e0 : w2.cell? ⟨bs, 0, none⟩ = some (.slice (some ⟨g, 0, none⟩) n cap) := hs2.cells'.cell 0
    have hb3 := (Below.refl w2.heap.size w2).alloc (Nat.le_refl _) (.cells #[.pointer (some ⟨px, 0, none⟩), .slice (some ⟨g, 0, none⟩) n cap, .int .i64 0, .int .i64 0, .int .i64 0, .int .i64 0, .int .i64 0, .int .i64 0, .int .i64 0, .int .i64 0, .int .i64 0, .slice none 0 0] 113)
    have C3 := Cells.new w2 (rnV px (.slice (some ⟨g, 0, none⟩) n cap) Rn.none.regs (.slice none 0 0)) 113
    have hA3 := rn_start (w3 := w2.alloc (.cells #[.pointer (some ⟨px, 0, none⟩), .slice (some ⟨g, 0, none⟩) n cap, .int .i64 0, .int .i64 0, .int .i64 0, .int .i64 0, .int .i64 0, .int .i64 0, .int .i64 0, .int .i64 0, .int .i64 0, .slice none 0 0] 113)) hc ht htn hB hpB HLO.out hs2.arr (HSH.out g (by simp [shX])) HLEN.out HN1.out HN2.out HSM.out (fun b hb => HSH.out b (List.mem_append_right _ hb)) hts hb3 (Nat.le_refl _) C3
    obtain ⟨pr, hpr⟩ : ∃ pr, w2.heap.size = pr := ⟨_, rfl⟩
    obtain ⟨w3, hw3⟩ : ∃ w3, w2.alloc (.cells #[.pointer (some ⟨px, 0, none⟩), .slice (some ⟨g, 0, none⟩) n cap, .int .i64 0, .int .i64 0, .int .i64 0, .int .i64 0, .int .i64 0, .int .i64 0, .int .i64 0, .int .i64 0, .int .i64 0, .slice none 0 0] 113) = w3 := ⟨_, rfl⟩
    rw [hw3, hpr] at hA3
    rw [hw3] at hb3
    have hk23 := HeldBy.of_below (R := px :: (X ++ Qa)) hb3 (fun b hb => hc.heldR b (List.mem_append_right _ hb))
    have hs3 := HSW.out w3 hk23
    have e1 : w3.cell? ⟨bp, 0, none⟩ = some pv := hs3.stmts.cell 0
    have HALL := Lib.hid (all_all HG.out 100000 (by omega) _ _ _ _ _ _ _ _ _ p pv hA3 hs3.lies HCNT.out HRG.out (by rw [hts]; have := HWL.out; show 0 + _ < _; omega) (by have := HWL.out; show 0 + _ ≤ _; omega))
    obtain ⟨pp, pcap, hpv⟩ := hs3.lies.shape
    have HA3 := Lib.hid hA3; have HH := Lib.hid hh; have HK23 := Lib.hid hk23; have HW3 := Lib.hid hw3; have HPR := Lib.hid hpr; have HPX := Lib.hid hpx; have HB := Lib.hid hB
    subst hpv
    clear hx hh ht htn hc hpx hB hpB hs2 hb3 C3 hA3 hk23 hs3 hw3 hpr HBEG q0 q1 hts
    go_upto_region 5 with (fail)
    rw [HW3.out, HPR.out]
    go_wp2_with fail
    refine HALL.out.mono ?_
    rintro en w4 ⟨n4, ⟨r4, t4⟩, c4, v4, E4, B4, hx4, rfl, he4, ⟨T4, X4, rfl, hst4⟩, hc4, hh4, hB4, hEB4⟩
    have hEND := xend_ok (R := X4 ++ (px :: (X ++ Qa))) (B := T4) (hc4.less fun b hb => by
      rcases List.mem_append.1 hb with q | q
      · exact List.mem_append_left _ q
      · rcases List.mem_append.1 q with q | q
        · exact List.mem_append_right _ (List.mem_append_left _ (List.mem_append_left _ q))
        · rcases List.mem_append.1 q with q | q
          · exact List.mem_append_right _ (List.mem_append_left _ (List.mem_append_right _ q))
          · exact List.mem_append_right _ (List.mem_append_right _ q)) HG.out hst4.tx (fun b hb hm => by
      rcases List.mem_append.1 hm with q | q
      · exact hst4.apart b hb q
      · rcases hB4 b (List.mem_append_right _ (List.mem_append_left _ hb)) with z | z
        · exact HA3.out.part.apart b z q
        · have := HA3.out.heldR b q
          omega) (HA3.out.part.tn.heldBy hh4 (by simp)) (List.mem_append_right _ (List.mem_cons_self ..)) he4 (fun b hb hm => hEB4 b hb (List.mem_append_left _ hm))
    have HEND := Lib.hid hEND
    have HX4 := Lib.hid hx4; have HST4 := Lib.hid hst4; have HH4 := Lib.hid hh4; have HB4 := Lib.hid hB4
    clear hx4 he4 hst4 hc4 hh4 hB4 hEB4 hEND HALL
    go_wp2_with fail
    refine HEND.out.mono ?_
    rintro en w5 ⟨n5, ⟨rs, t5⟩, c5, v5, E5, B5, hx5, -, rfl, he5, ht5, hc5, hh5, hB5, hEB5⟩
    obtain ⟨lv4, hr4, hp4, hC4, hl4⟩ := HST4.out.st
    have hlv4 : IntsAt w4 lv4 r4.told ∧ (∀ b ∈ lv4.ownBlock.toList, b ∈ X4) ∧ pr ∈ X4 := by
      rcases hl4 with ⟨q1, q2, q3⟩ | ⟨q1, q2, -⟩
      · have e : r4.told = [] := q2
        rw [q1, e, q3]
        exact ⟨IntsAt.none _, by simp [Value.ownBlock], by simp⟩
      · rw [q1]
        exact ⟨q2, fun b hb => List.mem_cons_of_mem _ hb, by simp⟩
    obtain ⟨hi4, hb4, hprX⟩ := hlv4
    have hk45 : HeldBy X4 w4 w5 := hh5.less fun b hb => by simp [hb]
    have hC5 := hC4.heldBy hk45 hprX
    have hi5 := hi4.heldBy hk45 hb4
    have h25 : HeldBy (px :: (X ++ Qa)) w2 w5 := HK23.out.trans (HH4.out.trans (hh5.less fun b hb => List.mem_append_right _ hb))
    have b6 := (Below.refl w5.heap.size w5).alloc (Nat.le_refl _) (.cells #[.int .i64 rs.fin, .int .i64 rs.stamp, .bool rs.wrote, .bool rs.waits] 58)
    have C6 := Cells.new w5 (rslV rs) 58
    have hlo5 := hc5.heldR
    have hC6 := hC5.below b6
    have hi6 := hi5.heldBy (HeldBy.of_below (R := lv4.ownBlock.toList) b6 (fun b hb => hlo5 b (by simp [hb4 b hb]))) (fun _ h => h)
    have hc6 := hc5.under b6
    have he6 := he5.heldBy (HeldBy.of_below b6 he5.lt) (fun _ h => h)
    have h26 : HeldBy (px :: (X ++ Qa)) w2 (w5.alloc (.cells #[.int .i64 rs.fin, .int .i64 rs.stamp, .bool rs.wrote, .bool rs.waits] 58)) := h25.trans (HeldBy.of_below b6 (fun b hb => hlo5 b (by simp only [List.mem_append]; exact .inr (.inr (.inr hb)))))
    obtain ⟨rb, hrb⟩ : ∃ rb, w5.heap.size = rb := ⟨_, rfl⟩
    obtain ⟨w6, hw6⟩ : ∃ w6, w5.alloc (.cells #[.int .i64 rs.fin, .int .i64 rs.stamp, .bool rs.wrote, .bool rs.waits] 58) = w6 := ⟨_, rfl⟩
    have C6' : Cells w6 rb (rslV rs) 58 := by rw [← hw6, ← hrb]; exact C6
    rw [hw6] at hC6 hi6 hc6 he6 h26
    have hi26 : HeldBy (X ++ Qa) wi w6 := HH.out.trans (h26.less fun b hb => List.mem_cons_of_mem _ hb)
    have hs6 := HSW.out w6 h26
    obtain ⟨lq, hQa, n1, n2, hCo, -, -⟩ := HA.out
    have hpoQ : po ∈ Qa := by rw [hQa]; simp
    have hCo6 := hCo.heldBy hi26 (List.mem_append_right _ hpoQ)
    have hpol : po < w2.heap.size := Nat.lt_of_lt_of_le (HLO.out po (List.mem_append_right _ hpoQ)) HH.out.1
    have hbo : bo ≠ po := fun e => HXQ.out bo (HSX.out bo (by simp [shX])) (e ▸ hpoQ)
    have hprp : pr ≠ po := by have := HPR.out; omega
    have hz6 : w2.heap.size ≤ w5.heap.size := h25.1
    have hrbp : rb ≠ po := by omega
    have m0 : w6.cell? ⟨bo, 0, none⟩ = some (.pointer (some ⟨po, 0, none⟩)) := hs6.out.cell 0
    have m1 : w6.cell? ⟨rb, 0, none⟩ = some (.int .i64 rs.fin) := C6'.cell 0
    have m2 : w6.cell? ⟨rb, 1, none⟩ = some (.int .i64 rs.stamp) := C6'.cell 1
    have m3 : w6.cell? ⟨rb, 2, none⟩ = some (.bool rs.wrote) := C6'.cell 2
    have m4 : w6.cell? ⟨rb, 3, none⟩ = some (.bool rs.waits) := C6'.cell 3
    have m5 := rn_told hC6 hr4
    have o0 : w6.cell? ⟨po, 0, none⟩ = _ := hCo6.cell 0
    have o1 : w6.cell? ⟨po, 1, none⟩ = _ := hCo6.cell 1
    have o2 : w6.cell? ⟨po, 2, none⟩ = _ := hCo6.cell 2
    have o3 : w6.cell? ⟨po, 3, none⟩ = _ := hCo6.cell 3
    have o4 : w6.cell? ⟨po, 4, none⟩ = _ := hCo6.cell 4
    have f0 := hCo6.free 0; have f1 := hCo6.free 1; have f2 := hCo6.free 2; have f3 := hCo6.free 3; have f4 := hCo6.free 4
    simp only [rslV, List.cons_append, List.nil_append, List.getElem?_cons_zero, List.getElem?_cons_succ] at o0 o1 o2 o3 o4
    obtain ⟨lp4, lc4, hl4', -⟩ := id hi4
    obtain ⟨ll, hll⟩ : ∃ ll, r4.told.length = ll := ⟨_, rfl⟩
    rw [hll] at hl4'
    have HSS := Lib.hid (fun (wx : World) (hx : Kept (fun b => b = po) w6 wx) => (show wx.cell? ⟨bo, 0, none⟩ = some (.pointer (some ⟨po, 0, none⟩)) ∧ wx.cell? ⟨rb, 0, none⟩ = some (.int .i64 rs.fin) ∧ wx.cell? ⟨rb, 1, none⟩ = some (.int .i64 rs.stamp) ∧ wx.cell? ⟨rb, 2, none⟩ = some (.bool rs.wrote) ∧ wx.cell? ⟨rb, 3, none⟩ = some (.bool rs.waits) ∧ wx.cell? ⟨pr, 11, none⟩ = some lv4 from by
      have f : ∀ (b i : Nat) (v : Value), b ≠ po → w6.cell? ⟨b, i, none⟩ = some v → wx.cell? ⟨b, i, none⟩ = some v := fun b i v hb hv => (World.cell?_of_block (w := w6) (a := ⟨b, i, none⟩) (hx.block b (World.block_lt_of_cell? _ _ hv) hb)).trans hv
      exact ⟨f _ _ _ hbo m0, f _ _ _ hrbp m1, f _ _ _ hrbp m2, f _ _ _ hrbp m3, f _ _ _ hrbp m4, f _ _ _ hprp m5⟩))
    have HXE := Lib.hid (show exec (bodyX p clock cells) c = ((n5, fun _ => (rs, r4.told)), c5) by rw [HX.out]; simp only [exec_bind, HX4.out, hx5, exec])
    have hW := hc6.below
    have hnw : ∀ b, b ∈ B ++ [pr] ∨ w3.heap.size ≤ b → wi.heap.size ≤ b := fun b hb => by
      rcases hb with z | z
      · rcases List.mem_append.1 z with z | z
        · exact HB.out b z
        · rw [List.mem_singleton] at z
          rw [z, ← HPR.out]; exact HH.out.1
      · exact Nat.le_trans HH.out.1 (Nat.le_trans HK23.out.1 z)
    have hnl : ∀ b ∈ lv4.ownBlock.toList, b ≠ po ∧ wi.heap.size ≤ b ∧ b < w6.heap.size := fun b hb => by
      have q := hnw b (HB4.out b (List.mem_append_right _ (List.mem_append_right _ (hb4 b hb))))
      have := HLO.out po (List.mem_append_right _ hpoQ)
      have := hlo5 b (by simp [hb4 b hb])
      have := b6.size
      rw [hw6] at this
      exact ⟨by omega, q, by omega⟩
    have hnE : ∀ b ∈ E5, wi.heap.size ≤ b := fun b hb => by
      rcases hB5 b (by simp [hb]) with q | q
      · refine hnw b (HB4.out b ?_)
        rcases List.mem_append.1 q with z | z
        · exact List.mem_append_left _ z
        · exact List.mem_append_right _ (List.mem_append_left _ z)
      · exact hnw b (.inr (Nat.le_trans HH4.out.1 q))
    have HFIN := Lib.hid (fun (w9 : World) (hk : Kept (fun b => b = po) w6 w9) (hc9 : Cells w9 po (rslV rs ++ [lv4]) 60) => (show BodyPost W pa pb pc (outAuxX W po) X Qa wi (n5, c5, (rs, r4.told)) (.returned v5) w9 from by
      have hEp : ∀ b ∈ E5, b ≠ po := fun b hb => by
        have := hnE b hb
        have := HLO.out po (List.mem_append_right _ hpoQ)
        omega
      have hXp : ∀ b ∈ X, b ≠ po := fun b hb e => HXQ.out b hb (e ▸ hpoQ)
      refine ⟨v5, E5, po :: lv4.ownBlock.toList, rfl, he6.heldBy (R := E5) ⟨hk.size, fun b hb => hk.block b (he6.lt b hb) (hEp b hb)⟩ (fun _ h => h), ⟨lv4, rfl, fun hm => (hnl po hm).1 rfl, n2, hc9, hi6.heldBy (R := lv4.ownBlock.toList) ⟨hk.size, fun b hb => hk.block b (hnl b hb).2.2 (hnl b hb).1⟩ (fun _ h => h), fun b hb => Nat.le_trans HWI.out (hnl b hb).2.1⟩, hc6.step (hk.mono fun b _ e => by simp [e, hpoQ]) (hW.trans (hk.below hW.size fun b hb e => by omega)) fun b hb => ?_, (hi26.less fun b hb => List.mem_append_left _ hb).trans ⟨hk.size, fun b hb => hk.block b (Nat.lt_of_lt_of_le (HLO.out b (List.mem_append_left _ hb)) hi26.1) (hXp b hb)⟩, fun b hb => ?_⟩
      · have hz := hk.size
        have key : b ∈ E5 ++ (B5 ++ (X4 ++ (px :: (X ++ Qa)))) := by
          rcases List.mem_append.1 hb with q | q
          · simp [q]
          · rcases List.mem_append.1 q with q | q
            · simp [q]
            · rcases List.mem_cons.1 q with q | q
              · simp [q, hpoQ]
              · simp [hb4 b q]
        exact ⟨.inl key, Nat.lt_of_lt_of_le (hc6.heldR b key) hz⟩
      · rcases List.mem_append.1 hb with q | q
        · exact .inr (hnE b q)
        · rcases List.mem_cons.1 q with q | q
          · exact .inl (by rw [q]; exact hpoQ)
          · exact .inr (hnl b q).2.1))
    have HSHP := Lib.hid he6.shape; have HW6 := Lib.hid hw6; have HRB := Lib.hid hrb; have HCO := Lib.hid hCo6
    subst hl4'
    clear hw6 hrb hx5 he5 ht5 hc5 hh5 hB5 hEB5 hr4 hp4 hC4 hl4 hi4 hb4 hprX hk45 hC5 hi5 h25 b6 C6 hlo5 hC6 hi6 hc6 he6 h26 C6' hi26 hs6 hQa n1 n2 hCo hpoQ hpol hbo hprp hz6 hrbp hW hCo6 hnw hnl hnE
    go_upto_region 6 with (fail)
    rw [HW6.out, HRB.out]
    go_region_held3 (fun w' => w'.cell? ⟨bo, 0, none⟩ = some (.pointer (some ⟨po, 0, none⟩)) ∧ w'.cell? ⟨rb, 0, none⟩ = some (.int .i64 rs.fin) ∧ w'.cell? ⟨rb, 1, none⟩ = some (.int .i64 rs.stamp) ∧ w'.cell? ⟨rb, 2, none⟩ = some (.bool rs.wrote) ∧ w'.cell? ⟨rb, 3, none⟩ = some (.bool rs.waits) ∧ w'.cell? ⟨pr, 11, none⟩ = some (.slice lp4 ll lc4))
      (first | exact HSS.out _ (by repeat (first | exact Kept.refl _ _ | with_reducible refine Kept.drew ?_ | refine Kept.setCell (S := fun b => b = po) ?_ (fun _ => rfl) _)) | go_keep)
      (fail)
    have HF := Lib.hid (HFIN.out (((((w6.setCell ⟨po, 0, none⟩ (.int .i64 rs.fin)).setCell ⟨po, 1, none⟩ (.int .i64 rs.stamp)).setCell ⟨po, 2, none⟩ (.bool rs.wrote)).setCell ⟨po, 3, none⟩ (.bool rs.waits)).setCell ⟨po, 4, none⟩ (.slice lp4 ll lc4)).drew
      (by repeat (first | exact Kept.refl _ _ | with_reducible refine Kept.drew ?_ | refine Kept.setCell (S := fun b => b = po) ?_ (fun _ => rfl) _))
      (((((HCO.out.set 0 (.int .i64 rs.fin)).set 1 (.int .i64 rs.stamp)).set 2 (.bool rs.wrote)).set 3 (.bool rs.waits)).set 4 (.slice lp4 ll lc4)))
    rcases HSHP.out with rfl | ⟨tt, xx, rfl⟩
    all_goals
      go_wp2
      go_ret
      unfold treeBody
      rw [HXE.out]
      exact HF.out
  · have HXE := Lib.hid (show exec (bodyX p clock cells) c = ((nn, id), c1) by simp only [bodyX, exec_bind, hx, if_neg h0, exec])
    have hat := (outAuxX W po).loc s Qa _ _ HA.out (hh.less fun b hb => by simp [hb])
    have HF := Lib.hid (show BodyPost W pa pb pc (outAuxX W po) X Qa wi (nn, c1, s) (.returned v) w2 from ⟨v, E, Qa, rfl, he, hat, hc.less (fun b hb => by
      simp only [List.mem_append] at hb ⊢
      rcases hb with q | q | q <;> simp [q]), hh.less (fun b hb => by simp [hb]), fun b hb => by
      rcases List.mem_append.1 hb with q | q
      · exact .inr (hE b q)
      · exact .inl q⟩)
    obtain ⟨tt, xx, rfl⟩ := he.iface h0
    clear hx hh he hc hE h0 HBEG hat
    go_wp2
    go_ret
    unfold treeBody
    rw [HXE.out]
    exact HF.out
/-- Such a body. -/
theorem bodyX_step {W : World} {Q : List Nat} {pa pb bc bw bs bp bo po g n cap clock : Nat} {pv : Value} {p : List St} {cells : List Nat} (hg : Handle W) (hclock : clock < 18446744073709551616) (hlen : cells.length = n) (h1 : 1 ≤ n) (h2 : n ≤ 400) (hsm : ∀ x ∈ cells, x < 18446744073709551616) (hcnt : cntL p < 100000) (hrg : rgL p) (hwl : wlogL p ≤ 900000) :
    BodyOk W pa pb 42 #[.pointer (some ⟨bc, 0, none⟩), .pointer (some ⟨bw, 0, none⟩), .pointer (some ⟨bs, 0, none⟩), .pointer (some ⟨bp, 0, none⟩), .pointer (some ⟨bo, 0, none⟩)] (outAuxX W po) (treeBody fun _ => bodyX p clock cells) (shX bc bw bs bp bo g Q) (SharedX W bc bw bs bp bo po g n cap pv Q p clock cells) where
  enters := ef_bodyX
  keeps _ _ k h := h.heldBy k fun _ hb => hb
  does _ _ _ _ _ _ _ hP hSh ha h hx _ := bodyX_ok hg hclock hlen h1 h2 hsm hcnt hrg hwl hP hSh ha h hx
end Go.Proofs.YtkpdacfiglpgeaaGreatDoor

/- Layer 14's laws: a transaction that runs alone. -/
namespace Go.Proofs.YtkpdacfiglpgeaaGreatDoor
open Go.RowKit Bl Th Tx
set_option maxRecDepth 10000

/-- The world behind body. -/
def bodyWX (w : World) (pv : Value) (clock g n cap po : Nat) : World := ((((w.alloc (.cells #[pv] 42)).alloc (.cells #[.int .u64 (clock : Int)] 25)).alloc (.cells #[.slice (some ⟨g, 0, none⟩) n cap] 26)).alloc (.cells #[.int .i64 1] 3)).alloc (.cells #[.pointer (some ⟨po, 0, none⟩)] 56)
theorem body14_ok (lp : Option Addr) (ll lc clock g n cap po : Nat) (w : World) : Calls Tryz.prog 21 #[.slice lp ll lc, .int .u64 (clock : Int), .slice (some ⟨g, 0, none⟩) n cap, .int .i64 1, .pointer (some ⟨po, 0, none⟩)] w fun e w' =>
    e = .returned (.func (.func 42) #[] #[.pointer (some ⟨w.heap.size + 1, 0, none⟩), .pointer (some ⟨w.heap.size + 3, 0, none⟩), .pointer (some ⟨w.heap.size + 2, 0, none⟩), .pointer (some ⟨w.heap.size, 0, none⟩), .pointer (some ⟨w.heap.size + 4, 0, none⟩)]) ∧ w' = bodyWX w (.slice lp ll lc) clock g n cap po := by
  go_enter Tryz.func21, Tryz.ntmps21
  go_wp2
  go_ret
  exact ⟨by simp, rfl⟩
theorem bodyX_set {W : World} {R : List Nat} {pa pb g n cap po clock : Nat} {cells : List Nat} {S : BS} {w : World} {pv : Value} {Q : List Nat} {p : List St} (h : Held W R pa pb S w) (hg : g ∈ R) (hQ : ∀ b ∈ Q, b ∈ R) (ha : CellsIn w g cells) (hl : SlQ Q w p pv) :
    Below w.heap.size w (bodyWX w pv clock g n cap po) ∧ Held W ([w.heap.size, w.heap.size + 1, w.heap.size + 2, w.heap.size + 3, w.heap.size + 4] ++ R) pa pb S (bodyWX w pv clock g n cap po) ∧ SharedX W (w.heap.size + 1) (w.heap.size + 3) (w.heap.size + 2) w.heap.size (w.heap.size + 4) po g n cap pv Q p clock cells (bodyWX w pv clock g n cap po) := by
  have B : Below w.heap.size w (bodyWX w pv clock g n cap po) := (((((Below.refl w.heap.size w).alloc (Nat.le_refl _) _).alloc (by simp) _).alloc (by simp; omega) _).alloc (by simp; omega) _).alloc (by simp; omega) _
  have k := HeldBy.of_below (R := R) B h.held
  have hz : (bodyWX w pv clock g n cap po).heap.size = w.heap.size + 5 := by simp [bodyWX]
  refine ⟨B, h.came B _ (by intro b hb; rw [hz]; simp at hb; omega), ?_, ?_, ?_, ?_, ?_, ha.heldBy k hg, hl.heldBy k hQ⟩
  · have := (((Cells.new (w.alloc (.cells #[pv] 42)) [.int .u64 (clock : Int)] 25).alloc (.cells #[.slice (some ⟨g, 0, none⟩) n cap] 26)).alloc (.cells #[.int .i64 1] 3)).alloc (.cells #[.pointer (some ⟨po, 0, none⟩)] 56)
    simpa [bodyWX] using this
  · have := (Cells.new (((w.alloc (.cells #[pv] 42)).alloc (.cells #[.int .u64 (clock : Int)] 25)).alloc (.cells #[.slice (some ⟨g, 0, none⟩) n cap] 26)) [.int .i64 1] 3).alloc (.cells #[.pointer (some ⟨po, 0, none⟩)] 56)
    simpa [bodyWX] using this
  · have := ((Cells.new ((w.alloc (.cells #[pv] 42)).alloc (.cells #[.int .u64 (clock : Int)] 25)) [.slice (some ⟨g, 0, none⟩) n cap] 26).alloc (.cells #[.int .i64 1] 3)).alloc (.cells #[.pointer (some ⟨po, 0, none⟩)] 56)
    simpa [bodyWX] using this
  · exact ((((Cells.new w [pv] 42).alloc _).alloc _).alloc _).alloc _
  · have := Cells.new ((((w.alloc (.cells #[pv] 42)).alloc (.cells #[.int .u64 (clock : Int)] 25)).alloc (.cells #[.slice (some ⟨g, 0, none⟩) n cap] 26)).alloc (.cells #[.int .i64 1] 3)) [.pointer (some ⟨po, 0, none⟩)] 56
    simpa [bodyWX] using this
/-- What a run leaves. -/
def RunX (W : World) (R : List Nat) (pa pb po pt : Nat) (fv : Value) (S' : BS) (o : Rsl × List Int) (w : World) (e : Ending) (w' : World) : Prop :=
  ∃ lv L nn B', e = .returned .nilIface ∧ Cells w' po (rslV o.1 ++ [lv]) 60 ∧ IntsAt w' lv o.2 ∧ Held W (po :: (lv.ownBlock.toList ++ R)) pa pb S' w' ∧ HeldBy R w w' ∧ Thr W pb pt fv (outAuxX W po) ⟨L, 0, nn, true, 0, o⟩ B' w'
/-- A new thread of such a body. -/
theorem newX_ok {W : World} {R : List Nat} {pa pb g n cap po clock m : Nat} {cells : List Nat} {S S' : BS} {w : World} {pv : Value} {Q : List Nat} {p : List St} {o : Rsl × List Int} (hg : Handle W) (hclock : clock < 18446744073709551616) (hlen : cells.length = n) (h1 : 1 ≤ n) (h2 : n ≤ 400) (hsm : ∀ x ∈ cells, x < 18446744073709551616) (hcnt : cntL p < 100000) (hrg : rgL p) (hwl : wlogL p ≤ 900000)
    (h : Held W (po :: R) pa pb S w) (hpo : po ∉ R) (hpW : W.heap.size ≤ po) (hgR : g ∈ R) (hQ : ∀ b ∈ Q, b ∈ R) (ha : CellsIn w g cells) (hl : SlQ Q w p pv) (hout : Cells w po (rslV .zero ++ [.slice none 0 0]) 60) {L : List Ntry} {nn : Nat} (erun : Th.run (treeBody fun _ => bodyX p clock cells) m (0, Th.start (Rsl.zero, ([] : List Int)), S) = (0, ⟨L, 0, nn, true, 0, o⟩, S')) (hm9 : m ≤ 10000) :
    Calls Tryz.prog 20 #[.pointer (some ⟨pb, 0, none⟩), .func (.func 42) #[] #[.pointer (some ⟨w.heap.size + 1, 0, none⟩), .pointer (some ⟨w.heap.size + 3, 0, none⟩), .pointer (some ⟨w.heap.size + 2, 0, none⟩), .pointer (some ⟨w.heap.size, 0, none⟩), .pointer (some ⟨w.heap.size + 4, 0, none⟩)]] (bodyWX w pv clock g n cap po) fun e w' =>
      ∃ pt, e = .returned (.pointer (some ⟨pt, 0, none⟩)) ∧ po < w.heap.size ∧ Calls Tryz.prog 23 #[.pointer (some ⟨pt, 0, none⟩), .int .i64 (m : Int)] w' (RunX W R pa pb po pt (.func (.func 42) #[] #[.pointer (some ⟨w.heap.size + 1, 0, none⟩), .pointer (some ⟨w.heap.size + 3, 0, none⟩), .pointer (some ⟨w.heap.size + 2, 0, none⟩), .pointer (some ⟨w.heap.size, 0, none⟩), .pointer (some ⟨w.heap.size + 4, 0, none⟩)]) S' o w) := by
  obtain ⟨S1, S2, S3⟩ := bodyX_set (cap := cap) (n := n) (clock := clock) (po := po) h (List.mem_cons_of_mem _ hgR) (fun b hb => List.mem_cons_of_mem _ (hQ b hb)) ha hl
  have hlt : ∀ b ∈ po :: R, b < w.heap.size := h.held
  have hk1 := HeldBy.of_below (R := po :: R) S1 hlt
  have hz : (bodyWX w pv clock g n cap po).heap.size = w.heap.size + 5 := by simp [bodyWX]
  have hq : (outAuxX W po).at' (.zero, []) [po] (bodyWX w pv clock g n cap po) := ⟨.slice none 0 0, rfl, by simp [Value.ownBlock], hpW, hout.heldBy hk1 (by simp), IntsAt.none _, by simp [Value.ownBlock]⟩
  refine (tnew_newC S2 (outAuxX W po) _ hq (by simp) _ _).mono ?_
  rintro e w3 ⟨pt, rfl, ht, hh3, hb3, hpt⟩
  refine ⟨pt, rfl, hlt po (by simp), ?_⟩
  have hk3 := HeldBy.of_below (R := [w.heap.size, w.heap.size + 1, w.heap.size + 2, w.heap.size + 3, w.heap.size + 4] ++ (po :: R)) hb3 S2.held
  have hP := S3.heldBy hk3 (by
    intro b hb
    simp only [shX, List.mem_append, List.mem_cons, List.not_mem_nil, or_false] at hb ⊢
    rcases hb with (q | q | q | q | q | q) | q
    · simp [q]
    · simp [q]
    · simp [q]
    · simp [q]
    · simp [q]
    · simp [q, hgR]
    · simp [hQ b q])
  have hR := trun_ok (R := [w.heap.size, w.heap.size + 1, w.heap.size + 2, w.heap.size + 3, w.heap.size + 4] ++ R) (S := S) (bodyX_step (pa := pa) hg hclock hlen h1 h2 hsm hcnt hrg hwl) ht (hh3.less (by
    intro b hb
    simp only [List.mem_append, List.mem_cons, List.not_mem_nil, or_false] at hb ⊢
    rcases hb with (q | q) | (q | q | q | q | q) | q <;> simp [q])) (by
    intro b hb hm2
    have hpol := hlt po (by simp)
    simp only [List.mem_append, List.mem_cons, List.not_mem_nil, or_false] at hb hm2
    rw [hz] at hpt
    rcases hb with q | q
    · rcases hm2 with u | u
      · omega
      · have := hlt b (by simp [u]); omega
    · rcases hm2 with u | u
      · omega
      · exact hpo (q ▸ u)) (by
    intro b hb
    simp only [shX, List.mem_append, List.mem_cons, List.not_mem_nil, or_false] at hb ⊢
    rcases hb with (q | q | q | q | q | q) | q
    · simp [q]
    · simp [q]
    · simp [q]
    · simp [q]
    · simp [q]
    · simp [q, hgR]
    · simp [hQ b q]) hP m (by show 0 + m ≤ 3000000000; omega)
  refine hR.mono ?_
  rintro e w4 ⟨v, E, B', rfl, he, ht4, hh4, hk4, hr⟩
  have e2 : Th.run (treeBody fun _ => bodyX p clock cells) m ((Th.start (Rsl.zero, ([] : List Int))).err, Th.start (Rsl.zero, ([] : List Int)), S) = (0, ⟨L, 0, nn, true, 0, o⟩, S') := erun
  rw [e2] at he ht4 hh4
  simp only at he ht4 hh4
  obtain ⟨rfl, rfl⟩ := he.isNil rfl
  have ht5 := ht4
  obtain ⟨lv0, ev, E2, Q2, rfl, hl2⟩ := ht4
  obtain ⟨lv, rfl, n1, n2, hc4, hi4, -⟩ := hl2.aux
  refine ⟨lv, L, nn, _, rfl, hc4, hi4, hh4.less (fun b hb => ?_), (hk1.less fun b hb => List.mem_cons_of_mem _ hb).trans ((hk3.less fun b hb => by simp [hb]).trans (hk4.less fun b hb => by simp [hb])), ht5⟩
  simp only [List.mem_append, List.mem_cons] at hb ⊢
  rcases hb with q | q | q <;> simp [q]
end Go.Proofs.YtkpdacfiglpgeaaGreatDoor
