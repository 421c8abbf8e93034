/- Layer 18's laws: a transaction that adds, as a body: what it reads, what it keeps; the walk. -/
import Derived.Test.YtdipidiahekpkaaGreatDoorCount
import Derived.Test.YtdipidiahekpkaaGreatDoorRun
import Derived.StillTailTactics
namespace Go.Proofs.YtdipidiahekpkaaGreatDoor
open Go.RowKit Bl Th
set_option maxRecDepth 10000

def encA (a : Int × Int) : List Value := [.int .i64 a.1, .int .i64 a.2]
/-- A slice of numbers to add lies in a block that is held, or in one that was there in W. -/
structure AddsIn (W w : World) (v : Value) (Q : List Nat) (l : List (Int × Int)) : Prop where
  shape : ∃ p cap, v = .slice p l.length cap ∧ (l ≠ [] → ∃ g o, p = some ⟨g, o, none⟩ ∧ ∀ (k : Nat) m, l[k]? = some m → ∀ j, j < 2 → (g ∈ Q ∧ w.cell? ⟨g, o + k * 2 + j, none⟩ = (encA m)[j]?) ∨ (g < W.heap.size ∧ W.cell? ⟨g, o + k * 2 + j, none⟩ = (encA m)[j]?))
  few : l.length ≤ 1000
theorem AddsIn.heldBy {W w w' : World} {v : Value} {Q R : List Nat} {l : List (Int × Int)} (h : AddsIn W w v Q l) (k : HeldBy R w w') (hs : ∀ b ∈ Q, b ∈ R) : AddsIn W w' v Q l := by
  obtain ⟨p, cap, hv, hp⟩ := h.shape
  refine ⟨⟨p, cap, hv, fun hn => ?_⟩, h.few⟩
  obtain ⟨g, o, hg, hc⟩ := hp hn
  refine ⟨g, o, hg, fun i m hi j hj => ?_⟩
  rcases hc i m hi j hj with ⟨hm, q⟩ | q
  · exact .inl ⟨hm, (k.cell (a := ⟨g, o + i * 2 + j, none⟩) (hs g hm)).trans q⟩
  · exact .inr q
theorem AddsIn.at {W w : World} {p : Option Addr} {n cap : Nat} {Q : List Nat} {l : List (Int × Int)} (h : AddsIn W w (.slice p n cap) Q l) (hb : Below W.heap.size W w) {k : Nat} {m : Int × Int} (hk : l[k]? = some m) :
    ∃ g o, p = some ⟨g, o, none⟩ ∧ w.cell? ⟨g, o + k * 2, none⟩ = some (.int .i64 m.1) ∧ w.cell? ⟨g, o + k * 2 + 1, none⟩ = some (.int .i64 m.2) := by
  obtain ⟨p', cap', hv, hp⟩ := h.shape
  simp only [Value.slice.injEq] at hv
  obtain ⟨rfl, -, -⟩ := hv
  obtain ⟨g, o, hg, hc⟩ := hp (fun e => by simp [e] at hk)
  have key : ∀ j, j < 2 → w.cell? ⟨g, o + k * 2 + j, none⟩ = (encA m)[j]? := by
    intro j hj
    rcases hc k m hk j hj with ⟨_, q⟩ | ⟨h1, q⟩
    · exact q
    · exact (hb.cell (p := ⟨g, o + k * 2 + j, none⟩) h1).trans q
  exact ⟨g, o, hg, key 0 (by omega), key 1 (by omega)⟩
/-- What such a body reads. -/
structure SharedC (W : World) (bc bl ba bb bs ps g n gcap : Nat) (lv : Value) (Qo : List Nat) (adds : List (Int × Int)) (abort : Bool) (clock : Nat) (cells : List Nat) (w : World) : Prop where
  clock' : Cells w bc [.int .u64 (clock : Int)] 25
  cells' : Cells w bl [.slice (some ⟨g, 0, none⟩) n gcap] 26
  adds' : Cells w ba [lv] 30
  abort' : Cells w bb [.bool abort] 4
  out : Cells w bs [.pointer (some ⟨ps, 0, none⟩)] 49
  arr : CellsIn w g cells
  lies : AddsIn W w lv Qo adds
def shC (bc bl ba bb bs g : Nat) (Qo : List Nat) : List Nat := [bc, bl, ba, bb, bs, g] ++ Qo
theorem SharedC.heldBy {W : World} {bc bl ba bb bs ps g n gcap : Nat} {lv : Value} {Qo : List Nat} {adds : List (Int × Int)} {abort : Bool} {clock : Nat} {cells : List Nat} {w w' : World} {R : List Nat} (h : SharedC W bc bl ba bb bs ps g n gcap lv Qo adds abort clock cells w) (k : HeldBy R w w') (hs : ∀ b ∈ shC bc bl ba bb bs g Qo, b ∈ R) : SharedC W bc bl ba bb bs ps g n gcap lv Qo adds abort clock cells w' := by
  have m : ∀ b, b = bc ∨ b = bl ∨ b = ba ∨ b = bb ∨ b = bs ∨ b = g ∨ b ∈ Qo → b ∈ R := fun b hb => hs b (by simpa [shC, or_assoc] using hb)
  exact ⟨h.clock'.heldBy k (m bc (by simp)), h.cells'.heldBy k (m bl (by simp)), h.adds'.heldBy k (m ba (by simp)), h.abort'.heldBy k (m bb (by simp)), h.out.heldBy k (m bs (by simp)), h.arr.heldBy k (m g (by simp)), h.lies.heldBy k (fun b hb => m b (by simp [hb]))⟩
/-- What it keeps: the two sums. -/
def sumsAux (W : World) (ps : Nat) : Aux (Int × Int) where
  at' s Q w := Q = [ps] ∧ W.heap.size ≤ ps ∧ Cells w ps [.int .i64 s.1, .int .i64 s.2] 33
  loc := by
    rintro s Q w w' ⟨rfl, h1, h2⟩ k
    exact ⟨rfl, h1, h2.heldBy k (by simp)⟩
/-- What holds along its way, behind Begin. -/
structure WayC (W : World) (Y : List Nat) (pa pb pc pt px : Nat) (wi : World) (t : Tx) (B E : List Nat) (c : CS) (w : World) : Prop where
  ctx : Ctx W (E ++ (B ++ (px :: Y))) pa pb pc c w
  held : HeldBy Y wi w
  tx : TxAt W pt t B w
  tn : TnAt px pt pc w
  newB : ∀ b ∈ B, wi.heap.size ≤ b ∧ b ≠ px
  newE : ∀ b ∈ E, wi.heap.size ≤ b
  apE : ∀ b ∈ E, b ∉ B
  newX : wi.heap.size ≤ px
  loY : ∀ b ∈ Y, b < wi.heap.size
section
variable {W : World} {Y B B' E : List Nat} {pa pb pc pt px : Nat} {wi w w' : World} {t t' : Tx} {c c' : CS}
theorem WayC.apart (h : WayC W Y pa pb pc pt px wi t B E c w) : ∀ b ∈ B, b ∉ px :: Y := by
  intro b hb hm
  obtain ⟨h1, h2⟩ := h.newB b hb
  rcases List.mem_cons.1 hm with e | e
  · exact h2 e
  · have := h.loY b e; omega
theorem WayC.call (h : WayC W Y pa pb pc pt px wi t B [] c w) (ht : TxAt W pt t' B' w') (hc : Ctx W (E ++ (B' ++ (px :: Y))) pa pb pc c' w') (hh : HeldBy (px :: Y) w w') (hB : ∀ b ∈ E ++ B', b ∈ B ∨ w.heap.size ≤ b) (hEB : ∀ b ∈ E, b ∉ B') : WayC W Y pa pb pc pt px wi t' B' E c' w' := by
  have hz := h.held.1
  have hx := Cells.lt h.tn
  have key : ∀ b ∈ E ++ B', wi.heap.size ≤ b ∧ b ≠ px := by
    intro b hb
    rcases hB b hb with q | q
    · exact h.newB b q
    · exact ⟨Nat.le_trans hz q, fun e => by omega⟩
  exact ⟨hc, h.held.trans (hh.less fun b hb => by simp [hb]), ht, h.tn.heldBy hh (by simp), fun b hb => key b (by simp [hb]), fun b hb => (key b (by simp [hb])).1, hEB, h.newX, h.loY⟩
theorem WayC.under (h : WayC W Y pa pb pc pt px wi t B E c w) (hb : Below w.heap.size w w') : WayC W Y pa pb pc pt px wi t B E c w' := by
  have hh := HeldBy.of_below (R := E ++ (B ++ (px :: Y))) hb h.ctx.heldR
  exact { h with ctx := h.ctx.under hb, held := h.held.trans (hh.less fun b hb => by simp [hb]), tx := h.tx.heldBy hh (fun b hb => by simp [hb]), tn := h.tn.heldBy hh (by simp) }
theorem WayC.nil (h : WayC W Y pa pb pc pt px wi t B [] c w) : Ctx W (B ++ (px :: Y)) pa pb pc c w := h.ctx.less fun b hb => by simpa using hb
end
theorem body_finC {σ : Type} {W : World} {X Q E : List Nat} {pa pb pc n : Nat} {A : Aux σ} {s' : σ} {c' : CS} {v : Value} {wr w' : World} (ha : A.at' s' Q w') (he : Err w' v n E) (hc : Ctx W (E ++ (Q ++ X)) pa pb pc c' w') (hh : HeldBy X wr w') (hE : ∀ b ∈ E, wr.heap.size ≤ b) : BodyPost W pa pb pc A X Q wr (n, c', s') (.returned v) w' := by
  refine ⟨v, E, Q, rfl, he, ha, hc.less (fun b hb => ?_), hh, fun b hb => ?_⟩
  · simp only [List.mem_append] at hb ⊢
    rcases hb with q | q | q
    · exact .inr (.inr q)
    · exact .inl q
    · exact .inr (.inl q)
  · rcases List.mem_append.1 hb with q | q
    · exact .inr (hE b q)
    · exact .inl q
/-- What holds at each number's head. -/
def BodyCJ (W : World) (Y : List Nat) (pa pb pc pt px : Nat) (wi : World) (cells : List Nat) (adds : List (Int × Int)) (len : Nat) (P0 : Tree (Nat × Tx)) (c0 : CS) (ev iv : Value) (wr : World) : Prop :=
  ∃ (k n : Nat) (t : Tx) (B E : List Nat) (c : CS), k ≤ len ∧ iv = .int .i64 (k : Int) ∧ t.sets.log.length ≤ k ∧ Err wr ev n E ∧ WayC W Y pa pb pc pt px wi t B E c wr ∧ exec P0 c0 = if n = 0 then exec (cAdds cells (adds.drop k) t) c else ((n, t), c)
theorem ef_bodyC (args : Array Value) (w : World) : (callFunc 22 args).run Tryz.prog w = .ok (.enter 22 args) w := enters_of Tryz.func22 (by kernel_rfl) rfl args w
theorem tBegin_tx {clock n : Nat} {owner : Int} {c c1 : CS} {t : Tx} (h : exec (tBegin clock owner) c = ((n, t), c1)) : t.sets.log.length ≤ 0 := by
  simp only [tBegin, exec_bind] at h
  have := (Prod.ext_iff.1 (Prod.ext_iff.1 h).1).2
  simp only [exec] at this
  rw [← this]
  simp [Sets.empty]
set_option maxHeartbeats 8000000 in
theorem bodyC1_ok {W : World} {X Qo : List Nat} {pa pb pc bc bl ba bb bs ps g n gcap clock round : Nat} {lp : Option Addr} {lcap : Nat} {adds : List (Int × Int)} {abort : Bool} {cells : List Nat} {s : Int × Int} {c : CS} {wi : World} (hg : Handle W) (hn : cells.length = n) (hn1 : 1 ≤ n) (hn4 : n ≤ 100) (hclock : clock < 18446744073709551616) (hcells : ∀ x ∈ cells, x < 18446744073709551616)
    (hs : SharedC W bc bl ba bb bs ps g n gcap (.slice lp adds.length lcap) Qo adds abort clock cells wi) (hSh : ∀ b ∈ shC bc bl ba bb bs g Qo, b ∈ X) (ha : (sumsAux W ps).at' s [ps] wi) (h : Ctx W (ps :: X) pa pb pc c wi) (hXQ : ∀ b ∈ X, b ∉ [ps]) :
    Calls Tryz.prog 22 #[.pointer (some ⟨pc, 0, none⟩), .int .i64 (round : Int), .pointer (some ⟨bc, 0, none⟩), .pointer (some ⟨bl, 0, none⟩), .pointer (some ⟨ba, 0, none⟩), .pointer (some ⟨bb, 0, none⟩), .pointer (some ⟨bs, 0, none⟩)] wi (BodyPost W pa pb pc (sumsAux W ps) X [ps] wi (treeBody (fun _ => bodyC adds abort clock cells) s round c)) := by
  have H := Lib.hid h; have HG := Lib.hid hg; have HS := Lib.hid hs; have HSH := Lib.hid hSh; have HA := Lib.hid ha; have HXQ := Lib.hid hXQ; have HN := Lib.hid hn; have HN1 := Lib.hid hn1; have HN4 := Lib.hid hn4; have HCF := Lib.hid hcells
  have HBEG := Lib.hid (xbegin_ok h hg hclock 1)
  have HLO := Lib.hid h.heldR
  have q0 := hs.clock'.cell 0
  simp only [List.getElem?_cons_zero] at q0
  clear h hg hs hSh ha hXQ hn hn1 hn4 hclock hcells
  go_enter Tryz.func22, Tryz.ntmps22
  go_wp2_with fail
  refine HBEG.out.mono ?_
  rintro e w2 ⟨n0, t, c1, hx, hh, ⟨rfl, px, pt, B, rfl, ht, htn, hc, hpx, hB, hpB⟩ | ⟨h0, v, E, rfl, he, hc, hE⟩⟩
  · have hway : WayC W (ps :: X) pa pb pc pt px wi t B [] c1 w2 := ⟨hc, hh, ht, htn, fun b hb => ⟨hB b hb, fun e => hpB (e ▸ hb)⟩, by simp, by simp, hpx, HLO.out⟩
    have HWAY := Lib.hid hway
    have HLOG := Lib.hid (tBegin_tx hx)
    have HX := Lib.hid (show exec (bodyC adds abort clock cells) c = exec ((cSum cells t 0).bind fun a => (if a.1 = 0 then cAdds cells adds a.2.2 else .ret (a.1, a.2.2)).bind (cMid cells abort a.2.1)) c1 by simp only [bodyC, exec_bind, hx, if_true])
    have hs2 := HS.out.heldBy hh (fun b hb => List.mem_cons_of_mem _ (HSH.out b hb))
    have q1 := hs2.cells'.cell 0
    simp only [List.getElem?_cons_zero] at q1
    have hgY : g ∈ px :: ps :: X := by simp [HSH.out g (by simp [shC])]
    have HSUM := Lib.hid (sum_ok (gcap := gcap) hway.nil HG.out ht hway.apart htn (by simp) hs2.arr hgY HN.out (by have := HN4.out; omega) HCF.out)
    clear hx hh ht htn hc hpx hB hpB hway hs2 HBEG q0
    go_wp2_with fail
    refine HSUM.out.mono ?_
    rintro e w3 ⟨n1, ⟨m1, t1⟩, c2, ev, E, B1, hx1, hm1, rfl, he, ht, hc, hh, hB, hEB⟩
    simp only at hm1 ht
    have hw3 := HWAY.out.call ht hc hh hB hEB
    have hlg : t1.sets.log.length ≤ 0 := by
      have := cSum_log cells t 0 c1
      rw [hx1] at this
      simp only at this
      rw [this]
      exact HLOG.out
    obtain ⟨P0, hP0⟩ : ∃ P0, (if n1 = 0 then cAdds cells adds t1 else .ret (n1, t1) : Tree (Nat × Tx)) = P0 := ⟨_, rfl⟩
    have HX1 := Lib.hid (show exec (bodyC adds abort clock cells) c = exec (P0.bind (cMid cells abort m1)) c2 by rw [HX.out, exec_bind, hx1]; simp only [hP0])
    obtain ⟨len, hlen⟩ : ∃ len, adds.length = len := ⟨_, rfl⟩
    have HLEN := Lib.hid hlen
    rw [hlen] at HS
    have hfew : len ≤ 1000 := by rw [← hlen]; exact HS.out.lies.few
    have HJ := Lib.hid (show BodyCJ W (ps :: X) pa pb pc pt px wi cells adds len P0 c2 ev (.int .i64 0) w3 from ⟨0, n1, t1, B1, E, c2, Nat.zero_le _, rfl, hlg, he, hw3, by rw [← hP0, List.drop_zero]; split <;> rfl⟩)
    clear hx1 ht hc hh hB hEB hw3 hlg hP0 hlen HX HWAY HSUM HLOG
    have HM1 := Lib.hid hm1
    clear he hm1 q1 hgY
    go_wp2
    go_loopw [11, 13] (BodyCJ W (ps :: X) pa pb pc pt px wi cells adds len P0 c2) (fun _ i _ => len - (intOf i).toNat)
    case atStart => exact HJ.out
    case round =>
      clear HJ
      obtain ⟨k, n2, t2, B2, E2, c3, hk, rfl, hlg, he, hw, hxx⟩ := hrel
      have hsw := HS.out.heldBy hw.held (fun b hb => List.mem_cons_of_mem _ (HSH.out b hb))
      have q2 := hsw.adds'.cell 0
      have q3 := hsw.cells'.cell 0
      have q4 := hsw.abort'.cell 0
      simp only [List.getElem?_cons_zero] at q2 q3 q4
      have HW := Lib.hid hw; have HXX := Lib.hid hxx; have HE := Lib.hid he; have HLG := Lib.hid hlg
      by_cases h0 : n2 = 0
      · subst h0
        obtain ⟨rfl, rfl⟩ := he.isNil rfl
        by_cases hlt : k < len
        · have hlt' : (k : Int) < (len : Int) := by omega
          have hlen' : k < adds.length := by rw [HLEN.out]; exact hlt
          obtain ⟨a, hxk⟩ : ∃ a, adds[k]? = some a := ⟨adds[k], List.getElem?_eq_getElem hlen'⟩
          have hdrop : adds.drop k = a :: adds.drop (k + 1) := by
            rw [List.drop_eq_getElem_cons hlen']
            rw [List.getElem?_eq_getElem hlen'] at hxk
            rw [Option.some.inj hxk]
          obtain ⟨ga, oa, rfl, a0, a1⟩ := hsw.lies.at hw.ctx.below hxk
          obtain ⟨ak, an⟩ := a
          simp only at a0 a1
          have hbd : Below wr.heap.size wr wr.drew := below_drewN (Below.refl _ _) 1
          have hwd := hw.under hbd
          have hgY : g ∈ px :: ps :: X := by simp [HSH.out g (by simp [shC])]
          have HADD := Lib.hid (add_ok (gcap := gcap) hwd.nil HG.out hwd.tx hwd.apart hwd.tn (by simp) (hsw.arr.heldBy (R := [g]) ⟨Nat.le_refl _, fun _ _ => rfl⟩ (by simp)) HN.out HN1.out (by have := HN4.out; omega) HCF.out (by omega) ak an)
          have HWD := Lib.hid hwd
          rw [hdrop, if_pos rfl] at hxx
          have HX2 := Lib.hid hxx
          clear hw hxx he hlg hsw hdrop hxk hlen' hwd hbd hgY HW HXX HE
          go_wp2
          go_still_tail 12, (by kernel_rfl)
          change wpList _ _ _ _ _ wr.drew
          generalize wr.drew = wd at HWD HADD ⊢
          go_wp2_with fail
          refine HADD.out.mono ?_
          rintro e w4 ⟨n3, t3, c4, ev, E3, B3, hx3, -, rfl, he3, ht3, hc3, hh3, hB3, hEB3⟩
          have hlg3 := cAdd_log cells t2 ak an c3
          rw [hx3] at hlg3
          have HREL := Lib.hid (show BodyCJ W (ps :: X) pa pb pc pt px wi cells adds len P0 c2 ev (.int .i64 ((k + 1 : Nat) : Int)) w4 from ⟨k + 1, n3, t3, B3, E3, c4, by omega, rfl, by simp only at hlg3; have := HLG.out; omega, he3, HWD.out.call ht3 hc3 hh3 hB3 hEB3, by rw [HX2.out]; simp only [cAdds, exec_bind, hx3]; split <;> rfl⟩)
          have g9 : IntKind.i64.wrap ((k : Int) + 1) = ((k + 1 : Nat) : Int) := by rw [IntWalk.i64_in _ (by omega)]; rfl
          clear hx3 he3 ht3 hc3 hh3 hB3 hEB3 hlg3 HADD HX2 HWD
          go_wp2
          go_roundw
          case rel => exact HREL.out
          case measure => simp [intOf]; omega
        · obtain rfl : k = len := by omega
          have hki : decide ((k : Int) < (k : Int)) = false := by simp
          rw [if_pos rfl, ← HLEN.out, List.drop_length] at hxx
          have HX4 := Lib.hid (show exec (bodyC adds abort clock cells) c = exec ((cSum cells t2 0).bind (cEnd abort m1)) c3 by rw [HX1.out, exec_bind, hxx]; simp only [cAdds, exec, cMid, if_true])
          have hgY : g ∈ px :: ps :: X := by simp [HSH.out g (by simp [shC])]
          have HSUM := Lib.hid (sum_ok (gcap := gcap) hw.nil HG.out hw.tx hw.apart hw.tn (by simp) hsw.arr hgY HN.out (by have := HN4.out; omega) HCF.out)
          clear hw hxx he hlg hsw hgY HXX HE HX1
          go_wp2_with fail
          refine HSUM.out.mono ?_
          rintro e w5 ⟨n5, ⟨m5, t5⟩, c5, ev, E5, B5, hx5, -, rfl, he5, ht5, hc5, hh5, hB5, hEB5⟩
          have hw5 := HW.out.call ht5 hc5 hh5 hB5 hEB5
          have HW5 := Lib.hid hw5
          obtain ⟨bv, hbv⟩ : ∃ bv, toI m5 = bv := ⟨_, rfl⟩
          have HBV := Lib.hid hbv
          have hs5 := HS.out.heldBy hw5.held (fun b hb => List.mem_cons_of_mem _ (HSH.out b hb))
          have q5 := hs5.abort'.cell 0
          simp only [List.getElem?_cons_zero] at q5
          simp only [hbv]
          by_cases h5 : n5 = 0
          · subst h5
            obtain ⟨rfl, rfl⟩ := he5.isNil rfl
            clear hw5 hs5 ht5 hc5 hh5 hB5 hEB5 he5 HSUM HW q2 q3 q4 hbv
            cases abort with
            | true =>
              have HE5 := Lib.hid (show Err w5 (.iface 71 (.int .i64 ((14 : Nat) : Int))) 14 [] from .no 14 (by omega) (by omega))
              have HX5 := Lib.hid (show exec (bodyC adds true clock cells) c = exec ((tEnd t5 14).bind fun f => .ret (f.1, fun s => if f.1 = 0 then (toI m1, toI m5) else s)) c5 by rw [HX4.out, exec_bind, hx5]; simp only [cEnd, and_self, if_true])
              clear hx5 HX4
              have HEND := Lib.hid (xend_ok (R := px :: ps :: X) HW5.out.ctx HG.out HW5.out.tx HW5.out.apart HW5.out.tn (by simp) HE5.out HW5.out.apE)
              go_wp2_with fail
              refine HEND.out.mono ?_
              rintro e w6 ⟨n6, ⟨rs, t6⟩, c6, v6, E6, B6, hx6, -, rfl, he6, ht6, hc6, hh6, hB6, hEB6⟩
              have h6 : HeldBy (ps :: X) wi w6 := HW5.out.held.trans (hh6.less fun b hb => by simp [hb])
              have b7 := (Below.refl w6.heap.size w6).alloc (Nat.le_refl _) (.cells #[.int .i64 rs.fin, .int .i64 rs.stamp, .bool rs.wrote, .bool rs.waits] 73)
              obtain ⟨w7, hw7⟩ : ∃ w7, w6.alloc (.cells #[.int .i64 rs.fin, .int .i64 rs.stamp, .bool rs.wrote, .bool rs.waits] 73) = w7 := ⟨_, rfl⟩
              rw [hw7] at b7
              have c7 : Ctx W (E6 ++ ([ps] ++ X)) pa pb pc c6 w7 := (hc6.under b7).less (fun b hb => by
                simp only [List.mem_append, List.mem_cons, List.not_mem_nil, or_false] at hb ⊢
                rcases hb with q | q | q <;> simp [q])
              have h7 : HeldBy (ps :: X) wi w7 := h6.trans (HeldBy.of_below b7 (fun b hb => hc6.heldR b (by
                simp only [List.mem_append, List.mem_cons] at hb ⊢
                rcases hb with q | q <;> simp [q])))
              have e7 : Err w7 v6 n6 E6 := he6.heldBy (HeldBy.of_below b7 he6.lt) (fun _ h => h)
              have hE6 : ∀ b ∈ E6, wi.heap.size ≤ b := fun b hb => by
                rcases hB6 b (by simp [hb]) with q | q
                · rcases List.mem_append.1 q with q | q
                  · exact HW5.out.newE b q
                  · exact (HW5.out.newB b q).1
                · exact Nat.le_trans HW5.out.held.1 q
              have HXE := Lib.hid (HX5.out.trans (show _ = ((n6, fun s => if n6 = 0 then (toI m1, toI m5) else s), c6) by simp only [exec_bind, hx6, exec]))
              have hs7 := HS.out.heldBy h7 (fun b hb => List.mem_cons_of_mem _ (HSH.out b hb))
              have q7 := hs7.out.cell 0
              simp only [List.getElem?_cons_zero] at q7
              obtain ⟨-, A2, a3⟩ := HA.out
              have a7 := a3.heldBy h7 (by simp)
              have r0 := a7.cell 0
              have r1 := a7.cell 1
              have f0 := a7.free 0
              have f1 := a7.free 1
              simp only [List.getElem?_cons_zero, List.getElem?_cons_succ] at r0 r1
              by_cases h0 : n6 = 0
              · subst h0
                obtain ⟨rfl, rfl⟩ := e7.isNil rfl
                have k8 : Kept (fun b => b = ps) w7 ((w7.setCell ⟨ps, 0, none⟩ (.int .i64 (toI m1))).setCell ⟨ps, 1, none⟩ (.int .i64 bv)) := ((Kept.refl (fun b => b = ps) w7).setCell (p := ⟨ps, 0, none⟩) (fun _ => rfl) _).setCell (p := ⟨ps, 1, none⟩) (fun _ => rfl) _
                obtain ⟨x1, x2⟩ := Ctx.objs (B := [ps]) (B' := [ps]) (R := X) (c7.less fun b hb => List.mem_append_right _ hb) (k8.mono fun b _ e => by simp [e]) (by simpa using A2) (by intro b hb hm; exact HXQ.out b hm hb) (by intro b hb; exact ⟨.inl hb, Nat.lt_of_lt_of_le (c7.heldR b (List.mem_append_right _ (List.mem_append_left _ hb))) k8.size⟩)
                have HF := Lib.hid (body_finC (A := sumsAux W ps) (X := X) (Q := [ps]) (E := []) (n := 0) (v := .nilIface) (wr := wi) (s' := (toI m1, bv)) ⟨rfl, A2, (a7.set 0 _).set 1 _⟩ .none x1 ((h7.less fun b hb => by simp [hb]).trans x2) (by simp))
                clear hx6 he6 ht6 hc6 hh6 hB6 hEB6 h6 b7 c7 h7 e7 hE6 hs7 a3 a7 k8 x1 x2 HEND HE5 HW5 HX5
                go_wp2
                go_ret
                unfold treeBody
                rw [HXE.out]
                simp only [if_true, HBV.out]
                exact HF.out
              · have HF := Lib.hid (body_finC (A := sumsAux W ps) (X := X) (Q := [ps]) (wr := wi) (s' := s) ⟨rfl, A2, a7⟩ e7 c7 (h7.less fun b hb => by simp [hb]) hE6)
                obtain ⟨t7, x7, rfl⟩ := e7.iface h0
                clear hx6 he6 ht6 hc6 hh6 hB6 hEB6 h6 b7 c7 h7 e7 hE6 hs7 a3 a7 HEND HE5 HW5 HX5
                go_wp2
                go_ret
                unfold treeBody
                rw [HXE.out]
                simp only [if_neg h0]
                exact HF.out
            | false =>
              have HE5 := Lib.hid (show Err w5 .nilIface 0 [] from .none)
              have HX5 := Lib.hid (show exec (bodyC adds false clock cells) c = exec ((tEnd t5 0).bind fun f => .ret (f.1, fun s => if f.1 = 0 then (toI m1, toI m5) else s)) c5 by rw [HX4.out, exec_bind, hx5]; simp only [cEnd, Bool.false_eq_true, and_false, if_false])
              clear hx5 HX4
              have HEND := Lib.hid (xend_ok (R := px :: ps :: X) HW5.out.ctx HG.out HW5.out.tx HW5.out.apart HW5.out.tn (by simp) HE5.out HW5.out.apE)
              go_wp2_with fail
              refine HEND.out.mono ?_
              rintro e w6 ⟨n6, ⟨rs, t6⟩, c6, v6, E6, B6, hx6, -, rfl, he6, ht6, hc6, hh6, hB6, hEB6⟩
              have h6 : HeldBy (ps :: X) wi w6 := HW5.out.held.trans (hh6.less fun b hb => by simp [hb])
              have b7 := (Below.refl w6.heap.size w6).alloc (Nat.le_refl _) (.cells #[.int .i64 rs.fin, .int .i64 rs.stamp, .bool rs.wrote, .bool rs.waits] 73)
              obtain ⟨w7, hw7⟩ : ∃ w7, w6.alloc (.cells #[.int .i64 rs.fin, .int .i64 rs.stamp, .bool rs.wrote, .bool rs.waits] 73) = w7 := ⟨_, rfl⟩
              rw [hw7] at b7
              have c7 : Ctx W (E6 ++ ([ps] ++ X)) pa pb pc c6 w7 := (hc6.under b7).less (fun b hb => by
                simp only [List.mem_append, List.mem_cons, List.not_mem_nil, or_false] at hb ⊢
                rcases hb with q | q | q <;> simp [q])
              have h7 : HeldBy (ps :: X) wi w7 := h6.trans (HeldBy.of_below b7 (fun b hb => hc6.heldR b (by
                simp only [List.mem_append, List.mem_cons] at hb ⊢
                rcases hb with q | q <;> simp [q])))
              have e7 : Err w7 v6 n6 E6 := he6.heldBy (HeldBy.of_below b7 he6.lt) (fun _ h => h)
              have hE6 : ∀ b ∈ E6, wi.heap.size ≤ b := fun b hb => by
                rcases hB6 b (by simp [hb]) with q | q
                · rcases List.mem_append.1 q with q | q
                  · exact HW5.out.newE b q
                  · exact (HW5.out.newB b q).1
                · exact Nat.le_trans HW5.out.held.1 q
              have HXE := Lib.hid (HX5.out.trans (show _ = ((n6, fun s => if n6 = 0 then (toI m1, toI m5) else s), c6) by simp only [exec_bind, hx6, exec]))
              have hs7 := HS.out.heldBy h7 (fun b hb => List.mem_cons_of_mem _ (HSH.out b hb))
              have q7 := hs7.out.cell 0
              simp only [List.getElem?_cons_zero] at q7
              obtain ⟨-, A2, a3⟩ := HA.out
              have a7 := a3.heldBy h7 (by simp)
              have r0 := a7.cell 0
              have r1 := a7.cell 1
              have f0 := a7.free 0
              have f1 := a7.free 1
              simp only [List.getElem?_cons_zero, List.getElem?_cons_succ] at r0 r1
              by_cases h0 : n6 = 0
              · subst h0
                obtain ⟨rfl, rfl⟩ := e7.isNil rfl
                have k8 : Kept (fun b => b = ps) w7 ((w7.setCell ⟨ps, 0, none⟩ (.int .i64 (toI m1))).setCell ⟨ps, 1, none⟩ (.int .i64 bv)) := ((Kept.refl (fun b => b = ps) w7).setCell (p := ⟨ps, 0, none⟩) (fun _ => rfl) _).setCell (p := ⟨ps, 1, none⟩) (fun _ => rfl) _
                obtain ⟨x1, x2⟩ := Ctx.objs (B := [ps]) (B' := [ps]) (R := X) (c7.less fun b hb => List.mem_append_right _ hb) (k8.mono fun b _ e => by simp [e]) (by simpa using A2) (by intro b hb hm; exact HXQ.out b hm hb) (by intro b hb; exact ⟨.inl hb, Nat.lt_of_lt_of_le (c7.heldR b (List.mem_append_right _ (List.mem_append_left _ hb))) k8.size⟩)
                have HF := Lib.hid (body_finC (A := sumsAux W ps) (X := X) (Q := [ps]) (E := []) (n := 0) (v := .nilIface) (wr := wi) (s' := (toI m1, bv)) ⟨rfl, A2, (a7.set 0 _).set 1 _⟩ .none x1 ((h7.less fun b hb => by simp [hb]).trans x2) (by simp))
                clear hx6 he6 ht6 hc6 hh6 hB6 hEB6 h6 b7 c7 h7 e7 hE6 hs7 a3 a7 k8 x1 x2 HEND HE5 HW5 HX5
                go_wp2
                go_ret
                unfold treeBody
                rw [HXE.out]
                simp only [if_true, HBV.out]
                exact HF.out
              · have HF := Lib.hid (body_finC (A := sumsAux W ps) (X := X) (Q := [ps]) (wr := wi) (s' := s) ⟨rfl, A2, a7⟩ e7 c7 (h7.less fun b hb => by simp [hb]) hE6)
                obtain ⟨t7, x7, rfl⟩ := e7.iface h0
                clear hx6 he6 ht6 hc6 hh6 hB6 hEB6 h6 b7 c7 h7 e7 hE6 hs7 a3 a7 HEND HE5 HW5 HX5
                go_wp2
                go_ret
                unfold treeBody
                rw [HXE.out]
                simp only [if_neg h0]
                exact HF.out
          · have HE5 := Lib.hid he5
            have HX5 := Lib.hid (show exec (bodyC adds abort clock cells) c = exec ((tEnd t5 n5).bind fun f => .ret (f.1, fun s => if f.1 = 0 then (toI m1, toI m5) else s)) c5 by rw [HX4.out, exec_bind, hx5]; simp only [cEnd, h5, false_and, if_false])
            obtain ⟨tt, xx, rfl⟩ := he5.iface h5
            clear hx5 HX4 hw5 hs5 ht5 hc5 hh5 hB5 hEB5 he5 HSUM HW q2 q3 q4 hbv h5
            have HEND := Lib.hid (xend_ok (R := px :: ps :: X) HW5.out.ctx HG.out HW5.out.tx HW5.out.apart HW5.out.tn (by simp) HE5.out HW5.out.apE)
            go_wp2_with fail
            refine HEND.out.mono ?_
            rintro e w6 ⟨n6, ⟨rs, t6⟩, c6, v6, E6, B6, hx6, -, rfl, he6, ht6, hc6, hh6, hB6, hEB6⟩
            have h6 : HeldBy (ps :: X) wi w6 := HW5.out.held.trans (hh6.less fun b hb => by simp [hb])
            have b7 := (Below.refl w6.heap.size w6).alloc (Nat.le_refl _) (.cells #[.int .i64 rs.fin, .int .i64 rs.stamp, .bool rs.wrote, .bool rs.waits] 73)
            obtain ⟨w7, hw7⟩ : ∃ w7, w6.alloc (.cells #[.int .i64 rs.fin, .int .i64 rs.stamp, .bool rs.wrote, .bool rs.waits] 73) = w7 := ⟨_, rfl⟩
            rw [hw7] at b7
            have c7 : Ctx W (E6 ++ ([ps] ++ X)) pa pb pc c6 w7 := (hc6.under b7).less (fun b hb => by
              simp only [List.mem_append, List.mem_cons, List.not_mem_nil, or_false] at hb ⊢
              rcases hb with q | q | q <;> simp [q])
            have h7 : HeldBy (ps :: X) wi w7 := h6.trans (HeldBy.of_below b7 (fun b hb => hc6.heldR b (by
              simp only [List.mem_append, List.mem_cons] at hb ⊢
              rcases hb with q | q <;> simp [q])))
            have e7 : Err w7 v6 n6 E6 := he6.heldBy (HeldBy.of_below b7 he6.lt) (fun _ h => h)
            have hE6 : ∀ b ∈ E6, wi.heap.size ≤ b := fun b hb => by
              rcases hB6 b (by simp [hb]) with q | q
              · rcases List.mem_append.1 q with q | q
                · exact HW5.out.newE b q
                · exact (HW5.out.newB b q).1
              · exact Nat.le_trans HW5.out.held.1 q
            have HXE := Lib.hid (HX5.out.trans (show _ = ((n6, fun s => if n6 = 0 then (toI m1, toI m5) else s), c6) by simp only [exec_bind, hx6, exec]))
            have hs7 := HS.out.heldBy h7 (fun b hb => List.mem_cons_of_mem _ (HSH.out b hb))
            have q7 := hs7.out.cell 0
            simp only [List.getElem?_cons_zero] at q7
            obtain ⟨-, A2, a3⟩ := HA.out
            have a7 := a3.heldBy h7 (by simp)
            have r0 := a7.cell 0
            have r1 := a7.cell 1
            have f0 := a7.free 0
            have f1 := a7.free 1
            simp only [List.getElem?_cons_zero, List.getElem?_cons_succ] at r0 r1
            by_cases h0 : n6 = 0
            · subst h0
              obtain ⟨rfl, rfl⟩ := e7.isNil rfl
              have k8 : Kept (fun b => b = ps) w7 ((w7.setCell ⟨ps, 0, none⟩ (.int .i64 (toI m1))).setCell ⟨ps, 1, none⟩ (.int .i64 bv)) := ((Kept.refl (fun b => b = ps) w7).setCell (p := ⟨ps, 0, none⟩) (fun _ => rfl) _).setCell (p := ⟨ps, 1, none⟩) (fun _ => rfl) _
              obtain ⟨x1, x2⟩ := Ctx.objs (B := [ps]) (B' := [ps]) (R := X) (c7.less fun b hb => List.mem_append_right _ hb) (k8.mono fun b _ e => by simp [e]) (by simpa using A2) (by intro b hb hm; exact HXQ.out b hm hb) (by intro b hb; exact ⟨.inl hb, Nat.lt_of_lt_of_le (c7.heldR b (List.mem_append_right _ (List.mem_append_left _ hb))) k8.size⟩)
              have HF := Lib.hid (body_finC (A := sumsAux W ps) (X := X) (Q := [ps]) (E := []) (n := 0) (v := .nilIface) (wr := wi) (s' := (toI m1, bv)) ⟨rfl, A2, (a7.set 0 _).set 1 _⟩ .none x1 ((h7.less fun b hb => by simp [hb]).trans x2) (by simp))
              clear hx6 he6 ht6 hc6 hh6 hB6 hEB6 h6 b7 c7 h7 e7 hE6 hs7 a3 a7 k8 x1 x2 HEND HE5 HW5 HX5
              go_wp2
              go_ret
              unfold treeBody
              rw [HXE.out]
              simp only [if_true, HBV.out]
              exact HF.out
            · have HF := Lib.hid (body_finC (A := sumsAux W ps) (X := X) (Q := [ps]) (wr := wi) (s' := s) ⟨rfl, A2, a7⟩ e7 c7 (h7.less fun b hb => by simp [hb]) hE6)
              obtain ⟨t7, x7, rfl⟩ := e7.iface h0
              clear hx6 he6 ht6 hc6 hh6 hB6 hEB6 h6 b7 c7 h7 e7 hE6 hs7 a3 a7 HEND HE5 HW5 HX5
              go_wp2
              go_ret
              unfold treeBody
              rw [HXE.out]
              simp only [if_neg h0]
              exact HF.out
      · rw [if_neg h0] at hxx
        obtain ⟨m5, hm5⟩ : ∃ m5 : Nat, 0 = m5 := ⟨_, rfl⟩
        have HX5 := Lib.hid (show exec (bodyC adds abort clock cells) c = exec ((tEnd t2 n2).bind fun f => .ret (f.1, fun s => if f.1 = 0 then (toI m1, toI m5) else s)) c3 by rw [HX1.out, exec_bind, hxx, ← hm5]; simp only [cMid, exec_bind, exec, cEnd, h0, false_and, if_false])
        obtain ⟨bv, hbv⟩ : ∃ bv : Int, 0 = bv := ⟨_, rfl⟩
        have HBV := Lib.hid (show toI m5 = bv by rw [← hm5, ← hbv]; rfl)
        have HE5 := Lib.hid he
        have HW5 := Lib.hid hw
        obtain ⟨tt, xx, rfl⟩ := he.iface h0
        clear hw hxx he hlg hsw HXX HE HX1 HW hm5 h0
        have HEND := Lib.hid (xend_ok (R := px :: ps :: X) HW5.out.ctx HG.out HW5.out.tx HW5.out.apart HW5.out.tn (by simp) HE5.out HW5.out.apE)
        go_wp2_with fail
        refine HEND.out.mono ?_
        rintro e w6 ⟨n6, ⟨rs, t6⟩, c6, v6, E6, B6, hx6, -, rfl, he6, ht6, hc6, hh6, hB6, hEB6⟩
        have h6 : HeldBy (ps :: X) wi w6 := HW5.out.held.trans (hh6.less fun b hb => by simp [hb])
        have b7 := (Below.refl w6.heap.size w6).alloc (Nat.le_refl _) (.cells #[.int .i64 rs.fin, .int .i64 rs.stamp, .bool rs.wrote, .bool rs.waits] 73)
        obtain ⟨w7, hw7⟩ : ∃ w7, w6.alloc (.cells #[.int .i64 rs.fin, .int .i64 rs.stamp, .bool rs.wrote, .bool rs.waits] 73) = w7 := ⟨_, rfl⟩
        rw [hw7] at b7
        have c7 : Ctx W (E6 ++ ([ps] ++ X)) pa pb pc c6 w7 := (hc6.under b7).less (fun b hb => by
          simp only [List.mem_append, List.mem_cons, List.not_mem_nil, or_false] at hb ⊢
          rcases hb with q | q | q <;> simp [q])
        have h7 : HeldBy (ps :: X) wi w7 := h6.trans (HeldBy.of_below b7 (fun b hb => hc6.heldR b (by
          simp only [List.mem_append, List.mem_cons] at hb ⊢
          rcases hb with q | q <;> simp [q])))
        have e7 : Err w7 v6 n6 E6 := he6.heldBy (HeldBy.of_below b7 he6.lt) (fun _ h => h)
        have hE6 : ∀ b ∈ E6, wi.heap.size ≤ b := fun b hb => by
          rcases hB6 b (by simp [hb]) with q | q
          · rcases List.mem_append.1 q with q | q
            · exact HW5.out.newE b q
            · exact (HW5.out.newB b q).1
          · exact Nat.le_trans HW5.out.held.1 q
        have HXE := Lib.hid (HX5.out.trans (show _ = ((n6, fun s => if n6 = 0 then (toI m1, toI m5) else s), c6) by simp only [exec_bind, hx6, exec]))
        have hs7 := HS.out.heldBy h7 (fun b hb => List.mem_cons_of_mem _ (HSH.out b hb))
        have q7 := hs7.out.cell 0
        simp only [List.getElem?_cons_zero] at q7
        obtain ⟨-, A2, a3⟩ := HA.out
        have a7 := a3.heldBy h7 (by simp)
        have r0 := a7.cell 0
        have r1 := a7.cell 1
        have f0 := a7.free 0
        have f1 := a7.free 1
        simp only [List.getElem?_cons_zero, List.getElem?_cons_succ] at r0 r1
        by_cases h0 : n6 = 0
        · subst h0
          obtain ⟨rfl, rfl⟩ := e7.isNil rfl
          have k8 : Kept (fun b => b = ps) w7 ((w7.setCell ⟨ps, 0, none⟩ (.int .i64 (toI m1))).setCell ⟨ps, 1, none⟩ (.int .i64 bv)) := ((Kept.refl (fun b => b = ps) w7).setCell (p := ⟨ps, 0, none⟩) (fun _ => rfl) _).setCell (p := ⟨ps, 1, none⟩) (fun _ => rfl) _
          obtain ⟨x1, x2⟩ := Ctx.objs (B := [ps]) (B' := [ps]) (R := X) (c7.less fun b hb => List.mem_append_right _ hb) (k8.mono fun b _ e => by simp [e]) (by simpa using A2) (by intro b hb hm; exact HXQ.out b hm hb) (by intro b hb; exact ⟨.inl hb, Nat.lt_of_lt_of_le (c7.heldR b (List.mem_append_right _ (List.mem_append_left _ hb))) k8.size⟩)
          have HF := Lib.hid (body_finC (A := sumsAux W ps) (X := X) (Q := [ps]) (E := []) (n := 0) (v := .nilIface) (wr := wi) (s' := (toI m1, bv)) ⟨rfl, A2, (a7.set 0 _).set 1 _⟩ .none x1 ((h7.less fun b hb => by simp [hb]).trans x2) (by simp))
          clear hx6 he6 ht6 hc6 hh6 hB6 hEB6 h6 b7 c7 h7 e7 hE6 hs7 a3 a7 k8 x1 x2 HEND HE5 HW5 HX5
          go_wp2
          go_ret
          unfold treeBody
          rw [HXE.out]
          simp only [if_true, HBV.out]
          exact HF.out
        · have HF := Lib.hid (body_finC (A := sumsAux W ps) (X := X) (Q := [ps]) (wr := wi) (s' := s) ⟨rfl, A2, a7⟩ e7 c7 (h7.less fun b hb => by simp [hb]) hE6)
          obtain ⟨t7, x7, rfl⟩ := e7.iface h0
          clear hx6 he6 ht6 hc6 hh6 hB6 hEB6 h6 b7 c7 h7 e7 hE6 hs7 a3 a7 HEND HE5 HW5 HX5
          go_wp2
          go_ret
          unfold treeBody
          rw [HXE.out]
          simp only [if_neg h0]
          exact HF.out
  · have HXE := Lib.hid (show exec (bodyC adds abort clock cells) c = ((n0, id), c1) by simp only [bodyC, exec_bind, hx, if_neg h0, exec])
    obtain ⟨-, A2, a3⟩ := HA.out
    have HF := Lib.hid (body_finC (A := sumsAux W ps) (X := X) (Q := [ps]) (wr := wi) (s' := s) ⟨rfl, A2, a3.heldBy hh (by simp)⟩ he (by simpa using hc) (hh.less fun b hb => by simp [hb]) hE)
    obtain ⟨tt, xx, rfl⟩ := he.iface h0
    clear hx hh he hc hE h0 HBEG a3
    go_wp2
    go_ret
    unfold treeBody
    rw [HXE.out]
    exact HF.out
theorem bodyC_body {W : World} {pa pb bc bl ba bb bs ps g n gcap clock : Nat} {lp : Option Addr} {lcap : Nat} {Qo : List Nat} {adds : List (Int × Int)} {abort : Bool} {cells : List Nat} (hg : Handle W) (hn : cells.length = n) (hn1 : 1 ≤ n) (hn4 : n ≤ 100) (hclock : clock < 18446744073709551616) (hcells : ∀ x ∈ cells, x < 18446744073709551616) :
    BodyOk W pa pb 22 #[.pointer (some ⟨bc, 0, none⟩), .pointer (some ⟨bl, 0, none⟩), .pointer (some ⟨ba, 0, none⟩), .pointer (some ⟨bb, 0, none⟩), .pointer (some ⟨bs, 0, none⟩)] (sumsAux W ps) (treeBody fun _ => bodyC adds abort clock cells) (shC bc bl ba bb bs g Qo) (SharedC W bc bl ba bb bs ps g n gcap (.slice lp adds.length lcap) Qo adds abort clock cells) where
  enters := ef_bodyC
  keeps _ _ k h := h.heldBy k fun _ hb => hb
  does s X Q wr pc c round hP hSh ha h hx _ := by
    obtain ⟨rfl, h2⟩ := id ha
    exact bodyC1_ok hg hn hn1 hn4 hclock hcells hP hSh ha (h.less fun b hb => by simp only [List.mem_append, List.mem_cons, List.not_mem_nil, or_false] at hb ⊢; rcases hb with q | q <;> simp [q]) hx
end Go.Proofs.YtdipidiahekpkaaGreatDoor
