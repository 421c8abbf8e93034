/- TqMore: TqAll, TqMore. -/
import Derived.Test.YtkpdacfiglpgeaaGreatDoorTqUse2
import Derived.Test.YtkpdacfiglpgeaaGreatDoorAlone16

/- Layer 29 (tqueue): All. -/
namespace Go.Proofs.YtkpdacfiglpgeaaGreatDoor
open Go.RowKit Bl Th
set_option maxRecDepth 10000

/-- What a call leaves that tells words in a new slice. -/
def AllPost (W : World) (R : List Nat) (pa pb pc pt : Nat) (B : List Nat) (w : World) (p : Tree (Nat × (List Nat × Tx))) (c : CS) (e : Ending) (w' : World) : Prop :=
  ∃ m l t' c' lv v E B', exec p c = ((m, (l, t')), c') ∧ e = .returned (.tuple #[lv, v]) ∧ Err w' v m E ∧ w'.ownsRow w.heap.size 25 1 lv l.length (encU l) ∧ TxAt W pt t' B' w' ∧ Ctx W (E ++ (B' ++ (lv.ownBlock.toList ++ R))) pa pb pc c' w' ∧ HeldBy R w w' ∧ (∀ b ∈ E ++ B', b ∈ B ∨ w.heap.size ≤ b) ∧ (∀ b ∈ E, b ∉ B') ∧ (∀ b ∈ E ++ B', b ∉ lv.ownBlock.toList) ∧ l.length ≤ 1000 ∧ ∀ x ∈ l, x < 18446744073709551616
section
variable {W : World} {R B : List Nat} {pa pb pc pt px pu g n cap : Nat} {r : Ring} {t : Tx} {c : CS} {w : World}
/-- Without a slice. -/
theorem AllPost.bare {p : Tree (Nat × (List Nat × Tx))} {q : Tree (Nat × (List Nat × Tx))} {v : Value} {w' : World} {c1 : CS} (h : TxPost W R pa pb pc pt B w q c1 (fun x : List Nat × Tx => x.1 = []) Prod.snd (fun (_ : List Nat × Tx) v => .tuple #[.slice none 0 0, v]) (.returned (.tuple #[.slice none 0 0, v])) w') (hx : exec p c = exec q c1) : AllPost W R pa pb pc pt B w p c (.returned (.tuple #[.slice none 0 0, v])) w' := by
  obtain ⟨m, ⟨l, t'⟩, c', v', E, B', h1, rfl, h3, h4, h5, h6, h7, h8, h9⟩ := h
  simp only [Ending.returned.injEq, Value.tuple.injEq, Array.mk.injEq, List.cons.injEq, and_true, true_and] at h3
  subst h3
  exact ⟨m, [], t', c', .slice none 0 0, v, E, B', hx.trans h1, rfl, h4, World.ownsRow_nil _ _ _ _, h5, h6.less (fun b hb => by simpa [Value.ownBlock] using hb), h7, h8, h9, by simp [Value.ownBlock], by simp, by simp⟩
/-- A queue's call with more blocks that are held. -/
theorem QIn.held (h : QIn W R B pa pb pc pt px pu g n cap r t c w) {Q : List Nat} (hc : Ctx W (B ++ (Q ++ R)) pa pb pc c w) (hQ : ∀ b ∈ B, b ∉ Q) : QIn W (Q ++ R) B pa pb pc pt px pu g n cap r t c w :=
  ⟨hc, h.tx, fun b hb hm => by
    rcases List.mem_append.1 hm with q | q
    · exact hQ b hb q
    · exact h.apart b hb q, h.tn, by simp [h.inX], h.use, by simp [h.inU], by simp [h.inG], h.ok, h.hand⟩
/-- What holds at each place's head. -/
def AllJ (W : World) (R B0 : List Nat) (pa pb pc pt px pu g n cap : Nat) (r : Ring) (w0 : World) (hi : Nat) (P : Tree (Nat × (List Nat × Tx))) (c0 : CS) (lv nv : Value) (wr : World) : Prop :=
  ∃ (k m len : Nat) (l : List Nat) (t : Tx) (c : CS) (B : List Nat), nv = .int .u64 (m : Int) ∧ m < 18446744073709551616 ∧ subU hi m = k ∧ l.length = len ∧ len + k ≤ 1000 ∧ QIn W (lv.ownBlock.toList ++ R) B pa pb pc pt px pu g n cap r t c wr ∧ HeldBy R w0 wr ∧ (∀ b ∈ B, b ∈ B0 ∨ w0.heap.size ≤ b) ∧ wr.ownsRow w0.heap.size 25 1 lv len (encU l) ∧ (∀ x ∈ l, x < 18446744073709551616) ∧ exec P c0 = exec (qReads r k m l t) c
theorem subU_inc {a b : Nat} (ha : a < 18446744073709551616) {k : Nat} (h : subU a b = k + 1) : subU a (inc b) = k := by
  unfold subU inc at *
  omega
theorem subU_self {a b : Nat} (ha : a < 18446744073709551616) (hb : b < 18446744073709551616) : subU a b = 0 ↔ a = b := by
  unfold subU
  omega
set_option maxHeartbeats 8000000 in
theorem qall_ok (h : QIn W R B pa pb pc pt px pu g n cap r t c w) (h99 : (exec (qAll r t) c).1.1 ≠ 99) :
    Calls Tryz.prog 93 #[.pointer (some ⟨pu, 0, none⟩)] w (AllPost W R pa pb pc pt B w (qAll r t) c) := by
  obtain ⟨i0, hi0, hz0, hz1, hz2⟩ := info_parts u64info
  have HS := Lib.hid (qstate_ok h)
  have HM := Lib.hid h.mid
  have H99 := Lib.hid h99
  have HWI := Lib.hid h.ctx.below.size
  have HRL := Lib.hid h.loR
  clear h h99
  go_enter Tryz.func93, Tryz.ntmps93
  go_wp2_with fail
  refine HS.out.mono ?_
  rintro e w1 ⟨n1, ⟨⟨a, b⟩, t1⟩, c1, v1, E1, B1, hx1, ⟨ha, hb⟩, rfl, he1, ht1, hc1, hh1, hB1, hEB1⟩
  by_cases h0 : n1 = 0
  · subst h0
    obtain ⟨rfl, rfl⟩ := he1.isNil rfl
    have hm := HM.out.next ht1 hc1 hh1 hB1
    have hfew : subU a b ≤ 1000 := by
      have h9 := H99.out
      simp only [qAll, exec_bind, hx1, if_true] at h9
      split at h9
      · exact absurd rfl h9
      · omega
    have HXX := Lib.hid (show exec (qAll r t) c = exec (qReads r (subU a b) b [] t1) c1 by simp only [qAll, exec_bind, hx1, if_true]; rw [if_neg (by omega)])
    have HJ := Lib.hid (show AllJ W R B pa pb pc pt px pu g n cap r w a (qAll r t) c (.slice none 0 0) (.int .u64 (b : Int)) w1 from ⟨_, b, 0, [], t1, c1, B1, rfl, hb, rfl, rfl, by simpa using hfew, by simpa [Value.ownBlock] using hm.q, hm.held, hm.old, World.ownsRow_nil _ _ _ _, by simp, HXX.out⟩)
    have HA := Lib.hid ha
    clear hx1 he1 ht1 hc1 hh1 hB1 hEB1 ha hb hm hfew
    go_wp2
    go_loopw [7, 8] (AllJ W R B pa pb pc pt px pu g n cap r w a (qAll r t) c) (fun _ i _ => subU a (intOf i).toNat)
    case atStart => exact HJ.out
    case round =>
      clear HJ
      obtain ⟨k, m, len, l, t2, c2, B2, rfl, hmf, hk, hlen, hlk, hq, hh, hB, hr, hfl, hxx⟩ := hrel
      obtain ⟨p, lcap, rfl⟩ := ownsRow_shape hr
      cases k with
      | zero =>
        obtain rfl : a = m := (subU_self HA.out hmf).1 hk
        have g5 : ((a : Int) != (a : Int)) = false := by simp
        have HF := Lib.hid (show AllPost W R pa pb pc pt B w (qAll r t) c (.returned (.tuple #[.slice p len lcap, .nilIface])) wr from ⟨0, l, t2, c2, _, _, [], B2, by rw [hxx]; rfl, rfl, .none, by rw [hlen]; exact hr, hq.tx, hq.ctx, hh, fun b hb => hB b (by simpa using hb), by simp, fun b hb hm => hq.apart b (by simpa using hb) (by simp [hm]), by omega, hfl⟩)
        clear hmf hk hlk hq hh hB hr hfl hxx HXX hlen
        go_wp2
        go_ret2
        exact HF.out
      | succ k =>
        have hne : a ≠ m := fun e => by have := (subU_self HA.out hmf).2 e; omega
        have g5 : ((m : Int) != (a : Int)) = true := by simp; omega
        obtain ⟨pl, hpl⟩ : ∃ pl, plc r m = pl := ⟨_, rfl⟩
        have hplt : pl < 18446744073709551616 := by
          obtain ⟨y, -, e1, e2⟩ := hq.ok.plc m
          rw [← hpl, e1]; exact e2
        obtain ⟨p0, p1, p2, p3, -⟩ := four hq.use.main
        have hmd := (hq.mid.drew 1).under (below_drewN (Below.refl _ _) 1)
        have HP := Lib.hid (qplace_ok (hq.mid.drew 1).q.use hq.ok m)
        rw [hpl] at HP
        have HR := Lib.hid (hmd.read hplt)
        have HMD := Lib.hid hmd
        have kd : (wr.drewN 1).drew.cell? ⟨pu, 0, none⟩ = some (.pointer (some ⟨px, 0, none⟩)) := p0
        have HK := Lib.hid (subU_inc HA.out hk); have HH := Lib.hid hh; have HB := Lib.hid hB; have HR0 := Lib.hid hr; have HFL := Lib.hid hfl; have HX2 := Lib.hid hxx; have HPL := Lib.hid hpl; have HLK := Lib.hid hlk; have HMF := Lib.hid hmf; have HKK := Lib.hid hk
        have HLEN := Lib.hid hlen
        clear hmf hk hq hh hB hr hfl hxx hpl hmd hplt hne hlen
        go_wp2
        go_region_held3 (fun w' => w'.cell? ⟨pu, 0, none⟩ = some (.pointer (some ⟨px, 0, none⟩)))
          (first | with_reducible exact p0 | with_reducible exact k0 | exact kd | go_keep)
          (first
            | (go_at_call 115; refine HR.out.mono ?_; rintro e w3 ⟨n3, ⟨x3, t3⟩, c3, v3, E3, B3, hx3, hG3, rfl, he3, ht3, hc3, hh3, hB3, hEB3⟩; obtain ⟨k0, k1, k2, k3, -⟩ := four (HMD.out.q.use.heldBy hh3 HMD.out.q.inU HMD.out.q.inG).main; have HX3 := Lib.hid hx3; have HG3 := Lib.hid hG3; have HE3 := Lib.hid he3; have HT3 := Lib.hid ht3; have HC3 := Lib.hid hc3; have HH3 := Lib.hid hh3; have HB3 := Lib.hid hB3; have HEB3 := Lib.hid hEB3; clear hx3 hG3 he3 ht3 hc3 hh3 hB3 hEB3)
            | (go_at_call 132; refine HP.out.mono ?_; rintro e w' ⟨rfl, rfl⟩))
        have hd3 : wr.heap.size ≤ w3.heap.size := HH3.out.1
        by_cases h3 : n3 = 0
        · subst h3
          obtain ⟨rfl, rfl⟩ := HE3.out.isNil rfl
          have hq3 := HMD.out.q.next HT3.out HC3.out HH3.out HB3.out
          have HQ3 := Lib.hid hq3
          have HR3 := Lib.hid (ownsRow_heldBy HR0.out ((HMD.out.held).trans HH3.out) (fun b hb => by simp [hb]))
          have HHR := Lib.hid (HH.out.trans ((HMD.out.held.trans HH3.out).less fun b hb => by simp [hb]))
          have HS3 := Lib.hid (show w.heap.size ≤ (w3.alloc (.cells #[.int .u64 (x3 : Int)] 25)).heap.size by have := HH.out.1; simp; omega)
          have HXN := Lib.hid (show exec (qAll r t) c = exec (qReads r k (inc m) (l ++ [x3]) t3) c3 by rw [HX2.out]; simp only [qReads, exec_bind, HPL.out, HX3.out, if_true])
          have HB4 := Lib.hid (show ∀ b ∈ B3, b ∈ B ∨ w.heap.size ≤ b from fun b hb => by
            rcases HB3.out b (by simpa using hb) with q | q
            · exact HB.out b q
            · have q' : wr.heap.size ≤ b := q
              exact .inr (Nat.le_trans HH.out.1 q'))
          have g9 := wrap_incU m
          clear hq3 hd3 p0 p1 p2 p3 kd
          go_wp2_with (first
            | (at_builtin; refine wpList_append_own_at _ rfl _ _ 26 rfl w.heap.size 25 i0 (.int .u64 0) 1 8 Tryz.underlying26 hi0 hz0 hz1 hz2 rfl (by omega) (.slice p len lcap) len (encU l) rfl (HR3.out.alloc _) ⟨w3.heap.size, 0, none⟩ 1 1 [.int .u64 (x3 : Int)] rfl rfl (newsU (Cells.new w3 [.int .u64 (x3 : Int)] 25)) (by intro u hu; simp at hu; subst hu; rfl) (by unfold maxLen; omega) (by omega) HS3.out ?_; intro v2 w5 hown5 hgrow5 hnil5 hat5)
            | go_in)
          have kk : Kept (fun b => b ∈ (Value.slice p len lcap).ownBlock.toList) w3 w5 := ((Kept.refl _ w3).alloc (.cells #[.int .u64 (x3 : Int)] 25)).then (Kept.of_grown hgrow5) (fun i _ e => by simp [← e])
          have hlo : ∀ b ∈ (Value.slice p len lcap).ownBlock.toList, w.heap.size ≤ b := fun b hb => (HR3.out.lt b (by simpa using hb)).1
          obtain ⟨e1, e2⟩ := Ctx.objs (B := (Value.slice p len lcap).ownBlock.toList) (B' := v2.ownBlock.toList) (R := B3 ++ R) (HQ3.out.ctx.less fun b hb => by
            simp only [List.mem_append] at hb ⊢
            rcases hb with q | q | q <;> simp [q]) kk (fun b hb => Nat.le_trans HWI.out (hlo b hb)) (fun b hb hm => by
            rcases List.mem_append.1 hm with q | q
            · exact HQ3.out.apart b q (by simp [hb])
            · have := hlo b hb
              have := HRL.out b q
              omega) (fun b hb => by
            refine ⟨?_, (hown5.lt b (by simpa using hb)).2⟩
            rcases hat5 with q | q
            · exact .inl (by rw [← q]; exact hb)
            · right
              rw [q] at hb
              simp at hb
              omega)
          have hv2 : ∀ b ∈ v2.ownBlock.toList, b ∈ (Value.slice p len lcap).ownBlock.toList ∨ w3.heap.size ≤ b := fun b hb => by
            rcases hat5 with q | q
            · exact .inl (by rw [← q]; exact hb)
            · right
              rw [q] at hb
              simp at hb
              omega
          have hq5 : QIn W (v2.ownBlock.toList ++ R) B3 pa pb pc pt px pu g n cap r t3 c3 w5 :=
            ⟨e1.less fun b hb => by
              simp only [List.mem_append] at hb ⊢
              rcases hb with q | q | q <;> simp [q], HQ3.out.tx.heldBy e2 (fun b hb => by simp [hb]), fun b hb hm => by
              rcases List.mem_append.1 hm with q | q
              · rcases hv2 b q with z | z
                · exact HQ3.out.apart b hb (by simp [z])
                · have := HQ3.out.ctx.heldR b (by simp [hb])
                  omega
              · exact HQ3.out.apart b hb (by simp [q]), HQ3.out.tn.heldBy e2 (by have := HM.out.q.inX; simp [this]), by have := HM.out.q.inX; simp [this], HQ3.out.use.heldBy e2 (by have := HM.out.q.inU; simp [this]) (by have := HM.out.q.inG; simp [this]), by have := HM.out.q.inU; simp [this], by have := HM.out.q.inG; simp [this], HQ3.out.ok, HQ3.out.hand⟩
          have HREL := Lib.hid (show AllJ W R B pa pb pc pt px pu g n cap r w a (qAll r t) c v2 (.int .u64 ((inc m : Nat) : Int)) w5 from ⟨k, inc m, len + 1, l ++ [x3], t3, c3, B3, rfl, inc_lt m, HK.out, by simp [HLEN.out], by have := HLK.out; omega, hq5, HHR.out.trans (e2.less fun b hb => by simp [hb]), HB4.out, by simpa [encU] using hown5, fun y hy => by
            rcases List.mem_append.1 hy with q | q
            · exact HFL.out y q
            · simp at q
              subst q
              exact HG3.out, HXN.out⟩)
          clear kk hlo e1 e2 hv2 hq5 hown5 hgrow5 hnil5 hat5
          go_wp2
          go_roundw
          case rel => exact HREL.out
          case measure => simp [intOf]; have := HK.out; have := HKK.out; omega
        · have HF := Lib.hid (show AllPost W R pa pb pc pt B w (qAll r t) c (.returned (.tuple #[.slice none 0 0, v3])) w3 from ⟨n3, [], t3, c3, .slice none 0 0, v3, E3, B3, by rw [HX2.out]; simp only [qReads, exec_bind, HPL.out, HX3.out, if_neg h3, exec], rfl, HE3.out, World.ownsRow_nil _ _ _ _, HT3.out, HC3.out.less (fun b hb => by
            simp only [Value.ownBlock, Option.toList_none, List.nil_append, List.mem_append] at hb ⊢
            rcases hb with q | q | q <;> simp [q]), HH.out.trans ((HMD.out.held.trans HH3.out).less fun b hb => by simp [hb]), fun b hb => by
            rcases HB3.out b hb with q | q
            · exact HB.out b q
            · have q' : wr.heap.size ≤ b := q
              exact .inr (Nat.le_trans HH.out.1 q'), HEB3.out, by simp [Value.ownBlock], by simp, by simp⟩)
          obtain ⟨tt, xx, rfl⟩ := HE3.out.iface h3
          clear h3 hd3
          go_wp2
          go_ret2
          exact HF.out
  · have HF := Lib.hid (AllPost.bare (HM.out.fin (p := .ret (n1, ([], t1))) (c0 := c1) (mk := fun (_ : List Nat × Tx) v => .tuple #[.slice none 0 0, v]) (G := fun x : List Nat × Tx => x.1 = []) (tx := Prod.snd) (x := ([], t1)) rfl rfl he1 ht1 hc1 hh1 hB1 hEB1) (show exec (qAll r t) c = exec (.ret (n1, ([], t1))) c1 by simp only [qAll, exec_bind, hx1, if_neg h0, exec]))
    obtain ⟨tt, xx, rfl⟩ := he1.iface h0
    clear hx1 he1 ht1 hc1 hh1 hB1 hEB1 ha hb h0
    go_wp2
    go_ret2
    exact HF.out
end
end Go.Proofs.YtkpdacfiglpgeaaGreatDoor

/- Layer 29 (tqueue): Drain, Move. -/
namespace Go.Proofs.YtkpdacfiglpgeaaGreatDoor
open Go.RowKit Bl Th
set_option maxRecDepth 10000

section
variable {W : World} {R B : List Nat} {pa pb pc pt px pu g n cap : Nat} {r : Ring} {t : Tx} {c : CS} {w : World}
theorem qReads_log (r : Ring) : ∀ (k m : Nat) (l : List Nat) (t : Tx) (c : CS), (exec (qReads r k m l t) c).1.2.2.sets.log = t.sets.log ∧ (exec (qReads r k m l t) c).1.2.2.sets.marks = t.sets.marks
  | 0, _, _, _, _ => ⟨rfl, rfl⟩
  | k + 1, m, l, t, c => by
    have h1 := tRead_same t (plc r m) c
    unfold qReads
    simp only [exec_bind]
    split
    · have h2 := qReads_log r k (inc m) (l ++ [(exec (tRead t (plc r m)) c).1.2.1]) (exec (tRead t (plc r m)) c).1.2.2 (exec (tRead t (plc r m)) c).2
      exact ⟨h2.1.trans h1.1, h2.2.trans h1.2⟩
    · exact h1
theorem qAll_log (r : Ring) (t : Tx) (c : CS) : (exec (qAll r t) c).1.2.2.sets.log = t.sets.log ∧ (exec (qAll r t) c).1.2.2.sets.marks = t.sets.marks := by
  have h1 := qState_log r t c
  unfold qAll
  simp only [exec_bind]
  split
  · split
    · exact h1
    · have h2 := qReads_log r (subU (exec (qState r t) c).1.2.1.1 (exec (qState r t) c).1.2.1.2) (exec (qState r t) c).1.2.1.2 [] (exec (qState r t) c).1.2.2 (exec (qState r t) c).2
      exact ⟨h2.1.trans h1.1, h2.2.trans h1.2⟩
  · exact h1
/-- A slice goes with what a call leaves behind it. -/
theorem AllPost.of {Q : List Nat} {lv : Value} {m : Nat} {l : List Nat} {t' : Tx} {c' : CS} {v : Value} {E B0 B' : List Nat} {w0 w' : World} {p : Tree (Nat × (List Nat × Tx))} {c0 : CS} (hx : exec p c0 = ((m, (l, t')), c')) (he : Err w' v m E) (hr : w.ownsRow w0.heap.size 25 1 lv l.length (encU l)) (hQ : Q = lv.ownBlock.toList) (ht : TxAt W pt t' B' w') (hc : Ctx W (E ++ (B' ++ (Q ++ R))) pa pb pc c' w') (hh0 : HeldBy R w0 w) (hh : HeldBy (Q ++ R) w w') (hB : ∀ b ∈ E ++ B', b ∈ B ∨ w.heap.size ≤ b) (hB0 : ∀ b ∈ B, b ∈ B0 ∨ w0.heap.size ≤ b) (hEB : ∀ b ∈ E, b ∉ B') (hBQ : ∀ b ∈ B, b ∉ Q) (hl : l.length ≤ 1000) (hf : ∀ x ∈ l, x < 18446744073709551616) : AllPost W R pa pb pc pt B0 w0 p c0 (.returned (.tuple #[lv, v])) w' := by
  subst hQ
  refine ⟨m, l, t', c', lv, v, E, B', hx, rfl, he, ownsRow_heldBy hr hh (fun b hb => by simp [hb]), ht, hc, hh0.trans (hh.less fun b hb => by simp [hb]), fun b hb => ?_, hEB, fun b hb hm => ?_, hl, hf⟩
  · rcases hB b hb with q | q
    · exact hB0 b q
    · exact .inr (Nat.le_trans hh0.1 q)
  · rcases hB b hb with q | q
    · exact hBQ b q hm
    · have := (hr.lt b (by simpa using hm)).2
      omega
set_option maxHeartbeats 4000000 in
theorem qdrain_ok (h : QIn W R B pa pb pc pt px pu g n cap r t c w) (h99 : (exec (qDrain r t) c).1.1 ≠ 99) (hlog : t.sets.log.length < 900000000) :
    Calls Tryz.prog 94 #[.pointer (some ⟨pu, 0, none⟩)] w (AllPost W R pa pb pc pt B w (qDrain r t) c) := by
  have h99' : (exec (qAll r t) c).1.1 ≠ 99 := fun e => by
    refine h99 ?_
    simp only [qDrain, exec_bind]
    rw [if_neg (by omega)]
    exact e
  have HS := Lib.hid (qall_ok h h99')
  have HM := Lib.hid h.mid
  have HLG := Lib.hid hlog
  clear h h99 h99' hlog
  go_enter Tryz.func94, Tryz.ntmps94
  go_wp2_with fail
  refine HS.out.mono ?_
  rintro e w1 ⟨n1, l, t1, c1, lv, v1, E1, B1, hx1, rfl, he1, hr1, ht1, hc1, hh1, hB1, hEB1, hBl, hl1, hf1⟩
  obtain ⟨p, lcap, rfl⟩ := ownsRow_shape hr1
  have HX1 := Lib.hid hx1
  have HL1 := Lib.hid (show t1.sets.log = t.sets.log ∧ t1.sets.marks = t.sets.marks from by
    have := qAll_log r t c
    rw [hx1] at this
    exact this)
  obtain ⟨len, hlen⟩ : ∃ len, l.length = len := ⟨_, rfl⟩
  by_cases h0 : n1 = 0
  · subst h0
    obtain ⟨rfl, rfl⟩ := he1.isNil rfl
    obtain ⟨Q, hQ⟩ : ∃ Q, Q = (Value.slice p len lcap).ownBlock.toList := ⟨_, rfl⟩
    rw [hlen, ← hQ] at hc1
    rw [hlen, ← hQ] at hBl
    rw [hlen] at hr1
    have hq1 : QIn W (Q ++ R) B1 pa pb pc pt px pu g n cap r t1 c1 w1 :=
      (HM.out.q.next (B' := B1) ht1 (hc1.less fun b hb => by
        simp only [List.nil_append, List.mem_append] at hb ⊢
        rcases hb with q | q <;> simp [q]) hh1 hB1).held hc1 (fun b hb => hBl b (by simpa using hb))
    have HQ1 := Lib.hid hq1
    have HS2 := Lib.hid (qstate_ok hq1)
    have HM1 := Lib.hid hq1.mid
    have HR1 := Lib.hid hr1; have HQQ := Lib.hid hQ; have HH1 := Lib.hid hh1; have HB1 := Lib.hid (show ∀ b ∈ B1, b ∈ B ∨ w.heap.size ≤ b from fun b hb => hB1 b (by simpa using hb)); have HBL := Lib.hid (show ∀ b ∈ B1, b ∉ Q from fun b hb => hBl b (by simpa using hb)); have HLL := Lib.hid hl1; have HFL := Lib.hid hf1; have HLEN := Lib.hid hlen
    rw [hlen]
    clear hx1 he1 hr1 ht1 hc1 hh1 hB1 hEB1 hBl hl1 hf1 hQ hq1 hlen
    go_wp2_with fail
    refine HS2.out.mono ?_
    rintro e w2 ⟨n2, ⟨⟨a, b⟩, t2⟩, c2, v2, E2, B2, hx2, ⟨ha, -⟩, rfl, he2, ht2, hc2, hh2, hB2, hEB2⟩
    have HX2 := Lib.hid hx2
    have HL2 := Lib.hid (show t2.sets.log = t1.sets.log ∧ t2.sets.marks = t1.sets.marks from logOf (f := Prod.snd) (qState_log r t1 c1) hx2)
    by_cases h2 : n2 = 0
    · subst h2
      obtain ⟨rfl, rfl⟩ := he2.isNil rfl
      have hm := HM1.out.next ht2 hc2 hh2 hB2
      obtain ⟨p0, p1, p2, p3, -⟩ := four hm.q.use.main
      have hmd := hm.drew 1
      have HW := Lib.hid (hmd.write (value := a) hmd.q.ok.outs ha (by rw [HL2.out.1, HL1.out.1]; have := HLG.out; omega))
      have HMD := Lib.hid hmd
      have HXX := Lib.hid (show exec (qDrain r t) c = (((tWrite t2 r.outs a).1, l, (tWrite t2 r.outs a).2), c2) by simp only [qDrain, exec_bind, HX1.out, HX2.out, if_true, exec])
      clear hx2 he2 ht2 hc2 hh2 hB2 hEB2 ha hm hmd
      go_wp2
      go_region_held3 (fun w' => w'.cell? ⟨pu, 0, none⟩ = some (.pointer (some ⟨px, 0, none⟩)) ∧ w'.cell? ⟨pu, 2, none⟩ = some (.int .u64 (r.outs : Int)))
        (first | with_reducible exact ⟨p0, p2⟩ | with_reducible exact ⟨m0, m2⟩ | go_keep)
        (first
          | (go_at_call 116; refine HW.out.mono ?_; rintro e w4 ⟨n4, t4, c4, v4, E4, B4, hx4, -, rfl, he4, ht4, hc4, hh4, hB4, hEB4⟩; obtain ⟨m0, m1, m2, m3, -⟩ := four (HMD.out.q.use.heldBy hh4 HMD.out.q.inU HMD.out.q.inG).main; have HF := Lib.hid (show AllPost W R pa pb pc pt B w (qDrain r t) c (.returned (.tuple #[.slice p len lcap, v4])) w4 from AllPost.of (B := B1) (l := l) (t' := t4) (c' := c4) (HXX.out.trans (by have h1 := congrArg Prod.fst hx4; have h2 := congrArg Prod.snd hx4; simp only [exec] at h1 h2; simp only [h1, h2])) he4 (by rw [HLEN.out]; exact HR1.out) HQQ.out ht4 hc4 HH1.out (HMD.out.held.trans hh4) (fun b hb => by
            rcases hB4 b hb with q | q
            · exact HMD.out.old b q
            · exact .inr (Nat.le_trans HMD.out.held.1 q)) HB1.out hEB4 HBL.out HLL.out HFL.out); clear hx4 he4 ht4 hc4 hh4 hB4 hEB4))
      all_goals
        go_wp2
        go_ret2
        exact HF.out
    · have HF := Lib.hid (show AllPost W R pa pb pc pt B w (qDrain r t) c (.returned (.tuple #[.slice none 0 0, v2])) w2 from ⟨n2, [], t2, c2, .slice none 0 0, v2, E2, B2, by simp only [qDrain, exec_bind, HX1.out, if_true, hx2, if_neg h2, exec], rfl, he2, World.ownsRow_nil _ _ _ _, ht2, hc2.less (fun b hb => by
        simp only [Value.ownBlock, Option.toList_none, List.nil_append, List.mem_append] at hb ⊢
        rcases hb with q | q | q <;> simp [q]), HH1.out.trans (hh2.less fun b hb => by simp [hb]), fun b hb => by
        rcases hB2 b hb with q | q
        · exact HB1.out b q
        · exact .inr (Nat.le_trans HH1.out.1 q), hEB2, by simp [Value.ownBlock], by simp, by simp⟩)
      obtain ⟨tt, xx, rfl⟩ := he2.iface h2
      clear hx2 he2 ht2 hc2 hh2 hB2 hEB2 ha h2 HX2 HL2
      go_wp2
      go_ret2
      exact HF.out
  · have HF := Lib.hid (show AllPost W R pa pb pc pt B w (qDrain r t) c (.returned (.tuple #[.slice none 0 0, v1])) w1 from ⟨n1, [], t1, c1, .slice none 0 0, v1, E1, B1, by simp only [qDrain, exec_bind, hx1, if_neg h0, exec], rfl, he1, World.ownsRow_nil _ _ _ _, ht1, hc1.less (fun b hb => by
      simp only [Value.ownBlock, Option.toList_none, List.nil_append, List.mem_append] at hb ⊢
      rcases hb with q | q | q <;> simp [q]), hh1, hB1, hEB1, by simp [Value.ownBlock], by simp, by simp⟩)
    obtain ⟨tt, xx, rfl⟩ := he1.iface h0
    rw [hlen]
    clear hx1 he1 hr1 ht1 hc1 hh1 hB1 hEB1 hBl hl1 hf1 h0 HX1 HL1 hlen
    go_wp2
    go_ret2
    exact HF.out
/-- The other queue. -/
structure QOther (R : List Nat) (px pu g n cap : Nat) (r : Ring) (w : World) : Prop where
  use : UseAt px pu g n cap r w
  inU : pu ∈ R
  inG : g ∈ R
  ok : RingOk r n
theorem QOther.heldBy {w' : World} (h : QOther R px pu g n cap r w) (k : HeldBy R w w') : QOther R px pu g n cap r w' := ⟨h.use.heldBy k h.inU h.inG, h.inU, h.inG, h.ok⟩
theorem QIn.swap {pu2 g2 n2 cap2 : Nat} {r2 : Ring} (h : QIn W R B pa pb pc pt px pu g n cap r t c w) (h2 : QOther R px pu2 g2 n2 cap2 r2 w) : QIn W R B pa pb pc pt px pu2 g2 n2 cap2 r2 t c w := ⟨h.ctx, h.tx, h.apart, h.tn, h.inX, h2.use, h2.inU, h2.inG, h2.ok, h.hand⟩
theorem QIn.other (h : QIn W R B pa pb pc pt px pu g n cap r t c w) : QOther R px pu g n cap r w := ⟨h.use, h.inU, h.inG, h.ok⟩
theorem qTake_log (r : Ring) (t : Tx) (c : CS) : (exec (qTake r t) c).1.2.2.sets.log.length ≤ t.sets.log.length + 1 ∧ (exec (qTake r t) c).1.2.2.sets.marks = t.sets.marks ∧ (t.sets.marks = [] → (exec (qTake r t) c).1.2.2.sets.log = t.sets.log) := by
  have h1 := qPeek_log r t c
  unfold qTake
  simp only [exec_bind]
  split
  · have h2 := qState_log r (exec (qPeek r t) c).1.2.2 (exec (qPeek r t) c).2
    simp only [exec_bind]
    split
    · simp only [exec]
      have h3 := tWrite_same (exec (qState r (exec (qPeek r t) c).1.2.2) (exec (qPeek r t) c).2).1.2.2 r.outs (inc (exec (qState r (exec (qPeek r t) c).1.2.2) (exec (qPeek r t) c).2).1.2.1.2)
      refine ⟨Nat.le_trans h3.2.1 (by rw [h2.1, h1.1]; exact Nat.le_refl _), by rw [h3.1, h2.2, h1.2], fun hm => by rw [h3.2.2 (by rw [h2.2, h1.2]; exact hm), h2.1, h1.1]⟩
    · simp only [exec]
      exact ⟨by rw [h2.1, h1.1]; omega, by rw [h2.2, h1.2], fun _ => by rw [h2.1, h1.1]⟩
  · simp only [exec]
    exact ⟨by rw [h1.1]; omega, by rw [h1.2], fun _ => by rw [h1.1]⟩
theorem TxPost.after {α : Type} {p q : Tree (Nat × α)} {c1 : CS} {G : α → Prop} {tx : α → Tx} {mk : α → Value → Value} {e : Ending} {w1 w' : World} {B1 : List Nat} (h : TxPost W R pa pb pc pt B1 w1 q c1 G tx mk e w') (hx : exec p c = exec q c1) (hh : HeldBy R w w1) (hB : ∀ b ∈ B1, b ∈ B ∨ w.heap.size ≤ b) : TxPost W R pa pb pc pt B w p c G tx mk e w' := by
  obtain ⟨m, x, c', v, E, B', h1, h2, h3, h4, h5, h6, h7, h8, h9⟩ := h
  refine ⟨m, x, c', v, E, B', hx.trans h1, h2, h3, h4, h5, h6, hh.trans h7, fun b hb => ?_, h9⟩
  rcases h8 b hb with q | q
  · exact hB b q
  · exact .inr (Nat.le_trans hh.1 q)
theorem qmove_ok {pu2 g2 n2 cap2 : Nat} {r2 : Ring} (h : QIn W R B pa pb pc pt px pu g n cap r t c w) (h2 : QOther R px pu2 g2 n2 cap2 r2 w) (hlog : t.sets.log.length < 800000000) :
    Calls Tryz.prog 95 #[.pointer (some ⟨pu, 0, none⟩), .pointer (some ⟨pu2, 0, none⟩)] w (TxPost W R pa pb pc pt B w (qMove r r2 t) c (fun _ => True) id (fun _ v => v)) := by
  have HS := Lib.hid (qtake_ok h (by omega))
  have HM := Lib.hid h.mid
  have HO := Lib.hid h2
  have HLG := Lib.hid hlog
  clear h h2 hlog
  go_enter Tryz.func95, Tryz.ntmps95
  go_wp2_with fail
  refine HS.out.mono ?_
  rintro e w1 ⟨n1, ⟨y, t1⟩, c1, v1, E1, B1, hx1, hy, rfl, he1, ht1, hc1, hh1, hB1, hEB1⟩
  have hl1 := (qTake_log r t c).1
  rw [hx1] at hl1
  by_cases h0 : n1 = 0
  · subst h0
    obtain ⟨rfl, rfl⟩ := he1.isNil rfl
    have hm := HM.out.next ht1 hc1 hh1 hB1
    have HP := Lib.hid (qput_ok (hm.q.swap (HO.out.heldBy hh1)) hy (by have := HLG.out; simp only at hl1; show t1.sets.log.length < _; omega))
    have HXX := Lib.hid (show exec (qMove r r2 t) c = exec (qPut r2 y t1) c1 by simp only [qMove, exec_bind, hx1, if_true])
    have HM1 := Lib.hid hm
    clear hx1 he1 ht1 hc1 hh1 hB1 hEB1 hm hy hl1
    go_wp2_with fail
    refine HP.out.mono ?_
    intro e w2 h
    have HF := Lib.hid (show TxPost W R pa pb pc pt B w (qMove r r2 t) c (fun _ => True) id (fun _ v => v) e w2 from h.after HXX.out HM1.out.held HM1.out.old)
    obtain ⟨m, x, c', v, E, B', -, -, rfl, he, -⟩ := h
    have hsh := he.shape
    clear he
    rcases hsh with rfl | ⟨tt, xx, rfl⟩
    all_goals
      go_wp2
      go_ret
      exact HF.out
  · have HF := Lib.hid (show TxPost W R pa pb pc pt B w (qMove r r2 t) c (fun _ => True) id (fun _ v => v) (.returned v1) w1 from HM.out.fin (mk := fun _ v => v) (x := t1) (by simp only [qMove, exec_bind, hx1, if_neg h0, exec]) trivial he1 ht1 hc1 hh1 hB1 hEB1)
    obtain ⟨tt, xx, rfl⟩ := he1.iface h0
    clear hx1 he1 ht1 hc1 hh1 hB1 hEB1 hy h0 hl1
    go_wp2
    go_ret
    exact HF.out
end
end Go.Proofs.YtkpdacfiglpgeaaGreatDoor
