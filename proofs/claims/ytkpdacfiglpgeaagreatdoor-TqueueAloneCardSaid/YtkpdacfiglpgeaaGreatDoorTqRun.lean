/- TqRun: TqBody, TqRun. -/
import Derived.Test.YtkpdacfiglpgeaaGreatDoorTqAsk
import Derived.Test.YtkpdacfiglpgeaaGreatDoorTqScene0

/- Layer 29's laws: a transaction of calls, as a body. -/
namespace Go.Proofs.YtkpdacfiglpgeaaGreatDoor
open Go.RowKit Bl Th
set_option maxRecDepth 10000

def ringV (r : Ring) (g n cap : Nat) : List Value := [.int .u64 (r.ins : Int), .int .u64 (r.outs : Int), .slice (some ⟨g, 0, none⟩) n cap]
/-- Open. -/
theorem qopen_ok (px : Nat) (r : Ring) (g n cap : Nat) (w : World) : Calls Tryz.prog 63 #[.pointer (some ⟨px, 0, none⟩), .agg #[.int .u64 (r.ins : Int), .int .u64 (r.outs : Int), .slice (some ⟨g, 0, none⟩) n cap]] w fun e w' =>
    ∃ pu, e = .returned (.pointer (some ⟨pu, 0, none⟩)) ∧ Cells w' pu (.pointer (some ⟨px, 0, none⟩) :: ringV r g n cap) 206 ∧ Below w.heap.size w w' ∧ w.heap.size ≤ pu ∧ pu < w'.heap.size := by
  have B2 := ((Below.refl w.heap.size w).alloc (Nat.le_refl _) (.cells #[.int .u64 (r.ins : Int), .int .u64 (r.outs : Int), .slice (some ⟨g, 0, none⟩) n cap] 28)).alloc (by simp) (.cells #[.pointer (some ⟨px, 0, none⟩), .int .u64 (r.ins : Int), .int .u64 (r.outs : Int), .slice (some ⟨g, 0, none⟩) n cap] 206)
  have C1 := Cells.new (w.alloc (.cells #[.int .u64 (r.ins : Int), .int .u64 (r.outs : Int), .slice (some ⟨g, 0, none⟩) n cap] 28)) [.pointer (some ⟨px, 0, none⟩), .int .u64 (r.ins : Int), .int .u64 (r.outs : Int), .slice (some ⟨g, 0, none⟩) n cap] 206
  have HF := Lib.hid (show ∃ pu, Ending.returned (.pointer (some ⟨(w.alloc (.cells #[.int .u64 (r.ins : Int), .int .u64 (r.outs : Int), .slice (some ⟨g, 0, none⟩) n cap] 28)).heap.size, 0, none⟩)) = .returned (.pointer (some ⟨pu, 0, none⟩)) ∧ Cells _ pu (.pointer (some ⟨px, 0, none⟩) :: ringV r g n cap) 206 ∧ Below w.heap.size w _ ∧ w.heap.size ≤ pu ∧ pu < _ from ⟨_, rfl, C1, B2, by simp, C1.lt⟩)
  clear B2 C1
  go_enter Tryz.func63, Tryz.ntmps63
  go_wp2
  go_ret
  obtain ⟨pu, h1, h2⟩ := HF.out
  refine ⟨pu, ?_, h2⟩
  simpa using h1
/-- What such a body reads. -/
structure SharedQ (W : World) (bc br bl bo be po pe g0 n0 cap0 g1 n1 cap1 : Nat) (lv : Value) (Qo : List Nat) (l : List ActQ) (r0 r1 : Ring) (clock : Nat) (w : World) : Prop where
  clock' : Cells w bc [.int .u64 (clock : Int)] 25
  rings : Cells w br (ringV r0 g0 n0 cap0 ++ ringV r1 g1 n1 cap1) 29
  acts' : Cells w bl [lv] 34
  out : Cells w bo [.pointer (some ⟨po, 0, none⟩)] 94
  end' : Cells w be [.pointer (some ⟨pe, 0, none⟩)] 95
  arr0 : CellsIn w g0 r0.places
  arr1 : CellsIn w g1 r1.places
  lies : ActsIn W w lv Qo l
def shQ (bc br bl bo be g0 g1 : Nat) (Qo : List Nat) : List Nat := [bc, br, bl, bo, be, g0, g1] ++ Qo
theorem SharedQ.heldBy {W : World} {bc br bl bo be po pe g0 n0 cap0 g1 n1 cap1 : Nat} {lv : Value} {Qo : List Nat} {l : List ActQ} {r0 r1 : Ring} {clock : Nat} {w w' : World} {R : List Nat} (h : SharedQ W bc br bl bo be po pe g0 n0 cap0 g1 n1 cap1 lv Qo l r0 r1 clock w) (k : HeldBy R w w') (hs : ∀ b ∈ shQ bc br bl bo be g0 g1 Qo, b ∈ R) : SharedQ W bc br bl bo be po pe g0 n0 cap0 g1 n1 cap1 lv Qo l r0 r1 clock w' := by
  have m : ∀ b, b = bc ∨ b = br ∨ b = bl ∨ b = bo ∨ b = be ∨ b = g0 ∨ b = g1 ∨ b ∈ Qo → b ∈ R := fun b hb => hs b (by simpa [shQ, or_assoc] using hb)
  exact ⟨h.clock'.heldBy k (m bc (by simp)), h.rings.heldBy k (m br (by simp)), h.acts'.heldBy k (m bl (by simp)), h.out.heldBy k (m bo (by simp)), h.end'.heldBy k (m be (by simp)), h.arr0.heldBy k (m g0 (by simp)), h.arr1.heldBy k (m g1 (by simp)), h.lies.heldBy k (fun b hb => m b (by simp [hb]))⟩
/-- What it keeps: what was told, how it ended. -/
def toldAux (W : World) (po pe : Nat) : Aux (List Nat × Int) where
  at' s Q w := ∃ lv, Q = po :: pe :: lv.ownBlock.toList ∧ po ≠ pe ∧ po ∉ lv.ownBlock.toList ∧ pe ∉ lv.ownBlock.toList ∧ W.heap.size ≤ po ∧ W.heap.size ≤ pe ∧ Cells w po [lv] 26 ∧ Cells w pe [.int .i64 s.2] 3 ∧ w.ownsRow W.heap.size 25 1 lv s.1.length (encU s.1)
  loc := by
    rintro s Q w w' ⟨lv, rfl, h1, h2, h3, h4, h5, h6, h7, h8⟩ k
    exact ⟨lv, rfl, h1, h2, h3, h4, h5, h6.heldBy k (by simp), h7.heldBy k (by simp), ownsRow_heldBy h8 k (fun b hb => by simp [hb])⟩
theorem ef_bodyQ (args : Array Value) (w : World) : (callFunc 61 args).run Tryz.prog w = .ok (.enter 61 args) w := enters_of Tryz.func61 (by kernel_rfl) rfl args w
/-- Where ask begins: both queues are open. -/
theorem ask_start {W : World} {B Z : List Nat} {pa pb pc pt px pu0 pu1 g0 n0 cap0 g1 n1 cap1 lo : Nat} {r0 r1 : Ring} {t : Tx} {c : CS} {w2 w3 w4 : World} (hc : Ctx W (B ++ (px :: Z)) pa pb pc c w2) (ht : TxAt W pt t B w2) (htn : TnAt px pt pc w2) (hB : ∀ b ∈ B, lo ≤ b) (hpB : px ∉ B) (hZ : ∀ b ∈ Z, b < lo) (hg : Handle W) (ok0 : RingOk r0 n0) (ok1 : RingOk r1 n1) (a0 : CellsIn w2 g0 r0.places) (i0 : g0 ∈ Z) (a1 : CellsIn w2 g1 r1.places) (i1 : g1 ∈ Z) (b23 : Below w2.heap.size w2 w3) (u0 : Cells w3 pu0 (.pointer (some ⟨px, 0, none⟩) :: ringV r0 g0 n0 cap0) 206) (p0 : w2.heap.size ≤ pu0) (b34 : Below w3.heap.size w3 w4) (u1 : Cells w4 pu1 (.pointer (some ⟨px, 0, none⟩) :: ringV r1 g1 n1 cap1) 206) (p1 : w3.heap.size ≤ pu1) :
    QIn W (pu0 :: pu1 :: px :: Z) B pa pb pc pt px pu0 g0 n0 cap0 r0 t c w4 ∧ QOther (pu0 :: pu1 :: px :: Z) px pu1 g1 n1 cap1 r1 w4 ∧ HeldBy (px :: Z) w2 w4 := by
  have b24 : Below w2.heap.size w2 w4 := b23.trans (b34.mono b23.size)
  have hlt := hc.heldR
  have hk := HeldBy.of_below (R := B ++ (px :: Z)) b24 hlt
  have hk3 := HeldBy.of_below (R := [pu0]) b34 (fun b hb => by simp only [List.mem_singleton] at hb; subst hb; exact u0.lt)
  have u0' := u0.heldBy hk3 (by simp)
  have hz1 := u1.lt
  have hz0 := u0'.lt
  have hcc := (hc.came b24 [pu0, pu1] (by
    intro b hb
    simp only [List.mem_cons, List.not_mem_nil, or_false] at hb
    have := b23.size
    rcases hb with q | q
    · omega
    · omega)).less (R' := B ++ (pu0 :: pu1 :: px :: Z)) (fun b hb => by
    simp only [List.mem_append, List.mem_cons, List.not_mem_nil, or_false] at hb ⊢
    rcases hb with q | q | q | q | q <;> simp [q])
  refine ⟨⟨hcc, ht.heldBy hk (fun b hb => by simp [hb]), fun b hb hm => ?_, htn.heldBy hk (by simp), by simp, ⟨u0', a0.heldBy hk (by simp [i0])⟩, by simp, by simp [i0], ok0, hg⟩, ⟨⟨u1, a1.heldBy hk (by simp [i1])⟩, by simp, by simp [i1], ok1⟩, hk.less fun b hb => by simp only [List.mem_append]; exact .inr hb⟩
  have hbl := hlt b (by simp [hb])
  have := b23.size
  simp only [List.mem_cons] at hm
  rcases hm with q | q | q | q
  · omega
  · omega
  · exact hpB (q ▸ hb)
  · have := hB b hb
    have := hZ b q
    omega
/-- The end: what was told, and how it ended, go out. -/
theorem bodyQ_fin {W : World} {X Q E : List Nat} {pa pb pc po pe m : Nat} {c : CS} {told : List Nat} {fin : Int} {lv v : Value} {wi w7 w9 : World} (ha : ∃ s, (toldAux W po pe).at' s Q wi) (hx : ∀ b ∈ X, b ∉ Q) (hlo : ∀ b ∈ X ++ Q, b < wi.heap.size) (he : Err w7 v m E) (hc : Ctx W (E ++ (lv.ownBlock.toList ++ (X ++ Q))) pa pb pc c w7) (hh : HeldBy (X ++ Q) wi w7) (hE : ∀ b ∈ E, wi.heap.size ≤ b) (hr : w7.ownsRow wi.heap.size 25 1 lv told.length (encU told)) (hk : Kept (fun b => b = po ∨ b = pe) w7 w9) (h1 : Cells w9 po [lv] 26) (h2 : Cells w9 pe [.int .i64 fin] 3) :
    BodyPost W pa pb pc (toldAux W po pe) X Q wi (m, c, (told, fin)) (.returned v) w9 := by
  obtain ⟨s, lv0, rfl, n1, n2, n3, n4, n5, -, -, -⟩ := ha
  have hl : ∀ b ∈ lv.ownBlock.toList, wi.heap.size ≤ b := fun b hb => (hr.lt b (by simpa using hb)).1
  have hpo : po < wi.heap.size := hlo po (by simp)
  have hpe : pe < wi.heap.size := hlo pe (by simp)
  obtain ⟨e1, e2⟩ := Ctx.objs (B := [po, pe]) (B' := [po, pe]) (R := E ++ (lv.ownBlock.toList ++ X)) (hc.less fun b hb => by
    simp only [List.mem_append, List.mem_cons, List.not_mem_nil, or_false] at hb ⊢
    rcases hb with (q | q) | q | q | q <;> simp [q]) (hk.mono fun b _ e => by simpa using e) (by simp [n4, n5]) (by
    intro b hb hm
    simp only [List.mem_cons, List.not_mem_nil, or_false] at hb
    simp only [List.mem_append] at hm
    rcases hm with q | q | q
    · have := hE b q
      rcases hb with z | z <;> omega
    · have := hl b q
      rcases hb with z | z <;> omega
    · refine hx b q ?_
      rcases hb with z | z <;> simp [z]) (by
    intro b hb
    refine ⟨.inl hb, Nat.lt_of_lt_of_le (hc.heldR b ?_) hk.size⟩
    simp only [List.mem_cons, List.not_mem_nil, or_false] at hb
    rcases hb with z | z <;> simp [z])
  have hWl : W.heap.size ≤ wi.heap.size := by omega
  refine ⟨v, E, po :: pe :: lv.ownBlock.toList, rfl, he.heldBy e2 (fun b hb => by simp [hb]), ⟨lv, rfl, n1, fun q => by have := hl po q; omega, fun q => by have := hl pe q; omega, n4, n5, h1, h2, row_mono (ownsRow_heldBy hr e2 (fun b hb => by simp [hb])) hWl⟩, e1.less (fun b hb => ?_), (hh.less fun b hb => by simp [hb]).trans (e2.less fun b hb => by simp [hb]), fun b hb => ?_⟩
  · simp only [List.mem_append, List.mem_cons] at hb ⊢
    rcases hb with q | q | q | q | q <;> simp [q]
  · simp only [List.mem_append, List.mem_cons] at hb ⊢
    rcases hb with q | q | q | q
    · exact .inr (hE b q)
    · exact .inl (.inl q)
    · exact .inl (.inr (.inl q))
    · exact .inr (hl b q)
/-- Whatever a cell holds. -/
def cellOr (w : World) (a : Addr) : Value := (w.cell? a).getD .nilIface
theorem cellOr_of {w : World} {a : Addr} {v : Value} (h : w.cell? a = some v) : w.cell? a = some (cellOr w a) := by
  unfold cellOr
  rw [h]
  rfl
theorem cellOr_set {w : World} {a b : Addr} (h : w.cell? a = some (cellOr w a)) (v : Value) : (w.setCell b v).cell? a = some (cellOr (w.setCell b v) a) := by
  by_cases e : b = a
  · subst e
    exact cellOr_of (World.cell?_setCell_same _ _ _ h)
  · exact cellOr_of ((World.cell?_setCell_other _ _ _ _ e).trans h)
theorem ks_set {bo be rb po pe : Nat} {fin : Int} {w : World} (h : (fun w' => w'.cell? ⟨bo, 0, none⟩ = some (.pointer (some ⟨po, 0, none⟩)) ∧ w'.cell? ⟨be, 0, none⟩ = some (.pointer (some ⟨pe, 0, none⟩)) ∧ w'.cell? ⟨rb, 0, none⟩ = some (.int .i64 fin) ∧ w'.frozen? ⟨po, 0, none⟩ = false ∧ w'.frozen? ⟨pe, 0, none⟩ = false ∧ w'.cell? ⟨po, 0, none⟩ = some (cellOr w' ⟨po, 0, none⟩) ∧ w'.cell? ⟨pe, 0, none⟩ = some (cellOr w' ⟨pe, 0, none⟩)) w) {q : Nat} (hq : q = po ∨ q = pe) (n : po ≠ bo ∧ po ≠ be ∧ po ≠ rb ∧ pe ≠ bo ∧ pe ≠ be ∧ pe ≠ rb) (v : Value) : (fun w' => w'.cell? ⟨bo, 0, none⟩ = some (.pointer (some ⟨po, 0, none⟩)) ∧ w'.cell? ⟨be, 0, none⟩ = some (.pointer (some ⟨pe, 0, none⟩)) ∧ w'.cell? ⟨rb, 0, none⟩ = some (.int .i64 fin) ∧ w'.frozen? ⟨po, 0, none⟩ = false ∧ w'.frozen? ⟨pe, 0, none⟩ = false ∧ w'.cell? ⟨po, 0, none⟩ = some (cellOr w' ⟨po, 0, none⟩) ∧ w'.cell? ⟨pe, 0, none⟩ = some (cellOr w' ⟨pe, 0, none⟩)) (w.setCell ⟨q, 0, none⟩ v) := by
  have hn : q ≠ bo ∧ q ≠ be ∧ q ≠ rb := by
    rcases hq with e | e
    · subst e; exact ⟨n.1, n.2.1, n.2.2.1⟩
    · subst e; exact n.2.2.2
  exact ⟨(World.cell?_setCell_far _ _ _ _ hn.1).trans h.1, (World.cell?_setCell_far _ _ _ _ hn.2.1).trans h.2.1, (World.cell?_setCell_far _ _ _ _ hn.2.2).trans h.2.2.1, (World.frozen?_setCell _ _ _ _).trans h.2.2.2.1, (World.frozen?_setCell _ _ _ _).trans h.2.2.2.2.1, cellOr_set h.2.2.2.2.2.1 _, cellOr_set h.2.2.2.2.2.2 _⟩
set_option maxHeartbeats 16000000 in
theorem bodyQ1_ok {W : World} {X Q Qo : List Nat} {pa pb pc bc br bl bo be po pe g0 n0 cap0 g1 n1 cap1 clock round : Nat} {lp : Option Addr} {lcap : Nat} {l : List ActQ} {r0 r1 : Ring} {s : List Nat × Int} {c : CS} {wi : World} (hg : Handle W) (ok0 : RingOk r0 n0) (ok1 : RingOk r1 n1) (hclock : clock < 18446744073709551616) (hl100 : l.length ≤ 100)
    (hs : SharedQ W bc br bl bo be po pe g0 n0 cap0 g1 n1 cap1 (.slice lp l.length lcap) Qo l r0 r1 clock wi) (hSh : ∀ b ∈ shQ bc br bl bo be g0 g1 Qo, b ∈ X) (ha : (toldAux W po pe).at' s Q wi) (h : Ctx W (X ++ Q) pa pb pc c wi) (hXQ : ∀ b ∈ X, b ∉ Q) (h99 : (exec (bodyQ r0 r1 l clock) c).1.1 ≠ 99) :
    Calls Tryz.prog 61 #[.pointer (some ⟨pc, 0, none⟩), .int .i64 (round : Int), .pointer (some ⟨bc, 0, none⟩), .pointer (some ⟨br, 0, none⟩), .pointer (some ⟨bl, 0, none⟩), .pointer (some ⟨bo, 0, none⟩), .pointer (some ⟨be, 0, none⟩)] wi (BodyPost W pa pb pc (toldAux W po pe) X Q wi (treeBody (fun _ => bodyQ r0 r1 l clock) s round c)) := by
  have HG := Lib.hid hg; have HS := Lib.hid hs; have HA := Lib.hid ha; have HXQ := Lib.hid hXQ; have H99 := Lib.hid h99; have HOK0 := Lib.hid ok0; have HOK1 := Lib.hid ok1; have HL100 := Lib.hid hl100
  have HSH := Lib.hid (show ∀ b ∈ shQ bc br bl bo be g0 g1 Qo, b ∈ X ++ Q from fun b hb => List.mem_append_left _ (hSh b hb))
  have HSX := Lib.hid hSh
  have HBEG := Lib.hid (xbegin_ok h hg hclock 1)
  have HLO := Lib.hid h.heldR
  have q0 := hs.clock'.cell 0
  simp only [List.getElem?_cons_zero] at q0
  obtain ⟨len, hlen⟩ : ∃ len, l.length = len := ⟨_, rfl⟩
  rw [hlen] at HS HL100
  have HLEN := Lib.hid hlen
  clear h hg hs hSh ha hXQ h99 ok0 ok1 hl100 hclock hlen
  go_enter Tryz.func61, Tryz.ntmps61
  go_wp2_with fail
  refine HBEG.out.mono ?_
  rintro e w2 ⟨nn, t, c1, hx, hh, ⟨rfl, px, pt, B, rfl, ht, htn, hc, hpx, hB, hpB⟩ | ⟨h0, v, E, rfl, he, hc, hE⟩⟩
  · have HX := Lib.hid (show exec (bodyQ r0 r1 l clock) c = exec ((qAsk r0 r1 l [] t).bind fun a => (tEnd a.2.2 a.1).bind fun f => .ret (f.1, fun _ => (a.2.1, f.2.1.fin))) c1 by simp only [bodyQ, exec_bind, hx, if_true])
    have HCLN := Lib.hid (show Cln t by
      simp only [tBegin, exec_bind] at hx
      have := (Prod.ext_iff.1 (Prod.ext_iff.1 hx).1).2
      simp only [exec] at this
      rw [← this]
      exact ⟨rfl, rfl⟩)
    have hs2 := HS.out.heldBy hh HSH.out
    have HS2 := Lib.hid hs2
    have HSW := Lib.hid (fun (w' : World) (k : HeldBy (px :: (X ++ Q)) w2 w') => hs2.heldBy k (fun b hb => List.mem_cons_of_mem _ (HSH.out b hb)))
    have HH := Lib.hid hh; have HT := Lib.hid ht; have HTN := Lib.hid htn; have HC := Lib.hid hc; have HPX := Lib.hid hpx; have HB := Lib.hid hB; have HPB := Lib.hid hpB
    have HR6 := Lib.hid (fun (w' : World) (hr : Cells w' br (ringV r0 g0 n0 cap0 ++ ringV r1 g1 n1 cap1) 29) (ha : Cells w' bl [.slice lp len lcap] 34) => (show w'.cell? ⟨br, 0, none⟩ = some (.int .u64 (r0.ins : Int)) ∧ w'.cell? ⟨br, 1, none⟩ = some (.int .u64 (r0.outs : Int)) ∧ w'.cell? ⟨br, 2, none⟩ = some (.slice (some ⟨g0, 0, none⟩) n0 cap0) ∧ w'.cell? ⟨br, 3, none⟩ = some (.int .u64 (r1.ins : Int)) ∧ w'.cell? ⟨br, 4, none⟩ = some (.int .u64 (r1.outs : Int)) ∧ w'.cell? ⟨br, 5, none⟩ = some (.slice (some ⟨g1, 0, none⟩) n1 cap1) ∧ w'.cell? ⟨bl, 0, none⟩ = some (.slice lp len lcap) from ⟨hr.cell 0, hr.cell 1, hr.cell 2, hr.cell 3, hr.cell 4, hr.cell 5, ha.cell 0⟩))
    obtain ⟨k0, k1, k2, k3, k4, k5, k6⟩ := HR6.out w2 hs2.rings hs2.acts'
    clear hx hh ht htn hc hpx hB hpB hs2 HBEG q0
    go_wp2
    go_region_held3 (fun w' => w'.cell? ⟨br, 0, none⟩ = some (.int .u64 (r0.ins : Int)) ∧ w'.cell? ⟨br, 1, none⟩ = some (.int .u64 (r0.outs : Int)) ∧ w'.cell? ⟨br, 2, none⟩ = some (.slice (some ⟨g0, 0, none⟩) n0 cap0) ∧ w'.cell? ⟨br, 3, none⟩ = some (.int .u64 (r1.ins : Int)) ∧ w'.cell? ⟨br, 4, none⟩ = some (.int .u64 (r1.outs : Int)) ∧ w'.cell? ⟨br, 5, none⟩ = some (.slice (some ⟨g1, 0, none⟩) n1 cap1) ∧ w'.cell? ⟨bl, 0, none⟩ = some (.slice lp len lcap))
      (first | with_reducible exact ⟨k0, k1, k2, k3, k4, k5, k6⟩ | with_reducible exact ⟨m0, m1, m2, m3, m4, m5, m6⟩ | with_reducible exact ⟨i0, i1, i2, i3, i4, i5, i6⟩ | with_reducible exact ⟨j0, j1, j2, j3, j4, j5, j6⟩ | go_keep)
      (first
        | (go_at_call 62; refine HASK.out.mono ?_; rintro e w5 ⟨m, told, t5, c5, lv5, v5, E5, B5, hx5, rfl, he5, hr5, ht5, hc5, hh5, hB5, hEB5, hBl5⟩; have hk5 := HK24.out.trans (hh5.less (R' := px :: (X ++ Q)) fun b hb => by simp only [List.mem_cons] at hb ⊢; exact .inr (.inr hb)); obtain ⟨j0, j1, j2, j3, j4, j5, j6⟩ := HR6.out w5 (HSW.out w5 hk5).rings (HSW.out w5 hk5).acts'; have HK5 := Lib.hid hk5; have HX5 := Lib.hid hx5; have HE5 := Lib.hid he5; have HR5 := Lib.hid hr5; have HT5 := Lib.hid ht5; have HC5 := Lib.hid hc5; have HH5 := Lib.hid hh5; have HB5 := Lib.hid hB5; have HEB5 := Lib.hid hEB5; have HBL5 := Lib.hid hBl5; clear hk5 hx5 he5 hr5 ht5 hc5 hh5 hB5 hEB5 hBl5)
        | (go_at_call 63; have HU0' := HU0; refine (qopen_ok px r1 g1 n1 cap1 w3).mono ?_; rintro e w4 ⟨pu1, rfl, hu1, hb4, hp1, -⟩; obtain ⟨hq, ho, hk24⟩ := ask_start HC.out HT.out HTN.out HB.out HPB.out HLO.out HG.out HOK0.out HOK1.out HS2.out.arr0 (HSH.out g0 (by simp [shQ])) HS2.out.arr1 (HSH.out g1 (by simp [shQ])) HB23.out HU0.out HP0.out hb4 hu1 hp1; have HQ := Lib.hid hq; have HK24 := Lib.hid hk24; have HP1 := Lib.hid hp1; have HASK := Lib.hid (ask_ok hq ho ((HSW.out w4 hk24).lies) HLEN.out HL100.out (fun b hb => by have := HSH.out b (by simp [shQ, hb]); simp only [List.mem_cons]; exact .inr (.inr (.inr this))) HCLN.out (fun e99 => H99.out (by rw [HX.out, exec_bind]; unfold tEnd; rw [if_neg (by rw [e99]; omega), if_neg (by rw [e99]; omega), if_neg (by rw [e99]; omega)]; exact e99))); obtain ⟨i0, i1, i2, i3, i4, i5, i6⟩ := HR6.out w4 (HSW.out w4 hk24).rings (HSW.out w4 hk24).acts'; clear hu1 hb4 hp1 hq ho hk24)
        | (go_at_call 63; refine (qopen_ok px r0 g0 n0 cap0 _).mono ?_; rintro e w3 ⟨pu0, rfl, hu0, hb3, hp0, -⟩; have hb23 : Below w2.heap.size w2 w3 := (below_drewN (Below.refl w2.heap.size w2) 1).trans hb3; have hk23 := HeldBy.of_below (R := px :: (X ++ Q)) hb23 (fun b hb => HC.out.heldR b (List.mem_append_right _ hb)); obtain ⟨m0, m1, m2, m3, m4, m5, m6⟩ := HR6.out w3 (HSW.out w3 hk23).rings (HSW.out w3 hk23).acts'; have HU0 := Lib.hid hu0; have HB23 := Lib.hid hb23; have HP0 := Lib.hid (show w2.heap.size ≤ pu0 from hp0); clear hu0 hb3 hp0 hb23 hk23))
    obtain ⟨p5, c5, hlv⟩ := ownsRow_shape HR5.out
    subst hlv
    have HEND := Lib.hid (xend_ok (R := (Value.slice p5 told.length c5).ownBlock.toList ++ (pu0 :: pu1 :: px :: (X ++ Q))) HC5.out HG.out HT5.out (fun b hb hm => by
      rcases List.mem_append.1 hm with q | q
      · exact HBL5.out b (by simp [hb]) q
      · rcases HB5.out b (by simp [hb]) with z | z
        · exact HQ.out.apart b z q
        · have := HQ.out.loR b q
          omega) (HTN.out.heldBy HK5.out (by simp)) (by simp) HE5.out HEB5.out)
    clear k0 k1 k2 k3 k4 k5 k6 m0 m1 m2 m3 m4 m5 m6 i0 i1 i2 i3 i4 i5 i6 j0 j1 j2 j3 j4 j5 j6
    go_wp2_with fail
    refine HEND.out.mono ?_
    rintro e w6 ⟨n6, ⟨rs, t6⟩, c6, v6, E6, B6, hx6, -, rfl, he6, ht6, hc6, hh6, hB6, hEB6⟩
    have b7 := (Below.refl w6.heap.size w6).alloc (Nat.le_refl _) (.cells #[.int .i64 rs.fin, .int .i64 rs.stamp, .bool rs.wrote, .bool rs.waits] 58)
    have C7 := Cells.new w6 [.int .i64 rs.fin, .int .i64 rs.stamp, .bool rs.wrote, .bool rs.waits] 58
    obtain ⟨rb, hrb⟩ : ∃ rb, w6.heap.size = rb := ⟨_, rfl⟩
    obtain ⟨w7, hw7⟩ : ∃ w7, w6.alloc (.cells #[.int .i64 rs.fin, .int .i64 rs.stamp, .bool rs.wrote, .bool rs.waits] 58) = w7 := ⟨_, rfl⟩
    rw [hw7] at b7 C7
    rw [hrb] at C7
    have h26 : HeldBy (px :: (X ++ Q)) w2 w6 := HK5.out.trans (hh6.less fun b hb => by simp only [List.mem_append, List.mem_cons] at hb ⊢; rcases hb with q | q | q <;> simp [q])
    have hlo6 : ∀ b ∈ px :: (X ++ Q), b < w6.heap.size := fun b hb => by
      have := HC.out.heldR b (List.mem_append_right _ hb)
      have := h26.1
      omega
    have h27 : HeldBy (px :: (X ++ Q)) w2 w7 := h26.trans (HeldBy.of_below b7 hlo6)
    have hs7 := HSW.out w7 h27
    have r0' : w7.cell? ⟨bo, 0, none⟩ = some (.pointer (some ⟨po, 0, none⟩)) := hs7.out.cell 0
    have r1' : w7.cell? ⟨be, 0, none⟩ = some (.pointer (some ⟨pe, 0, none⟩)) := hs7.end'.cell 0
    have r2' : w7.cell? ⟨rb, 0, none⟩ = some (.int .i64 rs.fin) := C7.cell 0
    obtain ⟨lv0, hQ0, n1, n2, n3, n4, n5, ca, cb, -⟩ := HA.out
    have hpoQ : po ∈ Q := by rw [hQ0]; simp
    have hpeQ : pe ∈ Q := by rw [hQ0]; simp
    have hi7 : HeldBy (X ++ Q) wi w7 := HH.out.trans (h27.less fun b hb => List.mem_cons_of_mem _ hb)
    have ca7 := ca.heldBy hi7 (List.mem_append_right _ hpoQ)
    have cb7 := cb.heldBy hi7 (List.mem_append_right _ hpeQ)
    have f0' := ca7.free 0
    have f1' := cb7.free 0
    have c0' : w7.drew.cell? ⟨po, 0, none⟩ = some (cellOr w7.drew ⟨po, 0, none⟩) := cellOr_of (ca7.cell 0)
    have c1' : w7.drew.cell? ⟨pe, 0, none⟩ = some (cellOr w7.drew ⟨pe, 0, none⟩) := cellOr_of (cb7.cell 0)
    have hXn : ∀ b ∈ X, b ≠ po ∧ b ≠ pe := fun b hb => ⟨fun e => HXQ.out b hb (e ▸ hpoQ), fun e => HXQ.out b hb (e ▸ hpeQ)⟩
    have HNE := Lib.hid (show po ≠ bo ∧ po ≠ be ∧ po ≠ rb ∧ pe ≠ bo ∧ pe ≠ be ∧ pe ≠ rb from by
      have a1 := hXn bo (HSX.out bo (by simp [shQ]))
      have a2 := hXn be (HSX.out be (by simp [shQ]))
      have b1 := hlo6 po (by simp [hpoQ])
      have b2 := hlo6 pe (by simp [hpeQ])
      rw [hrb] at b1 b2
      exact ⟨fun e => a1.1 e.symm, fun e => a2.1 e.symm, by omega, fun e => a1.2 e.symm, fun e => a2.2 e.symm, by omega⟩)
    have HCA := Lib.hid ca7; have HCB := Lib.hid cb7; have HI7 := Lib.hid hi7; have HNP := Lib.hid n1
    have HW7 := Lib.hid hw7; have HRB := Lib.hid hrb
    clear hw7 hrb
    go_wp2
    rw [HW7.out, HRB.out]
    go_region_held3 (fun w' => w'.cell? ⟨bo, 0, none⟩ = some (.pointer (some ⟨po, 0, none⟩)) ∧ w'.cell? ⟨be, 0, none⟩ = some (.pointer (some ⟨pe, 0, none⟩)) ∧ w'.cell? ⟨rb, 0, none⟩ = some (.int .i64 rs.fin) ∧ w'.frozen? ⟨po, 0, none⟩ = false ∧ w'.frozen? ⟨pe, 0, none⟩ = false ∧ w'.cell? ⟨po, 0, none⟩ = some (cellOr w' ⟨po, 0, none⟩) ∧ w'.cell? ⟨pe, 0, none⟩ = some (cellOr w' ⟨pe, 0, none⟩))
      (first | with_reducible exact ⟨r0', r1', r2', f0', f1', c0', c1'⟩ | exact ks_set (by assumption) (.inl rfl) HNE.out _ | exact ks_set (by assumption) (.inr rfl) HNE.out _ | go_keep)
      (fail)
    have HXE := Lib.hid (HX.out.trans (show _ = ((n6, fun _ => (told, rs.fin)), c6) by simp only [exec_bind, HX5.out, hx6, exec]))
    have hwi4 : wi.heap.size ≤ w4.heap.size := Nat.le_trans HH.out.1 HK24.out.1
    have hlo5 : ∀ b ∈ (Value.slice p5 told.length c5).ownBlock.toList, b < w5.heap.size := fun b hb => (HR5.out.lt b (by simpa using hb)).2
    have hk67 := HeldBy.of_below (R := (Value.slice p5 told.length c5).ownBlock.toList) b7 (fun b hb => Nat.lt_of_lt_of_le (hlo5 b hb) hh6.1)
    have HF := Lib.hid (fun (w9 : World) (hk : Kept (fun b => b = po ∨ b = pe) w7 w9) (h1 : Cells w9 po [.slice p5 told.length c5] 26) (h2 : Cells w9 pe [.int .i64 rs.fin] 3) => bodyQ_fin (lv := .slice p5 told.length c5) (told := told) (fin := rs.fin) ⟨s, HA.out⟩ HXQ.out HLO.out (he6.heldBy (HeldBy.of_below b7 he6.lt) (fun _ h => h)) ((hc6.under b7).less fun b hb => by
        simp only [List.mem_append, List.mem_cons] at hb ⊢
        rcases hb with q | q | q | q <;> simp [q]) HI7.out (fun b hb => by
        rcases hB6 b (by simp [hb]) with q | q
        · rcases HB5.out b q with z | z
          · exact HB.out b z
          · exact Nat.le_trans hwi4 z
        · exact Nat.le_trans hwi4 (Nat.le_trans HH5.out.1 q)) (row_mono (ownsRow_heldBy (ownsRow_heldBy HR5.out hh6 (fun b hb => by
          have : b ∈ (Value.slice p5 told.length c5).ownBlock.toList := by simpa using hb
          simp only [List.mem_append]
          exact .inl this)) hk67 (fun b hb => by simpa using hb)) hwi4) hk h1 h2)
    have hne := HNP.out
    have HW9 := Lib.hid (HF.out ((w7.setCell ⟨po, 0, none⟩ (.slice p5 told.length c5)).setCell ⟨pe, 0, none⟩ (.int .i64 rs.fin)).drew ((((Kept.refl (fun b => b = po ∨ b = pe) w7).setCell (p := ⟨po, 0, none⟩) (fun _ => .inl rfl) _).setCell (p := ⟨pe, 0, none⟩) (fun _ => .inr rfl) _).drew) ((HCA.out.set 0 _).set_other hne _) ((HCB.out.set_other (fun e => hne e.symm) _).set 0 _))
    clear hx6 he6 ht6 hc6 hh6 hB6 hEB6 b7 C7 h26 hlo6 h27 hs7 hQ0 n1 n2 n3 n4 n5 ca cb hpoQ hpeQ hi7 ca7 cb7 hXn hwi4 hlo5 hk67 HF hne
    go_wp2
    go_ret
    unfold treeBody
    rw [HXE.out]
    exact HW9.out
  · have HXE := Lib.hid (show exec (bodyQ r0 r1 l clock) c = ((nn, id), c1) by simp only [bodyQ, exec_bind, hx, if_neg h0, exec])
    have hat := (toldAux W po pe).loc s Q _ _ HA.out (hh.less fun b hb => by simp [hb])
    have HF := Lib.hid (show BodyPost W pa pb pc (toldAux W po pe) X Q wi (nn, c1, s) (.returned v) w2 from ⟨v, E, Q, rfl, he, hat, hc.less (fun b hb => by
      simp only [List.mem_append] at hb ⊢
      rcases hb with q | q | q <;> simp [q]), hh.less (fun b hb => by simp [hb]), fun b hb => by
      rcases List.mem_append.1 hb with q | q
      · exact .inr (hE b q)
      · exact .inl q⟩)
    obtain ⟨tt, xx, rfl⟩ := he.iface h0
    clear hx hh he hc hE h0 HBEG hat
    go_wp2
    go_ret
    unfold treeBody
    rw [HXE.out]
    exact HF.out
/-- Such a body, from a state in which it never finds too many. -/
theorem bodyQ_step {W : World} {Qo : List Nat} {pa pb bc br bl bo be po pe g0 n0 cap0 g1 n1 cap1 clock round : Nat} {lp : Option Addr} {lcap : Nat} {l : List ActQ} {r0 r1 : Ring} {s : List Nat × Int} {c : CS} (hg : Handle W) (ok0 : RingOk r0 n0) (ok1 : RingOk r1 n1) (hclock : clock < 18446744073709551616) (hl100 : l.length ≤ 100) (h99 : (exec (bodyQ r0 r1 l clock) c).1.1 ≠ 99) :
    StepBody W pa pb 61 #[.pointer (some ⟨bc, 0, none⟩), .pointer (some ⟨br, 0, none⟩), .pointer (some ⟨bl, 0, none⟩), .pointer (some ⟨bo, 0, none⟩), .pointer (some ⟨be, 0, none⟩)] (toldAux W po pe) (treeBody fun _ => bodyQ r0 r1 l clock) (shQ bc br bl bo be g0 g1 Qo) (SharedQ W bc br bl bo be po pe g0 n0 cap0 g1 n1 cap1 (.slice lp l.length lcap) Qo l r0 r1 clock) s round c where
  enters := ef_bodyQ
  keeps _ _ k h := h.heldBy k fun _ hb => hb
  does _ _ _ _ hP hSh ha h hx _ := bodyQ1_ok hg ok0 ok1 hclock hl100 hP hSh ha h hx h99
end Go.Proofs.YtkpdacfiglpgeaaGreatDoor

/- Layer 29's laws: one transaction of calls that runs alone (run). -/
namespace Go.Proofs.YtkpdacfiglpgeaaGreatDoor
open Go.RowKit Bl Th
set_option maxRecDepth 10000

/-- Two rings, as one value. -/
def ringsV (r0 : Ring) (g0 n0 cap0 : Nat) (r1 : Ring) (g1 n1 cap1 : Nat) : Value := .agg #[.int .u64 (r0.ins : Int), .int .u64 (r0.outs : Int), .slice (some ⟨g0, 0, none⟩) n0 cap0, .int .u64 (r1.ins : Int), .int .u64 (r1.outs : Int), .slice (some ⟨g1, 0, none⟩) n1 cap1]
/-- The world behind body. -/
def bodyWQ (w : World) (clock : Nat) (r0 : Ring) (g0 n0 cap0 : Nat) (r1 : Ring) (g1 n1 cap1 : Nat) (lv : Value) (po pe : Nat) : World := ((((w.alloc (.cells #[.int .u64 (clock : Int)] 25)).alloc (.cells #[.int .u64 (r0.ins : Int), .int .u64 (r0.outs : Int), .slice (some ⟨g0, 0, none⟩) n0 cap0, .int .u64 (r1.ins : Int), .int .u64 (r1.outs : Int), .slice (some ⟨g1, 0, none⟩) n1 cap1] 29)).alloc (.cells #[lv] 34)).alloc (.cells #[.pointer (some ⟨po, 0, none⟩)] 94)).alloc (.cells #[.pointer (some ⟨pe, 0, none⟩)] 95)
theorem body29_ok (clock : Nat) (r0 : Ring) (g0 n0 cap0 : Nat) (r1 : Ring) (g1 n1 cap1 : Nat) (lp : Option Addr) (n lcap : Nat) (po pe : Nat) (w : World) : Calls Tryz.prog 35 #[.int .u64 (clock : Int), ringsV r0 g0 n0 cap0 r1 g1 n1 cap1, .slice lp n lcap, .pointer (some ⟨po, 0, none⟩), .pointer (some ⟨pe, 0, none⟩)] w fun e w' =>
    ∃ fv, e = .returned fv ∧ fv = .func (.func 61) #[] #[.pointer (some ⟨w.heap.size, 0, none⟩), .pointer (some ⟨w.heap.size + 1, 0, none⟩), .pointer (some ⟨w.heap.size + 2, 0, none⟩), .pointer (some ⟨w.heap.size + 3, 0, none⟩), .pointer (some ⟨w.heap.size + 4, 0, none⟩)] ∧ w' = bodyWQ w clock r0 g0 n0 cap0 r1 g1 n1 cap1 (.slice lp n lcap) po pe := by
  have hmf : ∀ (fn : Fn) (first cap : Array Value) (w : World), (Instr.makeFunc fn first cap).run Tryz.prog w = .ok (.func fn first cap) w := fun _ _ _ _ => rfl
  unfold ringsV
  go_enter Tryz.func35, Tryz.ntmps35
  go_wp2
  go_ret
  exact ⟨_, rfl, rfl, rfl⟩
theorem body29_set {W : World} {R : List Nat} {pa pb g0 n0 cap0 g1 n1 cap1 po pe clock : Nat} {r0 r1 : Ring} {S : BS} {w : World} {lv : Value} {Qo : List Nat} {l : List ActQ} (h : Held W R pa pb S w) (hg0 : g0 ∈ R) (hg1 : g1 ∈ R) (hQ : ∀ b ∈ Qo, b ∈ R) (a0 : CellsIn w g0 r0.places) (a1 : CellsIn w g1 r1.places) (hl : ActsIn W w lv Qo l) :
    Below w.heap.size w (bodyWQ w clock r0 g0 n0 cap0 r1 g1 n1 cap1 lv po pe) ∧ Held W ([w.heap.size, w.heap.size + 1, w.heap.size + 2, w.heap.size + 3, w.heap.size + 4] ++ R) pa pb S (bodyWQ w clock r0 g0 n0 cap0 r1 g1 n1 cap1 lv po pe) ∧ SharedQ W w.heap.size (w.heap.size + 1) (w.heap.size + 2) (w.heap.size + 3) (w.heap.size + 4) po pe g0 n0 cap0 g1 n1 cap1 lv Qo l r0 r1 clock (bodyWQ w clock r0 g0 n0 cap0 r1 g1 n1 cap1 lv po pe) := by
  have B : Below w.heap.size w (bodyWQ w clock r0 g0 n0 cap0 r1 g1 n1 cap1 lv po pe) := (((((Below.refl w.heap.size w).alloc (Nat.le_refl _) _).alloc (by simp) _).alloc (by simp; omega) _).alloc (by simp; omega) _).alloc (by simp; omega) _
  have k := HeldBy.of_below (R := R) B h.held
  have hz : (bodyWQ w clock r0 g0 n0 cap0 r1 g1 n1 cap1 lv po pe).heap.size = w.heap.size + 5 := by simp [bodyWQ]
  refine ⟨B, h.came B _ (by intro b hb; rw [hz]; simp at hb; omega), ?_, ?_, ?_, ?_, ?_, a0.heldBy k hg0, a1.heldBy k hg1, hl.heldBy k hQ⟩
  · exact (((((Cells.new w [.int .u64 (clock : Int)] 25).alloc _).alloc _).alloc _).alloc _)
  · have := (((Cells.new (w.alloc (.cells #[.int .u64 (clock : Int)] 25)) (ringV r0 g0 n0 cap0 ++ ringV r1 g1 n1 cap1) 29).alloc (.cells #[lv] 34)).alloc (.cells #[.pointer (some ⟨po, 0, none⟩)] 94)).alloc (.cells #[.pointer (some ⟨pe, 0, none⟩)] 95)
    simpa [bodyWQ, ringV] using this
  · have := ((Cells.new ((w.alloc (.cells #[.int .u64 (clock : Int)] 25)).alloc (.cells #[.int .u64 (r0.ins : Int), .int .u64 (r0.outs : Int), .slice (some ⟨g0, 0, none⟩) n0 cap0, .int .u64 (r1.ins : Int), .int .u64 (r1.outs : Int), .slice (some ⟨g1, 0, none⟩) n1 cap1] 29)) [lv] 34).alloc (.cells #[.pointer (some ⟨po, 0, none⟩)] 94)).alloc (.cells #[.pointer (some ⟨pe, 0, none⟩)] 95)
    simpa [bodyWQ] using this
  · have := (Cells.new (((w.alloc (.cells #[.int .u64 (clock : Int)] 25)).alloc (.cells #[.int .u64 (r0.ins : Int), .int .u64 (r0.outs : Int), .slice (some ⟨g0, 0, none⟩) n0 cap0, .int .u64 (r1.ins : Int), .int .u64 (r1.outs : Int), .slice (some ⟨g1, 0, none⟩) n1 cap1] 29)).alloc (.cells #[lv] 34)) [.pointer (some ⟨po, 0, none⟩)] 94).alloc (.cells #[.pointer (some ⟨pe, 0, none⟩)] 95)
    simpa [bodyWQ] using this
  · have := Cells.new ((((w.alloc (.cells #[.int .u64 (clock : Int)] 25)).alloc (.cells #[.int .u64 (r0.ins : Int), .int .u64 (r0.outs : Int), .slice (some ⟨g0, 0, none⟩) n0 cap0, .int .u64 (r1.ins : Int), .int .u64 (r1.outs : Int), .slice (some ⟨g1, 0, none⟩) n1 cap1] 29)).alloc (.cells #[lv] 34)).alloc (.cells #[.pointer (some ⟨po, 0, none⟩)] 94)) [.pointer (some ⟨pe, 0, none⟩)] 95
    simpa [bodyWQ] using this
/-- The scene's state between transactions: at most K were put in. -/
structure Play (pl : Bool → Nat) (K clk : Nat) (q : Bool → List Nat) (S : BS) : Prop where
  sc : ∃ ver val : Nat → Nat, Sc (cellsQ pl) S clk (fun i => rest (ver i)) val ∧ (∀ i, i < cellsQ pl → ver i ≤ clk) ∧ QsAt val pl K q
  few : cellsQ pl ≤ 60
  pos : ∀ k, 1 ≤ pl k
  ck : clk ≤ K + 10
/-- What one transaction leaves. -/
def RunPost (W : World) (R : List Nat) (pa pb : Nat) (pl : Bool → Nat) (K : Nat) (l : List ActQ) (q : Bool → List Nat) (w : World) (e : Ending) (w' : World) : Prop :=
  ∃ (S' : BS) (clk' : Nat) (lv : Value), e = .returned (.tuple #[lv, .int .i64 (if (mdl pl l [] q).2.2 = true then 1 else 3), .int .i64 0]) ∧ Held W (lv.ownBlock.toList ++ R) pa pb S' w' ∧ HeldBy R w w' ∧ w'.ownsRow W.heap.size 25 1 lv (mdl pl l [] q).1.length (encU (mdl pl l [] q).1) ∧ Play pl (K + l.length + 1) clk' (if (mdl pl l [] q).2.2 = true then (mdl pl l [] q).2.1 else q) S'
theorem ringQ_ok {pl : Bool → Nat} (hf : cellsQ pl ≤ 60) (hp : ∀ k, 1 ≤ pl k) (k : Bool) : RingOk (ringQ pl k) (pl k) := by
  have hb := baseQ_le pl k
  refine ⟨by simp [ringQ, ringAt], hp k, by omega, by simp only [ringQ, ringAt]; omega, by simp only [ringQ, ringAt]; omega, fun x hx => ?_⟩
  simp only [ringQ, ringAt, List.mem_map, List.mem_range] at hx
  obtain ⟨i, hi, rfl⟩ := hx
  omega
set_option maxHeartbeats 8000000 in
theorem run_ok {W : World} (hg : Handle W) {R : List Nat} {pa pb g0 cap0 g1 cap1 lcap K M clk : Nat} {pl : Bool → Nat} {lp : Option Addr} {S : BS} {w : World} {Qo : List Nat} {l : List ActQ} {q : Bool → List Nat} (h : Held W R pa pb S w) (hg0 : g0 ∈ R) (hg1 : g1 ∈ R) (hQ : ∀ b ∈ Qo, b ∈ R) (a0 : CellsIn w g0 (ringQ pl false).places) (a1 : CellsIn w g1 (ringQ pl true).places) (hl : ActsIn W w (.slice lp l.length lcap) Qo l) (hp : Play pl K clk q S) (hM : ∀ k, pl k ≤ M) (hK : K ≤ 9000) (hlen : l.length ≤ 100) (hcost : (l.map (costA M)).sum ≤ 1500) :
    Calls Tryz.prog 11 #[.pointer (some ⟨pb, 0, none⟩), .int .u64 1, ringsV (ringQ pl false) g0 (pl false) cap0 (ringQ pl true) g1 (pl true) cap1, .slice lp l.length lcap] w (RunPost W R pa pb pl K l q w) := by
  obtain ⟨ver, val, hsc, hv, hqs⟩ := hp.sc
  have hck := hp.ck
  obtain ⟨S', clk', ver', val', f, hgo, hf, hsc', hv', hclk, hqs'⟩ := bodyQ_goes hsc hv hp.few hp.pos hM hqs (l := l) (by omega) (by omega) hcost
  obtain ⟨s', L, nn, erun⟩ := goes_run hgo (by omega) 7000 (by omega) (by omega) (([] : List Nat), (0 : Int))
  have hmid := goes_mid hgo (by omega) (([] : List Nat), (0 : Int))
  obtain ⟨r0, hr0⟩ : ∃ r0, ringQ pl false = r0 := ⟨_, rfl⟩
  obtain ⟨r1, hr1⟩ : ∃ r1, ringQ pl true = r1 := ⟨_, rfl⟩
  have ok0 := ringQ_ok hp.few hp.pos false
  have ok1 := ringQ_ok hp.few hp.pos true
  rw [hr0] at a0 hgo erun hmid ok0 ⊢
  rw [hr1] at a1 hgo erun hmid ok1 ⊢
  obtain ⟨n0, hn0⟩ : ∃ n0, pl false = n0 := ⟨_, rfl⟩
  obtain ⟨n1, hn1⟩ : ∃ n1, pl true = n1 := ⟨_, rfl⟩
  rw [hn0] at ok0 ⊢
  rw [hn1] at ok1 ⊢
  obtain ⟨told, htold⟩ : ∃ told, (mdl pl l [] q).1 = told := ⟨_, rfl⟩
  obtain ⟨fin, hfin⟩ : ∃ fin : Int, (if (mdl pl l [] q).2.2 = true then 1 else 3) = fin := ⟨_, rfl⟩
  obtain ⟨rb, hrb⟩ : ∃ rb, w.heap.size = rb := ⟨_, rfl⟩
  have B0 := (((Below.refl w.heap.size w).alloc (Nat.le_refl _) (.cells #[.int .u64 (r0.ins : Int), .int .u64 (r0.outs : Int), .slice (some ⟨g0, 0, none⟩) n0 cap0, .int .u64 (r1.ins : Int), .int .u64 (r1.outs : Int), .slice (some ⟨g1, 0, none⟩) n1 cap1] 29)).alloc (by simp) (.cells #[.slice none 0 0] 26)).alloc (by simp; omega) (.cells #[.int .i64 0] 3)
  have C0 := ((Cells.new w (ringV r0 g0 n0 cap0 ++ ringV r1 g1 n1 cap1) 29).alloc (.cells #[.slice none 0 0] 26)).alloc (.cells #[.int .i64 0] 3)
  have C1 := (Cells.new (w.alloc (.cells #[.int .u64 (r0.ins : Int), .int .u64 (r0.outs : Int), .slice (some ⟨g0, 0, none⟩) n0 cap0, .int .u64 (r1.ins : Int), .int .u64 (r1.outs : Int), .slice (some ⟨g1, 0, none⟩) n1 cap1] 29)) [.slice none 0 0] 26).alloc (.cells #[.int .i64 0] 3)
  have C2 := Cells.new ((w.alloc (.cells #[.int .u64 (r0.ins : Int), .int .u64 (r0.outs : Int), .slice (some ⟨g0, 0, none⟩) n0 cap0, .int .u64 (r1.ins : Int), .int .u64 (r1.outs : Int), .slice (some ⟨g1, 0, none⟩) n1 cap1] 29)).alloc (.cells #[.slice none 0 0] 26)) [.int .i64 0] 3
  simp only [World.size_alloc] at C1 C2
  obtain ⟨w0, hw0⟩ : ∃ w0, ((w.alloc (.cells #[.int .u64 (r0.ins : Int), .int .u64 (r0.outs : Int), .slice (some ⟨g0, 0, none⟩) n0 cap0, .int .u64 (r1.ins : Int), .int .u64 (r1.outs : Int), .slice (some ⟨g1, 0, none⟩) n1 cap1] 29)).alloc (.cells #[.slice none 0 0] 26)).alloc (.cells #[.int .i64 0] 3) = w0 := ⟨_, rfl⟩
  have hz0 : w0.heap.size = rb + 3 := by rw [← hw0, ← hrb]; simp
  rw [hw0] at B0 C1 C2
  have C0' : Cells w0 rb (ringV r0 g0 n0 cap0 ++ ringV r1 g1 n1 cap1) 29 := by rw [← hw0, ← hrb]; exact C0
  have hk0 := HeldBy.of_below (R := R) B0 h.held
  have h0 := h.came B0 [rb, rb + 1, rb + 1 + 1] (by intro b hb; simp at hb; omega)
  have hW := h.below.size
  rw [hrb] at C1 C2 hW
  obtain ⟨S1, S2, S3⟩ := body29_set (po := rb + 1) (pe := rb + 1 + 1) (clock := 1) (n0 := n0) (cap0 := cap0) (n1 := n1) (cap1 := cap1) h0 (by simp [hg0]) (by simp [hg1]) (fun b hb => by simp [hQ b hb]) (a0.heldBy hk0 hg0) (a1.heldBy hk0 hg1) (hl.heldBy hk0 hQ)
  have hq : (toldAux W (rb + 1) (rb + 1 + 1)).at' ([], 0) [rb + 1, rb + 1 + 1] (bodyWQ w0 1 r0 g0 n0 cap0 r1 g1 n1 cap1 (.slice lp l.length lcap) (rb + 1) (rb + 1 + 1)) := ⟨.slice none 0 0, rfl, by omega, by simp [Value.ownBlock], by simp [Value.ownBlock], by omega, by omega, C1.heldBy (R := [rb + 1]) (HeldBy.of_below S1 (by simp; omega)) (by simp), C2.heldBy (R := [rb + 1 + 1]) (HeldBy.of_below S1 (by simp; omega)) (by simp), World.ownsRow_nil _ _ _ _⟩
  have HN := Lib.hid (tnew_newC S2 (toldAux W (rb + 1) (rb + 1 + 1)) _ hq (by simp) 61 #[.pointer (some ⟨w0.heap.size, 0, none⟩), .pointer (some ⟨w0.heap.size + 1, 0, none⟩), .pointer (some ⟨w0.heap.size + 2, 0, none⟩), .pointer (some ⟨w0.heap.size + 3, 0, none⟩), .pointer (some ⟨w0.heap.size + 4, 0, none⟩)])
  have hz1 : (bodyWQ w0 1 r0 g0 n0 cap0 r1 g1 n1 cap1 (.slice lp l.length lcap) (rb + 1) (rb + 1 + 1)).heap.size = rb + 8 := by simp [bodyWQ, hz0]
  have hF : ∀ k, k < 7000 → (Th.run (treeBody fun _ => bodyQ r0 r1 l 1) k ((Th.start (([] : List Nat), (0 : Int))).err, Th.start (([] : List Nat), (0 : Int)), S)).2.1.done = false → StepBody W pa pb 61 #[.pointer (some ⟨w0.heap.size, 0, none⟩), .pointer (some ⟨w0.heap.size + 1, 0, none⟩), .pointer (some ⟨w0.heap.size + 2, 0, none⟩), .pointer (some ⟨w0.heap.size + 3, 0, none⟩), .pointer (some ⟨w0.heap.size + 4, 0, none⟩)] (toldAux W (rb + 1) (rb + 1 + 1)) (treeBody fun _ => bodyQ r0 r1 l 1) (shQ w0.heap.size (w0.heap.size + 1) (w0.heap.size + 2) (w0.heap.size + 3) (w0.heap.size + 4) g0 g1 Qo) (SharedQ W w0.heap.size (w0.heap.size + 1) (w0.heap.size + 2) (w0.heap.size + 3) (w0.heap.size + 4) (rb + 1) (rb + 1 + 1) g0 n0 cap0 g1 n1 cap1 (.slice lp l.length lcap) Qo l r0 r1 1) (Th.run (treeBody fun _ => bodyQ r0 r1 l 1) k ((Th.start (([] : List Nat), (0 : Int))).err, Th.start (([] : List Nat), (0 : Int)), S)).2.1.aux (Th.run (treeBody fun _ => bodyQ r0 r1 l 1) k ((Th.start (([] : List Nat), (0 : Int))).err, Th.start (([] : List Nat), (0 : Int)), S)).2.1.round ⟨(Th.run (treeBody fun _ => bodyQ r0 r1 l 1) k ((Th.start (([] : List Nat), (0 : Int))).err, Th.start (([] : List Nat), (0 : Int)), S)).2.1.log, 0, false, (Th.run (treeBody fun _ => bodyQ r0 r1 l 1) k ((Th.start (([] : List Nat), (0 : Int))).err, Th.start (([] : List Nat), (0 : Int)), S)).2.2⟩ := fun k _ hd => bodyQ_step hg ok0 ok1 (by omega) hlen (hmid k hd)
  have HFB := Lib.hid hF
  have HER := Lib.hid (show Th.run (treeBody fun _ => bodyQ r0 r1 l 1) 7000 ((Th.start (([] : List Nat), (0 : Int))).err, Th.start (([] : List Nat), (0 : Int)), S) = (0, ⟨L, 0, nn, true, 0, f s'⟩, S') from erun)
  have HFF := Lib.hid (show f s' = (told, fin) by rw [hf s', htold, hfin])
  have HPL := Lib.hid (show Play pl (K + l.length + 1) clk' (if (mdl pl l [] q).2.2 = true then (mdl pl l [] q).2.1 else q) S' from ⟨⟨ver', val', hsc', hv', fun k => (hqs' k).more (by omega)⟩, hp.few, hp.pos, by omega⟩)
  have HS1 := Lib.hid S1; have HS2 := Lib.hid S2; have HS3 := Lib.hid S3; have HK0 := Lib.hid hk0; have HLT := Lib.hid (show ∀ b ∈ R, b < rb by rw [← hrb]; exact h.held); have HZ0 := Lib.hid hz0; have HG0 := Lib.hid hg0; have HG1 := Lib.hid hg1; have HQ := Lib.hid hQ; have HRB := Lib.hid hrb; have HW0 := Lib.hid hw0; have HTOLD := Lib.hid htold; have HFIN := Lib.hid hfin; have HZ1 := Lib.hid hz1
  have k0 : w0.cell? ⟨rb, 0, none⟩ = some (.int .u64 (r0.ins : Int)) := C0'.cell 0
  have k1 : w0.cell? ⟨rb, 1, none⟩ = some (.int .u64 (r0.outs : Int)) := C0'.cell 1
  have k2 : w0.cell? ⟨rb, 2, none⟩ = some (.slice (some ⟨g0, 0, none⟩) n0 cap0) := C0'.cell 2
  have k3 : w0.cell? ⟨rb, 3, none⟩ = some (.int .u64 (r1.ins : Int)) := C0'.cell 3
  have k4 : w0.cell? ⟨rb, 4, none⟩ = some (.int .u64 (r1.outs : Int)) := C0'.cell 4
  have k5 : w0.cell? ⟨rb, 5, none⟩ = some (.slice (some ⟨g1, 0, none⟩) n1 cap1) := C0'.cell 5
  obtain ⟨len, hll⟩ : ∃ len, l.length = len := ⟨_, rfl⟩
  rw [hll] at HN HS1 HS2 HS3 HFB HZ1 ⊢
  clear hsc hv hqs hck hgo hf hsc' hv' hclk hqs' erun hmid hp ok0 ok1 B0 C0 C1 C2 C0' hz0 hk0 h0 hW S1 S2 S3 hq h hg0 hg1 hQ a0 a1 hl hM hK hlen hcost hg hz1 hF hr0 hr1 hn0 hn1 htold hfin hrb hw0
  unfold ringsV
  go_enter Tryz.func11, Tryz.ntmps11
  go_wp2_with fail
  rw [HW0.out, HRB.out]
  refine (body29_ok 1 r0 g0 n0 cap0 r1 g1 n1 cap1 lp len lcap (rb + 1) (rb + 1 + 1) w0).mono ?_
  rintro e w1 ⟨fv, rfl, rfl, rfl⟩
  clear k0 k1 k2 k3 k4 k5
  go_wp2_with fail
  refine HN.out.mono ?_
  rintro e w2 ⟨pt, rfl, ht, hh2, hb2, hpt⟩
  rw [HZ1.out] at hpt
  have hk2 := HeldBy.of_below hb2 HS2.out.held
  have hP := HS3.out.heldBy hk2 (by
    intro b hb
    have := HG0.out
    have := HG1.out
    have := HQ.out b
    simp [shQ] at hb ⊢
    rcases hb with q | q | q | q | q | q | q | q <;> simp_all)
  obtain ⟨z, hz⟩ : ∃ z, w0.heap.size = z := ⟨_, rfl⟩
  have hze : z = rb + 3 := by rw [← hz, HZ0.out]
  rw [hz] at ht hh2 hP hk2
  rw [hz] at HFB
  have hR := trun_at (R := [z, z + 1, z + 2, z + 3, z + 4] ++ (rb :: R)) (S := S) ht (hh2.less (by
    intro b hb
    simp at hb ⊢
    rcases hb with q | q | q | q | q | q | q | q | q | q <;> simp [q])) (by
    intro b hb hm
    simp at hb hm
    rcases hm with q | q | q | q | q | q | q
    all_goals first
      | omega
      | (have := HLT.out b q; omega)) (by
    intro b hb
    have := HG0.out
    have := HG1.out
    have := HQ.out b
    simp [shQ] at hb ⊢
    rcases hb with q | q | q | q | q | q | q | q <;> simp_all) hP 7000 HFB.out (by show 0 + 7000 ≤ 3000000000; omega)
  rw [HER.out] at hR
  have HR := Lib.hid hR
  have hlo : ∀ b ∈ rb :: R, b < rb + 1 := fun b hb => by
    rcases List.mem_cons.1 hb with q | q
    · omega
    · have := HLT.out b q
      omega
  have HKW := Lib.hid (show HeldBy R w0 w2 from (HeldBy.of_below HS1.out (fun b hb => by have := HLT.out b hb; have := HZ0.out; omega)).trans (HeldBy.of_below hb2 (fun b hb => by have := HLT.out b hb; have := HZ1.out; omega)))
  clear ht hh2 hb2 hpt hk2 hP hR HN HS1 HS2 HS3 hlo HER HFB
  go_wp2_with fail
  refine HR.out.mono ?_
  rintro e w3 ⟨v, E, B', rfl, he, ht3, hh3, hk3, -, hB3⟩
  simp only at he ht3 hh3
  obtain ⟨rfl, rfl⟩ := he.isNil rfl
  obtain ⟨lv, ev, E2, Q2, rfl, hl⟩ := ht3
  have hau := hl.aux
  rw [HFF.out] at hau
  obtain ⟨lvt, rfl, -, -, -, -, -, b1, b2, b3⟩ := hau
  obtain ⟨pr, cr, rfl⟩ := ownsRow_shape b3
  have q1 : w3.cell? ⟨rb + 1, 0, none⟩ = some (.slice pr told.length cr) := b1.cell 0
  have q2 : w3.cell? ⟨rb + 1 + 1, 0, none⟩ = some (.int .i64 fin) := b2.cell 0
  have HF := Lib.hid (show RunPost W R pa pb pl K l q w (.returned (.tuple #[.slice pr told.length cr, .int .i64 fin, .int .i64 0])) w3.drew from ⟨S', clk', .slice pr told.length cr, by rw [HFIN.out], (hh3.less (R' := (Value.slice pr told.length cr).ownBlock.toList ++ R) (fun b hb => by
      simp only [List.mem_append, List.mem_cons] at hb ⊢
      rcases hb with q | q <;> simp [q])).drewN 1, HK0.out.trans (HKW.out.trans (hk3.less fun b hb => by simp [hb])), by rw [HTOLD.out]; exact b3, HPL.out⟩)
  clear he hl hh3 hk3 hB3 b1 b2 b3 HR
  go_wp2_with (go_at_call 22; refine (no_nil _).mono ?_; rintro e w' ⟨rfl, rfl⟩)
  go_region_held3 (fun w' => w'.cell? ⟨rb + 1, 0, none⟩ = some (.slice pr told.length cr) ∧ w'.cell? ⟨rb + 1 + 1, 0, none⟩ = some (.int .i64 fin))
    (first | with_reducible exact ⟨q1, q2⟩ | go_keep)
    (fail)
  go_wp2
  go_ret3
  exact HF.out
end Go.Proofs.YtkpdacfiglpgeaaGreatDoor
