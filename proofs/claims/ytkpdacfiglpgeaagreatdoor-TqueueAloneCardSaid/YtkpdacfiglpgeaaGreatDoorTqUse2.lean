/- TqUse2: TqUse, TqUse2. -/
import Derived.Test.YtkpdacfiglpgeaaGreatDoorTxn
import Derived.Test.YtkpdacfiglpgeaaGreatDoorTqPlain
import Derived.StillTailTactics

/- Layer 29 (tqueue): a queue in a transaction: its state, its places. -/
namespace Go.Proofs.YtkpdacfiglpgeaaGreatDoor
open Go.RowKit Bl Th
set_option maxRecDepth 10000

theorem wrap_add (a x : Nat) : IntKind.u64.wrap ((a : Int) + (x : Int)) = (((a + x) % 18446744073709551616 : Nat) : Int) := by
  show ((a : Int) + (x : Int)) % 18446744073709551616 = _
  omega
theorem wrap_incU (a : Nat) : IntKind.u64.wrap ((a : Int) + 1) = ((inc a : Nat) : Int) := by
  show ((a : Int) + 1) % 18446744073709551616 = _
  unfold inc
  omega
theorem wrap_sub {a b : Nat} (ha : a < 18446744073709551616) (hb : b < 18446744073709551616) : IntKind.u64.wrap ((a : Int) - (b : Int)) = ((subU a b : Nat) : Int) := by
  show ((a : Int) - (b : Int)) % 18446744073709551616 = _
  unfold subU
  omega
theorem subU_lt (a b : Nat) : subU a b < 18446744073709551616 := Nat.mod_lt _ (by omega)
/-- Words, in their block. -/
def CellsIn (w : World) (g : Nat) (cells : List Nat) : Prop := ∀ (k x : Nat), cells[k]? = some x → w.cell? ⟨g, k, none⟩ = some (.int .u64 (x : Int))
theorem CellsIn.heldBy {w w' : World} {g : Nat} {cells : List Nat} {R : List Nat} (h : CellsIn w g cells) (k : HeldBy R w w') (hg : g ∈ R) : CellsIn w' g cells := fun i x hx => (k.cell (a := ⟨g, i, none⟩) hg).trans (h i x hx)
/-- A queue in a transaction, in memory. -/
structure UseAt (px pu g n cap : Nat) (r : Ring) (w : World) : Prop where
  main : Cells w pu [.pointer (some ⟨px, 0, none⟩), .int .u64 (r.ins : Int), .int .u64 (r.outs : Int), .slice (some ⟨g, 0, none⟩) n cap] 206
  arr : CellsIn w g r.places
theorem UseAt.heldBy {px pu g n cap : Nat} {r : Ring} {w w' : World} {R : List Nat} (h : UseAt px pu g n cap r w) (k : HeldBy R w w') (h1 : pu ∈ R) (h2 : g ∈ R) : UseAt px pu g n cap r w' := ⟨h.main.heldBy k h1, h.arr.heldBy k h2⟩
structure RingOk (r : Ring) (n : Nat) : Prop where
  len : r.places.length = n
  pos : 1 ≤ n
  few : n ≤ 1000
  ins : r.ins < 18446744073709551616
  outs : r.outs < 18446744073709551616
  fit : ∀ x ∈ r.places, x < 18446744073709551616
theorem RingOk.plc {r : Ring} {n : Nat} (h : RingOk r n) (k : Nat) : ∃ x, r.places[k % n]? = some x ∧ plc r k = x ∧ x < 18446744073709551616 := by
  have hl : k % n < r.places.length := by rw [h.len]; exact Nat.mod_lt _ (by have := h.pos; omega)
  refine ⟨r.places[k % n], List.getElem?_eq_getElem hl, ?_, h.fit _ (List.getElem_mem hl)⟩
  unfold Th.plc
  rw [h.len, List.getD_eq_getElem?_getD, List.getElem?_eq_getElem hl]
  rfl
/-- What holds where a queue's call begins. -/
structure QIn (W : World) (R B : List Nat) (pa pb pc pt px pu g n cap : Nat) (r : Ring) (t : Tx) (c : CS) (w : World) : Prop where
  ctx : Ctx W (B ++ R) pa pb pc c w
  tx : TxAt W pt t B w
  apart : ∀ b ∈ B, b ∉ R
  tn : TnAt px pt pc w
  inX : px ∈ R
  use : UseAt px pu g n cap r w
  inU : pu ∈ R
  inG : g ∈ R
  ok : RingOk r n
  hand : Handle W
section
variable {W : World} {R B B' B0 E : List Nat} {pa pb pc pt px pu g n cap : Nat} {r : Ring} {t t' : Tx} {c c' : CS} {w w' w0 : World}
theorem QIn.loR (h : QIn W R B pa pb pc pt px pu g n cap r t c w) : ∀ b ∈ R, b < w.heap.size := fun b hb => h.ctx.heldR b (List.mem_append_right _ hb)
theorem QIn.next (h : QIn W R B pa pb pc pt px pu g n cap r t c w) (ht : TxAt W pt t' B' w') (hc : Ctx W ([] ++ (B' ++ R)) pa pb pc c' w') (hh : HeldBy R w w') (hB : ∀ b ∈ [] ++ B', b ∈ B ∨ w.heap.size ≤ b) : QIn W R B' pa pb pc pt px pu g n cap r t' c' w' :=
  ⟨hc, ht, fun b hb hm => by
    rcases hB b hb with q | q
    · exact h.apart b q hm
    · have := h.loR b hm
      omega, h.tn.heldBy hh h.inX, h.inX, h.use.heldBy hh h.inU h.inG, h.inU, h.inG, h.ok, h.hand⟩
theorem QIn.under (h : QIn W R B pa pb pc pt px pu g n cap r t c w) (hb : Below w.heap.size w w') : QIn W R B pa pb pc pt px pu g n cap r t c w' := by
  have hh := HeldBy.of_below (R := B ++ R) hb h.ctx.heldR
  have hr : HeldBy R w w' := hh.less fun b hb => by simp [hb]
  exact ⟨h.ctx.under hb, h.tx.heldBy hh (fun b hb => by simp [hb]), h.apart, h.tn.heldBy hr h.inX, h.inX, h.use.heldBy hr h.inU h.inG, h.inU, h.inG, h.ok, h.hand⟩
/-- Along a call's way. -/
structure QMid (W : World) (R B0 : List Nat) (pa pb pc pt px pu g n cap : Nat) (r : Ring) (w0 : World) (B : List Nat) (t : Tx) (c : CS) (w : World) : Prop where
  q : QIn W R B pa pb pc pt px pu g n cap r t c w
  held : HeldBy R w0 w
  old : ∀ b ∈ B, b ∈ B0 ∨ w0.heap.size ≤ b
theorem QIn.mid (h : QIn W R B pa pb pc pt px pu g n cap r t c w) : QMid W R B pa pb pc pt px pu g n cap r w B t c w := ⟨h, HeldBy.refl _ _, fun _ hb => .inl hb⟩
theorem QMid.next (h : QMid W R B0 pa pb pc pt px pu g n cap r w0 B t c w) (ht : TxAt W pt t' B' w') (hc : Ctx W ([] ++ (B' ++ R)) pa pb pc c' w') (hh : HeldBy R w w') (hB : ∀ b ∈ [] ++ B', b ∈ B ∨ w.heap.size ≤ b) : QMid W R B0 pa pb pc pt px pu g n cap r w0 B' t' c' w' :=
  ⟨h.q.next ht hc hh hB, h.held.trans hh, fun b hb => by
    rcases hB b hb with q | q
    · exact h.old b q
    · exact .inr (Nat.le_trans h.held.1 q)⟩
theorem QMid.under (h : QMid W R B0 pa pb pc pt px pu g n cap r w0 B t c w) (hb : Below w.heap.size w w') : QMid W R B0 pa pb pc pt px pu g n cap r w0 B t c w' :=
  ⟨h.q.under hb, h.held.trans (HeldBy.of_below hb h.q.loR), h.old⟩
theorem QMid.drew (h : QMid W R B0 pa pb pc pt px pu g n cap r w0 B t c w) (k : Nat) : QMid W R B0 pa pb pc pt px pu g n cap r w0 B t c (w.drewN k) := h.under (below_drewN (Below.refl _ _) k)
/-- The end of a call. -/
theorem QMid.fin {α : Type} {p : Tree (Nat × α)} {c0 : CS} {G : α → Prop} {tx : α → Tx} {mk : α → Value → Value} {m : Nat} {x : α} {v : Value} (h : QMid W R B0 pa pb pc pt px pu g n cap r w0 B t c w) (hx : exec p c0 = ((m, x), c')) (hG : G x) (he : Err w' v m E) (ht : TxAt W pt (tx x) B' w') (hc : Ctx W (E ++ (B' ++ R)) pa pb pc c' w') (hh : HeldBy R w w') (hB : ∀ b ∈ E ++ B', b ∈ B ∨ w.heap.size ≤ b) (hEB : ∀ b ∈ E, b ∉ B') : TxPost W R pa pb pc pt B0 w0 p c0 G tx mk (.returned (mk x v)) w' :=
  ⟨m, x, c', v, E, B', hx, hG, rfl, he, ht, hc, h.held.trans hh, fun b hb => by
    rcases hB b hb with q | q
    · exact h.old b q
    · exact .inr (Nat.le_trans h.held.1 q), hEB⟩
/-- The end of a call without a further one; an error of a number. -/
theorem QMid.ret {α : Type} {p : Tree (Nat × α)} {c0 : CS} {G : α → Prop} {tx : α → Tx} {mk : α → Value → Value} {m : Nat} {x : α} {v : Value} (h : QMid W R B0 pa pb pc pt px pu g n cap r w0 B t c w) (hx : exec p c0 = ((m, x), c)) (hG : G x) (he : Err w v m []) (ht : tx x = t) : TxPost W R pa pb pc pt B0 w0 p c0 G tx mk (.returned (mk x v)) w :=
  ⟨m, x, c, v, [], B, hx, hG, rfl, he, by rw [ht]; exact h.q.tx, h.q.ctx, h.held, fun b hb => h.old b (by simpa using hb), by simp⟩
/-- A read, a write. -/
theorem QMid.read (h : QMid W R B0 pa pb pc pt px pu g n cap r w0 B t c w) {cell : Nat} (hcell : cell < 18446744073709551616) :
    Calls Tryz.prog 115 #[.pointer (some ⟨px, 0, none⟩), .int .u64 (cell : Int)] w (TxPost W R pa pb pc pt B w (tRead t cell) c (fun x : Nat × Tx => x.1 < 18446744073709551616) Prod.snd (fun (x : Nat × Tx) v => .tuple #[.int .u64 (x.1 : Int), v])) :=
  xread_ok h.q.ctx h.q.hand h.q.tx h.q.apart h.q.tn h.q.inX hcell
theorem QMid.write (h : QMid W R B0 pa pb pc pt px pu g n cap r w0 B t c w) {cell value : Nat} (hcell : cell < 18446744073709551616) (hv : value < 18446744073709551616) (hlog : t.sets.log.length < 1000000000) :
    Calls Tryz.prog 116 #[.pointer (some ⟨px, 0, none⟩), .int .u64 (cell : Int), .int .u64 (value : Int)] w (TxPost W R pa pb pc pt B w (.ret (tWrite t cell value)) c (fun _ => True) id (fun _ v => v)) := by
  refine (xwrite_ok h.q.tx h.q.tn hcell hv h.q.ctx.below.size hlog).mono ?_
  rintro e w3 ⟨v3, E3, B3, rfl, he3, ht3, hk3, hB3, hE3, hEB3⟩
  obtain ⟨e1, e2⟩ := TxSet.ctx h.q.ctx h.q.tx.new h.q.apart he3 ht3 hk3 hB3 hE3
  exact ⟨_, _, c, v3, E3, B3, rfl, trivial, rfl, he3, ht3, e1, e2, fun b hb => by
    rcases List.mem_append.1 hb with q | q
    · exact .inr (hE3 b q)
    · exact hB3 b q, hEB3⟩
end
theorem xctx_ok {pt px pc : Nat} {w : World} (hx : TnAt px pt pc w) : Calls Tryz.prog 159 #[.pointer (some ⟨px, 0, none⟩)] w fun e w' => e = .returned (.pointer (some ⟨pc, 0, none⟩)) ∧ w = w' := by
  have HM := Lib.hid (xmade_ok hx)
  obtain ⟨p0, p1⟩ := hx.two
  clear hx
  go_enter Tryz.func159, Tryz.ntmps159
  go_wp2_with (go_at_call 69; refine HM.out.mono ?_; rintro e w' ⟨rfl, rfl⟩)
  go_ret
  exact ⟨rfl, rfl⟩
/-- The n-th place. -/
theorem qplace_ok {px pu g n cap : Nat} {r : Ring} {w : World} (h : UseAt px pu g n cap r w) (ho : RingOk r n) (k : Nat) : Calls Tryz.prog 132 #[.pointer (some ⟨pu, 0, none⟩), .int .u64 (k : Int)] w fun e w' => e = .returned (.int .u64 (plc r k : Int)) ∧ w' = w.drew := by
  obtain ⟨x, hx, e, -⟩ := ho.plc k
  rw [e]
  have q := h.arr (k % n) x hx
  obtain ⟨p0, p1, p2, p3, -⟩ := four h.main
  have h1 := ho.pos
  have h2 := ho.few
  have hlt : k % n < n := Nat.mod_lt _ (by omega)
  have g2 : (k : Int).tmod (n : Int) = ((k % n : Nat) : Int) := by rw [Int.ofNat_tmod]
  have g3 : IntKind.u64.wrap (n : Int) = (n : Int) := by show (n : Int) % 18446744073709551616 = _; omega
  have g4 : ((n : Int) == 0) = false := by simp; omega
  have g5 : (n == 0) = false := by simp; omega
  have hn0 : ¬ n = 0 := by omega
  have hlt' : ((k % n : Nat) : Int) < (n : Int) := by omega
  obtain ⟨m, hm⟩ : ∃ m, k % n = m := ⟨_, rfl⟩
  rw [hm] at g2 hlt' hlt q
  clear h hx ho e hm
  go_enter Tryz.func132, Tryz.ntmps132
  go_wp2
  go_region_held3 (fun w' => w'.cell? ⟨pu, 3, none⟩ = some (.slice (some ⟨g, 0, none⟩) n cap) ∧ w'.cell? ⟨g, m, none⟩ = some (.int .u64 (x : Int)))
    (first | with_reducible exact ⟨p3, q⟩ | go_keep)
    (fail)
  go_wp2
  go_ret
  exact ⟨rfl, rfl⟩
set_option maxHeartbeats 2000000 in
theorem qstate_ok {W : World} {R B : List Nat} {pa pb pc pt px pu g n cap : Nat} {r : Ring} {t : Tx} {c : CS} {w : World} (h : QIn W R B pa pb pc pt px pu g n cap r t c w) :
    Calls Tryz.prog 131 #[.pointer (some ⟨pu, 0, none⟩)] w (TxPost W R pa pb pc pt B w (qState r t) c (fun x : (Nat × Nat) × Tx => x.1.1 < 18446744073709551616 ∧ x.1.2 < 18446744073709551616) Prod.snd (fun (x : (Nat × Nat) × Tx) v => .tuple #[.int .u64 (x.1.1 : Int), .int .u64 (x.1.2 : Int), v])) := by
  have HCX := Lib.hid (xctx_ok h.tn)
  obtain ⟨p0, p1, p2, p3, -⟩ := four h.use.main
  have hm := h.mid.drew 1
  have HM := Lib.hid hm
  have HR := Lib.hid (hm.read h.ok.ins)
  have h1 := h.ok.pos
  have g4 : ((n : Int) == 0) = false := by simp; omega
  clear h hm h1
  go_enter Tryz.func131, Tryz.ntmps131
  go_wp2_with (go_at_call 159; refine HCX.out.mono ?_; rintro e w' ⟨rfl, rfl⟩)
  go_region_held3 (fun w' => w'.cell? ⟨pu, 0, none⟩ = some (.pointer (some ⟨px, 0, none⟩)) ∧ w'.cell? ⟨pu, 1, none⟩ = some (.int .u64 (r.ins : Int)))
    (first | with_reducible exact ⟨p0, p1⟩ | with_reducible exact ⟨k0, k1⟩ | go_keep)
    (first | (go_at_call 115; refine HR.out.mono ?_; rintro e w1 ⟨n1, ⟨x1, t1⟩, c1, v1, E1, B1, hx1, hG1, rfl, he1, ht1, hc1, hh1, hB1, hEB1⟩; obtain ⟨k0, k1, k2, k3, -⟩ := four (HM.out.q.use.heldBy hh1 HM.out.q.inU HM.out.q.inG).main; have HX1 := Lib.hid hx1; have HG1 := Lib.hid hG1; have HE1 := Lib.hid he1; have HT1 := Lib.hid ht1; have HC1 := Lib.hid hc1; have HH1 := Lib.hid hh1; have HB1 := Lib.hid hB1; have HEB1 := Lib.hid hEB1; clear hx1 hG1 he1 ht1 hc1 hh1 hB1 hEB1))
  by_cases h0 : n1 = 0
  · subst h0
    obtain ⟨rfl, rfl⟩ := HE1.out.isNil rfl
    have hm := (HM.out.next HT1.out HC1.out HH1.out HB1.out).drew 1
    have HM2 := Lib.hid hm
    have HR2 := Lib.hid (hm.read hm.q.ok.outs)
    clear hm p0 p1 p2 p3
    go_wp2
    go_region_held3 (fun w' => w'.cell? ⟨pu, 0, none⟩ = some (.pointer (some ⟨px, 0, none⟩)) ∧ w'.cell? ⟨pu, 2, none⟩ = some (.int .u64 (r.outs : Int)))
      (first | with_reducible exact ⟨k0, k2⟩ | with_reducible exact ⟨m0, m2⟩ | go_keep)
      (first | (go_at_call 115; refine HR2.out.mono ?_; rintro e w2 ⟨n2, ⟨x2, t2⟩, c2, v2, E2, B2, hx2, hG2, rfl, he2, ht2, hc2, hh2, hB2, hEB2⟩; obtain ⟨m0, m1, m2, m3, -⟩ := four (HM2.out.q.use.heldBy hh2 HM2.out.q.inU HM2.out.q.inG).main; have HF := Lib.hid (show TxPost W R pa pb pc pt B w (qState r t) c (fun x : (Nat × Nat) × Tx => x.1.1 < 18446744073709551616 ∧ x.1.2 < 18446744073709551616) Prod.snd (fun (x : (Nat × Nat) × Tx) v => .tuple #[.int .u64 (x.1.1 : Int), .int .u64 (x.1.2 : Int), v]) (.returned (.tuple #[.int .u64 (x1 : Int), .int .u64 (x2 : Int), v2])) w2 from HM2.out.fin (mk := (fun (x : (Nat × Nat) × Tx) v => .tuple #[.int .u64 (x.1.1 : Int), .int .u64 (x.1.2 : Int), v])) (x := ((x1, x2), t2)) (by simp only [qState, exec_bind, HX1.out, if_true, hx2, exec]) ⟨HG1.out, hG2⟩ he2 ht2 hc2 hh2 hB2 hEB2); clear hx2 hG2 he2 ht2 hc2 hh2 hB2 hEB2))
    all_goals
      go_wp2
      go_ret3
      exact HF.out
  · have HF := Lib.hid (show TxPost W R pa pb pc pt B w (qState r t) c (fun x : (Nat × Nat) × Tx => x.1.1 < 18446744073709551616 ∧ x.1.2 < 18446744073709551616) Prod.snd (fun (x : (Nat × Nat) × Tx) v => .tuple #[.int .u64 (x.1.1 : Int), .int .u64 (x.1.2 : Int), v]) (.returned (.tuple #[.int .u64 ((0 : Nat) : Int), .int .u64 ((0 : Nat) : Int), v1])) w1 from HM.out.fin (mk := (fun (x : (Nat × Nat) × Tx) v => .tuple #[.int .u64 (x.1.1 : Int), .int .u64 (x.1.2 : Int), v])) (x := ((0, 0), t1)) (by simp only [qState, exec_bind, HX1.out, if_neg h0, exec]) ⟨by simp, by simp⟩ HE1.out HT1.out HC1.out HH1.out HB1.out HEB1.out)
    obtain ⟨tt, xx, rfl⟩ := HE1.out.iface h0
    go_wp2
    go_ret3
    exact HF.out
end Go.Proofs.YtkpdacfiglpgeaaGreatDoor

/- Layer 29 (tqueue): Len, Put, Peek, Take, Try. -/
namespace Go.Proofs.YtkpdacfiglpgeaaGreatDoor
open Go.RowKit Bl Th
set_option maxRecDepth 10000

section
variable {W : World} {R B : List Nat} {pa pb pc pt px pu g n cap : Nat} {r : Ring} {t : Tx} {c : CS} {w : World}
theorem qState_log (r : Ring) (t : Tx) (c : CS) : (exec (qState r t) c).1.2.2.sets.log = t.sets.log ∧ (exec (qState r t) c).1.2.2.sets.marks = t.sets.marks := by
  have h1 := tRead_same t r.ins c
  unfold qState
  simp only [exec_bind]
  split
  · have h2 := tRead_same (exec (tRead t r.ins) c).1.2.2 r.outs (exec (tRead t r.ins) c).2
    simp only [exec_bind]
    exact ⟨h2.1.trans h1.1, h2.2.trans h1.2⟩
  · exact h1
theorem qPeek_log (r : Ring) (t : Tx) (c : CS) : (exec (qPeek r t) c).1.2.2.sets.log = t.sets.log ∧ (exec (qPeek r t) c).1.2.2.sets.marks = t.sets.marks := by
  have h1 := qState_log r t c
  unfold qPeek
  simp only [exec_bind]
  split
  · split
    · exact h1
    · have h2 := tRead_same (exec (qState r t) c).1.2.2 (plc r (exec (qState r t) c).1.2.1.2) (exec (qState r t) c).2
      exact ⟨h2.1.trans h1.1, h2.2.trans h1.2⟩
  · exact h1
theorem logOf {α : Type} {p : Tree (Nat × α)} {f : α → Tx} {t : Tx} {c c' : CS} {m : Nat} {x : α} (h : (f (exec p c).1.2).sets.log = t.sets.log ∧ (f (exec p c).1.2).sets.marks = t.sets.marks) (hx : exec p c = ((m, x), c')) : (f x).sets.log = t.sets.log ∧ (f x).sets.marks = t.sets.marks := by
  rw [hx] at h
  exact h
theorem TxPost.under {α : Type} {p : Tree (Nat × α)} {G : α → Prop} {tx : α → Tx} {mk : α → Value → Value} {e : Ending} {w' w2 : World} (h : TxPost W R pa pb pc pt B w p c G tx mk e w') (hb : Below w'.heap.size w' w2) : TxPost W R pa pb pc pt B w p c G tx mk e w2 := by
  obtain ⟨m, x, c', v, E, B', h1, h2, h3, h4, h5, h6, h7, h8, h9⟩ := h
  have k := HeldBy.of_below hb h6.heldR
  exact ⟨m, x, c', v, E, B', h1, h2, h3, h4.heldBy k (fun b hb => by simp [hb]), h5.heldBy k (fun b hb => by simp [hb]), h6.under hb, h7.trans (k.less fun b hb => by simp [hb]), h8, h9⟩
theorem toI_fit (x : Nat) (h : x < 18446744073709551616) : -9223372036854775808 ≤ toI x ∧ toI x < 9223372036854775808 := by
  unfold toI
  split <;> omega
theorem qlen_ok (h : QIn W R B pa pb pc pt px pu g n cap r t c w) :
    Calls Tryz.prog 88 #[.pointer (some ⟨pu, 0, none⟩)] w (TxPost W R pa pb pc pt B w (qLen r t) c (fun x : Int × Tx => -9223372036854775808 ≤ x.1 ∧ x.1 < 9223372036854775808) Prod.snd (fun (x : Int × Tx) v => .tuple #[.int .i64 x.1, v])) := by
  have HS := Lib.hid (qstate_ok h)
  have HM := Lib.hid h.mid
  clear h
  go_enter Tryz.func88, Tryz.ntmps88
  go_wp2_with fail
  refine HS.out.mono ?_
  rintro e w1 ⟨n1, ⟨⟨a, b⟩, t1⟩, c1, v1, E1, B1, hx1, ⟨ha, hb⟩, rfl, he1, ht1, hc1, hh1, hB1, hEB1⟩
  have g1 := wrap_sub ha hb
  have g2 := wrap_toI (subU a b) (subU_lt a b)
  have HF := Lib.hid (show TxPost W R pa pb pc pt B w (qLen r t) c (fun x : Int × Tx => -9223372036854775808 ≤ x.1 ∧ x.1 < 9223372036854775808) Prod.snd (fun (x : Int × Tx) v => .tuple #[.int .i64 x.1, v]) (.returned (.tuple #[.int .i64 (toI (subU a b)), v1])) w1 from HM.out.fin (mk := (fun (x : Int × Tx) v => .tuple #[.int .i64 x.1, v])) (x := (toI (subU a b), t1)) (by simp only [qLen, exec_bind, hx1, exec]) (toI_fit _ (subU_lt a b)) he1 ht1 hc1 hh1 hB1 hEB1)
  clear hx1 he1 ht1 hc1 hh1 hB1 hEB1 ha hb
  go_wp2
  go_ret2
  rw [g2]
  exact HF.out
set_option maxHeartbeats 2000000 in
theorem qput_ok (h : QIn W R B pa pb pc pt px pu g n cap r t c w) {x : Nat} (hx : x < 18446744073709551616) (hlog : t.sets.log.length < 900000000) :
    Calls Tryz.prog 89 #[.pointer (some ⟨pu, 0, none⟩), .int .u64 (x : Int)] w (TxPost W R pa pb pc pt B w (qPut r x t) c (fun _ => True) id (fun _ v => v)) := by
  have HS := Lib.hid (qstate_ok h)
  have HM := Lib.hid h.mid
  have HX := Lib.hid hx; have HLG := Lib.hid hlog
  clear h hx hlog
  go_enter Tryz.func89, Tryz.ntmps89
  go_wp2_with fail
  refine HS.out.mono ?_
  rintro e w1 ⟨n1, ⟨⟨a, b⟩, t1⟩, c1, v1, E1, B1, hx1, ⟨ha, hb⟩, rfl, he1, ht1, hc1, hh1, hB1, hEB1⟩
  have HX1 := Lib.hid hx1
  have hl1 : t1.sets.log = t.sets.log ∧ t1.sets.marks = t.sets.marks := logOf (f := Prod.snd) (qState_log r t c) hx1
  by_cases h0 : n1 = 0
  · subst h0
    obtain ⟨rfl, rfl⟩ := he1.isNil rfl
    have hm := HM.out.next ht1 hc1 hh1 hB1
    obtain ⟨p0, p1, p2, p3, -⟩ := four hm.q.use.main
    have HM1 := Lib.hid hm
    have g1 := wrap_sub ha hb
    have h2 := hm.q.ok.few
    have g3 : IntKind.u64.wrap (n : Int) = (n : Int) := by show (n : Int) % 18446744073709551616 = _; omega
    have hlen := hm.q.ok.len
    obtain ⟨d, hd⟩ : ∃ d, subU a b = d := ⟨_, rfl⟩
    rw [hd] at g1
    have HA := Lib.hid ha; have HL1 := Lib.hid hl1
    clear hx1 he1 ht1 hc1 hh1 hB1 hEB1 ha hb
    by_cases hdn : d = n
    · have g5 : ((d : Int) == (n : Int)) = true := by simp [hdn]
      have HF := Lib.hid (show TxPost W R pa pb pc pt B w (qPut r x t) c (fun _ => True) id (fun _ v => v) (.returned (.iface 118 (.int .i64 13))) w1 from HM1.out.ret (mk := fun _ v => v) (m := 13) (x := t1) (by simp only [qPut, exec_bind, HX1.out, qPutIn, if_true, hd, hlen, hdn, exec]) trivial (.no 13 (by omega) (by omega)) rfl)
      clear hm hd hdn hlen h2 hl1
      go_wp2
      go_ret
      exact HF.out
    · have g5 : ((d : Int) == (n : Int)) = false := by simp; omega
      obtain ⟨pl, hpl⟩ : ∃ pl, plc r a = pl := ⟨_, rfl⟩
      have hplt : pl < 18446744073709551616 := by
        obtain ⟨y, -, e1, e2⟩ := hm.q.ok.plc a
        rw [← hpl, e1]; exact e2
      have hmd := (hm.drew 1).under (below_drewN (Below.refl _ _) 1)
      have HP := Lib.hid (qplace_ok (hm.drew 1).q.use hm.q.ok a)
      rw [hpl] at HP
      have HW := Lib.hid (hmd.write hplt HX.out (by rw [hl1.1]; have := HLG.out; omega))
      have HMD := Lib.hid hmd
      have kd : (w1.drewN 1).drew.cell? ⟨pu, 0, none⟩ = some (.pointer (some ⟨px, 0, none⟩)) := p0
      have HD := Lib.hid hd; have HDN := Lib.hid hdn; have HLEN := Lib.hid hlen; have HPL := Lib.hid hpl
      clear hm hmd hd hdn hlen h2 hl1 hpl hplt
      go_wp2
      go_region_held3 (fun w' => w'.cell? ⟨pu, 0, none⟩ = some (.pointer (some ⟨px, 0, none⟩)))
        (first | with_reducible exact p0 | with_reducible exact k0 | exact kd | go_keep)
        (first
          | (go_at_call 116; refine HW.out.mono ?_; rintro e w3 ⟨n3, t3, c3, v3, E3, B3, hx3, -, rfl, he3, ht3, hc3, hh3, hB3, hEB3⟩; obtain ⟨k0, k1, k2, k3, -⟩ := four (HMD.out.q.use.heldBy hh3 HMD.out.q.inU HMD.out.q.inG).main; have HX3 := Lib.hid hx3; have HE3 := Lib.hid he3; have HT3 := Lib.hid ht3; have HC3 := Lib.hid hc3; have HH3 := Lib.hid hh3; have HB3 := Lib.hid hB3; have HEB3 := Lib.hid hEB3; clear hx3 he3 ht3 hc3 hh3 hB3 hEB3)
          | (go_at_call 132; refine HP.out.mono ?_; rintro e w' ⟨rfl, rfl⟩))
      by_cases h3 : n3 = 0
      · subst h3
        obtain ⟨rfl, rfl⟩ := HE3.out.isNil rfl
        have hx3 := HX3.out
        simp only [exec, Prod.mk.injEq] at hx3
        obtain ⟨hw, rfl⟩ := hx3
        have hw1 := congrArg Prod.fst hw
        have hw2 := congrArg Prod.snd hw
        simp only at hw1 hw2
        clear hw
        have hwr := tWrite_same t1 pl x
        have hm := HMD.out.next HT3.out HC3.out HH3.out HB3.out
        have hmd := hm.drew 1
        have HW2 := Lib.hid (hmd.write (value := inc a) hmd.q.ok.ins (inc_lt a) (by have := HLG.out; have h5 := hwr.2.1; rw [HL1.out.1] at h5; simp only [id]; rw [← hw2]; omega))
        have HMD2 := Lib.hid hmd
        have HXX := Lib.hid (show exec (qPut r x t) c = exec (.ret (tWrite t3 r.ins (inc a))) c1 by simp only [qPut, exec_bind, HX1.out, qPutIn, if_true, HD.out, HLEN.out, if_neg HDN.out, HPL.out, ← hw1, ← hw2, exec])
        have g9 := wrap_incU a
        clear hm hmd hw1 hw2 hwr p0 p1 p2 p3 kd
        go_wp2
        go_region_held3 (fun w' => w'.cell? ⟨pu, 0, none⟩ = some (.pointer (some ⟨px, 0, none⟩)) ∧ w'.cell? ⟨pu, 1, none⟩ = some (.int .u64 (r.ins : Int)))
          (first | with_reducible exact ⟨k0, k1⟩ | with_reducible exact ⟨m0, m1⟩ | go_keep)
          (first
            | (go_at_call 116; refine HW2.out.mono ?_; rintro e w4 ⟨n4, t4, c4, v4, E4, B4, hx4, -, rfl, he4, ht4, hc4, hh4, hB4, hEB4⟩; obtain ⟨m0, m1, m2, m3, -⟩ := four (HMD2.out.q.use.heldBy hh4 HMD2.out.q.inU HMD2.out.q.inG).main; have HSH := Lib.hid he4.shape; have HF := Lib.hid (show TxPost W R pa pb pc pt B w (qPut r x t) c (fun _ => True) id (fun _ v => v) (.returned v4) w4 from HMD2.out.fin (mk := fun _ v => v) (x := t4) (HXX.out.trans hx4) trivial he4 ht4 hc4 hh4 hB4 hEB4); clear hx4 he4 ht4 hc4 hh4 hB4 hEB4))
        all_goals
          rcases HSH.out with rfl | ⟨tt, xx, rfl⟩
          all_goals
            go_wp2
            go_ret
            exact HF.out
      · have hx3 := HX3.out
        simp only [exec, Prod.mk.injEq] at hx3
        obtain ⟨hw, rfl⟩ := hx3
        have hw1 := congrArg Prod.fst hw
        have hw2 := congrArg Prod.snd hw
        simp only at hw1 hw2
        clear hw
        have HF := Lib.hid (show TxPost W R pa pb pc pt B w (qPut r x t) c (fun _ => True) id (fun _ v => v) (.returned v3) w3 from HMD.out.fin (mk := fun _ v => v) (x := t3) (by simp only [qPut, exec_bind, HX1.out, qPutIn, if_true, HD.out, HLEN.out, if_neg HDN.out, HPL.out, hw1, if_neg h3, exec]; rw [Prod.ext_iff]; exact ⟨Prod.ext hw1 hw2, rfl⟩) trivial HE3.out HT3.out HC3.out HH3.out HB3.out HEB3.out)
        obtain ⟨tt, xx, rfl⟩ := HE3.out.iface h3
        clear h3 hw1 hw2
        go_wp2
        go_ret
        exact HF.out
  · have HF := Lib.hid (show TxPost W R pa pb pc pt B w (qPut r x t) c (fun _ => True) id (fun _ v => v) (.returned v1) w1 from HM.out.fin (mk := fun _ v => v) (x := t1) (by simp only [qPut, exec_bind, hx1, qPutIn, if_neg h0, exec]) trivial he1 ht1 hc1 hh1 hB1 hEB1)
    obtain ⟨tt, xx, rfl⟩ := he1.iface h0
    clear hx1 he1 ht1 hc1 hh1 hB1 hEB1 ha hb h0 HX1 hl1
    go_wp2
    go_ret
    exact HF.out
set_option maxHeartbeats 2000000 in
theorem qpeek_ok (h : QIn W R B pa pb pc pt px pu g n cap r t c w) :
    Calls Tryz.prog 90 #[.pointer (some ⟨pu, 0, none⟩)] w (TxPost W R pa pb pc pt B w (qPeek r t) c (fun x : Nat × Tx => x.1 < 18446744073709551616) Prod.snd (fun (x : Nat × Tx) v => .tuple #[.int .u64 (x.1 : Int), v])) := by
  have HS := Lib.hid (qstate_ok h)
  have HM := Lib.hid h.mid
  clear h
  go_enter Tryz.func90, Tryz.ntmps90
  go_wp2_with fail
  refine HS.out.mono ?_
  rintro e w1 ⟨n1, ⟨⟨a, b⟩, t1⟩, c1, v1, E1, B1, hx1, ⟨ha, hb⟩, rfl, he1, ht1, hc1, hh1, hB1, hEB1⟩
  have HX1 := Lib.hid hx1
  by_cases h0 : n1 = 0
  · subst h0
    obtain ⟨rfl, rfl⟩ := he1.isNil rfl
    have hm := HM.out.next ht1 hc1 hh1 hB1
    obtain ⟨p0, p1, p2, p3, -⟩ := four hm.q.use.main
    have HM1 := Lib.hid hm
    have HB := Lib.hid hb
    clear hx1 he1 ht1 hc1 hh1 hB1 hEB1 ha hb
    by_cases hab : a = b
    · have g5 : ((a : Int) == (b : Int)) = true := by simp [hab]
      have HF := Lib.hid (show TxPost W R pa pb pc pt B w (qPeek r t) c (fun x : Nat × Tx => x.1 < 18446744073709551616) Prod.snd (fun (x : Nat × Tx) v => .tuple #[.int .u64 (x.1 : Int), v]) (.returned (.tuple #[.int .u64 ((0 : Nat) : Int), .iface 118 (.int .i64 13)])) w1 from HM1.out.ret (mk := (fun (x : Nat × Tx) v => .tuple #[.int .u64 (x.1 : Int), v])) (m := 13) (x := (0, t1)) (by simp only [qPeek, exec_bind, HX1.out, if_true, hab, exec]) (by simp) (.no 13 (by omega) (by omega)) rfl)
      clear hm hab
      go_wp2
      go_ret2
      exact HF.out
    · have g5 : ((a : Int) == (b : Int)) = false := by simp; omega
      obtain ⟨pl, hpl⟩ : ∃ pl, plc r b = pl := ⟨_, rfl⟩
      have hplt : pl < 18446744073709551616 := by
        obtain ⟨y, -, e1, e2⟩ := hm.q.ok.plc b
        rw [← hpl, e1]; exact e2
      have hmd := (hm.drew 1).under (below_drewN (Below.refl _ _) 1)
      have HP := Lib.hid (qplace_ok (hm.drew 1).q.use hm.q.ok b)
      rw [hpl] at HP
      have HW := Lib.hid (hmd.read hplt)
      have HMD := Lib.hid hmd
      have kd : (w1.drewN 1).drew.cell? ⟨pu, 0, none⟩ = some (.pointer (some ⟨px, 0, none⟩)) := p0
      have HXX := Lib.hid (show exec (qPeek r t) c = exec (tRead t1 pl) c1 by simp only [qPeek, exec_bind, HX1.out, if_true, if_neg hab, hpl])
      clear hm hmd hab hpl hplt
      go_wp2
      go_region_held3 (fun w' => w'.cell? ⟨pu, 0, none⟩ = some (.pointer (some ⟨px, 0, none⟩)))
        (first | with_reducible exact p0 | with_reducible exact k0 | exact kd | go_keep)
        (first
          | (go_at_call 115; refine HW.out.mono ?_; rintro e w3 ⟨n3, ⟨x3, t3⟩, c3, v3, E3, B3, hx3, hG3, rfl, he3, ht3, hc3, hh3, hB3, hEB3⟩; obtain ⟨k0, k1, k2, k3, -⟩ := four (HMD.out.q.use.heldBy hh3 HMD.out.q.inU HMD.out.q.inG).main; have HF := Lib.hid (show TxPost W R pa pb pc pt B w (qPeek r t) c (fun x : Nat × Tx => x.1 < 18446744073709551616) Prod.snd (fun (x : Nat × Tx) v => .tuple #[.int .u64 (x.1 : Int), v]) (.returned (.tuple #[.int .u64 (x3 : Int), v3])) w3 from HMD.out.fin (mk := (fun (x : Nat × Tx) v => .tuple #[.int .u64 (x.1 : Int), v])) (x := (x3, t3)) (HXX.out.trans hx3) hG3 he3 ht3 hc3 hh3 hB3 hEB3); clear hx3 hG3 he3 ht3 hc3 hh3 hB3 hEB3)
          | (go_at_call 132; refine HP.out.mono ?_; rintro e w' ⟨rfl, rfl⟩))
      all_goals
        go_wp2
        go_ret2
        exact HF.out
  · have HF := Lib.hid (show TxPost W R pa pb pc pt B w (qPeek r t) c (fun x : Nat × Tx => x.1 < 18446744073709551616) Prod.snd (fun (x : Nat × Tx) v => .tuple #[.int .u64 (x.1 : Int), v]) (.returned (.tuple #[.int .u64 ((0 : Nat) : Int), v1])) w1 from HM.out.fin (mk := (fun (x : Nat × Tx) v => .tuple #[.int .u64 (x.1 : Int), v])) (x := (0, t1)) (by simp only [qPeek, exec_bind, hx1, if_neg h0, exec]) (by simp) he1 ht1 hc1 hh1 hB1 hEB1)
    obtain ⟨tt, xx, rfl⟩ := he1.iface h0
    clear hx1 he1 ht1 hc1 hh1 hB1 hEB1 ha hb h0 HX1
    go_wp2
    go_ret2
    exact HF.out
set_option maxHeartbeats 2000000 in
theorem qtake_ok (h : QIn W R B pa pb pc pt px pu g n cap r t c w) (hlog : t.sets.log.length < 900000000) :
    Calls Tryz.prog 91 #[.pointer (some ⟨pu, 0, none⟩)] w (TxPost W R pa pb pc pt B w (qTake r t) c (fun x : Nat × Tx => x.1 < 18446744073709551616) Prod.snd (fun (x : Nat × Tx) v => .tuple #[.int .u64 (x.1 : Int), v])) := by
  have HS := Lib.hid (qpeek_ok h)
  have HM := Lib.hid h.mid
  have HLG := Lib.hid hlog
  clear h hlog
  go_enter Tryz.func91, Tryz.ntmps91
  go_wp2_with fail
  refine HS.out.mono ?_
  rintro e w1 ⟨n1, ⟨y, t1⟩, c1, v1, E1, B1, hx1, hy, rfl, he1, ht1, hc1, hh1, hB1, hEB1⟩
  have HX1 := Lib.hid hx1
  have HL1 := Lib.hid (show t1.sets.log = t.sets.log ∧ t1.sets.marks = t.sets.marks from logOf (f := Prod.snd) (qPeek_log r t c) hx1)
  by_cases h0 : n1 = 0
  · subst h0
    obtain ⟨rfl, rfl⟩ := he1.isNil rfl
    have hm := HM.out.next ht1 hc1 hh1 hB1
    have HM1 := Lib.hid hm
    have HS2 := Lib.hid (qstate_ok hm.q)
    have HY := Lib.hid hy
    clear hx1 he1 ht1 hc1 hh1 hB1 hEB1 hm hy
    go_wp2_with fail
    refine HS2.out.mono ?_
    rintro e w2 ⟨n2, ⟨⟨a, b⟩, t2⟩, c2, v2, E2, B2, hx2, ⟨-, hb⟩, rfl, he2, ht2, hc2, hh2, hB2, hEB2⟩
    have HX2 := Lib.hid hx2
    have HL2 := Lib.hid (show t2.sets.log = t1.sets.log ∧ t2.sets.marks = t1.sets.marks from logOf (f := Prod.snd) (qState_log r t1 c1) hx2)
    by_cases h2 : n2 = 0
    · subst h2
      obtain ⟨rfl, rfl⟩ := he2.isNil rfl
      have hm := HM1.out.next ht2 hc2 hh2 hB2
      obtain ⟨p0, p1, p2, p3, -⟩ := four hm.q.use.main
      have hmd := hm.drew 1
      have HW := Lib.hid (hmd.write (value := inc b) hmd.q.ok.outs (inc_lt b) (by rw [HL2.out.1, HL1.out.1]; have := HLG.out; omega))
      have HMD := Lib.hid hmd
      have HXX := Lib.hid (show exec (qTake r t) c = (((tWrite t2 r.outs (inc b)).1, y, (tWrite t2 r.outs (inc b)).2), c2) by simp only [qTake, exec_bind, HX1.out, HX2.out, if_true, exec])
      have g9 := wrap_incU b
      clear hx2 he2 ht2 hc2 hh2 hB2 hEB2 hb hm hmd
      go_wp2
      go_region_held3 (fun w' => w'.cell? ⟨pu, 0, none⟩ = some (.pointer (some ⟨px, 0, none⟩)) ∧ w'.cell? ⟨pu, 2, none⟩ = some (.int .u64 (r.outs : Int)))
        (first | with_reducible exact ⟨p0, p2⟩ | with_reducible exact ⟨m0, m2⟩ | go_keep)
        (first
          | (go_at_call 116; refine HW.out.mono ?_; rintro e w4 ⟨n4, t4, c4, v4, E4, B4, hx4, -, rfl, he4, ht4, hc4, hh4, hB4, hEB4⟩; obtain ⟨m0, m1, m2, m3, -⟩ := four (HMD.out.q.use.heldBy hh4 HMD.out.q.inU HMD.out.q.inG).main; have HSH := Lib.hid he4.shape; have HF := Lib.hid (show TxPost W R pa pb pc pt B w (qTake r t) c (fun x : Nat × Tx => x.1 < 18446744073709551616) Prod.snd (fun (x : Nat × Tx) v => .tuple #[.int .u64 (x.1 : Int), v]) (.returned (.tuple #[.int .u64 (y : Int), v4])) w4 from HMD.out.fin (mk := (fun (x : Nat × Tx) v => .tuple #[.int .u64 (x.1 : Int), v])) (x := (y, t4)) (HXX.out.trans (by have h1 := congrArg Prod.fst hx4; have h2 := congrArg Prod.snd hx4; simp only [exec] at h1 h2; simp only [h1, h2])) HY.out he4 ht4 hc4 hh4 hB4 hEB4); clear hx4 he4 ht4 hc4 hh4 hB4 hEB4))
      all_goals
        go_wp2
        go_ret2
        exact HF.out
    · have HF := Lib.hid (show TxPost W R pa pb pc pt B w (qTake r t) c (fun x : Nat × Tx => x.1 < 18446744073709551616) Prod.snd (fun (x : Nat × Tx) v => .tuple #[.int .u64 (x.1 : Int), v]) (.returned (.tuple #[.int .u64 ((0 : Nat) : Int), v2])) w2 from HM1.out.fin (mk := (fun (x : Nat × Tx) v => .tuple #[.int .u64 (x.1 : Int), v])) (x := (0, t2)) (by simp only [qTake, exec_bind, HX1.out, if_true, hx2, if_neg h2, exec]) (by simp) he2 ht2 hc2 hh2 hB2 hEB2)
      obtain ⟨tt, xx, rfl⟩ := he2.iface h2
      clear hx2 he2 ht2 hc2 hh2 hB2 hEB2 hb h2 HX2 HL2
      go_wp2
      go_ret2
      exact HF.out
  · have HF := Lib.hid (show TxPost W R pa pb pc pt B w (qTake r t) c (fun x : Nat × Tx => x.1 < 18446744073709551616) Prod.snd (fun (x : Nat × Tx) v => .tuple #[.int .u64 (x.1 : Int), v]) (.returned (.tuple #[.int .u64 ((0 : Nat) : Int), v1])) w1 from HM.out.fin (mk := (fun (x : Nat × Tx) v => .tuple #[.int .u64 (x.1 : Int), v])) (x := (0, t1)) (by simp only [qTake, exec_bind, hx1, if_neg h0, exec]) (by simp) he1 ht1 hc1 hh1 hB1 hEB1)
    obtain ⟨tt, xx, rfl⟩ := he1.iface h0
    clear hx1 he1 ht1 hc1 hh1 hB1 hEB1 hy h0 HX1 HL1
    go_wp2
    go_ret2
    exact HF.out
theorem qLen_log (r : Ring) (t : Tx) (c : CS) : (exec (qLen r t) c).1.2.2.sets.log = t.sets.log ∧ (exec (qLen r t) c).1.2.2.sets.marks = t.sets.marks := by
  unfold qLen
  simp only [exec_bind, exec]
  exact qState_log r t c
set_option maxHeartbeats 2000000 in
theorem qtry_ok (h : QIn W R B pa pb pc pt px pu g n cap r t c w) (hlog : t.sets.log.length < 900000000) :
    Calls Tryz.prog 92 #[.pointer (some ⟨pu, 0, none⟩)] w (TxPost W R pa pb pc pt B w (qTry r t) c (fun x : (Nat × Bool) × Tx => x.1.1 < 18446744073709551616) Prod.snd (fun (x : (Nat × Bool) × Tx) v => .tuple #[.int .u64 (x.1.1 : Int), .bool x.1.2, v])) := by
  have HS := Lib.hid (qlen_ok h)
  have HM := Lib.hid h.mid
  have HLG := Lib.hid hlog
  clear h hlog
  go_enter Tryz.func92, Tryz.ntmps92
  go_wp2_with fail
  refine HS.out.mono ?_
  rintro e w1 ⟨n1, ⟨y, t1⟩, c1, v1, E1, B1, hx1, -, rfl, he1, ht1, hc1, hh1, hB1, hEB1⟩
  have HX1 := Lib.hid hx1
  have HL1 := Lib.hid (show t1.sets.log = t.sets.log ∧ t1.sets.marks = t.sets.marks from logOf (f := Prod.snd) (qLen_log r t c) hx1)
  by_cases h0 : n1 = 0
  · subst h0
    obtain ⟨rfl, rfl⟩ := he1.isNil rfl
    have hm := HM.out.next ht1 hc1 hh1 hB1
    have HM1 := Lib.hid hm
    clear hx1 he1 ht1 hc1 hh1 hB1 hEB1 hm
    by_cases hy : y = 0
    · subst hy
      have HF := Lib.hid (show TxPost W R pa pb pc pt B w (qTry r t) c (fun x : (Nat × Bool) × Tx => x.1.1 < 18446744073709551616) Prod.snd (fun (x : (Nat × Bool) × Tx) v => .tuple #[.int .u64 (x.1.1 : Int), .bool x.1.2, v]) (.returned (.tuple #[.int .u64 ((0 : Nat) : Int), .bool false, .nilIface])) w1 from HM1.out.ret (mk := (fun (x : (Nat × Bool) × Tx) v => .tuple #[.int .u64 (x.1.1 : Int), .bool x.1.2, v])) (m := 0) (x := ((0, false), t1)) (by simp only [qTry, exec_bind, HX1.out]; rw [if_neg (by simp)]; rfl) (by simp) .none rfl)
      go_wp2
      go_ret3
      exact HF.out
    · have g5 : (y == 0) = false := by simp [hy]
      have HY := Lib.hid hy
      have HTK := Lib.hid (qtake_ok HM1.out.q (by rw [HL1.out.1]; exact HLG.out))
      clear hy
      go_wp2_with fail
      refine HTK.out.mono ?_
      rintro e w2 ⟨n2, ⟨z, t2⟩, c2, v2, E2, B2, hx2, hz, rfl, he2, ht2, hc2, hh2, hB2, hEB2⟩
      have hsh := he2.shape
      have hz0 := he2.isNil
      have hzi := he2.iface
      have HF := Lib.hid (show TxPost W R pa pb pc pt B w (qTry r t) c (fun x : (Nat × Bool) × Tx => x.1.1 < 18446744073709551616) Prod.snd (fun (x : (Nat × Bool) × Tx) v => .tuple #[.int .u64 (x.1.1 : Int), .bool x.1.2, v]) (.returned (.tuple #[.int .u64 (z : Int), .bool (decide (n2 = 0)), v2])) w2 from HM1.out.fin (mk := (fun (x : (Nat × Bool) × Tx) v => .tuple #[.int .u64 (x.1.1 : Int), .bool x.1.2, v])) (x := ((z, decide (n2 = 0)), t2)) (by simp only [qTry, exec_bind, HX1.out]; rw [if_pos ⟨trivial, HY.out⟩]; simp only [exec_bind, hx2, exec]) hz he2 ht2 hc2 hh2 hB2 hEB2)
      clear hx2 hz he2 ht2 hc2 hh2 hB2 hEB2
      by_cases h2 : n2 = 0
      · obtain ⟨rfl, -⟩ := hz0 h2
        have e2 : decide (n2 = 0) = true := by simp [h2]
        rw [e2] at HF
        clear hz0 hzi hsh h2 e2
        go_wp2
        go_region_held3 (fun _ => True) (first | exact True.intro | go_keep) (fail)
        all_goals go_wp2
        all_goals refine bodyPost_ret (v := .tuple #[.int .u64 (z : Int), .bool true, .nilIface]) (by simp [results, Tryz.results92, go_sem]) rfl ?_
        all_goals exact HF.out.under (below_drewN (Below.refl _ _) 1)
      · obtain ⟨tt, xx, rfl⟩ := hzi h2
        have e2 : decide (n2 = 0) = false := by simp [h2]
        rw [e2] at HF
        clear hz0 hzi hsh h2 e2
        go_wp2
        go_region_held3 (fun _ => True) (first | exact True.intro | go_keep) (fail)
        all_goals go_wp2
        all_goals refine bodyPost_ret (v := .tuple #[.int .u64 (z : Int), .bool false, .iface tt xx]) (by simp [results, Tryz.results92, go_sem]) rfl ?_
        all_goals exact HF.out.under (below_drewN (Below.refl _ _) 1)
  · have HF := Lib.hid (show TxPost W R pa pb pc pt B w (qTry r t) c (fun x : (Nat × Bool) × Tx => x.1.1 < 18446744073709551616) Prod.snd (fun (x : (Nat × Bool) × Tx) v => .tuple #[.int .u64 (x.1.1 : Int), .bool x.1.2, v]) (.returned (.tuple #[.int .u64 ((0 : Nat) : Int), .bool false, v1])) w1 from HM.out.fin (mk := (fun (x : (Nat × Bool) × Tx) v => .tuple #[.int .u64 (x.1.1 : Int), .bool x.1.2, v])) (x := ((0, false), t1)) (by simp only [qTry, exec_bind, hx1, h0, false_and, if_false, exec]) (by simp) he1 ht1 hc1 hh1 hB1 hEB1)
    obtain ⟨tt, xx, rfl⟩ := he1.iface h0
    clear hx1 he1 ht1 hc1 hh1 hB1 hEB1 h0 HX1 HL1
    go_wp2
    go_ret3
    exact HF.out
end
end Go.Proofs.YtkpdacfiglpgeaaGreatDoor
