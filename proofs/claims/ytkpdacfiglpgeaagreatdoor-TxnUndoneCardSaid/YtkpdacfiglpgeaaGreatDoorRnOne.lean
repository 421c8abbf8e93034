/- Layer 14's laws: a statement by a runner. -/
import Derived.Test.YtkpdacfiglpgeaaGreatDoorRnOne0
import Derived.Deep.CutRange
import Derived.Deep.LoopGhost
import Derived.Deep.AppendLies
namespace Go.Proofs.YtkpdacfiglpgeaaGreatDoor
open Go.RowKit Bl Th Tx
set_option maxRecDepth 10000

/-- Registers that are set are such; no loop is too long. -/
def rgH (k : Nat) (reg a : Int) : Prop := (k = 1 ∨ k = 9 ∨ k = 10 → 1 ≤ reg ∧ reg ≤ 8) ∧ (k = 12 → a ≤ 1000000)
mutual
def rgS : St → Prop
  | .mk h b e => rgH h.kind h.reg h.a.2 ∧ rgL b ∧ rgL e
def rgL : List St → Prop
  | [] => True
  | s :: l => rgS s ∧ rgL l
end
def AllAt (W : World) (Q : List Nat) (pa pb pc pt px pr gc n cap : Nat) (cells : List Nat) (N : Nat) : Prop :=
  ∀ (R T X : List Nat) (lv0 : Value) (told0 : List Int) (r : Rn) (t : Th.Tx) (c : CS) (w : World) (l : List St) (v : Value), RnAt W R T X Q pa pb pc pt px pr gc n cap cells lv0 told0 r t c w → SlQ Q w l v → cntL l < N → rgL l → t.sets.log.length + wlogL l < 900000000 → r.told.length + wlogL l ≤ 900000 →
    Calls Tryz.prog 45 #[.pointer (some ⟨pr, 0, none⟩), v] w (RnPost W R T X pa pb pc pt px pr gc n cap lv0 told0 (rAll cells l r t) c w)
theorem wrap_w64U (x : Nat) (h : x < 18446744073709551616) : IntKind.i64.wrap (x : Int) = toI x := by
  rw [w64_wrap]
  unfold w64
  congr 1
  unfold toU
  omega
theorem HeldBy.of_grown_ne {w w' : World} {own : Option Nat} (hg : w.grownBy w' own) {b : Nat} (hb : b < w.heap.size) (hn : own ≠ some b) : HeldBy [b] w w' :=
  ⟨(Kept.of_grown hg).size, fun q hq => by
    simp only [List.mem_singleton] at hq
    subst hq
    exact (Kept.of_grown hg).block q hb (fun e => hn e.symm)⟩
theorem tkeep_alloc {w : World} {br pr : Nat} {v0 lt : Value} (h : w.cell? ⟨br, 0, none⟩ = some v0 ∧ w.cell? ⟨pr, 11, none⟩ = some lt) (o : Obj) : (w.alloc o).cell? ⟨br, 0, none⟩ = some v0 ∧ (w.alloc o).cell? ⟨pr, 11, none⟩ = some lt :=
  ⟨(World.cell?_alloc_lt _ _ ⟨br, 0, none⟩ (World.block_lt_of_cell? _ _ h.1)).trans h.1, (World.cell?_alloc_lt _ _ ⟨pr, 11, none⟩ (World.block_lt_of_cell? _ _ h.2)).trans h.2⟩
/-- What a told number leaves. -/
def TellR (pr px : Nat) (cv : Value) (regs told : List Int) (x : Int) (w wx : World) : Prop :=
  ∃ lv2, Kept (fun b => b = pr) w wx ∧ Cells wx pr (rnV px cv regs lv2) 113 ∧ IntsAt wx lv2 (told ++ [x]) ∧ ∀ b ∈ lv2.ownBlock.toList, w.heap.size ≤ b ∧ b < wx.heap.size
theorem tell_end {pr px : Nat} {cv lt lv5 : Value} {regs told l : List Int} {x : Int} {w w5 : World} (hb : Below w.heap.size w w5) (hc : Cells w pr (rnV px cv regs lt) 113) (hr : regs.length = 9) (hl : l = told ++ [x]) {m : Nat} (hm : m = l.length) (ho : w5.ownsRow w.heap.size 3 1 lv5 m (regsV l)) : TellR pr px cv regs told x w (w5.setCell ⟨pr, 11, none⟩ lv5) := by
  subst hl hm
  have hpl := hc.lt
  have k1 : Kept (fun b => b = pr) w w5 := (Kept.of_below hb).mono fun b h1 h2 => by omega
  have k2 := (Kept.refl (fun b => b = pr) w5).setCell (p := ⟨pr, 11, none⟩) (fun _ => rfl) lv5
  have c5 := (hc.below hb).set 11 lv5
  rw [rnV_told hr] at c5
  have hlt : ∀ b ∈ lv5.ownBlock.toList, w.heap.size ≤ b ∧ b < w5.heap.size := fun b hb => ho.lt b (by simpa using hb)
  exact ⟨lv5, k1.trans k2, c5, (IntsAt.row ho).heldBy (R := lv5.ownBlock.toList) ⟨k2.size, fun b hb => k2.block b (hlt b hb).2 (by have := hlt b hb; omega)⟩ (fun _ h => h), fun b hb => ⟨(hlt b hb).1, Nat.lt_of_lt_of_le (hlt b hb).2 k2.size⟩⟩
/-- What two blocks of their own hold. -/
def OrR (w : World) (L : List Value) (lv s9 s10 : Value) (wx : World) : Prop :=
  ∃ pg pq, s9 = .pointer (some ⟨pg, 0, none⟩) ∧ s10 = .pointer (some ⟨pq, 0, none⟩) ∧ Cells wx pg L 111 ∧ Cells wx pq [lv] 53 ∧ Below w.heap.size w wx ∧ w.heap.size ≤ pg ∧ w.heap.size ≤ pq
theorem nine_there {w : World} {b : Nat} {x0 x1 x2 x3 x4 x5 x6 x7 x8 : Value} {t : TypeId} {L : List Value} (h : Cells w b [x0, x1, x2, x3, x4, x5, x6, x7, x8] t) (hl : L.length = 9) : w.there b 0 L.toArray.size := by
  intro j hj
  rw [List.size_toArray, hl] at hj
  rw [Nat.zero_add]
  refine ⟨?_, h.free j⟩
  rw [h.cell j, List.getElem?_eq_getElem (by simpa using hj)]
  rfl
theorem nine_set {w : World} {b : Nat} {x0 x1 x2 x3 x4 x5 x6 x7 x8 : Value} {t : TypeId} {L : List Value} (h : Cells w b [x0, x1, x2, x3, x4, x5, x6, x7, x8] t) (hl : L.length = 9) : Cells (w.drew.setCells b 0 L.toArray.toList) b L t := by
  match L, hl with
  | [y0, y1, y2, y3, y4, y5, y6, y7, y8], _ =>
    have h' : Cells w.drew b [x0, x1, x2, x3, x4, x5, x6, x7, x8] t := h
    exact ((((((((h'.set 0 y0).set 1 y1).set 2 y2).set 3 y3).set 4 y4).set 5 y5).set 6 y6).set 7 y7).set 8 y8
theorem cells_far {w : World} {b b' : Nat} {xs : List Value} {t : TypeId} (h : Cells w b xs t) (hn : b ≠ b') (vs : List Value) (o : Nat) : Cells (w.setCells b' o vs) b xs t := by
  have k : Kept (fun q => q = b') w (w.setCells b' o vs) := Kept.setCells (S := fun q => q = b') rfl vs o (Kept.refl _ _)
  exact h.kept k hn
/-- A part's body. -/
theorem clos_ok {W : World} {R T X Q : List Nat} {pa pb pc pt px pr gc n cap br bs : Nat} {cells : List Nat} {lv0 : Value} {told0 : List Int} {r : Rn} {t : Th.Tx} {c : CS} {w : World} {h : Sh} {b : List St} {z : Int} {bv ev : Value} {N f : Nat} (hf : f = 118 ∨ f = 120) (hIH : AllAt W Q pa pb pc pt px pr gc n cap cells N)
    (hA : RnAt W R T X Q pa pb pc pt px pr gc n cap cells lv0 told0 r t c w) (hb : SlQ Q w b bv) (hcb : cntL b < N) (hrg : rgL b) (hlog : t.sets.log.length + wlogL b < 900000000) (htold : r.told.length + wlogL b ≤ 900000) (C0 : Cells w br [.pointer (some ⟨pr, 0, none⟩)] 110) (C1 : Cells w bs (stL z h bv ev) 50) :
    Calls Tryz.prog f #[.pointer (some ⟨br, 0, none⟩), .pointer (some ⟨bs, 0, none⟩)] w (RnPost W R T X pa pb pc pt px pr gc n cap lv0 told0 (rAll cells b r t) c w) := by
  have HALL := Lib.hid (hIH R T X lv0 told0 r t c w b bv hA hb hcb hrg hlog htold)
  have k0 : w.cell? ⟨br, 0, none⟩ = some (.pointer (some ⟨pr, 0, none⟩)) := C0.cell 0
  have k1 : w.cell? ⟨bs, 7, none⟩ = some bv := C1.cell 7
  obtain ⟨bp, bc, rfl⟩ := hb.shape
  clear hIH hA hb hcb hrg hlog htold C0 C1
  rcases hf with rfl | rfl
  · go_enter Tryz.func118, Tryz.ntmps118
    go_wp2_with fail
    refine HALL.out.mono ?_
    intro e w1 hp
    have HP := Lib.hid hp
    obtain ⟨v, rfl, rfl | ⟨tt, xx, rfl⟩⟩ := hp.shape
    all_goals
      clear hp
      go_wp2
      go_ret
      exact HP.out
  · go_enter Tryz.func120, Tryz.ntmps120
    go_wp2_with fail
    refine HALL.out.mono ?_
    intro e w1 hp
    have HP := Lib.hid hp
    obtain ⟨v, rfl, rfl | ⟨tt, xx, rfl⟩⟩ := hp.shape
    all_goals
      clear hp
      go_wp2
      go_ret
      exact HP.out
/-- The second one of two: registers, and what was told, as they were. -/
theorem clos3_ok {W : World} {R T X Q : List Nat} {pa pb pc pt px pr gc n cap br bs pg pq : Nat} {cells : List Nat} {lv0 : Value} {told0 : List Int} {r : Rn} {regs : List Int} {t : Th.Tx} {c : CS} {w : World} {h : Sh} {e : List St} {z : Int} {bv ev : Value} {N : Nat} (hIH : AllAt W Q pa pb pc pt px pr gc n cap cells N)
    (hA : RnAt W R T X Q pa pb pc pt px pr gc n cap cells lv0 told0 r t c w) (he : SlQ Q w e ev) (hce : cntL e < N) (hrg : rgL e) (hlog : t.sets.log.length + wlogL e < 900000000) (htold : told0.length + wlogL e ≤ 900000) (hr : regs.length = 9) (C0 : Cells w br [.pointer (some ⟨pr, 0, none⟩)] 110) (C1 : Cells w bs (stL z h bv ev) 50) (C2 : Cells w pg (regsV regs) 111) (C3 : Cells w pq [lv0] 53) (hbr : br ∈ R) (hbs : bs ∈ R) (hpg : pg ∈ R) (hpq : pq ∈ R) :
    Calls Tryz.prog 121 #[.pointer (some ⟨pg, 0, none⟩), .pointer (some ⟨pq, 0, none⟩), .pointer (some ⟨br, 0, none⟩), .pointer (some ⟨bs, 0, none⟩)] w (RnPost W R T X pa pb pc pt px pr gc n cap lv0 told0 (rAll cells e ⟨regs, told0⟩ t) c w) := by
  obtain ⟨lw, hr9, hpW, hCp, hlw, hpX, hXb⟩ := hA.own
  have hprR : pr ∉ R := hA.part.apart pr (by simp [hpX])
  obtain ⟨pl0, ll0, cl0, hl0⟩ : ∃ p l c, lv0 = .slice p l c := by
    obtain ⟨p, c, q, -⟩ := hA.h0
    exact ⟨p, _, c, q⟩
  have HALL := Lib.hid (fun (w2 : World) (X2 : List Nat) (hA2 : RnAt W R T X2 Q pa pb pc pt px pr gc n cap cells lv0 told0 ⟨regs, told0⟩ t c w2) (hh : HeldBy R w w2) => hIH R T X2 lv0 told0 ⟨regs, told0⟩ t c w2 e ev hA2 (he.heldBy hh hA.inQ) hce hrg hlog htold)
  have HTO := (fun (w' : World) (hk : Kept (fun b => b = pr) w w') (hc : Cells w' pr (rnV px (.slice (some ⟨gc, 0, none⟩) n cap) regs lv0) 113) => hA.touch (r' := ⟨regs, told0⟩) (X' := [pr]) hk ⟨lv0, hr, hpW, hc, .inl ⟨rfl, rfl, rfl⟩⟩ (fun b hb => by
    rw [List.mem_singleton] at hb
    rw [hb]
    exact ⟨.inl hpX, Nat.lt_of_lt_of_le hCp.lt hk.size⟩))
  have k0 : w.cell? ⟨br, 0, none⟩ = some (.pointer (some ⟨pr, 0, none⟩)) := C0.cell 0
  have q0 : w.cell? ⟨pq, 0, none⟩ = some lv0 := C3.cell 0
  obtain ⟨hi1, hi2, hi3⟩ := regsInfo hr
  have hun := Tryz.underlying111
  have hne : br ≠ pr ∧ pg ≠ pr ∧ pq ≠ pr := ⟨fun e => hprR (e ▸ hbr), fun e => hprR (e ▸ hpg), fun e => hprR (e ▸ hpq)⟩
  have HNE := Lib.hid hne
  have rg : w.rangeAt pg 0 (regsV regs) := fun j v hj => by rw [Nat.zero_add, C2.cell j]; exact hj
  have th : w.there pr 2 9 := fun j hj => ⟨by rw [rn_reg hCp hr9 hj]; rfl, hCp.free (2 + j)⟩
  have f11 := hCp.free 11
  have p11 : w.drew.cell? ⟨pr, 11, none⟩ = some (rOr w.drew ⟨pr, 11, none⟩) := rOr_of (rn_told hCp hr9)
  have HFIN := Lib.hid (HTO ((w.drew.setCells pr 2 (regsV regs)).setCell ⟨pr, 11, none⟩ lv0) ((Kept.setCells (S := fun b => b = pr) rfl _ 2 (Kept.refl _ w).drew).setCell (p := ⟨pr, 11, none⟩) (fun _ => rfl) _) (by
    have := (Cells.nineSet (w := w.drew) hCp hr9 hr).set 11 lv0
    rw [rnV_told hr] at this
    exact this))
  have HC0 := Lib.hid C0; have HC1 := Lib.hid C1; have HBS := Lib.hid hbs; have HBR := Lib.hid hbr; have HPX := Lib.hid hpX
  have HSH := Lib.hid he.shape
  obtain ⟨L, hL⟩ : ∃ L, regsV regs = L := ⟨_, rfl⟩
  rw [hL] at hi1 hi2 hi3 rg HFIN
  subst hl0
  clear hIH hA he hce hrg hlog htold hr C0 C1 C2 C3 hbr hbs hpg hpq hr9 hpW hCp hlw hpX hXb hprR hne hL HTO
  go_enter Tryz.func121, Tryz.ntmps121
  go_upto_region 1 with (fail)
  go_region_held3 (fun wx => wx.cell? ⟨br, 0, none⟩ = some (.pointer (some ⟨pr, 0, none⟩)) ∧ wx.rangeAt pg 0 L ∧ wx.cell? ⟨pq, 0, none⟩ = some (.slice pl0 ll0 cl0) ∧ wx.there pr 2 9 ∧ wx.frozen? ⟨pr, 11, none⟩ = false ∧ wx.cell? ⟨pr, 11, none⟩ = some (rOr wx ⟨pr, 11, none⟩))
    (first | with_reducible exact ⟨k0, rg, q0, th, f11, p11⟩ | exact ⟨k0, rg, q0, th, f11, p11⟩ | exact c3_cells (by assumption) HNE.out _ | exact c3_cells (V := [_]) (by assumption) HNE.out 11 | go_keep)
    (fail)
  obtain ⟨hA2, hh2⟩ := HFIN.out
  obtain ⟨w2, hw2⟩ : ∃ w2, (w.drew.setCells pr 2 L).setCell ⟨pr, 11, none⟩ (.slice pl0 ll0 cl0) = w2 := ⟨_, rfl⟩
  rw [hw2] at hA2 hh2 ⊢
  have HCL := Lib.hid (HALL.out w2 [pr] hA2 hh2)
  have HH2 := Lib.hid hh2
  have e0 : w2.cell? ⟨br, 0, none⟩ = some (.pointer (some ⟨pr, 0, none⟩)) := (HC0.out.heldBy hh2 HBR.out).cell 0
  have e8 : w2.cell? ⟨bs, 8, none⟩ = some ev := (HC1.out.heldBy hh2 HBS.out).cell 8
  obtain ⟨ep, ec, rfl⟩ := HSH.out
  clear hA2 hh2 hw2 k0 q0 rg th f11 p11 hi1 hi2 hi3 hun HFIN HALL
  go_wp2_with fail
  refine HCL.out.mono ?_
  intro en w3 hp
  have HP := Lib.hid (show RnPost W R T X pa pb pc pt px pr gc n cap (.slice pl0 ll0 cl0) told0 (rAll cells e ⟨regs, told0⟩ t) c w en w3 from by
    obtain ⟨m, x, c1, v, E, B', h1, h2, h3, h4, h5, h6, h7, h8⟩ := hp
    exact ⟨m, x, c1, v, E, B', h1, h2, h3, h4, h5, HH2.out.trans h6, fun q hq => by
      rcases h7 q hq with y | y
      · rcases List.mem_append.1 y with u | u
        · exact .inl (by simp [u])
        · rw [List.mem_singleton] at u
          exact .inl (by rw [u]; exact List.mem_append_right _ HPX.out)
      · exact .inr (Nat.le_trans HH2.out.1 y), h8⟩)
  obtain ⟨v, rfl, rfl | ⟨tt, xx, rfl⟩⟩ := hp.shape
  all_goals
    clear hp
    go_wp2
    go_ret
    exact HP.out
theorem ef_one1 (args : Array Value) (w : World) : (callFunc 118 args).run Tryz.prog w = .ok (.enter 118 args) w := enters_of Tryz.func118 (by kernel_rfl) rfl args w
theorem ef_one2 (args : Array Value) (w : World) : (callFunc 120 args).run Tryz.prog w = .ok (.enter 120 args) w := enters_of Tryz.func120 (by kernel_rfl) rfl args w
theorem ef_one3 (args : Array Value) (w : World) : (callFunc 121 args).run Tryz.prog w = .ok (.enter 121 args) w := enters_of Tryz.func121 (by kernel_rfl) rfl args w
/-- What holds at a loop's head. -/
def TimesJ (W : World) (R T X Q : List Nat) (pa pb pc pt px pr gc n cap : Nat) (cells : List Nat) (lv0 : Value) (told0 : List Int) (b : List St) (m : Nat) (r : Rn) (t : Th.Tx) (c : CS) (w : World) (gf : Nat) (i : Value) (wx : World) : Prop :=
  ∃ (k : Nat) (r1 : Rn) (t1 : Th.Tx) (c1 : CS) (T1 X1 : List Nat), i = .int .i64 (k : Int) ∧ k ≤ m ∧ RnAt W R T1 X1 Q pa pb pc pt px pr gc n cap cells lv0 told0 r1 t1 c1 wx ∧ HeldBy R w wx ∧ (∀ b ∈ T1 ++ X1, b ∈ T ++ X ∨ w.heap.size ≤ b) ∧ exec (rTimes (fun r t => rAll cells b r t) m r t) c = exec (rTimes (fun r t => rAll cells b r t) (m - k) r1 t1) c1 ∧ t1.sets.log.length + (m - k) * wlogL b < 900000000 ∧ r1.told.length + (m - k) * wlogL b ≤ 900000 ∧ m + 1 ≤ k + gf
theorem times_next {W : World} {R T X Q T1 X1 T2 X2 : List Nat} {pa pb pc pt px pr gc n cap m k gk : Nat} {cells : List Nat} {lv0 : Value} {told0 : List Int} {b : List St} {r r1 r2 : Rn} {t t1 t2 : Th.Tx} {c c1 c2 : CS} {w wr w3 : World} {iv : Value} (hcl : 1 ≤ cells.length) (hk : k < m) (hA : RnAt W R T1 X1 Q pa pb pc pt px pr gc n cap cells lv0 told0 r1 t1 c1 wr) (hh : HeldBy R w wr) (hB : ∀ b ∈ T1 ++ X1, b ∈ T ++ X ∨ w.heap.size ≤ b) (hx : exec (rTimes (fun r t => rAll cells b r t) m r t) c = exec (rTimes (fun r t => rAll cells b r t) (m - k) r1 t1) c1) (hl : t1.sets.log.length + (m - k) * wlogL b < 900000000) (ht : r1.told.length + (m - k) * wlogL b ≤ 900000) (hfu : m + 1 ≤ k + (gk + 1))
    (hx2 : exec (rAll cells b r1 t1) c1 = ((0, r2, t2), c2)) (hst : PartSt W pt (rnAux W pr px (.slice (some ⟨gc, 0, none⟩) n cap) lv0 told0) T2 X2 (r2, t2) w3) (hc : Ctx W ([] ++ ((T2 ++ X2) ++ R)) pa pb pc c2 w3) (hh2 : HeldBy R wr w3) (hB2 : ∀ b ∈ [] ++ (T2 ++ X2), b ∈ T1 ++ X1 ∨ wr.heap.size ≤ b) (hiv : iv = .int .i64 ((k + 1 : Nat) : Int)) :
    TimesJ W R T X Q pa pb pc pt px pr gc n cap cells lv0 told0 b m r t c w gk iv w3 := by
  have g := rAll_kp hcl b r1 t1 c1 hA.ok
  have g2 := rAll_b cells b r1 t1 c1
  rw [hx2] at g g2
  have e : m - k = (m - (k + 1)) + 1 := by omega
  have hm : (m - k) * wlogL b = (m - (k + 1)) * wlogL b + wlogL b := by rw [e, Nat.add_one_mul]
  have h1 := g.few
  have h2 := g2.told
  refine ⟨k + 1, r2, t2, c2, T2, X2, hiv, hk, (hA.next hst hc hh2 hB2 (by simp) (by simp only at h1; omega) g.ok).less hA.part.inX hA.in0 hA.inG hA.inQ, hh.trans hh2, fun b hb => ?_, ?_, by simp only at h1; omega, by simp only at h2; omega, by omega⟩
  · rcases hB2 b (by simpa using hb) with q | q
    · exact hB b q
    · exact .inr (Nat.le_trans hh.1 q)
  · rw [hx, e]
    simp only [rTimes, exec_bind, hx2, if_true]
theorem times_stop {W : World} {R T X T1 X1 T2 X2 E : List Nat} {pa pb pc pt px pr gc n cap m k m' : Nat} {cells : List Nat} {lv0 : Value} {told0 : List Int} {b : List St} {r r1 r2 : Rn} {t t1 t2 : Th.Tx} {c c1 c2 : CS} {w wr w3 : World} {v : Value} (hk : k < m) (hh : HeldBy R w wr) (hB : ∀ b ∈ T1 ++ X1, b ∈ T ++ X ∨ w.heap.size ≤ b) (hx : exec (rTimes (fun r t => rAll cells b r t) m r t) c = exec (rTimes (fun r t => rAll cells b r t) (m - k) r1 t1) c1)
    (hx2 : exec (rAll cells b r1 t1) c1 = ((m', r2, t2), c2)) (h0 : m' ≠ 0) (he : Err w3 v m' E) (hst : PartSt W pt (rnAux W pr px (.slice (some ⟨gc, 0, none⟩) n cap) lv0 told0) T2 X2 (r2, t2) w3) (hc : Ctx W (E ++ ((T2 ++ X2) ++ R)) pa pb pc c2 w3) (hh2 : HeldBy R wr w3) (hB2 : ∀ b ∈ E ++ (T2 ++ X2), b ∈ T1 ++ X1 ∨ wr.heap.size ≤ b) (hEB : ∀ b ∈ E, b ∉ T2 ++ X2) :
    RnPost W R T X pa pb pc pt px pr gc n cap lv0 told0 (rTimes (fun r t => rAll cells b r t) m r t) c w (.returned v) w3 := by
  have e : m - k = (m - (k + 1)) + 1 := by omega
  refine ⟨m', (r2, t2), c2, v, E, T2 ++ X2, ?_, rfl, he, ⟨T2, X2, rfl, hst⟩, hc, hh.trans hh2, fun b hb => ?_, hEB⟩
  · rw [hx, e]
    simp only [rTimes, exec_bind, hx2, if_neg h0, exec]
  · rcases hB2 b hb with q | q
    · exact hB b q
    · exact .inr (Nat.le_trans hh.1 q)
set_option maxHeartbeats 16000000 in
theorem one_step {W : World} {R T X Q : List Nat} {pa pb pc pt px pr gc n cap : Nat} {cells : List Nat} {lv0 : Value} {told0 : List Int} {r : Rn} {t : Th.Tx} {c : CS} {w : World} {h : Sh} {b e : List St} {z : Int} {bv ev : Value} {N : Nat} (hg : Handle W) (hIH : AllAt W Q pa pb pc pt px pr gc n cap cells N)
    (hA : RnAt W R T X Q pa pb pc pt px pr gc n cap cells lv0 told0 r t c w) (hz : z.toNat = h.kind) (hb : SlQ Q w b bv) (he : SlQ Q w e ev) (hcb : cntL b < N) (hce : cntL e < N) (hrg : rgS (.mk h b e)) (hlog : t.sets.log.length + wlogS (.mk h b e) < 900000000) (htold : r.told.length + wlogS (.mk h b e) ≤ 900000) :
    Calls Tryz.prog 74 #[.pointer (some ⟨pr, 0, none⟩), stV z h bv ev] w (RnPost W R T X pa pb pc pt px pr gc n cap lv0 told0 (rOne cells (.mk h b e) r t) c w) := by
  obtain ⟨bp, bc, rfl⟩ := hb.shape
  obtain ⟨ep, ec, rfl⟩ := he.shape
  have B0 := ((Below.refl w.heap.size w).alloc (Nat.le_refl _) (.cells #[.pointer (some ⟨pr, 0, none⟩)] 110)).alloc (by simp) (.cells #[.int .i64 z, .int .i64 h.coll, .int .i64 h.reg, .int .i64 h.a.1, .int .i64 h.a.2, .int .i64 h.b.1, .int .i64 h.b.2, .slice bp b.length bc, .slice ep e.length ec] 50)
  have C0 := (Cells.new w [.pointer (some ⟨pr, 0, none⟩)] 110).alloc (.cells #[.int .i64 z, .int .i64 h.coll, .int .i64 h.reg, .int .i64 h.a.1, .int .i64 h.a.2, .int .i64 h.b.1, .int .i64 h.b.2, .slice bp b.length bc, .slice ep e.length ec] 50)
  have C1 := Cells.new (w.alloc (.cells #[.pointer (some ⟨pr, 0, none⟩)] 110)) (stL z h (.slice bp b.length bc) (.slice ep e.length ec)) 50
  obtain ⟨br, hbr⟩ : ∃ br, w.heap.size = br := ⟨_, rfl⟩
  have hbs : (w.alloc (.cells #[.pointer (some ⟨pr, 0, none⟩)] 110)).heap.size = br + 1 := by simp [hbr]
  obtain ⟨w0, hw0⟩ : ∃ w0, (w.alloc (.cells #[.pointer (some ⟨pr, 0, none⟩)] 110)).alloc (.cells #[.int .i64 z, .int .i64 h.coll, .int .i64 h.reg, .int .i64 h.a.1, .int .i64 h.a.2, .int .i64 h.b.1, .int .i64 h.b.2, .slice bp b.length bc, .slice ep e.length ec] 50) = w0 := ⟨_, rfl⟩
  have hz0 : w0.heap.size = br + 1 + 1 := by rw [← hw0]; simp [hbr]
  have C1' : Cells w0 (br + 1) (stL z h (.slice bp b.length bc) (.slice ep e.length ec)) 50 := by rw [← hw0, ← hbs]; exact C1
  rw [hw0] at B0 C0
  rw [hbr] at C0
  have hA0 := hA.came B0 [br, br + 1] (by intro b hb; simp at hb; omega)
  have hk0 := HeldBy.of_below (R := R) B0 hA.heldR
  have hb0 := hb.heldBy hk0 hA.inQ
  have he0 := he.heldBy hk0 hA.inQ
  have hAr := hA0.arr
  obtain ⟨lv, hr9, hpW, hCp, hlv, hpX, hXb⟩ := hA0.own
  obtain ⟨a, ha⟩ : ∃ a, argN r h.a = a := ⟨_, rfl⟩
  have hm1 : 0 ≤ a % 64 % (n : Int) := Int.emod_nonneg _ (by have := hA.pos; omega)
  have hm2 : a % 64 % (n : Int) < (n : Int) := Int.emod_lt_of_pos _ (by have := hA.pos; omega)
  obtain ⟨j, hj⟩ := Int.eq_ofNat_of_zero_le hm1
  have hjn : j < n := by omega
  obtain ⟨cell, hcell⟩ : ∃ cell, cells[j]? = some cell := ⟨cells[j]'(by rw [hA.len]; exact hjn), List.getElem?_eq_getElem _⟩
  have hcN : cellN cells r h.a = cell := by
    unfold cellN
    rw [hA.len, ha, hj]
    simp [List.getD_eq_getElem?_getD, hcell]
  have HARG := Lib.hid (fun (wx : World) (hx : Below w0.heap.size w0 wx) (x : Int × Int) => arg_ok (hCp.kept (Kept.of_below hx) (by have := hCp.lt; omega)) hr9 x)
  have HM1 := Lib.hid (fun wx : World => mod_ok a 64 (by omega) (by omega) wx)
  have HM2 := Lib.hid (fun wx : World => (show Calls Tryz.prog 13 #[.int .i64 (a % 64), .int .i64 (n : Int)] wx fun e w' => e = .returned (.int .i64 (j : Int)) ∧ wx = w' by rw [← hj]; exact mod_ok (a % 64) n (by have := hA.pos; omega) (by have := hA.few; omega) wx))
  have k0 : w0.cell? ⟨br, 0, none⟩ = some (.pointer (some ⟨pr, 0, none⟩)) := C0.cell 0
  have k1 := (rn_two hCp).2
  have k2 : w0.cell? ⟨br + 1, 3, none⟩ = some (.int .i64 h.a.1) := C1'.cell 3
  have k3 : w0.cell? ⟨br + 1, 4, none⟩ = some (.int .i64 h.a.2) := C1'.cell 4
  have k4 : w0.cell? ⟨gc, j, none⟩ = some (.int .u64 (cell : Int)) := hAr j cell hcell
  have HS := Lib.hid (fun (wx : World) (hx : Below w0.heap.size w0 wx) => (show wx.cell? ⟨br, 0, none⟩ = some (.pointer (some ⟨pr, 0, none⟩)) ∧ wx.cell? ⟨pr, 1, none⟩ = some (.slice (some ⟨gc, 0, none⟩) n cap) ∧ wx.cell? ⟨br + 1, 3, none⟩ = some (.int .i64 h.a.1) ∧ wx.cell? ⟨br + 1, 4, none⟩ = some (.int .i64 h.a.2) ∧ wx.cell? ⟨gc, j, none⟩ = some (.int .u64 (cell : Int)) from
    ⟨(hx.cell (p := ⟨br, 0, none⟩) (World.block_lt_of_cell? _ _ k0)).trans k0, (hx.cell (p := ⟨pr, 1, none⟩) (World.block_lt_of_cell? _ _ k1)).trans k1, (hx.cell (p := ⟨br + 1, 3, none⟩) (World.block_lt_of_cell? _ _ k2)).trans k2, (hx.cell (p := ⟨br + 1, 4, none⟩) (World.block_lt_of_cell? _ _ k3)).trans k3, (hx.cell (p := ⟨gc, j, none⟩) (World.block_lt_of_cell? _ _ k4)).trans k4⟩))
  have HP00 := Lib.hid k0; have HCC0 := Lib.hid C0; have HA := Lib.hid hA0; have HC1 := Lib.hid C1'; have HB := Lib.hid hb0; have HE := Lib.hid he0; have HIH := Lib.hid hIH; have HCN := Lib.hid hcN; have HCL := Lib.hid hcell; have HW0 := Lib.hid hw0; have HBR := Lib.hid hbr; have HZ := Lib.hid hz; have HRG := Lib.hid hrg; have HLOG := Lib.hid hlog; have HTOLD := Lib.hid htold; have HCB := Lib.hid hcb; have HCE := Lib.hid hce; have HG := Lib.hid hg; have HK0 := Lib.hid hk0; have HA00 := Lib.hid hA; have HZ0 := Lib.hid hz0; have HAA := Lib.hid ha
  clear hg hIH hA hz hb he hcb hce hrg hlog htold B0 C0 C1 hbr hbs hw0 hz0 C1' hA0 hk0 hb0 he0 hAr hr9 hpW hCp hlv hpX hXb ha hm1 hm2 hj hcell hcN
  have hjn' : (j : Int) < (n : Int) := by omega
  unfold stV
  go_enter Tryz.func74, Tryz.ntmps74
  go_upto_region 1 with (fail)
  rw [HW0.out, HBR.out]
  go_cut [5] from 11 to 176 (fun s5 wx => s5 = .int .u64 (cell : Int) ∧ Below w0.heap.size w0 wx)
  case first =>
    go_region_held3 (fun w' => w'.cell? ⟨br, 0, none⟩ = some (.pointer (some ⟨pr, 0, none⟩)) ∧ w'.cell? ⟨pr, 1, none⟩ = some (.slice (some ⟨gc, 0, none⟩) n cap) ∧ w'.cell? ⟨br + 1, 3, none⟩ = some (.int .i64 h.a.1) ∧ w'.cell? ⟨br + 1, 4, none⟩ = some (.int .i64 h.a.2) ∧ w'.cell? ⟨gc, j, none⟩ = some (.int .u64 (cell : Int)))
      (first | with_reducible exact ⟨k0, k1, k2, k3, k4⟩ | with_reducible exact ⟨i0, i1, i2, i3, i4⟩ | go_keep)
      (first
        | (go_at_call 13; with_reducible refine (HM2.out _).mono ?_; rintro e w' ⟨rfl, rfl⟩)
        | (go_at_call 13; with_reducible refine (HM1.out _).mono ?_; rintro e w' ⟨rfl, rfl⟩)
        | (go_at_call 114; refine (HARG.out _ (below_drewN (Below.refl _ _) _) h.a).mono ?_; rintro e w1 ⟨rfl, hb1⟩; rw [HAA.out]; obtain ⟨i0, i1, i2, i3, i4⟩ := HS.out w1 ((below_drewN (Below.refl w0.heap.size w0) 1).trans hb1); have HB1 := Lib.hid ((below_drewN (Below.refl w0.heap.size w0) 1).trans hb1); clear hb1))
    go_wp2
    go_meet
    case rel => exact ⟨rfl, HB1.out⟩
  case rest =>
    obtain ⟨rfl, hbc⟩ := hcut
    clear k0 k1 k2 k3 k4 HARG HM1 HM2 HS hjn hjn'
    have hR0 := HA.out.heldR
    have HA1 := Lib.hid (HA.out.under hbc)
    have HH := Lib.hid (show HeldBy R w wc from HK0.out.trans (HeldBy.of_below hbc (fun b hb => hR0 b (by simp [hb]))))
    have HP0 := Lib.hid (HA1.out.part.less HA00.out.part.inX)
    have HC := Lib.hid (HC1.out.below hbc)
    have HC0 := Lib.hid (HCC0.out.below hbc)
    have HBQ := Lib.hid (HB.out.heldBy (HeldBy.of_below hbc (fun b hb => hR0 b (HA.out.inQ b hb))) (fun _ h => h))
    have HEQ := Lib.hid (HE.out.heldBy (HeldBy.of_below hbc (fun b hb => hR0 b (HA.out.inQ b hb))) (fun _ h => h))
    have k0 : wc.cell? ⟨br, 0, none⟩ = some (.pointer (some ⟨pr, 0, none⟩)) := (hbc.cell (p := ⟨br, 0, none⟩) (World.block_lt_of_cell? _ _ HP00.out)).trans HP00.out
    obtain ⟨⟨s0, s1, s2, s3, s4, s5', s6, s7, s8⟩, -⟩ := nine_cells HC.out
    clear hbc hR0
    have HRET := Lib.hid (fun (m : Nat) (h1 : 1 ≤ m) (h2 : m ≤ 17) (hx : rOne cells (.mk h b e) r t = .ret (m, r, t)) => (show RnPost W R T X pa pb pc pt px pr gc n cap lv0 told0 (rOne cells (.mk h b e) r t) c w (.returned (.iface 118 (.int .i64 (m : Int)))) wc from
      PartAt.fin (E := []) (show PartAt W ([] ++ R) T X pa pb pc pt px _ r t c wc from HP0.out) (n := m) (by rw [hx]; rfl) (.no m h1 h2) HH.out (fun b hb => .inl hb)))
    have HRET0 := Lib.hid (fun (hx : rOne cells (.mk h b e) r t = .ret (0, r, t)) => (show RnPost W R T X pa pb pc pt px pr gc n cap lv0 told0 (rOne cells (.mk h b e) r t) c w (.returned .nilIface) wc from
      PartAt.fin (E := []) (show PartAt W ([] ++ R) T X pa pb pc pt px _ r t c wc from HP0.out) (n := 0) (by rw [hx]; rfl) .none HH.out (fun b hb => .inl hb)))
    have hcl1 : 1 ≤ cells.length := by rw [HA1.out.len]; exact HA1.out.pos
    have HCL1 := Lib.hid hcl1
    by_cases z1 : z = 1
    · have g1 : (z == 1) = true := by simp [z1]
      have hk := HZ.out
      have hk1 : h.kind = 1 := by omega
      have hrg2 : 1 ≤ h.reg ∧ h.reg ≤ 8 := by
        have := HRG.out
        unfold rgS rgH at this
        exact this.1.1 (by omega)
      have hws : wlogS (.mk h b e) = 1 := by rw [wlogS]; unfold wlogH; rw [if_pos (.inl hk1)]
      have hl1 := HLOG.out
      have hl2 := HTOLD.out
      rw [hws] at hl1 hl2
      obtain ⟨k, hkk⟩ := Int.eq_ofNat_of_zero_le (show 0 ≤ h.reg by omega)
      have hk8 : k < 9 := by omega
      have hk8' : (k : Int) < 9 := by omega
      rw [hkk] at s2
      have hcs : cell < 18446744073709551616 := HA1.out.small cell (List.mem_of_getElem? HCL.out)
      obtain ⟨lv', hr9, hpW, hCp, -, hpX, -⟩ := HA1.out.own
      have p0 := (rn_two hCp).1
      have HPB := Lib.hid (show pr < br from by rw [← HBR.out]; exact HA00.out.part.ctx.heldR pr (by simp [hpX]))
      have HRD := Lib.hid (xread_ok (B := T) (R := X ++ ([br, br + 1] ++ R)) (HA1.out.part.ctx.less fun q hq => by
        rcases List.mem_append.1 hq with y | y
        · exact List.mem_append_left _ (List.mem_append_left _ y)
        · rcases List.mem_append.1 y with y | y
          · exact List.mem_append_left _ (List.mem_append_right _ y)
          · exact List.mem_append_right _ y) HG.out HA1.out.part.st.tx (fun q hq hm => by
        rcases List.mem_append.1 hm with y | y
        · exact HA1.out.part.st.apart q hq y
        · exact HA1.out.part.apart q (by simp [hq]) y) HA1.out.part.tn (List.mem_append_right _ HA1.out.part.inX) hcs)
      have HR1 := Lib.hid (rOne_1 (cells := cells) (b := b) (e := e) (r := r) (t := t) hk1)
      have HKP := Lib.hid (tRead_kp (cells := cells) HA1.out.ok cell c)
      have HL1 := Lib.hid hl1; have HL2 := Lib.hid hl2; have HKK := Lib.hid hkk; have HK8 := Lib.hid hk8
      have HPX := Lib.hid hpX
      clear hcl1 hk hk1 hrg2 hws hl1 hl2 hkk hcs hr9 hpW hCp hpX z1
      go_wp2_with fail
      refine HRD.out.mono ?_
      rintro en w2 ⟨m, ⟨x, t2⟩, c2, v, E, B', hx, hxl, rfl, he, ht2, hc2, hh2, hB2, hEB2⟩
      have hkp := HKP.out
      rw [hx] at hkp
      have hA2 := HA1.out.readA ht2 hc2 hh2 hB2 hEB2 (by have := hkp.few; have := HL1.out; simp only at *; omega) hkp.ok
      have HA2 := Lib.hid hA2
      have hh2R : HeldBy ([br, br + 1] ++ R) wc w2 := hh2.less fun q hq => List.mem_append_right _ hq
      have HH2 := Lib.hid (HH.out.trans (hh2R.less fun q hq => by simp [hq]))
      have HBB := Lib.hid (show ∀ q ∈ E ++ (B' ++ X), q ∈ T ++ X ∨ w.heap.size ≤ q from fun q hq => by
        have hz := HH.out.1
        rcases List.mem_append.1 hq with y | y
        · rcases hB2 q (by simp [y]) with u | u
          · exact .inl (by simp [u])
          · exact .inr (Nat.le_trans hz u)
        · rcases List.mem_append.1 y with y | y
          · rcases hB2 q (by simp [y]) with u | u
            · exact .inl (by simp [u])
            · exact .inr (Nat.le_trans hz u)
          · exact .inl (by simp [y]))
      by_cases h0 : m = 0
      · subst h0
        obtain ⟨rfl, rfl⟩ := he.isNil rfl
        have gx := wrap_w64U x hxl
        have i0 : w2.cell? ⟨br, 0, none⟩ = some (.pointer (some ⟨pr, 0, none⟩)) := (HC0.out.heldBy hh2R (by simp)).cell 0
        have hC2 := HC.out.heldBy hh2R (by simp)
        obtain ⟨⟨-, -, i2, i3, i4, i5, i6, -, -⟩, -⟩ := nine_cells hC2
        rw [HKK.out] at i2
        obtain ⟨lw, hr9, hpW, hCp, hlw, hpX, hXb⟩ := hA2.own
        have i7 : w2.drew.cell? ⟨pr, 2 + k, none⟩ = some (rOr w2.drew ⟨pr, 2 + k, none⟩) := rOr_of (rn_reg hCp hr9 HK8.out)
        have i8 := hCp.free (2 + k)
        have HX := Lib.hid hx
        have HC2 := Lib.hid hC2
        have HI0 := Lib.hid (HC0.out.heldBy hh2R (by simp))
        clear hx hxl he ht2 hc2 hh2 hB2 hEB2 hkp hA2 hh2R hC2 hr9 hpW hCp hlw hpX hXb HRD k0 s0 s1 s2 s3 s4 s5' s6 s7 s8 p0
        go_upto_region 7 with (fail)
        go_region_held3 (fun w' => w'.cell? ⟨br, 0, none⟩ = some (.pointer (some ⟨pr, 0, none⟩)) ∧ w'.cell? ⟨br + 1, 2, none⟩ = some (.int .i64 (k : Int)) ∧ w'.cell? ⟨br + 1, 3, none⟩ = some (.int .i64 h.a.1) ∧ w'.cell? ⟨br + 1, 4, none⟩ = some (.int .i64 h.a.2) ∧ w'.cell? ⟨br + 1, 5, none⟩ = some (.int .i64 h.b.1) ∧ w'.cell? ⟨br + 1, 6, none⟩ = some (.int .i64 h.b.2) ∧ w'.cell? ⟨pr, 2 + k, none⟩ = some (rOr w' ⟨pr, 2 + k, none⟩) ∧ w'.frozen? ⟨pr, 2 + k, none⟩ = false)
          (first | with_reducible exact ⟨i0, i2, i3, i4, i5, i6, i7, i8⟩ | exact sreg_keep (by assumption) HPB.out _ | go_keep)
          (fail)
        obtain ⟨ha3, hh3⟩ := HA2.out.setReg HK8.out (toI x)
        have ha3d := ha3.under (below_drewN (Below.refl _ _) 1)
        have C03 : Cells (w2.setCell ⟨pr, 2 + k, none⟩ (.int .i64 (toI x))).drew br [.pointer (some ⟨pr, 0, none⟩)] 110 := HI0.out.heldBy hh3 (by simp)
        obtain ⟨w3, hw3⟩ : ∃ w3, (w2.setCell ⟨pr, 2 + k, none⟩ (.int .i64 (toI x))).drew = w3 := ⟨_, rfl⟩
        have HA3 := Lib.hid (show RnAt W ([br, br + 1] ++ R) B' X Q pa pb pc pt px pr gc n cap cells lv0 told0 { r with regs := r.regs.set k (toI x) } t2 c2 w3 from hw3 ▸ ha3d)
        have HH3 := Lib.hid (show HeldBy R w w3 from HH2.out.trans (hw3 ▸ hh3.less (R' := R) fun q hq => by simp [hq]))
        rw [hw3] at C03 ⊢
        have e0 : w3.cell? ⟨br, 0, none⟩ = some (.pointer (some ⟨pr, 0, none⟩)) := C03.cell 0
        obtain ⟨lt, hr9, hpW, hCp, hlt, hpX, hXb⟩ := HA3.out.own
        have e1 : w3.drew.cell? ⟨pr, 11, none⟩ = some lt := rn_told hCp hr9
        have e2 := hCp.free 11
        clear ha3 ha3d hh3 C03 hw3 i0 i2 i3 i4 i5 i6 i7 i8
        go_upto_region 8 with (fail)
        obtain ⟨tn, htn⟩ : ∃ tn, r.told = tn := ⟨_, rfl⟩
        have HL3 := Lib.hid (show IntsAt w3 lt tn by rw [← htn]; exact hlt)
        have HLB := Lib.hid (show ∀ b ∈ lt.ownBlock.toList, b < w3.heap.size from fun b hb => by
          obtain ⟨lq, -, -, hq, h4⟩ := HA3.out.part.st.st
          have e : lq = lt := by
            have := (rn_told hq hr9).symm.trans e1
            exact Option.some.inj this
          subst e
          rcases h4 with ⟨q1, -, -⟩ | ⟨q1, -, -⟩
          · rw [q1] at hb
            exact HA3.out.heldR b (HA3.out.in0 b hb)
          · exact HA3.out.part.ctx.heldR b (by rw [q1]; simp [hb]))
        have HCP := Lib.hid hCp; have HR9 := Lib.hid hr9
        have HTN := Lib.hid (show tn.length ≤ 900000 by have := HL2.out; rw [← htn]; omega)
        have HIN := Lib.hid (fun (wx : World) (hx : Below w3.heap.size w3 wx) => HL3.out.heldBy (HeldBy.of_below hx HLB.out) (fun _ h => h))
        have HS3 := Lib.hid (fun (wx : World) (hx : Below w3.heap.size w3 wx) => (show wx.cell? ⟨br, 0, none⟩ = some (.pointer (some ⟨pr, 0, none⟩)) ∧ wx.cell? ⟨pr, 11, none⟩ = some lt from ⟨(hx.cell (p := ⟨br, 0, none⟩) (World.block_lt_of_cell? _ _ e0)).trans e0, (hx.cell (p := ⟨pr, 11, none⟩) (World.block_lt_of_cell? w3 _ e1)).trans e1⟩))
        have HS : w3.drew.cell? ⟨br, 0, none⟩ = some (.pointer (some ⟨pr, 0, none⟩)) ∧ w3.drew.cell? ⟨pr, 11, none⟩ = some lt := ⟨e0, e1⟩
        have BD : Below w3.heap.size w3 w3.drew := below_drewN (Below.refl _ _) 1
        have HTNE := Lib.hid htn
        clear hr9 hpW hCp hlt hpX hXb e0 e1 e2 htn
        have HFIN := Lib.hid (fun (wx : World) (htl : TellR pr px (.slice (some ⟨gc, 0, none⟩) n cap) (r.regs.set k (toI x)) tn (toI x) w3 wx) => (show RnPost W R T X pa pb pc pt px pr gc n cap lv0 told0 (rOne cells (.mk h b e) r t) c w (.returned .nilIface) wx from by
          obtain ⟨lv2, hk4, hc4, hi4, hn4⟩ := htl
          obtain ⟨ha4, hh4⟩ := HA3.out.tell hk4 hc4 hi4 hn4
          refine ha4.ret (by
            rw [HR1.out, HCN.out]
            simp only [exec_bind, HX.out, rGet, if_true, exec, Rn.tell, HKK.out, HTNE.out]
            rfl) HA00.out.part.inX (HH3.out.trans (hh4.less fun q hq => by simp [hq])) (fun q hq => ?_)
          rcases List.mem_append.1 hq with y | y
          · exact HBB.out q (by simp [y])
          · rcases List.mem_cons.1 y with y | y
            · exact .inl (by rw [y]; exact List.mem_append_right _ HPX.out)
            · exact .inr (Nat.le_trans HH3.out.1 (hn4 q y).1)))
        refine wp_region_k (S := fun w => w.cell? ⟨br, 0, none⟩ = some (.pointer (some ⟨pr, 0, none⟩)) ∧ w.cell? ⟨pr, 11, none⟩ = some lt) (D := fun i => Nat.ble 11 i) (by kernel_rfl) ?_
        refine wpAnyK_take (i := 7) (v := .int .u64 (x : Int)) rfl (by kernel_rfl) (by kernel_rfl) (by kernel_rfl) (by kernel_rfl) (fun _ _ _ h => h) (Or.inl ⟨by rfl, fun w hS => by obtain ⟨hS1, hS2⟩ := hS; go_simp⟩) HS ?_
        simp only [Act.put, List.getElem_toArray, List.getElem_cons_succ, List.getElem_cons_zero, List.setIfInBounds_toArray, List.set_cons_zero, List.set_cons_succ]
        refine wpAnyK_take (i := 8) (v := .int .i64 (toI x)) rfl (by kernel_rfl) (by kernel_rfl) (by kernel_rfl) (by kernel_rfl) (fun _ _ _ h => h) (Or.inl ⟨by rfl, fun w hS => by obtain ⟨hS1, hS2⟩ := hS; go_simp⟩) HS ?_
        simp only [Act.put, List.getElem_toArray, List.getElem_cons_succ, List.getElem_cons_zero, List.setIfInBounds_toArray, List.set_cons_zero, List.set_cons_succ]
        refine wpAnyK_take (i := 0) (v := .pointer (some ⟨pr, 0, none⟩)) rfl (by kernel_rfl) (by kernel_rfl) (by kernel_rfl) (by kernel_rfl) (fun _ _ _ h => h) (Or.inl ⟨by rfl, fun w hS => by obtain ⟨hS1, hS2⟩ := hS; go_simp⟩) HS ?_
        simp only [Act.put, List.getElem_toArray, List.getElem_cons_zero, List.setIfInBounds_toArray, List.set_cons_zero, List.set_cons_succ]
        refine wpAnyK_take (i := 2) (v := .pointer (some ⟨pr, 0, none⟩)) rfl (by kernel_rfl) (by kernel_rfl) (by kernel_rfl) (by kernel_rfl) (fun _ _ _ h => h) (Or.inl ⟨by rfl, fun w hS => by obtain ⟨hS1, hS2⟩ := hS; go_simp⟩) HS ?_
        simp only [Act.put, List.getElem_toArray, List.getElem_cons_succ, List.getElem_cons_zero, List.setIfInBounds_toArray, List.set_cons_zero, List.set_cons_succ]
        refine wpAnyK_take (i := 3) (v := .pointer (some ⟨pr, 0, none⟩)) rfl (by kernel_rfl) (by kernel_rfl) (by kernel_rfl) (by kernel_rfl) (fun _ _ _ h => h) (Or.inl ⟨by rfl, fun w hS => by obtain ⟨hS1, hS2⟩ := hS; go_simp⟩) HS ?_
        simp only [Act.put, List.getElem_toArray, List.getElem_cons_succ, List.getElem_cons_zero, List.setIfInBounds_toArray, List.set_cons_zero, List.set_cons_succ]
        refine wpAnyK_take (i := 4) (v := .pointer (some ⟨pr, 11, none⟩)) rfl (by kernel_rfl) (by kernel_rfl) (by kernel_rfl) (by kernel_rfl) (fun _ _ _ h => h) (Or.inl ⟨by rfl, fun w hS => by obtain ⟨hS1, hS2⟩ := hS; go_simp⟩) HS ?_
        simp only [Act.put, List.getElem_toArray, List.getElem_cons_succ, List.getElem_cons_zero, List.setIfInBounds_toArray, List.set_cons_zero, List.set_cons_succ]
        refine wpAnyK_take (i := 5) (v := lt) rfl (by kernel_rfl) (by kernel_rfl) (by kernel_rfl) (by kernel_rfl) (fun _ _ _ h => h) (Or.inl ⟨by rfl, fun w hS => by obtain ⟨hS1, hS2⟩ := hS; go_simp⟩) HS ?_
        simp only [Act.put, List.getElem_toArray, List.getElem_cons_succ, List.getElem_cons_zero, List.setIfInBounds_toArray, List.set_cons_zero, List.set_cons_succ]
        refine wpAnyK_all (rs := [1, 9]) (by kernel_rfl) (by simp) ?_
        refine List.forall_mem_cons.2 ⟨?_, List.forall_mem_cons.2 ⟨?_, fun _ h => absurd h (by simp)⟩⟩
        · skip
          refine wpOp_go rfl ?_
          go_simp
          have b1 : Below w3.heap.size w3 ((w3).alloc (.cells #[] 3)) := (Below.refl w3.heap.size w3).alloc (Nat.le_refl _) _
          refine ⟨fun _ => HS3.out _ b1, ?_⟩
          have row1 := row_none w3 (base := w3.heap.size) (Nat.le_refl _)
          refine wpAnyK_all (rs := [6, 9]) (by kernel_rfl) (by simp) ?_
          refine List.forall_mem_cons.2 ⟨?_, List.forall_mem_cons.2 ⟨?_, fun _ h => absurd h (by simp)⟩⟩
          · skip
            refine wpOp_go rfl ?_
            refine step_append_int rfl _ _ rfl (by rfl) row1 (by rfl) (HIN.out _ (below_drewN b1 1)) (by have := HTN.out; omega) b1.size (m := tn.length) (by simp) (l := tn) rfl ?_
            intro p4 c4 w4 ho4 hg4 hb4
            have b4 : Below w3.heap.size w3 w4 := grown_below (below_drewN b1 1) (Nat.le_refl _) hg4 (fun g hg => (row1.lt g hg).1)
            refine ⟨fun _ => HS3.out _ b4, ?_⟩
            simp only [Act.put, List.getElem_toArray, List.getElem_cons_succ, List.getElem_cons_zero, List.setIfInBounds_toArray, List.set_cons_zero, List.set_cons_succ]
            refine wpAnyK_all (rs := [9]) (by kernel_rfl) (by simp) ?_
            refine List.forall_mem_cons.2 ⟨?_, fun _ h => absurd h (by simp)⟩
            refine wpOp_go rfl ?_
            go_simp
            have b9 : Below w3.heap.size w3 ((w4).alloc (.cells #[.int .i64 (toI x)] 3)) := b4.alloc (b4.size) _
            refine ⟨fun _ => HS3.out _ b9, ?_⟩
            refine wpAnyK_all (rs := [10]) (by kernel_rfl) (by simp) ?_
            refine List.forall_mem_cons.2 ⟨?_, fun _ h => absurd h (by simp)⟩
            refine wpOp_go rfl ?_
            refine step_append_int rfl _ _ rfl (by rfl) (ho4.alloc _) (by rfl) (IntsAt.one w4 (toI x)) (by have := HTN.out; simp; omega) b9.size (m := tn.length + 1) rfl (l := tn ++ [toI x]) rfl ?_
            intro p5 c5 w5 ho5 hg5 hb5
            have b5 : Below w3.heap.size w3 w5 := grown_below b9 (Nat.le_refl _) hg5 (fun g hg => (ho4.lt g hg).1)
            refine ⟨fun _ => HS3.out _ b5, ?_⟩
            simp only [Act.put, List.getElem_toArray, List.getElem_cons_succ, List.getElem_cons_zero, List.setIfInBounds_toArray, List.set_cons_zero, List.set_cons_succ]
            have f0 := (HS3.out _ b5).2
            have f1 := (HCP.out.below b5).free 11
            have HF := Lib.hid (tell_end b5 HCP.out HR9.out rfl (by simp) ho5)
            refine wpAnyK_pure (i := 11) (v := .pointer (some ⟨pr, 0, none⟩)) rfl rfl (by kernel_rfl) (by kernel_rfl) (by kernel_rfl) (fun _ _ _ h => h) (Or.inl ⟨by rfl, fun w _ => by go_simp⟩) ?_
            simp only [Act.put, List.getElem_toArray, List.getElem_cons_succ, List.getElem_cons_zero, List.setIfInBounds_toArray, List.set_cons_zero, List.set_cons_succ]
            refine wpAnyK_pure (i := 12) (v := .pointer (some ⟨pr, 11, none⟩)) rfl rfl (by kernel_rfl) (by kernel_rfl) (by kernel_rfl) (fun _ _ _ h => h) (Or.inl ⟨by rfl, fun w _ => by go_simp⟩) ?_
            simp only [Act.put, List.getElem_toArray, List.getElem_cons_succ, List.getElem_cons_zero, List.setIfInBounds_toArray, List.set_cons_zero, List.set_cons_succ]
            refine wpAnyK_all (rs := [13]) (by kernel_rfl) (by simp) ?_
            refine List.forall_mem_cons.2 ⟨?_, fun _ h => absurd h (by simp)⟩
            refine wpOp_go rfl ?_
            go_simp
            refine wpAnyK_done (by kernel_rfl) ?_ _
            go_wp2
            go_ret
            exact HFIN.out _ HF.out
          · skip
            refine wpOp_go rfl ?_
            go_simp
            have b9 : Below w3.heap.size w3 ((w3.alloc (.cells #[] 3)).alloc (.cells #[.int .i64 (toI x)] 3)) := b1.alloc (b1.size) _
            refine ⟨fun _ => HS3.out _ b9, ?_⟩
            have i9 : IntsAt ((w3.alloc (.cells #[] 3)).alloc (.cells #[.int .i64 (toI x)] 3)) (.slice (some ⟨w3.heap.size + 1, 0, none⟩) 1 1) [toI x] := by
              have := IntsAt.one (w3.alloc (.cells #[] 3)) (toI x)
              rw [World.size_alloc] at this
              exact this
            have row2 := row1.alloc (.cells #[.int .i64 (toI x)] 3)
            refine wpAnyK_all (rs := [6]) (by kernel_rfl) (by simp) ?_
            refine List.forall_mem_cons.2 ⟨?_, fun _ h => absurd h (by simp)⟩
            refine wpOp_go rfl ?_
            refine step_append_int rfl _ _ rfl (by rfl) row2 (by rfl) (HIN.out _ (below_drewN b9 1)) (by have := HTN.out; omega) b9.size (m := tn.length) (by simp) (l := tn) rfl ?_
            intro p4 c4 w4 ho4 hg4 hb4
            have b4 : Below w3.heap.size w3 w4 := grown_below (below_drewN b9 1) (Nat.le_refl _) hg4 (fun g hg => (row2.lt g hg).1)
            refine ⟨fun _ => HS3.out _ b4, ?_⟩
            simp only [Act.put, List.getElem_toArray, List.getElem_cons_succ, List.getElem_cons_zero, List.setIfInBounds_toArray, List.set_cons_zero, List.set_cons_succ]
            have i4 := i9.heldBy (HeldBy.of_grown_ne hg4 (b := w3.heap.size + 1) (by simp) (fun e => by simp [Value.ownBlock] at e)) (by simp [Value.ownBlock])
            refine wpAnyK_all (rs := [10]) (by kernel_rfl) (by simp) ?_
            refine List.forall_mem_cons.2 ⟨?_, fun _ h => absurd h (by simp)⟩
            refine wpOp_go rfl ?_
            refine step_append_int rfl _ _ rfl (by rfl) ho4 (by rfl) i4 (by have := HTN.out; simp; omega) b4.size (m := tn.length + 1) rfl (l := tn ++ [toI x]) rfl ?_
            intro p5 c5 w5 ho5 hg5 hb5
            have b5 : Below w3.heap.size w3 w5 := grown_below b4 (Nat.le_refl _) hg5 (fun g hg => (ho4.lt g hg).1)
            refine ⟨fun _ => HS3.out _ b5, ?_⟩
            simp only [Act.put, List.getElem_toArray, List.getElem_cons_succ, List.getElem_cons_zero, List.setIfInBounds_toArray, List.set_cons_zero, List.set_cons_succ]
            have f0 := (HS3.out _ b5).2
            have f1 := (HCP.out.below b5).free 11
            have HF := Lib.hid (tell_end b5 HCP.out HR9.out rfl (by simp) ho5)
            refine wpAnyK_pure (i := 11) (v := .pointer (some ⟨pr, 0, none⟩)) rfl rfl (by kernel_rfl) (by kernel_rfl) (by kernel_rfl) (fun _ _ _ h => h) (Or.inl ⟨by rfl, fun w _ => by go_simp⟩) ?_
            simp only [Act.put, List.getElem_toArray, List.getElem_cons_succ, List.getElem_cons_zero, List.setIfInBounds_toArray, List.set_cons_zero, List.set_cons_succ]
            refine wpAnyK_pure (i := 12) (v := .pointer (some ⟨pr, 11, none⟩)) rfl rfl (by kernel_rfl) (by kernel_rfl) (by kernel_rfl) (fun _ _ _ h => h) (Or.inl ⟨by rfl, fun w _ => by go_simp⟩) ?_
            simp only [Act.put, List.getElem_toArray, List.getElem_cons_succ, List.getElem_cons_zero, List.setIfInBounds_toArray, List.set_cons_zero, List.set_cons_succ]
            refine wpAnyK_all (rs := [13]) (by kernel_rfl) (by simp) ?_
            refine List.forall_mem_cons.2 ⟨?_, fun _ h => absurd h (by simp)⟩
            refine wpOp_go rfl ?_
            go_simp
            refine wpAnyK_done (by kernel_rfl) ?_ _
            go_wp2
            go_ret
            exact HFIN.out _ HF.out
        · skip
          refine wpOp_go rfl ?_
          go_simp
          have b1 : Below w3.heap.size w3 ((w3).alloc (.cells #[.int .i64 (toI x)] 3)) := (Below.refl w3.heap.size w3).alloc (Nat.le_refl _) _
          refine ⟨fun _ => HS3.out _ b1, ?_⟩
          have i9 := IntsAt.one w3 (toI x)
          refine wpAnyK_all (rs := [1]) (by kernel_rfl) (by simp) ?_
          refine List.forall_mem_cons.2 ⟨?_, fun _ h => absurd h (by simp)⟩
          refine wpOp_go rfl ?_
          go_simp
          have b9 : Below w3.heap.size w3 ((w3.alloc (.cells #[.int .i64 (toI x)] 3)).alloc (.cells #[] 3)) := b1.alloc (b1.size) _
          refine ⟨fun _ => HS3.out _ b9, ?_⟩
          have row1 : ((w3.alloc (.cells #[.int .i64 (toI x)] 3)).alloc (.cells #[] 3)).ownsRow w3.heap.size 3 1 (.slice (some ⟨w3.heap.size + 1, 0, none⟩) 0 0) 0 (regsV []) := by
            have := row_none (w3.alloc (.cells #[.int .i64 (toI x)] 3)) (base := w3.heap.size) b1.size
            rw [World.size_alloc] at this
            exact this
          refine wpAnyK_all (rs := [6]) (by kernel_rfl) (by simp) ?_
          refine List.forall_mem_cons.2 ⟨?_, fun _ h => absurd h (by simp)⟩
          refine wpOp_go rfl ?_
          refine step_append_int rfl _ _ rfl (by rfl) row1 (by rfl) (HIN.out _ (below_drewN b9 1)) (by have := HTN.out; omega) b9.size (m := tn.length) (by simp) (l := tn) rfl ?_
          intro p4 c4 w4 ho4 hg4 hb4
          have b4 : Below w3.heap.size w3 w4 := grown_below (below_drewN b9 1) (Nat.le_refl _) hg4 (fun g hg => (row1.lt g hg).1)
          refine ⟨fun _ => HS3.out _ b4, ?_⟩
          simp only [Act.put, List.getElem_toArray, List.getElem_cons_succ, List.getElem_cons_zero, List.setIfInBounds_toArray, List.set_cons_zero, List.set_cons_succ]
          have i4 := (i9.heldBy (HeldBy.of_below (R := [w3.heap.size]) ((Below.refl _ _).alloc (Nat.le_refl _) (.cells #[] 3)) (by simp)) (by simp [Value.ownBlock])).heldBy (HeldBy.of_grown_ne hg4 (b := w3.heap.size) (by simp; omega) (fun e => by simp [Value.ownBlock] at e)) (by simp [Value.ownBlock])
          refine wpAnyK_all (rs := [10]) (by kernel_rfl) (by simp) ?_
          refine List.forall_mem_cons.2 ⟨?_, fun _ h => absurd h (by simp)⟩
          refine wpOp_go rfl ?_
          refine step_append_int rfl _ _ rfl (by rfl) ho4 (by rfl) i4 (by have := HTN.out; simp; omega) b4.size (m := tn.length + 1) rfl (l := tn ++ [toI x]) rfl ?_
          intro p5 c5 w5 ho5 hg5 hb5
          have b5 : Below w3.heap.size w3 w5 := grown_below b4 (Nat.le_refl _) hg5 (fun g hg => (ho4.lt g hg).1)
          refine ⟨fun _ => HS3.out _ b5, ?_⟩
          simp only [Act.put, List.getElem_toArray, List.getElem_cons_succ, List.getElem_cons_zero, List.setIfInBounds_toArray, List.set_cons_zero, List.set_cons_succ]
          have f0 := (HS3.out _ b5).2
          have f1 := (HCP.out.below b5).free 11
          have HF := Lib.hid (tell_end b5 HCP.out HR9.out rfl (by simp) ho5)
          refine wpAnyK_pure (i := 11) (v := .pointer (some ⟨pr, 0, none⟩)) rfl rfl (by kernel_rfl) (by kernel_rfl) (by kernel_rfl) (fun _ _ _ h => h) (Or.inl ⟨by rfl, fun w _ => by go_simp⟩) ?_
          simp only [Act.put, List.getElem_toArray, List.getElem_cons_succ, List.getElem_cons_zero, List.setIfInBounds_toArray, List.set_cons_zero, List.set_cons_succ]
          refine wpAnyK_pure (i := 12) (v := .pointer (some ⟨pr, 11, none⟩)) rfl rfl (by kernel_rfl) (by kernel_rfl) (by kernel_rfl) (fun _ _ _ h => h) (Or.inl ⟨by rfl, fun w _ => by go_simp⟩) ?_
          simp only [Act.put, List.getElem_toArray, List.getElem_cons_succ, List.getElem_cons_zero, List.setIfInBounds_toArray, List.set_cons_zero, List.set_cons_succ]
          refine wpAnyK_all (rs := [13]) (by kernel_rfl) (by simp) ?_
          refine List.forall_mem_cons.2 ⟨?_, fun _ h => absurd h (by simp)⟩
          refine wpOp_go rfl ?_
          go_simp
          refine wpAnyK_done (by kernel_rfl) ?_ _
          go_wp2
          go_ret
          exact HFIN.out _ HF.out
      · have hsh := he.iface h0
        have HF := Lib.hid (HA2.out.fin (T := T) (X := X) (p := rOne cells (.mk h b e) r t) (c := c) (by rw [HR1.out, HCN.out]; simp only [exec_bind, hx, rGet, if_neg h0, exec]) he HH2.out HBB.out)
        obtain ⟨tt, xx, rfl⟩ := hsh
        clear hx hxl he ht2 hc2 hh2 hB2 hEB2 hkp hA2 h0 HRD
        go_wp2
        go_ret
        exact HF.out
    · have g1 : (z == 1) = false := by simpa using z1
      by_cases z2 : z = 2
      · have g2 : (z == 2) = true := by simp [z2]
        have hk := HZ.out
        have hk2 : h.kind = 2 := by omega
        have hws : wlogS (.mk h b e) = 1 := by rw [wlogS]; unfold wlogH; rw [if_pos (.inr hk2)]
        have hl1 := HLOG.out
        rw [hws] at hl1
        obtain ⟨bb, hbb⟩ : ∃ bb, argN r h.b = bb := ⟨_, rfl⟩
        obtain ⟨vn, hvn⟩ := Int.eq_ofNat_of_zero_le (show 0 ≤ bb % 1000 from Int.emod_nonneg _ (by omega))
        have hvl : vn < 1000 := by have := Int.emod_lt_of_pos bb (show (0 : Int) < 1000 by omega); omega
        have gvn : IntKind.u64.wrap (vn : Int) = (vn : Int) := by show (vn : Int) % 18446744073709551616 = _; omega
        obtain ⟨lv', hr9, hpW, hCp, -⟩ := HA1.out.own
        have p0 := (rn_two hCp).1
        have HARG := Lib.hid (fun (wx : World) (hx : Below wc.heap.size wc wx) (x : Int × Int) => arg_ok (hCp.kept (Kept.of_below hx) (by have := hCp.lt; omega)) hr9 x)
        have HM1 := Lib.hid (fun wx : World => (show Calls Tryz.prog 13 #[.int .i64 bb, .int .i64 1000] wx fun e w' => e = .returned (.int .i64 (vn : Int)) ∧ wx = w' by rw [← hvn]; exact mod_ok bb 1000 (by omega) (by omega) wx))
        have hcs : cell < 18446744073709551616 := HA1.out.small cell (List.mem_of_getElem? HCL.out)
        have HWR := Lib.hid (fun (wx : World) (hx : Below wc.heap.size wc wx) => (let hu := HA1.out.under hx; xwrite_ok hu.part.st.tx hu.part.tn hcs (value := vn) (by omega) hu.part.ctx.below.size hu.part.log))
        have HS := Lib.hid (fun (wx : World) (hx : HeldBy ([br, br + 1] ++ R) wc wx ∧ HeldBy X wc wx) => (show wx.cell? ⟨br, 0, none⟩ = some (.pointer (some ⟨pr, 0, none⟩)) ∧ wx.cell? ⟨pr, 0, none⟩ = some (.pointer (some ⟨px, 0, none⟩)) ∧ wx.cell? ⟨br + 1, 5, none⟩ = some (.int .i64 h.b.1) ∧ wx.cell? ⟨br + 1, 6, none⟩ = some (.int .i64 h.b.2) from by
          obtain ⟨lw, -, -, hcw, -, hpx', -⟩ := HA1.out.own
          have hc2 := hcw.heldBy hx.2 hpx'
          exact ⟨(HC0.out.heldBy hx.1 (by simp)).cell 0, (rn_two hc2).1, (HC.out.heldBy hx.1 (by simp)).cell 5, (HC.out.heldBy hx.1 (by simp)).cell 6⟩))
        have HLX := Lib.hid (show (∀ b ∈ [br, br + 1] ++ R, b < wc.heap.size) ∧ ∀ b ∈ X, b < wc.heap.size from ⟨HA1.out.heldR, fun b hb => HA1.out.part.ctx.heldR b (by simp [hb])⟩)
        have HBB := Lib.hid hbb
        have HR1 := Lib.hid (show rOne cells (.mk h b e) r t = .ret ((tWrite t cell vn).1, r, (tWrite t cell vn).2) by rw [rOne_2 hk2, HCN.out, hbb, hvn]; rfl)
        have HL1 := Lib.hid hl1
        have HKP := Lib.hid (tWrite_kp HA1.out.ok (List.mem_of_getElem? HCL.out) vn)
        clear hcl1 hk hk2 hws hl1 hbb hvn hvl hr9 hpW hCp z1 z2 hcs
        go_upto_region 10 with (fail)
        go_region_held3 (fun w' => w'.cell? ⟨br, 0, none⟩ = some (.pointer (some ⟨pr, 0, none⟩)) ∧ w'.cell? ⟨pr, 0, none⟩ = some (.pointer (some ⟨px, 0, none⟩)) ∧ w'.cell? ⟨br + 1, 5, none⟩ = some (.int .i64 h.b.1) ∧ w'.cell? ⟨br + 1, 6, none⟩ = some (.int .i64 h.b.2))
          (first | with_reducible exact ⟨k0, p0, s5', s6⟩ | with_reducible exact ⟨j0, j1, j2, j3⟩ | with_reducible exact ⟨i0, i1, i2, i3⟩ | go_keep)
          (first
            | (go_at_call 13; with_reducible refine (HM1.out _).mono ?_; rintro e w' ⟨rfl, rfl⟩)
            | (go_at_call 116; refine (HWR.out _ HB1.out).mono ?_; rintro e w2 ⟨v, E, B', rfl, he, ht, hkw, hBw, hEw, hEB⟩; obtain ⟨q1, q2⟩ := (HA1.out.under HB1.out).wrote he ht hkw hBw hEw hEB (by have := HKP.out.few; have := HL1.out; omega) HKP.out.ok; obtain ⟨j0, j1, j2, j3⟩ := HS.out w2 ⟨(HeldBy.of_below HB1.out HLX.out.1).trans q2, (HeldBy.of_below HB1.out HLX.out.2).trans ⟨hkw.size, fun b hb => hkw.block b (Nat.lt_of_lt_of_le (HLX.out.2 b hb) HB1.out.size) (fun e => HA1.out.part.st.apart b e hb)⟩⟩; have HQ1 := Lib.hid q1; have HQ2 := Lib.hid q2; have HE := Lib.hid he; have HBW := Lib.hid hBw; have HEW := Lib.hid hEw; clear q1 q2 he ht hkw hBw hEw hEB)
            | (go_at_call 114; refine (HARG.out _ (below_drewN (Below.refl _ _) _) h.b).mono ?_; rintro e w1 ⟨rfl, hb1⟩; rw [HBB.out]; have HB1 := Lib.hid ((below_drewN (Below.refl wc.heap.size wc) 1).trans hb1); obtain ⟨i0, i1, i2, i3⟩ := HS.out w1 ⟨HeldBy.of_below HB1.out HLX.out.1, HeldBy.of_below HB1.out HLX.out.2⟩; clear hb1))
        have HF := Lib.hid (HQ1.out.fin (T := T) (X := X) (p := rOne cells (.mk h b e) r t) (c := c) (by rw [HR1.out]; rfl) HE.out ((HH.out.trans (HeldBy.of_below HB1.out (fun q hq => HLX.out.1 q (by simp [hq])))).trans (HQ2.out.less fun q hq => by simp [hq])) (fun q hq => by
          have hz : w.heap.size ≤ w1.heap.size := Nat.le_trans HH.out.1 HB1.out.size
          rcases List.mem_append.1 hq with y | y
          · exact .inr (Nat.le_trans hz (HEW.out q y))
          · rcases List.mem_append.1 y with y | y
            · rcases HBW.out q y with u | u
              · exact .inl (by simp [u])
              · exact .inr (Nat.le_trans hz u)
            · exact .inl (by simp [y])))
        rcases HE.out.shape with rfl | ⟨tt, xx, rfl⟩
        all_goals
          go_wp2
          go_ret
          exact HF.out
      · have g2 : (z == 2) = false := by simpa using z2
        by_cases z9 : z = 9
        · have g9 : (z == 9) = true := by simp [z9]
          have hk := HZ.out
          have hk9 : h.kind = 9 := by omega
          have hrg2 : 1 ≤ h.reg ∧ h.reg ≤ 8 := by
            have := HRG.out
            unfold rgS rgH at this
            exact this.1.1 (by omega)
          obtain ⟨k, hkk⟩ := Int.eq_ofNat_of_zero_le (show 0 ≤ h.reg by omega)
          have hk8 : k < 9 := by omega
          have hk8' : (k : Int) < 9 := by omega
          rw [hkk] at s2
          obtain ⟨lv', hr9, hpW, hCp, -, hpX, -⟩ := HA1.out.own
          have HPB := Lib.hid (show pr < br from by rw [← HBR.out]; exact HA00.out.part.ctx.heldR pr (by simp [hpX]))
          have HARG := Lib.hid (fun (wx : World) (hx : Below wc.heap.size wc wx) (x : Int × Int) => arg_ok (hCp.kept (Kept.of_below hx) (by have := hCp.lt; omega)) hr9 x)
          have HM1 := Lib.hid (fun wx : World => mod_ok a 1000 (by omega) (by omega) wx)
          have p5 : wc.drew.cell? ⟨pr, 2 + k, none⟩ = some (rOr wc.drew ⟨pr, 2 + k, none⟩) := rOr_of (rn_reg hCp hr9 hk8)
          have p6 := hCp.free (2 + k)
          have HS := Lib.hid (fun (wx : World) (hx : Below wc.heap.size wc wx) => (show wx.cell? ⟨br, 0, none⟩ = some (.pointer (some ⟨pr, 0, none⟩)) ∧ wx.cell? ⟨br + 1, 2, none⟩ = some (.int .i64 (k : Int)) ∧ wx.cell? ⟨br + 1, 3, none⟩ = some (.int .i64 h.a.1) ∧ wx.cell? ⟨br + 1, 4, none⟩ = some (.int .i64 h.a.2) ∧ wx.cell? ⟨br + 1, 5, none⟩ = some (.int .i64 h.b.1) ∧ wx.cell? ⟨br + 1, 6, none⟩ = some (.int .i64 h.b.2) ∧ wx.cell? ⟨pr, 2 + k, none⟩ = some (rOr wx ⟨pr, 2 + k, none⟩) ∧ wx.frozen? ⟨pr, 2 + k, none⟩ = false from
            ⟨(hx.cell (p := ⟨br, 0, none⟩) (World.block_lt_of_cell? _ _ k0)).trans k0, (hx.cell (p := ⟨br + 1, 2, none⟩) (World.block_lt_of_cell? _ _ s2)).trans s2, (hx.cell (p := ⟨br + 1, 3, none⟩) (World.block_lt_of_cell? _ _ s3)).trans s3, (hx.cell (p := ⟨br + 1, 4, none⟩) (World.block_lt_of_cell? _ _ s4)).trans s4, (hx.cell (p := ⟨br + 1, 5, none⟩) (World.block_lt_of_cell? _ _ s5')).trans s5', (hx.cell (p := ⟨br + 1, 6, none⟩) (World.block_lt_of_cell? _ _ s6)).trans s6, rOr_of (rn_reg (hCp.below hx) hr9 hk8), (hCp.below hx).free (2 + k)⟩))
          have HR1 := Lib.hid (show rOne cells (.mk h b e) r t = .ret (0, { r with regs := r.regs.set k (a % 1000) }, t) by rw [rOne_9 hk9, HAA.out, hkk]; rfl)
          have HK8 := Lib.hid hk8
          clear hcl1 hk hk9 hrg2 hkk hr9 hpW hCp hpX z1 z2 z9
          go_upto_region 12 with (fail)
          go_region_held3 (fun w' => w'.cell? ⟨br, 0, none⟩ = some (.pointer (some ⟨pr, 0, none⟩)) ∧ w'.cell? ⟨br + 1, 2, none⟩ = some (.int .i64 (k : Int)) ∧ w'.cell? ⟨br + 1, 3, none⟩ = some (.int .i64 h.a.1) ∧ w'.cell? ⟨br + 1, 4, none⟩ = some (.int .i64 h.a.2) ∧ w'.cell? ⟨br + 1, 5, none⟩ = some (.int .i64 h.b.1) ∧ w'.cell? ⟨br + 1, 6, none⟩ = some (.int .i64 h.b.2) ∧ w'.cell? ⟨pr, 2 + k, none⟩ = some (rOr w' ⟨pr, 2 + k, none⟩) ∧ w'.frozen? ⟨pr, 2 + k, none⟩ = false)
            (first | with_reducible exact ⟨k0, s2, s3, s4, s5', s6, p5, p6⟩ | with_reducible exact ⟨i0, i2, i3, i4, i5, i6, i7, i8⟩ | exact sreg_keep (by assumption) HPB.out _ | go_keep)
            (first
              | (go_at_call 13; with_reducible refine (HM1.out _).mono ?_; rintro e w' ⟨rfl, rfl⟩)
              | (go_at_call 114; refine (HARG.out _ (below_drewN (Below.refl _ _) _) h.a).mono ?_; rintro e w1 ⟨rfl, hb1⟩; rw [HAA.out]; obtain ⟨i0, i2, i3, i4, i5, i6, i7, i8⟩ := HS.out w1 ((below_drewN (Below.refl wc.heap.size wc) 1).trans hb1); have HB1 := Lib.hid ((below_drewN (Below.refl wc.heap.size wc) 1).trans hb1); clear hb1))
          obtain ⟨ha2, hh2⟩ := (HA1.out.under HB1.out).setReg HK8.out (a % 1000)
          have HF := Lib.hid (ha2.ret (p := rOne cells (.mk h b e) r t) (c := c) (by rw [HR1.out]; rfl) HA00.out.part.inX ((HH.out.trans (HeldBy.of_below HB1.out (fun q hq => HA1.out.heldR q (by simp [hq])))).trans (hh2.less fun q hq => by simp [hq])) (fun q hq => .inl hq))
          clear ha2 hh2
          go_wp2
          go_ret
          exact HF.out
        · have g9 : (z == 9) = false := by simpa using z9
          by_cases z10 : z = 10
          · have g10 : (z == 10) = true := by simp [z10]
            have hk := HZ.out
            have hk10 : h.kind = 10 := by omega
            have hrg2 : 1 ≤ h.reg ∧ h.reg ≤ 8 := by
              have := HRG.out
              unfold rgS rgH at this
              exact this.1.1 (by omega)
            obtain ⟨k, hkk⟩ := Int.eq_ofNat_of_zero_le (show 0 ≤ h.reg by omega)
            have hk8 : k < 9 := by omega
            have hk8' : (k : Int) < 9 := by omega
            rw [hkk] at s2
            obtain ⟨lv', hr9, hpW, hCp, -, hpX, -⟩ := HA1.out.own
            have HPB := Lib.hid (show pr < br from by rw [← HBR.out]; exact HA00.out.part.ctx.heldR pr (by simp [hpX]))
            have HARG := Lib.hid (fun (wx : World) (hx : Below wc.heap.size wc wx) (x : Int × Int) => arg_ok (hCp.kept (Kept.of_below hx) (by have := hCp.lt; omega)) hr9 x)
            obtain ⟨bb, hbb⟩ : ∃ bb, argN r h.b = bb := ⟨_, rfl⟩
            obtain ⟨sm, hsm⟩ : ∃ sm, w64 (a + bb) = sm := ⟨_, rfl⟩
            have gsm : IntKind.i64.wrap (a + bb) = sm := by rw [w64_wrap, hsm]
            have HBB := Lib.hid hbb
            have HM1 := Lib.hid (fun wx : World => mod_ok sm 1000 (by omega) (by omega) wx)
            have p5 : wc.drew.cell? ⟨pr, 2 + k, none⟩ = some (rOr wc.drew ⟨pr, 2 + k, none⟩) := rOr_of (rn_reg hCp hr9 hk8)
            have p6 := hCp.free (2 + k)
            have HS := Lib.hid (fun (wx : World) (hx : Below wc.heap.size wc wx) => (show wx.cell? ⟨br, 0, none⟩ = some (.pointer (some ⟨pr, 0, none⟩)) ∧ wx.cell? ⟨br + 1, 2, none⟩ = some (.int .i64 (k : Int)) ∧ wx.cell? ⟨br + 1, 3, none⟩ = some (.int .i64 h.a.1) ∧ wx.cell? ⟨br + 1, 4, none⟩ = some (.int .i64 h.a.2) ∧ wx.cell? ⟨br + 1, 5, none⟩ = some (.int .i64 h.b.1) ∧ wx.cell? ⟨br + 1, 6, none⟩ = some (.int .i64 h.b.2) ∧ wx.cell? ⟨pr, 2 + k, none⟩ = some (rOr wx ⟨pr, 2 + k, none⟩) ∧ wx.frozen? ⟨pr, 2 + k, none⟩ = false from
              ⟨(hx.cell (p := ⟨br, 0, none⟩) (World.block_lt_of_cell? _ _ k0)).trans k0, (hx.cell (p := ⟨br + 1, 2, none⟩) (World.block_lt_of_cell? _ _ s2)).trans s2, (hx.cell (p := ⟨br + 1, 3, none⟩) (World.block_lt_of_cell? _ _ s3)).trans s3, (hx.cell (p := ⟨br + 1, 4, none⟩) (World.block_lt_of_cell? _ _ s4)).trans s4, (hx.cell (p := ⟨br + 1, 5, none⟩) (World.block_lt_of_cell? _ _ s5')).trans s5', (hx.cell (p := ⟨br + 1, 6, none⟩) (World.block_lt_of_cell? _ _ s6)).trans s6, rOr_of (rn_reg (hCp.below hx) hr9 hk8), (hCp.below hx).free (2 + k)⟩))
            have HR1 := Lib.hid (show rOne cells (.mk h b e) r t = .ret (0, { r with regs := r.regs.set k (sm % 1000) }, t) by rw [rOne_10 hk10, HAA.out, hbb, hsm, hkk]; rfl)
            have HK8 := Lib.hid hk8
            clear hcl1 hk hk10 hrg2 hkk hr9 hpW hCp hpX hbb hsm z1 z2 z9 z10
            go_upto_region 14 with (fail)
            go_region_held3 (fun w' => w'.cell? ⟨br, 0, none⟩ = some (.pointer (some ⟨pr, 0, none⟩)) ∧ w'.cell? ⟨br + 1, 2, none⟩ = some (.int .i64 (k : Int)) ∧ w'.cell? ⟨br + 1, 3, none⟩ = some (.int .i64 h.a.1) ∧ w'.cell? ⟨br + 1, 4, none⟩ = some (.int .i64 h.a.2) ∧ w'.cell? ⟨br + 1, 5, none⟩ = some (.int .i64 h.b.1) ∧ w'.cell? ⟨br + 1, 6, none⟩ = some (.int .i64 h.b.2) ∧ w'.cell? ⟨pr, 2 + k, none⟩ = some (rOr w' ⟨pr, 2 + k, none⟩) ∧ w'.frozen? ⟨pr, 2 + k, none⟩ = false)
              (first | with_reducible exact ⟨k0, s2, s3, s4, s5', s6, p5, p6⟩ | with_reducible exact ⟨j0, j2, j3, j4, j5, j6, j7, j8⟩ | with_reducible exact ⟨i0, i2, i3, i4, i5, i6, i7, i8⟩ | exact sreg_keep (by assumption) HPB.out _ | go_keep)
              (first
                | (go_at_call 13; with_reducible refine (HM1.out _).mono ?_; rintro e w' ⟨rfl, rfl⟩)
                | (go_at_call 114; have HB1' := HB1; refine (HARG.out _ HB1.out h.b).mono ?_; rintro e w2 ⟨rfl, hb2⟩; rw [HBB.out]; obtain ⟨j0, j2, j3, j4, j5, j6, j7, j8⟩ := HS.out w2 (HB1.out.trans (hb2.mono HB1.out.size)); have HB2 := Lib.hid (HB1.out.trans (hb2.mono HB1.out.size)); clear hb2)
                | (go_at_call 114; refine (HARG.out _ (below_drewN (Below.refl _ _) _) h.a).mono ?_; rintro e w1 ⟨rfl, hb1⟩; rw [HAA.out]; obtain ⟨i0, i2, i3, i4, i5, i6, i7, i8⟩ := HS.out w1 ((below_drewN (Below.refl wc.heap.size wc) 1).trans hb1); have HB1 := Lib.hid ((below_drewN (Below.refl wc.heap.size wc) 1).trans hb1); clear hb1))
            obtain ⟨ha2, hh2⟩ := (HA1.out.under HB2.out).setReg HK8.out (sm % 1000)
            have HF := Lib.hid (ha2.ret (p := rOne cells (.mk h b e) r t) (c := c) (by rw [HR1.out]; rfl) HA00.out.part.inX ((HH.out.trans (HeldBy.of_below HB2.out (fun q hq => HA1.out.heldR q (by simp [hq])))).trans (hh2.less fun q hq => by simp [hq])) (fun q hq => .inl hq))
            clear ha2 hh2
            go_wp2
            go_ret
            exact HF.out
          · have g10 : (z == 10) = false := by simpa using z10
            by_cases z11 : z = 11
            · have g11 : (z == 11) = true := by simp [z11]
              have hk := HZ.out
              have hk11 : h.kind = 11 := by omega
              have hrg2 : rgL b ∧ rgL e := by
                have := HRG.out
                unfold rgS at this
                exact this.2
              have hws : wlogS (.mk h b e) = wlogL b + wlogL e := by rw [wlogS]; unfold wlogH; rw [if_neg (by omega), if_neg (by omega)]
              have hl1 := HLOG.out
              have hl2 := HTOLD.out
              rw [hws] at hl1 hl2
              obtain ⟨bb, hbb⟩ : ∃ bb, argN r h.b = bb := ⟨_, rfl⟩
              obtain ⟨lv', hr9, hpW, hCp, -⟩ := HA1.out.own
              have HARG := Lib.hid (fun (wx : World) (hx : Below wc.heap.size wc wx) (x : Int × Int) => arg_ok (hCp.kept (Kept.of_below hx) (by have := hCp.lt; omega)) hr9 x)
              have HM1 := Lib.hid (fun wx : World => mod_ok a 1000 (by omega) (by omega) wx)
              have HM2 := Lib.hid (fun wx : World => mod_ok bb 1000 (by omega) (by omega) wx)
              have HS := Lib.hid (fun (wx : World) (hx : Below wc.heap.size wc wx) => (show wx.cell? ⟨br, 0, none⟩ = some (.pointer (some ⟨pr, 0, none⟩)) ∧ wx.cell? ⟨br + 1, 3, none⟩ = some (.int .i64 h.a.1) ∧ wx.cell? ⟨br + 1, 4, none⟩ = some (.int .i64 h.a.2) ∧ wx.cell? ⟨br + 1, 5, none⟩ = some (.int .i64 h.b.1) ∧ wx.cell? ⟨br + 1, 6, none⟩ = some (.int .i64 h.b.2) from
                ⟨(hx.cell (p := ⟨br, 0, none⟩) (World.block_lt_of_cell? _ _ k0)).trans k0, (hx.cell (p := ⟨br + 1, 3, none⟩) (World.block_lt_of_cell? _ _ s3)).trans s3, (hx.cell (p := ⟨br + 1, 4, none⟩) (World.block_lt_of_cell? _ _ s4)).trans s4, (hx.cell (p := ⟨br + 1, 5, none⟩) (World.block_lt_of_cell? _ _ s5')).trans s5', (hx.cell (p := ⟨br + 1, 6, none⟩) (World.block_lt_of_cell? _ _ s6)).trans s6⟩))
              have HBB := Lib.hid hbb
              have HR1 := Lib.hid (rOne_11 (cells := cells) (b := b) (e := e) (r := r) (t := t) hk11)
              have HRB := Lib.hid hrg2; have HL1 := Lib.hid hl1; have HL2 := Lib.hid hl2
              clear hk hk11 hrg2 hws hl1 hl2 hbb hr9 hpW hCp z1 z2 z9 z10 z11
              go_upto_region 16 with (fail)
              go_region_held3 (fun w' => w'.cell? ⟨br, 0, none⟩ = some (.pointer (some ⟨pr, 0, none⟩)) ∧ w'.cell? ⟨br + 1, 3, none⟩ = some (.int .i64 h.a.1) ∧ w'.cell? ⟨br + 1, 4, none⟩ = some (.int .i64 h.a.2) ∧ w'.cell? ⟨br + 1, 5, none⟩ = some (.int .i64 h.b.1) ∧ w'.cell? ⟨br + 1, 6, none⟩ = some (.int .i64 h.b.2))
                (first | with_reducible exact ⟨k0, s3, s4, s5', s6⟩ | with_reducible exact ⟨j0, j3, j4, j5, j6⟩ | with_reducible exact ⟨i0, i3, i4, i5, i6⟩ | go_keep)
                (first
                  | (go_at_call 13; with_reducible refine (HM2.out _).mono ?_; rintro e w' ⟨rfl, rfl⟩)
                  | (go_at_call 13; with_reducible refine (HM1.out _).mono ?_; rintro e w' ⟨rfl, rfl⟩)
                  | (go_at_call 114; have HB1' := HB1; refine (HARG.out _ HB1.out h.b).mono ?_; rintro e w2 ⟨rfl, hb2⟩; rw [HBB.out]; obtain ⟨j0, j3, j4, j5, j6⟩ := HS.out w2 (HB1.out.trans (hb2.mono HB1.out.size)); have HB2 := Lib.hid (HB1.out.trans (hb2.mono HB1.out.size)); clear hb2)
                  | (go_at_call 114; refine (HARG.out _ (below_drewN (Below.refl _ _) _) h.a).mono ?_; rintro e w1 ⟨rfl, hb1⟩; rw [HAA.out]; obtain ⟨i0, i3, i4, i5, i6⟩ := HS.out w1 ((below_drewN (Below.refl wc.heap.size wc) 1).trans hb1); have HB1 := Lib.hid ((below_drewN (Below.refl wc.heap.size wc) 1).trans hb1); clear hb1))
              have hk2 := HeldBy.of_below (R := [br, br + 1] ++ R) HB2.out HA1.out.heldR
              have q1 := ((HC.out.heldBy hk2 (by simp)).cell 7)
              have q2 := ((HC.out.heldBy hk2 (by simp)).cell 8)
              simp only [stL, List.getElem?_cons_succ, List.getElem?_cons_zero] at q1 q2
              have HK2 := Lib.hid (HH.out.trans (hk2.less (R' := R) fun b hb => by simp [hb]))
              have HQB := Lib.hid (HBQ.out.heldBy hk2 HA1.out.inQ); have HQE := Lib.hid (HEQ.out.heldBy hk2 HA1.out.inQ)
              have HA2 := Lib.hid (HA1.out.under HB2.out)
              clear hk2
              by_cases hlt : a % 1000 < bb % 1000
              · have HCL := Lib.hid (HIH.out _ _ _ _ _ _ _ _ _ b _ HA2.out HQB.out HCB.out HRB.out.1 (by have := HL1.out; omega) (by have := HL2.out; omega))
                have HXX := Lib.hid (show rOne cells (.mk h b e) r t = rAll cells b r t by rw [HR1.out, HAA.out, HBB.out, if_pos hlt])
                go_wp2_with fail
                refine HCL.out.mono ?_
                intro en w3 hp
                have HP := Lib.hid (hp.up (p' := rOne cells (.mk h b e) r t) (by rw [HXX.out]) HK2.out)
                obtain ⟨v, rfl, rfl | ⟨tt, xx, rfl⟩⟩ := hp.shape
                all_goals
                  clear hp
                  go_wp2
                  go_ret
                  exact HP.out
              · have HCL := Lib.hid (HIH.out _ _ _ _ _ _ _ _ _ e _ HA2.out HQE.out HCE.out HRB.out.2 (by have := HL1.out; omega) (by have := HL2.out; omega))
                have HXX := Lib.hid (show rOne cells (.mk h b e) r t = rAll cells e r t by rw [HR1.out, HAA.out, HBB.out, if_neg hlt])
                go_wp2_with fail
                refine HCL.out.mono ?_
                intro en w3 hp
                have HP := Lib.hid (hp.up (p' := rOne cells (.mk h b e) r t) (by rw [HXX.out]) HK2.out)
                obtain ⟨v, rfl, rfl | ⟨tt, xx, rfl⟩⟩ := hp.shape
                all_goals
                  clear hp
                  go_wp2
                  go_ret
                  exact HP.out
            · have g11 : (z == 11) = false := by simpa using z11
              by_cases z12 : z = 12
              · have g12 : (z == 12) = true := by simp [z12]
                have hk := HZ.out
                have hk12 : h.kind = 12 := by omega
                have hrg2 : rgL b ∧ rgL e := by
                  have := HRG.out
                  unfold rgS at this
                  exact this.2
                obtain ⟨m, hm⟩ : ∃ m, h.a.2.toNat = m := ⟨_, rfl⟩
                have hws : wlogS (.mk h b e) = m * wlogL b := by rw [wlogS]; unfold wlogH; rw [if_neg (by omega), if_pos hk12, hm]
                have hl1 := HLOG.out
                have hl2 := HTOLD.out
                rw [hws] at hl1 hl2
                have HR1 := Lib.hid (show rOne cells (.mk h b e) r t = rTimes (fun r t => rAll cells b r t) m r t by rw [← hm]; exact rOne_12 hk12)
                have HJ := Lib.hid (show TimesJ W ([br, br + 1] ++ R) T X Q pa pb pc pt px pr gc n cap cells lv0 told0 b m r t c wc (m + 1) (.int .i64 0) wc from ⟨0, r, t, c, T, X, rfl, Nat.zero_le _, HA1.out, HeldBy.refl _ _, fun b hb => .inl hb, rfl, hl1, hl2, by omega⟩)
                have HM := Lib.hid hm; have HRB := Lib.hid hrg2.1
                have hm6 : m ≤ 1000000 := by
                  have := HRG.out
                  unfold rgS rgH at this
                  have := this.1.2 hk12
                  omega
                obtain ⟨x, hx⟩ : ∃ x, h.a.2 = x := ⟨_, rfl⟩
                rw [hx] at s4 HM
                clear hcl1 hk hk12 hrg2 hws hl1 hl2 hm hx z1 z2 z9 z10 z11 z12
                go_wp2
                go_loopg [136] (m + 1) (fun gf i wx => TimesJ W ([br, br + 1] ++ R) T X Q pa pb pc pt px pr gc n cap cells lv0 told0 b m r t c wc gf i wx)
                case atStart => exact HJ.out
                case round =>
                  clear HJ
                  obtain ⟨k, r1, t1, c1, T1, X1, rfl, hk, hA1, hh1, hB1, hx1, hl1, ht1, hfu⟩ := hrel
                  have hmx := HM.out
                  have hk1 := hh1
                  have q0 : wr.cell? ⟨br, 0, none⟩ = some (.pointer (some ⟨pr, 0, none⟩)) := (HC0.out.heldBy hh1 (by simp)).cell 0
                  have q7 := ((HC.out.heldBy hh1 (by simp)).cell 7)
                  simp only [stL, List.getElem?_cons_succ, List.getElem?_cons_zero] at q7
                  have HQB := Lib.hid (HBQ.out.heldBy hh1 HA1.out.inQ)
                  by_cases hlt : k < m
                  · obtain ⟨gk', rfl⟩ : ∃ g', gk = g' + 1 := ⟨gk - 1, by omega⟩
                    have hlt' : (k : Int) < x := by omega
                    have g20 : decide ((k : Int) < x) = true := decide_eq_true hlt'
                    have hmul : (m - k) * wlogL b = (m - (k + 1)) * wlogL b + wlogL b := by rw [show m - k = (m - (k + 1)) + 1 by omega, Nat.add_one_mul]
                    have HCL := Lib.hid (HIH.out _ _ _ _ _ _ _ _ _ b _ hA1 HQB.out HCB.out HRB.out (by omega) (by omega))
                    have HA2 := Lib.hid hA1; have HH2 := Lib.hid hh1; have HB2 := Lib.hid hB1; have HX2 := Lib.hid hx1; have HL2 := Lib.hid hl1; have HT2 := Lib.hid ht1
                    clear hA1 hh1 hB1 hx1 hl1 ht1 hmx hk1 hmul
                    go_wp2_with fail
                    refine HCL.out.mono ?_
                    rintro en w3 ⟨m', ⟨r2, t2⟩, c2, v, E, B', hx2, rfl, he2, ⟨T2, X2, rfl, hst⟩, hc2, hh2, hB2, hEB2⟩
                    by_cases h0 : m' = 0
                    · subst h0
                      obtain ⟨rfl, rfl⟩ := he2.isNil rfl
                      have HX3 := Lib.hid hx2; have HST := Lib.hid hst; have HC2 := Lib.hid hc2; have HH3 := Lib.hid hh2; have HB3 := Lib.hid hB2
                      clear hx2 he2 hst hc2 hh2 hB2 hEB2 HCL
                      go_wp2
                      go_roundg gk'
                      case measure => omega
                      case rel => exact times_next HCL1.out hlt HA2.out HH2.out HB2.out HX2.out HL2.out HT2.out hfu HX3.out HST.out HC2.out HH3.out HB3.out (by go_num)
                    · have hsh := he2.iface h0
                      have HF := Lib.hid ((times_stop hlt HH2.out HB2.out HX2.out hx2 h0 he2 hst hc2 hh2 hB2 hEB2).up (p' := rOne cells (.mk h b e) r t) (by rw [HR1.out]) HH.out)
                      obtain ⟨tt, xx, rfl⟩ := hsh
                      clear hx2 he2 hst hc2 hh2 hB2 hEB2 HCL h0
                      go_wp2
                      go_ret
                      exact HF.out
                  · have hlt' : ¬ (k : Int) < x := by omega
                    have g20 : decide ((k : Int) < x) = false := decide_eq_false hlt'
                    obtain rfl : k = m := by omega
                    rw [Nat.sub_self] at hx1
                    have HF := Lib.hid (RnPost.up (w := w) (R := R) (p' := rOne cells (.mk h b e) r t) (show RnPost W ([br, br + 1] ++ R) T X pa pb pc pt px pr gc n cap lv0 told0 (rTimes (fun r t => rAll cells b r t) k r t) c wc (.returned .nilIface) wr from
                      ⟨0, (r1, t1), c1, _, [], T1 ++ X1, by rw [hx1]; rfl, rfl, .none, ⟨T1, X1, rfl, hA1.part.st⟩, hA1.part.ctx, hh1, by simpa using hB1, by simp⟩) (by rw [HR1.out]) HH.out)
                    clear hA1 hh1 hB1 hx1 hl1 ht1 hmx hk1
                    go_wp2
                    go_ret
                    exact HF.out
              · have g12 : (z == 12) = false := by simpa using z12
                by_cases z13 : z = 13
                · have g13 : (z == 13) = true := by simp [z13]
                  have hk := HZ.out
                  have hk13 : h.kind = 13 := by omega
                  have hrg2 : rgL b ∧ rgL e := by
                    have := HRG.out
                    unfold rgS at this
                    exact this.2
                  have hws : wlogS (.mk h b e) = wlogL b + wlogL e := by rw [wlogS]; unfold wlogH; rw [if_neg (by omega), if_neg (by omega)]
                  have hl1 := HLOG.out
                  have hl2 := HTOLD.out
                  rw [hws] at hl1 hl2
                  have C0' : Cells wc br [.pointer (some ⟨pr, 0, none⟩)] 110 := HC0.out
                  have hat := atomic_ok (P := fun r t => rAll cells b r t) HA1.out.part ef_one1 (fun hm T' wk hp hh => clos_ok (.inl rfl) HIH.out (HA1.out.marked hm hp hh) (HBQ.out.heldBy hh HA1.out.inQ) HCB.out hrg2.1 (by rw [show (t.on t.sets.mark.2.2).sets.log = t.sets.log from (mark_ok HA1.out.ok hm).2.2.2.2.1]; omega) (by omega) (C0'.heldBy hh (by simp)) (HC.out.heldBy hh (by simp))) (fun hm => kp_part HA1.out.ok (by have := HA1.out.len; have := HA1.out.few; omega) (k := wlogL b) (by omega) hm (rAll_kp hcl1 b r (t.on t.sets.mark.2.2) c (mark_ok HA1.out.ok hm).2.2.1))
                  have HAT := Lib.hid hat
                  have HR1 := Lib.hid (rOne_13 (cells := cells) (b := b) (e := e) (r := r) (t := t) hk13)
                  obtain ⟨lv', hr9, hpW, hCp, -⟩ := HA1.out.own
                  have p0 := (rn_two hCp).1
                  clear hcl1 hk hk13 hrg2 hws hl1 hl2 C0' hat hr9 hpW hCp z1 z2 z9 z10 z11 z12 z13
                  go_wp2_with fail
                  refine HAT.out.mono ?_
                  intro en w3 hp
                  have HP := Lib.hid (RnPost.up (p' := rOne cells (.mk h b e) r t) (show RnPost W ([br, br + 1] ++ R) T X pa pb pc pt px pr gc n cap lv0 told0 _ c wc _ w3 from hp) (by rw [HR1.out]) HH.out)
                  obtain ⟨v, rfl, rfl | ⟨tt, xx, rfl⟩⟩ := HP.out.shape
                  all_goals
                    clear hp
                    go_wp2
                    go_ret
                    exact HP.out
                · have g13 : (z == 13) = false := by simpa using z13
                  by_cases z14 : z = 14
                  · have g14 : (z == 14) = true := by simp [z14]
                    have hk := HZ.out
                    have hk14 : h.kind = 14 := by omega
                    have hrg2 : rgL b ∧ rgL e := by
                      have := HRG.out
                      unfold rgS at this
                      exact this.2
                    have hws : wlogS (.mk h b e) = wlogL b + wlogL e := by rw [wlogS]; unfold wlogH; rw [if_neg (by omega), if_neg (by omega)]
                    have hl1 := HLOG.out
                    have hl2 := HTOLD.out
                    rw [hws] at hl1 hl2
                    obtain ⟨lw, hr9, hpW, hCp, hlw, hpX, hXb⟩ := HA1.out.own
                    obtain ⟨hi1, hi2, hi3⟩ := regsInfo hr9
                    have hun := Tryz.underlying111
                    have p0 : wc.drew.cell? ⟨pr, 0, none⟩ = _ := (rn_two hCp).1
                    have p11 := rn_told hCp hr9
                    have rg : wc.rangeAt pr 2 (regsV r.regs) := fun j v hj => by
                      rw [hCp.cell (2 + j)]
                      unfold rnV
                      rw [show 2 + j = j + 1 + 1 by omega, List.getElem?_cons_succ, List.getElem?_cons_succ, List.getElem?_append_left (List.getElem?_eq_some_iff.1 hj).1]
                      exact hj
                    obtain ⟨lp, lc, hlv, -⟩ := hlw
                    obtain ⟨ll, hll⟩ : ∃ ll, r.told.length = ll := ⟨_, rfl⟩
                    rw [hll] at hlv
                    obtain ⟨L, hL⟩ : ∃ L, regsV r.regs = L := ⟨_, rfl⟩
                    rw [hL] at hi1 hi2 hi3 rg
                    have HLV := Lib.hid hlv; have HL := Lib.hid hL; have HLL := Lib.hid hll; have HRB := Lib.hid hrg2; have HL1 := Lib.hid hl1; have HL2 := Lib.hid hl2; have HR9 := Lib.hid hr9; have HP11 := Lib.hid p11
                    have HR1 := Lib.hid (rOne_14 (cells := cells) (b := b) (e := e) (r := r) (t := t) hk14)
                    subst hlv
                    have HS := Lib.hid (fun (wx : World) (hx : Below wc.heap.size wc wx) => (show wx.cell? ⟨br, 0, none⟩ = some (.pointer (some ⟨pr, 0, none⟩)) ∧ wx.rangeAt pr 2 L ∧ wx.cell? ⟨pr, 11, none⟩ = some (.slice lp ll lc) from
                      ⟨(hx.cell (p := ⟨br, 0, none⟩) (World.block_lt_of_cell? _ _ k0)).trans k0, fun j v hj => (hx.cell (p := ⟨pr, 2 + j, none⟩) (World.block_lt_of_cell? _ _ (rg j v hj))).trans (rg j v hj), (hx.cell (p := ⟨pr, 11, none⟩) (World.block_lt_of_cell? _ _ p11)).trans p11⟩))
                    clear hcl1 hk hk14 hrg2 hws hl1 hl2 hr9 hpW hCp hpX hXb hL hll z1 z2 z9 z10 z11 z12 z13 z14
                    have HSS : wc.drew.cell? ⟨br, 0, none⟩ = some (.pointer (some ⟨pr, 0, none⟩)) ∧ wc.drew.rangeAt pr 2 L ∧ wc.drew.cell? ⟨pr, 11, none⟩ = some (.slice lp ll lc) := ⟨k0, rg, p11⟩
                    have HI1 := Lib.hid hi1; have HI2 := Lib.hid hi2; have HI3 := Lib.hid hi3
                    go_upto_region 29 with (fail)
                    clear k0 rg p11 p0 s0 s1 s2 s3 s4 s5' s6 s7 s8
                    go_cut [9, 10] from 156 to 176 (fun s9 s10 wx => OrR wc L (.slice lp ll lc) s9 s10 wx)
                    case first =>
                      refine wp_region_k (S := fun w => w.cell? ⟨br, 0, none⟩ = some (.pointer (some ⟨pr, 0, none⟩)) ∧ w.rangeAt pr 2 L ∧ w.cell? ⟨pr, 11, none⟩ = some (.slice lp ll lc)) (D := fun _ => false) (by kernel_rfl) ?_
                      refine wpAnyK_take (i := 0) (v := .pointer (some ⟨pr, 0, none⟩)) rfl (by kernel_rfl) (by kernel_rfl) (by kernel_rfl) (by kernel_rfl) (fun _ _ _ h => h) (Or.inl ⟨by rfl, fun w hS => by obtain ⟨hS1, -, hS3⟩ := hS; go_simp⟩) HSS ?_
                      simp only [Act.put, List.getElem_toArray, List.getElem_cons_zero, List.setIfInBounds_toArray, List.set_cons_zero, List.set_cons_succ]
                      refine wpAnyK_take (i := 1) (v := .pointer (some ⟨pr, 0, none⟩)) rfl (by kernel_rfl) (by kernel_rfl) (by kernel_rfl) (by kernel_rfl) (fun _ _ _ h => h) (Or.inl ⟨by rfl, fun w hS => by obtain ⟨hS1, -, hS3⟩ := hS; go_simp⟩) HSS ?_
                      simp only [Act.put, List.getElem_toArray, List.getElem_cons_succ, List.getElem_cons_zero, List.setIfInBounds_toArray, List.set_cons_zero, List.set_cons_succ]
                      refine wpAnyK_take (i := 2) (v := .pointer (some ⟨pr, 2, none⟩)) rfl (by kernel_rfl) (by kernel_rfl) (by kernel_rfl) (by kernel_rfl) (fun _ _ _ h => h) (Or.inl ⟨by rfl, fun w hS => by obtain ⟨hS1, -, hS3⟩ := hS; go_simp⟩) HSS ?_
                      simp only [Act.put, List.getElem_toArray, List.getElem_cons_succ, List.getElem_cons_zero, List.setIfInBounds_toArray, List.set_cons_zero, List.set_cons_succ]
                      refine wpAnyK_take (i := 3) (v := .agg L.toArray) rfl (by kernel_rfl) (by kernel_rfl) (by kernel_rfl) (by kernel_rfl) (fun _ _ _ h => h) (yieldsIf_load_mid (by rfl) 111 (.tmp 158) rfl pr 2 (by rfl) L _ (fun _ h => h.2.1) hun rfl HI1.out) HSS ?_
                      simp only [Act.put, List.getElem_toArray, List.getElem_cons_succ, List.getElem_cons_zero, List.setIfInBounds_toArray, List.set_cons_zero, List.set_cons_succ]
                      refine wpAnyK_take (i := 4) (v := .pointer (some ⟨pr, 0, none⟩)) rfl (by kernel_rfl) (by kernel_rfl) (by kernel_rfl) (by kernel_rfl) (fun _ _ _ h => h) (Or.inl ⟨by rfl, fun w hS => by obtain ⟨hS1, -, hS3⟩ := hS; go_simp⟩) HSS ?_
                      simp only [Act.put, List.getElem_toArray, List.getElem_cons_succ, List.getElem_cons_zero, List.setIfInBounds_toArray, List.set_cons_zero, List.set_cons_succ]
                      refine wpAnyK_take (i := 5) (v := .pointer (some ⟨pr, 0, none⟩)) rfl (by kernel_rfl) (by kernel_rfl) (by kernel_rfl) (by kernel_rfl) (fun _ _ _ h => h) (Or.inl ⟨by rfl, fun w hS => by obtain ⟨hS1, -, hS3⟩ := hS; go_simp⟩) HSS ?_
                      simp only [Act.put, List.getElem_toArray, List.getElem_cons_succ, List.getElem_cons_zero, List.setIfInBounds_toArray, List.set_cons_zero, List.set_cons_succ]
                      refine wpAnyK_take (i := 6) (v := .pointer (some ⟨pr, 11, none⟩)) rfl (by kernel_rfl) (by kernel_rfl) (by kernel_rfl) (by kernel_rfl) (fun _ _ _ h => h) (Or.inl ⟨by rfl, fun w hS => by obtain ⟨hS1, -, hS3⟩ := hS; go_simp⟩) HSS ?_
                      simp only [Act.put, List.getElem_toArray, List.getElem_cons_succ, List.getElem_cons_zero, List.setIfInBounds_toArray, List.set_cons_zero, List.set_cons_succ]
                      refine wpAnyK_take (i := 7) (v := .slice lp ll lc) rfl (by kernel_rfl) (by kernel_rfl) (by kernel_rfl) (by kernel_rfl) (fun _ _ _ h => h) (Or.inl ⟨by rfl, fun w hS => by obtain ⟨hS1, -, hS3⟩ := hS; go_simp⟩) HSS ?_
                      simp only [Act.put, List.getElem_toArray, List.getElem_cons_succ, List.getElem_cons_zero, List.setIfInBounds_toArray, List.set_cons_zero, List.set_cons_succ]
                      refine wpAnyK_all (rs := [8, 9]) (by kernel_rfl) (by simp) ?_
                      refine List.forall_mem_cons.2 ⟨?_, List.forall_mem_cons.2 ⟨?_, fun _ h => absurd h (by simp)⟩⟩
                      · skip
                        refine wpOp_go rfl ?_
                        go_simp
                        have b1 : Below wc.heap.size wc (wc.alloc (.cells #[.int .i64 0, .int .i64 0, .int .i64 0, .int .i64 0, .int .i64 0, .int .i64 0, .int .i64 0, .int .i64 0, .int .i64 0] 111)) := (Below.refl wc.heap.size wc).alloc (Nat.le_refl _) _
                        refine ⟨HS.out _ b1, ?_⟩
                        refine wpAnyK_all (rs := [9]) (by kernel_rfl) (by simp) ?_
                        refine List.forall_mem_cons.2 ⟨?_, fun _ h => absurd h (by simp)⟩
                        refine wpOp_go rfl ?_
                        go_simp
                        have b2 : Below wc.heap.size wc ((wc.alloc (.cells #[.int .i64 0, .int .i64 0, .int .i64 0, .int .i64 0, .int .i64 0, .int .i64 0, .int .i64 0, .int .i64 0, .int .i64 0] 111)).alloc (.cells #[.slice none 0 0] 53)) := b1.alloc b1.size _
                        refine ⟨HS.out _ b2, ?_⟩
                        have c1 := (Cells.new wc [.int .i64 0, .int .i64 0, .int .i64 0, .int .i64 0, .int .i64 0, .int .i64 0, .int .i64 0, .int .i64 0, .int .i64 0] 111).alloc (.cells #[.slice none 0 0] 53)
                        have c2 := Cells.new (wc.alloc (.cells #[.int .i64 0, .int .i64 0, .int .i64 0, .int .i64 0, .int .i64 0, .int .i64 0, .int .i64 0, .int .i64 0, .int .i64 0] 111)) [.slice none 0 0] 53
                        rw [World.size_alloc] at c2
                        obtain ⟨wk, hwk⟩ : ∃ wk, (wc.alloc (.cells #[.int .i64 0, .int .i64 0, .int .i64 0, .int .i64 0, .int .i64 0, .int .i64 0, .int .i64 0, .int .i64 0, .int .i64 0] 111)).alloc (.cells #[.slice none 0 0] 53) = wk := ⟨_, rfl⟩
                        rw [hwk] at b2 c1 c2 ⊢
                        refine wpAnyK_all (rs := [10]) (by kernel_rfl) (by simp) ?_
                        refine List.forall_mem_cons.2 ⟨?_, fun _ h => absurd h (by simp)⟩
                        refine wpOp_go rfl ?_
                        rw [if_pos (by rfl)]
                        refine wp_store_mid 111 (.tmp 9) (.tmp 159) rfl wc.heap.size 0 L.toArray (by rfl) (by rfl) (nine_there c1 HI2.out) (by simpa using HI1.out) (all_oneCell_toArray HI3.out) ?_
                        have b3 : Below wc.heap.size wc (wk.drew.setCells wc.heap.size 0 L.toArray.toList) := Below.setCells (by simp) _ 0 (below_drewN b2 1)
                        refine ⟨fun _ => HS.out _ b3, ?_⟩
                        simp only [Act.put, List.getElem_toArray, List.getElem_cons_succ, List.getElem_cons_zero]
                        have e1 : Cells (wk.drew.setCells wc.heap.size 0 L.toArray.toList) wc.heap.size L 111 := nine_set c1 HI2.out
                        have e2 : Cells (wk.drew.setCells wc.heap.size 0 L.toArray.toList) (wc.heap.size + 1) [.slice none 0 0] 53 := cells_far (w := wk.drew) c2 (by omega) _ _
                        obtain ⟨wj, hwj⟩ : ∃ wj, wk.drew.setCells wc.heap.size 0 L.toArray.toList = wj := ⟨_, rfl⟩
                        rw [hwj] at b3 e1 e2 ⊢
                        have u0 : wj.cell? ⟨(wc.heap.size + 1), 0, none⟩ = some (.slice none 0 0) := e2.cell 0
                        have u1 := e2.free 0
                        have HF := Lib.hid (show OrR wc L (.slice lp ll lc) (.pointer (some ⟨wc.heap.size, 0, none⟩)) (.pointer (some ⟨(wc.heap.size + 1), 0, none⟩)) (wj.setCell ⟨(wc.heap.size + 1), 0, none⟩ (.slice lp ll lc)) from ⟨_, _, rfl, rfl, e1.set_other (a := ⟨(wc.heap.size + 1), 0, none⟩) (by simp) _, e2.set 0 _, Below.setCell b3 (by simp) _, by simp, by simp⟩)
                        refine wpAnyK_all (rs := [11]) (by kernel_rfl) (by simp) ?_
                        refine List.forall_mem_cons.2 ⟨?_, fun _ h => absurd h (by simp)⟩
                        refine wpOp_go rfl ?_
                        go_simp
                        have hB := HS.out _ (Below.setCell (p := ⟨wc.heap.size + 1, 0, none⟩) b3 (by simp) (.slice lp ll lc))
                        refine ⟨⟨hB.1, hB.2.1, (HS.out _ b3).2.2⟩, ?_⟩
                        refine wpAnyK_done (by kernel_rfl) ?_ _
                        go_wp2
                        go_meet
                        case rel => exact HF.out
                      · skip
                        refine wpOp_go rfl ?_
                        go_simp
                        have b1 : Below wc.heap.size wc (wc.alloc (.cells #[.slice none 0 0] 53)) := (Below.refl wc.heap.size wc).alloc (Nat.le_refl _) _
                        refine ⟨HS.out _ b1, ?_⟩
                        refine wpAnyK_all (rs := [8]) (by kernel_rfl) (by simp) ?_
                        refine List.forall_mem_cons.2 ⟨?_, fun _ h => absurd h (by simp)⟩
                        refine wpOp_go rfl ?_
                        go_simp
                        have b2 : Below wc.heap.size wc ((wc.alloc (.cells #[.slice none 0 0] 53)).alloc (.cells #[.int .i64 0, .int .i64 0, .int .i64 0, .int .i64 0, .int .i64 0, .int .i64 0, .int .i64 0, .int .i64 0, .int .i64 0] 111)) := b1.alloc b1.size _
                        refine ⟨HS.out _ b2, ?_⟩
                        have c1 := (Cells.new wc [.slice none 0 0] 53).alloc (.cells #[.int .i64 0, .int .i64 0, .int .i64 0, .int .i64 0, .int .i64 0, .int .i64 0, .int .i64 0, .int .i64 0, .int .i64 0] 111)
                        have c2 := Cells.new (wc.alloc (.cells #[.slice none 0 0] 53)) [.int .i64 0, .int .i64 0, .int .i64 0, .int .i64 0, .int .i64 0, .int .i64 0, .int .i64 0, .int .i64 0, .int .i64 0] 111
                        rw [World.size_alloc] at c2
                        obtain ⟨wk, hwk⟩ : ∃ wk, (wc.alloc (.cells #[.slice none 0 0] 53)).alloc (.cells #[.int .i64 0, .int .i64 0, .int .i64 0, .int .i64 0, .int .i64 0, .int .i64 0, .int .i64 0, .int .i64 0, .int .i64 0] 111) = wk := ⟨_, rfl⟩
                        rw [hwk] at b2 c1 c2 ⊢
                        refine wpAnyK_all (rs := [10]) (by kernel_rfl) (by simp) ?_
                        refine List.forall_mem_cons.2 ⟨?_, fun _ h => absurd h (by simp)⟩
                        refine wpOp_go rfl ?_
                        rw [if_pos (by rfl)]
                        refine wp_store_mid 111 (.tmp 9) (.tmp 159) rfl (wc.heap.size + 1) 0 L.toArray (by rfl) (by rfl) (nine_there c2 HI2.out) (by simpa using HI1.out) (all_oneCell_toArray HI3.out) ?_
                        have b3 : Below wc.heap.size wc (wk.drew.setCells (wc.heap.size + 1) 0 L.toArray.toList) := Below.setCells (by simp) _ 0 (below_drewN b2 1)
                        refine ⟨fun _ => HS.out _ b3, ?_⟩
                        simp only [Act.put, List.getElem_toArray, List.getElem_cons_succ, List.getElem_cons_zero]
                        have e1 : Cells (wk.drew.setCells (wc.heap.size + 1) 0 L.toArray.toList) (wc.heap.size + 1) L 111 := nine_set c2 HI2.out
                        have e2 : Cells (wk.drew.setCells (wc.heap.size + 1) 0 L.toArray.toList) wc.heap.size [.slice none 0 0] 53 := cells_far (w := wk.drew) c1 (by omega) _ _
                        obtain ⟨wj, hwj⟩ : ∃ wj, wk.drew.setCells (wc.heap.size + 1) 0 L.toArray.toList = wj := ⟨_, rfl⟩
                        rw [hwj] at b3 e1 e2 ⊢
                        have u0 : wj.cell? ⟨wc.heap.size, 0, none⟩ = some (.slice none 0 0) := e2.cell 0
                        have u1 := e2.free 0
                        have HF := Lib.hid (show OrR wc L (.slice lp ll lc) (.pointer (some ⟨(wc.heap.size + 1), 0, none⟩)) (.pointer (some ⟨wc.heap.size, 0, none⟩)) (wj.setCell ⟨wc.heap.size, 0, none⟩ (.slice lp ll lc)) from ⟨_, _, rfl, rfl, e1.set_other (a := ⟨wc.heap.size, 0, none⟩) (by simp) _, e2.set 0 _, Below.setCell b3 (by simp) _, by simp, by simp⟩)
                        refine wpAnyK_all (rs := [11]) (by kernel_rfl) (by simp) ?_
                        refine List.forall_mem_cons.2 ⟨?_, fun _ h => absurd h (by simp)⟩
                        refine wpOp_go rfl ?_
                        go_simp
                        have hB := HS.out _ (Below.setCell (p := ⟨wc.heap.size, 0, none⟩) b3 (by simp) (.slice lp ll lc))
                        refine ⟨⟨hB.1, hB.2.1, (HS.out _ b3).2.2⟩, ?_⟩
                        refine wpAnyK_done (by kernel_rfl) ?_ _
                        go_wp2
                        go_meet
                        case rel => exact HF.out
                    case rest =>
                      obtain ⟨pg, pq, rfl, rfl, hc1, hc2, hb3, hpg, hpq⟩ := hcut
                      have hA3 := HA1.out.came hb3 [pg, pq] (by have := hc1.lt; have := hc2.lt; intro q hq; simp at hq; omega)
                      have hk3 := HeldBy.of_below (R := [br, br + 1] ++ R) hb3 HA1.out.heldR
                      have t11 := (HS.out _ hb3).2.2
                      have hA4 := hA3.or_start t11
                      have C0' : Cells wc br [.pointer (some ⟨pr, 0, none⟩)] 110 := HC0.out.heldBy hk3 (by simp)
                      have C1' := HC.out.heldBy hk3 (by simp)
                      have hQb := HBQ.out.heldBy hk3 HA1.out.inQ
                      have hQe := HEQ.out.heldBy hk3 HA1.out.inQ
                      rw [← HL.out] at hc1
                      have hl1 := HL1.out
                      have hl2 := HL2.out
                      have hlen5 : cells.length ≤ 500 := by have := HA1.out.len; have := HA1.out.few; omega
                      have hkpb := part_kp (u := 13) (r := r) (P := fun r t => rAll cells b r t) c hA4.ok (fun hm => rAll_kp HCL1.out b r (t.on t.sets.mark.2.2) c (mark_ok hA4.ok hm).2.2.1)
                      have hOR := or_ok (P := fun r t => rAll cells b r t) (P2 := fun _ t2 => rAll cells e r t2) hA4.part ef_one2 ef_one3
                        (fun hm T' wy hp hh => clos_ok (.inr rfl) HIH.out (hA4.marked hm hp hh) (hQb.heldBy hh hA4.inQ) HCB.out HRB.out.1 (by rw [show (t.on t.sets.mark.2.2).sets.log = t.sets.log from (mark_ok hA4.ok hm).2.2.2.2.1]; omega) (by omega) (C0'.heldBy hh (by simp)) (C1'.heldBy hh (by simp)))
                        (fun hm => kp_part hA4.ok hlen5 (k := wlogL b) (by omega) hm (rAll_kp HCL1.out b r (t.on t.sets.mark.2.2) c (mark_ok hA4.ok hm).2.2.1))
                        (by have := hkpb.few; omega)
                        (fun _ _ T' X' wy hp hh => clos3_ok (told0 := r.told) HIH.out ⟨hp, hA4.h0.heldBy hh hA4.in0, hA4.in0, hA4.arr.heldBy hh hA4.inG, hA4.inG, hA4.len, hA4.pos, hA4.few, hA4.small, hkpb.ok, hA4.inQ⟩ (hQe.heldBy hh hA4.inQ) HCE.out HRB.out.2 (by have := hkpb.few; omega) (by omega) HR9.out (C0'.heldBy hh (by simp)) (C1'.heldBy hh (by simp)) (hc1.heldBy hh (by simp)) (hc2.heldBy hh (by simp)) (by simp) (by simp) (by simp) (by simp))
                      have HOR := Lib.hid hOR
                      have HA3 := Lib.hid hA3
                      have HT11 := Lib.hid t11
                      have HH3 := Lib.hid (HH.out.trans (hk3.less (R' := R) fun q hq => by simp [hq]))
                      have e0 : wc.cell? ⟨br, 0, none⟩ = some (.pointer (some ⟨pr, 0, none⟩)) := C0'.cell 0
                      obtain ⟨lw2, -, -, hCp2, -⟩ := hA3.own
                      have e1 := (rn_two hCp2).1
                      clear hc1 hc2 hb3 hpg hpq hA3 hk3 t11 hA4 C0' C1' hQb hQe hl1 hl2 hlen5 hkpb hOR hCp2
                      go_wp2_with fail
                      refine HOR.out.mono ?_
                      intro en w3 hp
                      have HP := Lib.hid (RnPost.up (N := [pg, pq] ++ [br, br + 1]) (p' := rOne cells (.mk h b e) r t) (by
                        have := HA3.out.or_end HT11.out hp
                        rw [← List.append_assoc] at this
                        exact this) (by rw [HR1.out]) HH3.out)
                      obtain ⟨v, rfl, rfl | ⟨tt, xx, rfl⟩⟩ := HP.out.shape
                      all_goals
                        clear hp
                        go_wp2
                        go_ret
                        exact HP.out
                  · have g14 : (z == 14) = false := by simpa using z14
                    by_cases z15 : z = 15
                    · have g15 : (z == 15) = true := by simp [z15]
                      have HF := Lib.hid (HRET.out 13 (by omega) (by omega) (rOne_15 (by have := HZ.out; omega)))
                      clear z1 z2 z9 z10 z11 z12 z13 z14 z15
                      go_wp2
                      go_ret
                      exact HF.out
                    · have g15 : (z == 15) = false := by simpa using z15
                      by_cases z16 : z = 16
                      · have g16 : (z == 16) = true := by simp [z16]
                        have HF := Lib.hid (HRET.out 14 (by omega) (by omega) (rOne_16 (by have := HZ.out; omega)))
                        clear z1 z2 z9 z10 z11 z12 z13 z14 z15 z16
                        go_wp2
                        go_ret
                        exact HF.out
                      · have g16 : (z == 16) = false := by simpa using z16
                        have HF := Lib.hid (HRET0.out (by have hz := HZ.out; apply rOne_no <;> omega))
                        clear z1 z2 z9 z10 z11 z12 z13 z14 z15 z16
                        go_wp2
                        go_ret
                        exact HF.out
end Go.Proofs.YtkpdacfiglpgeaaGreatDoor
