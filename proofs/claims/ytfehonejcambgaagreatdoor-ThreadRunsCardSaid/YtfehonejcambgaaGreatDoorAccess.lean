/- Layer 5 (thread): a Ctx in memory; access, in its four ways. -/
import Derived.Test.YtfehonejcambgaaGreatDoorCtx2
import Derived.BigQuiet
import Derived.Deep.QuietTactic
import Derived.RegionTactic
import Derived.Outline
namespace Go.Proofs.YtfehonejcambgaaGreatDoor
open Go.RowKit Bl Th
set_option maxRecDepth 10000

/-- What is so of every entry. -/
structure Fit (x : Ntry) : Prop where
  ref : x.ref < 18446744073709551616
  word : x.word < 18446744073709551616
  err : x.err ≤ 5
/-- A Ctx lies in memory so: lv is its log's slice. -/
structure CtxLies (W : World) (R : List Nat) (pa pb pc : Nat) (c : CS) (lv : Value) (wr : World) : Prop where
  cells : Cells wr pc [.pointer (some ⟨pb, 0, none⟩), lv, .int .i64 (c.next : Int), .bool c.did] 87
  row : wr.ownsRow W.heap.size 70 6 lv c.log.length (c.log.flatMap encE)
  held : Held W (pc :: (lv.ownBlock.toList ++ R)) pa pb c.bs wr
  pcR : pc ∉ lv.ownBlock.toList ++ R
  logR : ∀ b ∈ lv.ownBlock.toList, b ∉ R
  new : W.heap.size ≤ pc
  next : c.next ≤ c.log.length
  few : c.log.length ≤ 6000
  fit : ∀ x ∈ c.log, Fit x
def Ctx (W : World) (R : List Nat) (pa pb pc : Nat) (c : CS) (wr : World) : Prop := ∃ lv, CtxLies W R pa pb pc c lv wr

/-- What an access answers and leaves. -/
def After (W : World) (R : List Nat) (pa pb pc : Nat) (wr : World) (r : Nat × Ntry × CS) (e : Ending) (w' : World) : Prop :=
  e = .returned (.tuple #[.agg (encE r.2.1).toArray, errV r.1]) ∧ Ctx W R pa pb pc r.2.2 w' ∧ HeldBy R wr w'

theorem ownsRow_shape {w : World} {base : Nat} {e : TypeId} {size : Nat} {v : Value} {n : Nat} {xs : List Value} (h : w.ownsRow base e size v n xs) : ∃ p cap, v = .slice p n cap := by
  rcases h.2 with ⟨rfl, rfl⟩ | ⟨g, cap, cur, rfl, _⟩
  · exact ⟨_, _, rfl⟩
  · exact ⟨_, _, rfl⟩
theorem four {w : World} {b : Nat} {t : TypeId} {a0 a1 a2 a3 : Value} (h : Cells w b [a0, a1, a2, a3] t) :
    w.cell? ⟨b, 0, none⟩ = some a0 ∧ w.cell? ⟨b, 1, none⟩ = some a1 ∧ w.cell? ⟨b, 2, none⟩ = some a2 ∧ w.cell? ⟨b, 3, none⟩ = some a3 ∧
    w.frozen? ⟨b, 0, none⟩ = false ∧ w.frozen? ⟨b, 1, none⟩ = false ∧ w.frozen? ⟨b, 2, none⟩ = false ∧ w.frozen? ⟨b, 3, none⟩ = false :=
  ⟨h.cell 0, h.cell 1, h.cell 2, h.cell 3, h.free 0, h.free 1, h.free 2, h.free 3⟩
/-- A Ctx stays while only new things come, and what is held changes. -/
theorem CtxLies.below {W : World} {R : List Nat} {pa pb pc : Nat} {c : CS} {lv : Value} {wr w' : World} (h : CtxLies W R pa pb pc c lv wr) (hb : Below wr.heap.size wr w') : CtxLies W R pa pb pc c lv w' := by
  have hk := Kept.of_below hb
  refine ⟨h.cells.kept hk (by have := h.cells.lt; omega), ownsRow_kept h.row hk (fun b hb' => by have := h.held.held b (by simp [hb']); omega), h.held.below' hb, h.pcR, h.logR, h.new, h.next, h.few, h.fit⟩

theorem CtxLies.heldR {W : World} {R : List Nat} {pa pb pc : Nat} {c : CS} {lv : Value} {wr : World} (h : CtxLies W R pa pb pc c lv wr) : ∀ b ∈ R, b < wr.heap.size := fun b hb => h.held.held b (by simp [hb])

theorem six_below {B : Nat} {w w0 : World} {b : Nat} (h : Below B w w0) (hb : B ≤ b) (x0 x1 x2 x3 x4 x5 : Value) : Below B w ((((((w0.setCell ⟨b, 0, none⟩ x0).setCell ⟨b, 1, none⟩ x1).setCell ⟨b, 2, none⟩ x2).setCell ⟨b, 3, none⟩ x3).setCell ⟨b, 4, none⟩ x4).setCell ⟨b, 5, none⟩ x5) :=
  (((((h.setCell hb _).setCell hb _).setCell hb _).setCell hb _).setCell hb _).setCell hb _

theorem CtxLies.turn {W : World} {R : List Nat} {pa pb pc : Nat} {c c' : CS} {lv : Value} {wr w' : World} (h : CtxLies W R pa pb pc c lv wr) (hk : Kept (fun b => b = pc) wr w') (hc : Cells w' pc [.pointer (some ⟨pb, 0, none⟩), lv, .int .i64 (c'.next : Int), .bool c'.did] 87) (hlog : c'.log = c.log) (hbs : c'.bs = c.bs) (hn : c'.next ≤ c.log.length) :
    CtxLies W R pa pb pc c' lv w' ∧ HeldBy R wr w' := by
  refine ⟨⟨hc, ?_, ?_, h.pcR, h.logR, h.new, by rw [hlog]; exact hn, by rw [hlog]; exact h.few, by rw [hlog]; exact h.fit⟩, fun b hb => hk.block b (h.heldR b hb) fun e => h.pcR (by simp [← e, hb])⟩
  · rw [hlog]
    exact ownsRow_kept h.row hk fun b hb e => h.pcR (by simp [← e, hb])
  · rw [hbs]
    refine h.held.step (hk.mono fun b _ e => by simp [e]) (h.held.below.trans (hk.below h.held.below.size fun k hk e => by have := h.new; omega)) fun b hb => ⟨.inl hb, Nat.lt_of_lt_of_le (h.held.held b hb) hk.size⟩

theorem access_nil (f : Value) (w : World) : Calls Tryz.prog 39 #[.pointer none, f] w fun e w' => e = .returned (.tuple #[.agg (encE Th.blank).toArray, errV 1]) ∧ Below w.heap.size w w' := by
  go_enter Tryz.func39, Tryz.ntmps39
  go_wp2
  refine bodyPost_ret (v := .tuple #[.agg #[.int .i64 0, .int .u64 0, .int .i64 0, .int .u64 0, .bool false, .int .i64 0], .iface 61 (.int .i64 1)]) (by simp [results, Tryz.results39, go_sem]) rfl ?_
  exact ⟨rfl, (Below.refl _ _).alloc (Nat.le_refl _) _⟩

set_option maxHeartbeats 1000000 in
theorem access_over {W : World} {R : List Nat} {pa pb pc : Nat} {c : CS} {wr : World} (h : Ctx W R pa pb pc c wr) (f : Value) (h1 : c.log.length ≤ c.next) (h2 : c.did = true) :
    Calls Tryz.prog 39 #[.pointer (some ⟨pc, 0, none⟩), f] wr (After W R pa pb pc wr (11, Th.blank, c)) := by
  obtain ⟨lv, hl⟩ := h
  obtain ⟨p, cap, rfl⟩ := ownsRow_shape hl.row
  obtain ⟨p0, p1, p2, p3, -⟩ := four hl.cells
  rw [h2] at p3
  have H := Lib.hid hl
  have g1 : decide ((c.next : Int) < (c.log.length : Int)) = false := by simp; omega
  have g2 : decide (c.next < c.log.length) = false := by simp; omega
  have b1 : c.log.length ≤ 6000 := hl.few
  have lp := hl.cells.lt
  clear hl h1 h2
  generalize c.log.length = len at *
  generalize c.next = nx at *
  go_enter Tryz.func39, Tryz.ntmps39
  go_wp2
  go_quiet (fail)
  go_wp2
  refine bodyPost_ret (v := .tuple #[.agg #[.int .i64 0, .int .u64 0, .int .i64 0, .int .u64 0, .bool false, .int .i64 0], .iface 61 (.int .i64 11)]) (by simp [results, Tryz.results39, go_sem]) rfl ?_
  have hB := six_below (below_drewN ((Below.refl wr.heap.size wr).alloc (Nat.le_refl _) (.cells #[.int .i64 0, .int .u64 0, .int .i64 0, .int .u64 0, .bool false, .int .i64 0] 70)) nq) (Nat.le_refl wr.heap.size) (.int .i64 0) (.int .u64 0) (.int .i64 0) (.int .u64 0) (.bool false) (.int .i64 0)
  exact ⟨rfl, ⟨_, H.out.below hB⟩, HeldBy.of_below hB H.out.heldR⟩

set_option maxHeartbeats 1000000 in
theorem access_full {W : World} {R : List Nat} {pa pb pc : Nat} {c : CS} {wr : World} (h : Ctx W R pa pb pc c wr) (f : Value) (h1 : c.log.length ≤ c.next) (h2 : c.did = false) (h3 : 6000 ≤ c.log.length) :
    Calls Tryz.prog 39 #[.pointer (some ⟨pc, 0, none⟩), f] wr (After W R pa pb pc wr (15, Th.blank, c)) := by
  obtain ⟨lv, hl⟩ := h
  obtain ⟨p, cap, rfl⟩ := ownsRow_shape hl.row
  obtain ⟨p0, p1, p2, p3, -⟩ := four hl.cells
  rw [h2] at p3
  have H := Lib.hid hl
  have g1 : decide ((c.next : Int) < (c.log.length : Int)) = false := by simp; omega
  have g2 : decide (c.next < c.log.length) = false := by simp; omega
  have g3 : decide ((6000 : Int) ≤ (c.log.length : Int)) = true := by simp; omega
  have b1 : c.log.length ≤ 6000 := hl.few
  have lp := hl.cells.lt
  clear hl h1 h2 h3
  generalize c.log.length = len at *
  generalize c.next = nx at *
  go_enter Tryz.func39, Tryz.ntmps39
  go_wp2
  go_quiet (fail)
  go_wp2
  refine bodyPost_ret (v := .tuple #[.agg #[.int .i64 0, .int .u64 0, .int .i64 0, .int .u64 0, .bool false, .int .i64 0], .iface 61 (.int .i64 15)]) (by simp [results, Tryz.results39, go_sem]) rfl ?_
  have hB := six_below (below_drewN ((Below.refl wr.heap.size wr).alloc (Nat.le_refl _) (.cells #[.int .i64 0, .int .u64 0, .int .i64 0, .int .u64 0, .bool false, .int .i64 0] 70)) nq) (Nat.le_refl wr.heap.size) (.int .i64 0) (.int .u64 0) (.int .i64 0) (.int .u64 0) (.bool false) (.int .i64 0)
  exact ⟨rfl, ⟨_, H.out.below hB⟩, HeldBy.of_below hB H.out.heldR⟩

theorem flat_at (l : List Ntry) (k : Nat) (x : Ntry) (hx : l[k]? = some x) : ∀ j, j < 6 → (l.flatMap encE)[k * 6 + j]? = (encE x)[j]? := by
  induction l generalizing k with
  | nil => simp at hx
  | cons y l ih =>
    intro j hj
    have hy : (encE y).length = 6 := rfl
    cases k with
    | zero =>
      simp only [List.getElem?_cons_zero, Option.some.injEq] at hx
      subst hx
      rw [List.flatMap_cons, List.getElem?_append_left (by omega)]
      simp
    | succ k =>
      simp only [List.getElem?_cons_succ] at hx
      rw [List.flatMap_cons, List.getElem?_append_right (by omega), ← ih k hx j hj]
      congr 1
      omega
/-- The cells of an entry of the log. -/
theorem CtxLies.entry {W : World} {R : List Nat} {pa pb pc : Nat} {c : CS} {lv : Value} {wr : World} (h : CtxLies W R pa pb pc c lv wr) {k : Nat} {x : Ntry} (hx : c.log[k]? = some x) :
    ∃ g cap, lv = .slice (some ⟨g, 0, none⟩) c.log.length cap ∧ g ≠ pc ∧ g < wr.heap.size ∧ c.log.length ≤ cap ∧ cap ≤ maxLen ∧ ∀ j, j < 6 → wr.cell? ⟨g, k * 6 + j, none⟩ = (encE x)[j]? := by
  have hk : k < c.log.length := (List.getElem?_eq_some_iff.1 hx).1
  rcases h.row.2 with ⟨_, h0⟩ | ⟨g, cap, cur, rfl, hb, hg, hn, hm, hc, ht⟩
  · omega
  · refine ⟨g, cap, rfl, fun e => h.pcR (by simp [Value.ownBlock, e]), lt_of_block hg, hn, hm, fun j hj => ?_⟩
    rw [← flat_at c.log k x hx j hj, ← ht, cell_of_row wr g (k * 6 + j) cur 70 (0, 0) hg, List.getElem?_take, if_pos (by omega)]
    simp

set_option maxHeartbeats 1000000 in
theorem access_log {W : World} {R : List Nat} {pa pb pc : Nat} {c : CS} {wr : World} (h : Ctx W R pa pb pc c wr) (f : Value) {x : Ntry} (hx : c.log[c.next]? = some x) :
    Calls Tryz.prog 39 #[.pointer (some ⟨pc, 0, none⟩), f] wr (After W R pa pb pc wr (x.err, x, { c with next := c.next + 1 })) := by
  obtain ⟨lv, hl⟩ := h
  have hk : c.next < c.log.length := (List.getElem?_eq_some_iff.1 hx).1
  obtain ⟨g, cap, rfl, hgp, hgl, hlc, hcm, hcells⟩ := hl.entry hx
  obtain ⟨p0, p1, p2, p3, z0, z1, z2, z3⟩ := four hl.cells
  have e0 := hcells 0 (by omega)
  have e1 := hcells 1 (by omega)
  have e2 := hcells 2 (by omega)
  have e3 := hcells 3 (by omega)
  have e4 := hcells 4 (by omega)
  have e5 := hcells 5 (by omega)
  simp only [encE, List.getElem?_cons_zero, List.getElem?_cons_succ, Nat.add_zero] at e0 e1 e2 e3 e4 e5
  have HF := Lib.hid (hl.fit x (List.mem_of_getElem? hx))
  have H := Lib.hid hl
  have b1 : c.log.length ≤ 6000 := hl.few
  have g1 : (c.next : Int) < (c.log.length : Int) := by omega
  have HT := Lib.hid fun (w' : World) (k1 : Kept (fun b => b = pc) wr w') k2 => hl.turn (c' := { c with next := c.next + 1 }) (w' := w') k1 k2 rfl rfl (Nat.succ_le_of_lt hk)
  have lp := hl.cells.lt
  clear hl hcells hx
  generalize c.log.length = len at *
  generalize c.next = nx at *
  go_enter Tryz.func39, Tryz.ntmps39
  go_wp2
  go_quiet (fail)
  go_wp2
  go_region
  go_wp2
  obtain ⟨wx, hwx⟩ : ∃ wx : World, (((wr.alloc (.cells #[.int .i64 0, .int .u64 0, .int .i64 0, .int .u64 0, .bool false, .int .i64 0] 70)).drewN (nq + 1)).setCell ⟨pc, 2, none⟩ (.int .i64 ((nx : Int) + 1))).alloc (.cells #[.int .i64 (x.kind : Int), .int .u64 (x.ref : Int), .int .i64 x.i, .int .u64 (x.word : Int), .bool x.done, .int .i64 (x.err : Int)] 70) = wx := ⟨_, rfl⟩
  have hC : Cells (wr.alloc (.cells #[.int .i64 0, .int .u64 0, .int .i64 0, .int .u64 0, .bool false, .int .i64 0] 70)) pc _ _ := H.out.cells.alloc _
  have hC2 : Cells wx pc [.pointer (some ⟨pb, 0, none⟩), .slice (some ⟨g, 0, none⟩) len cap, .int .i64 ((nx : Int) + 1), .bool c.did] 87 := by
    rw [← hwx]
    exact (Cells.set (w := (wr.alloc (.cells #[.int .i64 0, .int .u64 0, .int .i64 0, .int .u64 0, .bool false, .int .i64 0] 70)).drewN (nq + 1)) hC 2 _).alloc _
  have hK : Kept (fun b => b = pc) wr wx := by
    rw [← hwx]
    exact ((Kept.setCell (S := fun b => b = pc) (((Kept.refl _ wr).alloc _).drewN (nq + 1)) (fun _ => rfl) _).alloc _)
  have hX := Cells.new (((wr.alloc (.cells #[.int .i64 0, .int .u64 0, .int .i64 0, .int .u64 0, .bool false, .int .i64 0] 70)).drewN (nq + 1)).setCell ⟨pc, 2, none⟩ (.int .i64 ((nx : Int) + 1))) [.int .i64 (x.kind : Int), .int .u64 (x.ref : Int), .int .i64 x.i, .int .u64 (x.word : Int), .bool x.done, .int .i64 (x.err : Int)] 70
  have hZ : Cells wx wr.heap.size [.int .i64 0, .int .u64 0, .int .i64 0, .int .u64 0, .bool false, .int .i64 0] 70 := by
    rw [← hwx]
    exact (Cells.set_other (w := (wr.alloc (.cells #[.int .i64 0, .int .u64 0, .int .i64 0, .int .u64 0, .bool false, .int .i64 0] 70)).drewN (nq + 1)) (Cells.new wr [.int .i64 0, .int .u64 0, .int .i64 0, .int .u64 0, .bool false, .int .i64 0] 70) (a := ⟨pc, 2, none⟩) (by simp; omega) _).alloc _
  replace hX : Cells wx (wr.heap.size + 1) [.int .i64 (x.kind : Int), .int .u64 (x.ref : Int), .int .i64 x.i, .int .u64 (x.word : Int), .bool x.done, .int .i64 (x.err : Int)] 70 := by
    rw [← hwx]
    have e : (((wr.alloc (.cells #[.int .i64 0, .int .u64 0, .int .i64 0, .int .u64 0, .bool false, .int .i64 0] 70)).drewN (nq + 1)).setCell ⟨pc, 2, none⟩ (.int .i64 ((nx : Int) + 1))).heap.size = wr.heap.size + 1 := by simp
    rw [e] at hX
    exact hX
  rw [hwx]
  clear hC p0 p1 p2 p3 z0 z1 z2 z3 e0 e1 e2 e3 e4 e5
  obtain ⟨u0, u1, u2, u3, u4, u5, -⟩ := six hX
  obtain ⟨y0, y1, y2, y3, y4, y5, f0, f1, f2, f3, f4, f5⟩ := six hZ
  have HZ := Lib.hid hZ; have HX := Lib.hid hX; have HC2 := Lib.hid hC2; have HK := Lib.hid hK
  clear hZ hX hC2 hK hwx
  go_region_held3 (fun w' => w'.cell? ⟨wr.heap.size + 1, 0, none⟩ = some (.int .i64 (x.kind : Int)) ∧ w'.cell? ⟨wr.heap.size + 1, 1, none⟩ = some (.int .u64 (x.ref : Int)) ∧ w'.cell? ⟨wr.heap.size + 1, 2, none⟩ = some (.int .i64 x.i) ∧ w'.cell? ⟨wr.heap.size + 1, 3, none⟩ = some (.int .u64 (x.word : Int)) ∧ w'.cell? ⟨wr.heap.size + 1, 4, none⟩ = some (.bool x.done) ∧ w'.cell? ⟨wr.heap.size + 1, 5, none⟩ = some (.int .i64 (x.err : Int)))
    (first | with_reducible exact ⟨u0, u1, u2, u3, u4, u5⟩ | with_reducible exact ⟨(six_other (Nat.succ_ne_self _)).trans u0, (six_other (Nat.succ_ne_self _)).trans u1, (six_other (Nat.succ_ne_self _)).trans u2, (six_other (Nat.succ_ne_self _)).trans u3, (six_other (Nat.succ_ne_self _)).trans u4, (six_other (Nat.succ_ne_self _)).trans u5⟩ | go_keep)
    (first | (go_at_call 55; refine (told_any x.err (by have := HF.out.err; omega) _).mono ?_; rintro e w' ⟨rfl, rfl⟩))
  go_wp2
  have hEnd := Lib.hid (HT.out _ (HK.out.then (six_kept wx wr.heap.size (x0 := .int .i64 (x.kind : Int)) (x1 := .int .u64 (x.ref : Int)) (x2 := .int .i64 x.i) (x3 := .int .u64 (x.word : Int)) (x4 := .bool x.done) (x5 := .int .i64 (x.err : Int))) (fun i hi e => by omega)).drew
    (Cells.kept HC2.out (six_kept _ _) (by omega)).drew)
  refine bodyPost_ret (v := .tuple #[.agg #[.int .i64 (x.kind : Int), .int .u64 (x.ref : Int), .int .i64 x.i, .int .u64 (x.word : Int), .bool x.done, .int .i64 (x.err : Int)], errV x.err]) (by simp [results, Tryz.results39, go_sem, y0, y1, y2, y3, y4, y5]) rfl ?_
  exact ⟨rfl, ⟨_, hEnd.out.1⟩, hEnd.out.2⟩
end Go.Proofs.YtfehonejcambgaaGreatDoor
