/- CtxOps: Access, Access2, CtxOps. -/
import Derived.Test.YtmdganpealbmpaaGreatDoorCtx2
import Derived.BigQuiet
import Derived.Deep.QuietTactic
import Derived.RegionTactic
import Derived.Outline
import Derived.Shelf.Abstract
import Derived.Deep.RegionLaw

/- Layer 5 (thread): a Ctx in memory; access, in its four ways. -/
namespace Go.Proofs.YtmdganpealbmpaaGreatDoor
open Go.RowKit Bl Th
set_option maxRecDepth 10000

/-- What is so of every entry. -/
structure Fit (x : Ntry) : Prop where
  ref : x.ref < 18446744073709551616
  word : x.word < 18446744073709551616
  err : x.err ≤ 5
/-- A Ctx lies in memory so: lv is its log's slice. -/
structure CtxLies (W : World) (R : List Nat) (pa pb pc : Nat) (c : CS) (lv : Value) (wr : World) : Prop where
  cells : Cells wr pc [.pointer (some ⟨pb, 0, none⟩), lv, .int .i64 (c.next : Int), .bool c.did] 123
  row : wr.ownsRow W.heap.size 189 6 lv c.log.length (c.log.flatMap encE)
  held : Held W (pc :: (lv.ownBlock.toList ++ R)) pa pb c.bs wr
  pcR : pc ∉ lv.ownBlock.toList ++ R
  logR : ∀ b ∈ lv.ownBlock.toList, b ∉ R
  new : W.heap.size ≤ pc
  next : c.next ≤ c.log.length
  few : c.log.length ≤ 6000
  fit : ∀ x ∈ c.log, Fit x
def Ctx (W : World) (R : List Nat) (pa pb pc : Nat) (c : CS) (wr : World) : Prop := ∃ lv, CtxLies W R pa pb pc c lv wr

/-- What an access answers and leaves. -/
def After (W : World) (R : List Nat) (pa pb pc : Nat) (wr : World) (r : Nat × Ntry × CS) (e : Ending) (w' : World) : Prop :=
  e = .returned (.tuple #[.agg (encE r.2.1).toArray, errV r.1]) ∧ Ctx W R pa pb pc r.2.2 w' ∧ HeldBy R wr w'

theorem ownsRow_shape {w : World} {base : Nat} {e : TypeId} {size : Nat} {v : Value} {n : Nat} {xs : List Value} (h : w.ownsRow base e size v n xs) : ∃ p cap, v = .slice p n cap := by
  rcases h.2 with ⟨rfl, rfl⟩ | ⟨g, cap, cur, rfl, _⟩
  · exact ⟨_, _, rfl⟩
  · exact ⟨_, _, rfl⟩
theorem four {w : World} {b : Nat} {t : TypeId} {a0 a1 a2 a3 : Value} (h : Cells w b [a0, a1, a2, a3] t) :
    w.cell? ⟨b, 0, none⟩ = some a0 ∧ w.cell? ⟨b, 1, none⟩ = some a1 ∧ w.cell? ⟨b, 2, none⟩ = some a2 ∧ w.cell? ⟨b, 3, none⟩ = some a3 ∧
    w.frozen? ⟨b, 0, none⟩ = false ∧ w.frozen? ⟨b, 1, none⟩ = false ∧ w.frozen? ⟨b, 2, none⟩ = false ∧ w.frozen? ⟨b, 3, none⟩ = false :=
  ⟨h.cell 0, h.cell 1, h.cell 2, h.cell 3, h.free 0, h.free 1, h.free 2, h.free 3⟩
/-- A Ctx stays while only new things come, and what is held changes. -/
theorem CtxLies.below {W : World} {R : List Nat} {pa pb pc : Nat} {c : CS} {lv : Value} {wr w' : World} (h : CtxLies W R pa pb pc c lv wr) (hb : Below wr.heap.size wr w') : CtxLies W R pa pb pc c lv w' := by
  have hk := Kept.of_below hb
  refine ⟨h.cells.kept hk (by have := h.cells.lt; omega), ownsRow_kept h.row hk (fun b hb' => by have := h.held.held b (by simp [hb']); omega), h.held.below' hb, h.pcR, h.logR, h.new, h.next, h.few, h.fit⟩

theorem CtxLies.heldR {W : World} {R : List Nat} {pa pb pc : Nat} {c : CS} {lv : Value} {wr : World} (h : CtxLies W R pa pb pc c lv wr) : ∀ b ∈ R, b < wr.heap.size := fun b hb => h.held.held b (by simp [hb])

theorem six_below {B : Nat} {w w0 : World} {b : Nat} (h : Below B w w0) (hb : B ≤ b) (x0 x1 x2 x3 x4 x5 : Value) : Below B w ((((((w0.setCell ⟨b, 0, none⟩ x0).setCell ⟨b, 1, none⟩ x1).setCell ⟨b, 2, none⟩ x2).setCell ⟨b, 3, none⟩ x3).setCell ⟨b, 4, none⟩ x4).setCell ⟨b, 5, none⟩ x5) :=
  (((((h.setCell hb _).setCell hb _).setCell hb _).setCell hb _).setCell hb _).setCell hb _

theorem CtxLies.turn {W : World} {R : List Nat} {pa pb pc : Nat} {c c' : CS} {lv : Value} {wr w' : World} (h : CtxLies W R pa pb pc c lv wr) (hk : Kept (fun b => b = pc) wr w') (hc : Cells w' pc [.pointer (some ⟨pb, 0, none⟩), lv, .int .i64 (c'.next : Int), .bool c'.did] 123) (hlog : c'.log = c.log) (hbs : c'.bs = c.bs) (hn : c'.next ≤ c.log.length) :
    CtxLies W R pa pb pc c' lv w' ∧ HeldBy R wr w' := by
  refine ⟨⟨hc, ?_, ?_, h.pcR, h.logR, h.new, by rw [hlog]; exact hn, by rw [hlog]; exact h.few, by rw [hlog]; exact h.fit⟩, ⟨hk.size, fun b hb => hk.block b (h.heldR b hb) fun e => h.pcR (by simp [← e, hb])⟩⟩
  · rw [hlog]
    exact ownsRow_kept h.row hk fun b hb e => h.pcR (by simp [← e, hb])
  · rw [hbs]
    refine h.held.step (hk.mono fun b _ e => by simp [e]) (h.held.below.trans (hk.below h.held.below.size fun k hk e => by have := h.new; omega)) fun b hb => ⟨.inl hb, Nat.lt_of_lt_of_le (h.held.held b hb) hk.size⟩

theorem access_nil (f : Value) (w : World) : Calls Tryz.prog 96 #[.pointer none, f] w fun e w' => e = .returned (.tuple #[.agg (encE Th.blank).toArray, errV 1]) ∧ Below w.heap.size w w' := by
  go_enter Tryz.func96, Tryz.ntmps96
  go_wp2
  refine bodyPost_ret (v := .tuple #[.agg #[.int .i64 0, .int .u64 0, .int .i64 0, .int .u64 0, .bool false, .int .i64 0], .iface 99 (.int .i64 1)]) (by simp [results, Tryz.results96, go_sem]) rfl ?_
  exact ⟨rfl, (Below.refl _ _).alloc (Nat.le_refl _) _⟩

set_option maxHeartbeats 1000000 in
theorem access_over {W : World} {R : List Nat} {pa pb pc : Nat} {c : CS} {wr : World} (h : Ctx W R pa pb pc c wr) (f : Value) (h1 : c.log.length ≤ c.next) (h2 : c.did = true) :
    Calls Tryz.prog 96 #[.pointer (some ⟨pc, 0, none⟩), f] wr (After W R pa pb pc wr (11, Th.blank, c)) := by
  obtain ⟨lv, hl⟩ := h
  obtain ⟨p, cap, rfl⟩ := ownsRow_shape hl.row
  obtain ⟨p0, p1, p2, p3, -⟩ := four hl.cells
  rw [h2] at p3
  have H := Lib.hid hl
  have g1 : decide ((c.next : Int) < (c.log.length : Int)) = false := by simp; omega
  have g2 : decide (c.next < c.log.length) = false := by simp; omega
  have b1 : c.log.length ≤ 6000 := hl.few
  have lp := hl.cells.lt
  clear hl h1 h2
  generalize c.log.length = len at *
  generalize c.next = nx at *
  go_enter Tryz.func96, Tryz.ntmps96
  go_wp2
  go_quiet (fail)
  go_wp2
  refine bodyPost_ret (v := .tuple #[.agg #[.int .i64 0, .int .u64 0, .int .i64 0, .int .u64 0, .bool false, .int .i64 0], .iface 99 (.int .i64 11)]) (by simp [results, Tryz.results96, go_sem]) rfl ?_
  have hB := six_below (below_drewN ((Below.refl wr.heap.size wr).alloc (Nat.le_refl _) (.cells #[.int .i64 0, .int .u64 0, .int .i64 0, .int .u64 0, .bool false, .int .i64 0] 189)) nq) (Nat.le_refl wr.heap.size) (.int .i64 0) (.int .u64 0) (.int .i64 0) (.int .u64 0) (.bool false) (.int .i64 0)
  exact ⟨rfl, ⟨_, H.out.below hB⟩, HeldBy.of_below hB H.out.heldR⟩

set_option maxHeartbeats 1000000 in
theorem access_full {W : World} {R : List Nat} {pa pb pc : Nat} {c : CS} {wr : World} (h : Ctx W R pa pb pc c wr) (f : Value) (h1 : c.log.length ≤ c.next) (h2 : c.did = false) (h3 : 6000 ≤ c.log.length) :
    Calls Tryz.prog 96 #[.pointer (some ⟨pc, 0, none⟩), f] wr (After W R pa pb pc wr (15, Th.blank, c)) := by
  obtain ⟨lv, hl⟩ := h
  obtain ⟨p, cap, rfl⟩ := ownsRow_shape hl.row
  obtain ⟨p0, p1, p2, p3, -⟩ := four hl.cells
  rw [h2] at p3
  have H := Lib.hid hl
  have g1 : decide ((c.next : Int) < (c.log.length : Int)) = false := by simp; omega
  have g2 : decide (c.next < c.log.length) = false := by simp; omega
  have g3 : decide ((6000 : Int) ≤ (c.log.length : Int)) = true := by simp; omega
  have b1 : c.log.length ≤ 6000 := hl.few
  have lp := hl.cells.lt
  clear hl h1 h2 h3
  generalize c.log.length = len at *
  generalize c.next = nx at *
  go_enter Tryz.func96, Tryz.ntmps96
  go_wp2
  go_quiet (fail)
  go_wp2
  refine bodyPost_ret (v := .tuple #[.agg #[.int .i64 0, .int .u64 0, .int .i64 0, .int .u64 0, .bool false, .int .i64 0], .iface 99 (.int .i64 15)]) (by simp [results, Tryz.results96, go_sem]) rfl ?_
  have hB := six_below (below_drewN ((Below.refl wr.heap.size wr).alloc (Nat.le_refl _) (.cells #[.int .i64 0, .int .u64 0, .int .i64 0, .int .u64 0, .bool false, .int .i64 0] 189)) nq) (Nat.le_refl wr.heap.size) (.int .i64 0) (.int .u64 0) (.int .i64 0) (.int .u64 0) (.bool false) (.int .i64 0)
  exact ⟨rfl, ⟨_, H.out.below hB⟩, HeldBy.of_below hB H.out.heldR⟩

theorem flat_at (l : List Ntry) (k : Nat) (x : Ntry) (hx : l[k]? = some x) : ∀ j, j < 6 → (l.flatMap encE)[k * 6 + j]? = (encE x)[j]? := by
  induction l generalizing k with
  | nil => simp at hx
  | cons y l ih =>
    intro j hj
    have hy : (encE y).length = 6 := rfl
    cases k with
    | zero =>
      simp only [List.getElem?_cons_zero, Option.some.injEq] at hx
      subst hx
      rw [List.flatMap_cons, List.getElem?_append_left (by omega)]
      simp
    | succ k =>
      simp only [List.getElem?_cons_succ] at hx
      rw [List.flatMap_cons, List.getElem?_append_right (by omega), ← ih k hx j hj]
      congr 1
      omega
/-- The cells of an entry of the log. -/
theorem CtxLies.entry {W : World} {R : List Nat} {pa pb pc : Nat} {c : CS} {lv : Value} {wr : World} (h : CtxLies W R pa pb pc c lv wr) {k : Nat} {x : Ntry} (hx : c.log[k]? = some x) :
    ∃ g cap, lv = .slice (some ⟨g, 0, none⟩) c.log.length cap ∧ g ≠ pc ∧ g < wr.heap.size ∧ c.log.length ≤ cap ∧ cap ≤ maxLen ∧ ∀ j, j < 6 → wr.cell? ⟨g, k * 6 + j, none⟩ = (encE x)[j]? := by
  have hk : k < c.log.length := (List.getElem?_eq_some_iff.1 hx).1
  rcases h.row.2 with ⟨_, h0⟩ | ⟨g, cap, cur, rfl, hb, hg, hn, hm, hc, ht⟩
  · omega
  · refine ⟨g, cap, rfl, fun e => h.pcR (by simp [Value.ownBlock, e]), lt_of_block hg, hn, hm, fun j hj => ?_⟩
    rw [← flat_at c.log k x hx j hj, ← ht, cell_of_row wr g (k * 6 + j) cur 189 (0, 0) hg, List.getElem?_take, if_pos (by omega)]
    simp

set_option maxHeartbeats 1000000 in
theorem access_log {W : World} {R : List Nat} {pa pb pc : Nat} {c : CS} {wr : World} (h : Ctx W R pa pb pc c wr) (f : Value) {x : Ntry} (hx : c.log[c.next]? = some x) :
    Calls Tryz.prog 96 #[.pointer (some ⟨pc, 0, none⟩), f] wr (After W R pa pb pc wr (x.err, x, { c with next := c.next + 1 })) := by
  obtain ⟨lv, hl⟩ := h
  have hk : c.next < c.log.length := (List.getElem?_eq_some_iff.1 hx).1
  obtain ⟨g, cap, rfl, hgp, hgl, hlc, hcm, hcells⟩ := hl.entry hx
  obtain ⟨p0, p1, p2, p3, z0, z1, z2, z3⟩ := four hl.cells
  have e0 := hcells 0 (by omega)
  have e1 := hcells 1 (by omega)
  have e2 := hcells 2 (by omega)
  have e3 := hcells 3 (by omega)
  have e4 := hcells 4 (by omega)
  have e5 := hcells 5 (by omega)
  simp only [encE, List.getElem?_cons_zero, List.getElem?_cons_succ, Nat.add_zero] at e0 e1 e2 e3 e4 e5
  have HF := Lib.hid (hl.fit x (List.mem_of_getElem? hx))
  have H := Lib.hid hl
  have b1 : c.log.length ≤ 6000 := hl.few
  have g1 : (c.next : Int) < (c.log.length : Int) := by omega
  have HT := Lib.hid fun (w' : World) (k1 : Kept (fun b => b = pc) wr w') k2 => hl.turn (c' := { c with next := c.next + 1 }) (w' := w') k1 k2 rfl rfl (Nat.succ_le_of_lt hk)
  have lp := hl.cells.lt
  clear hl hcells hx
  generalize c.log.length = len at *
  generalize c.next = nx at *
  go_enter Tryz.func96, Tryz.ntmps96
  go_wp2
  go_quiet (fail)
  go_wp2
  go_region
  go_wp2
  obtain ⟨wx, hwx⟩ : ∃ wx : World, (((wr.alloc (.cells #[.int .i64 0, .int .u64 0, .int .i64 0, .int .u64 0, .bool false, .int .i64 0] 189)).drewN (nq + 1)).setCell ⟨pc, 2, none⟩ (.int .i64 ((nx : Int) + 1))).alloc (.cells #[.int .i64 (x.kind : Int), .int .u64 (x.ref : Int), .int .i64 x.i, .int .u64 (x.word : Int), .bool x.done, .int .i64 (x.err : Int)] 189) = wx := ⟨_, rfl⟩
  have hC : Cells (wr.alloc (.cells #[.int .i64 0, .int .u64 0, .int .i64 0, .int .u64 0, .bool false, .int .i64 0] 189)) pc _ _ := H.out.cells.alloc _
  have hC2 : Cells wx pc [.pointer (some ⟨pb, 0, none⟩), .slice (some ⟨g, 0, none⟩) len cap, .int .i64 ((nx : Int) + 1), .bool c.did] 123 := by
    rw [← hwx]
    exact (Cells.set (w := (wr.alloc (.cells #[.int .i64 0, .int .u64 0, .int .i64 0, .int .u64 0, .bool false, .int .i64 0] 189)).drewN (nq + 1)) hC 2 _).alloc _
  have hK : Kept (fun b => b = pc) wr wx := by
    rw [← hwx]
    exact ((Kept.setCell (S := fun b => b = pc) (((Kept.refl _ wr).alloc _).drewN (nq + 1)) (fun _ => rfl) _).alloc _)
  have hX := Cells.new (((wr.alloc (.cells #[.int .i64 0, .int .u64 0, .int .i64 0, .int .u64 0, .bool false, .int .i64 0] 189)).drewN (nq + 1)).setCell ⟨pc, 2, none⟩ (.int .i64 ((nx : Int) + 1))) [.int .i64 (x.kind : Int), .int .u64 (x.ref : Int), .int .i64 x.i, .int .u64 (x.word : Int), .bool x.done, .int .i64 (x.err : Int)] 189
  have hZ : Cells wx wr.heap.size [.int .i64 0, .int .u64 0, .int .i64 0, .int .u64 0, .bool false, .int .i64 0] 189 := by
    rw [← hwx]
    exact (Cells.set_other (w := (wr.alloc (.cells #[.int .i64 0, .int .u64 0, .int .i64 0, .int .u64 0, .bool false, .int .i64 0] 189)).drewN (nq + 1)) (Cells.new wr [.int .i64 0, .int .u64 0, .int .i64 0, .int .u64 0, .bool false, .int .i64 0] 189) (a := ⟨pc, 2, none⟩) (by simp; omega) _).alloc _
  replace hX : Cells wx (wr.heap.size + 1) [.int .i64 (x.kind : Int), .int .u64 (x.ref : Int), .int .i64 x.i, .int .u64 (x.word : Int), .bool x.done, .int .i64 (x.err : Int)] 189 := by
    rw [← hwx]
    have e : (((wr.alloc (.cells #[.int .i64 0, .int .u64 0, .int .i64 0, .int .u64 0, .bool false, .int .i64 0] 189)).drewN (nq + 1)).setCell ⟨pc, 2, none⟩ (.int .i64 ((nx : Int) + 1))).heap.size = wr.heap.size + 1 := by simp
    rw [e] at hX
    exact hX
  rw [hwx]
  clear hC p0 p1 p2 p3 z0 z1 z2 z3 e0 e1 e2 e3 e4 e5
  obtain ⟨u0, u1, u2, u3, u4, u5, -⟩ := six hX
  obtain ⟨y0, y1, y2, y3, y4, y5, f0, f1, f2, f3, f4, f5⟩ := six hZ
  have HZ := Lib.hid hZ; have HX := Lib.hid hX; have HC2 := Lib.hid hC2; have HK := Lib.hid hK
  clear hZ hX hC2 hK hwx
  go_region_held3 (fun w' => w'.cell? ⟨wr.heap.size + 1, 0, none⟩ = some (.int .i64 (x.kind : Int)) ∧ w'.cell? ⟨wr.heap.size + 1, 1, none⟩ = some (.int .u64 (x.ref : Int)) ∧ w'.cell? ⟨wr.heap.size + 1, 2, none⟩ = some (.int .i64 x.i) ∧ w'.cell? ⟨wr.heap.size + 1, 3, none⟩ = some (.int .u64 (x.word : Int)) ∧ w'.cell? ⟨wr.heap.size + 1, 4, none⟩ = some (.bool x.done) ∧ w'.cell? ⟨wr.heap.size + 1, 5, none⟩ = some (.int .i64 (x.err : Int)))
    (first | with_reducible exact ⟨u0, u1, u2, u3, u4, u5⟩ | with_reducible exact ⟨(six_other (Nat.succ_ne_self _)).trans u0, (six_other (Nat.succ_ne_self _)).trans u1, (six_other (Nat.succ_ne_self _)).trans u2, (six_other (Nat.succ_ne_self _)).trans u3, (six_other (Nat.succ_ne_self _)).trans u4, (six_other (Nat.succ_ne_self _)).trans u5⟩ | go_keep)
    (first | (go_at_call 116; refine (told_any x.err (by have := HF.out.err; omega) _).mono ?_; rintro e w' ⟨rfl, rfl⟩))
  go_wp2
  have hEnd := Lib.hid (HT.out _ (HK.out.then (six_kept wx wr.heap.size (x0 := .int .i64 (x.kind : Int)) (x1 := .int .u64 (x.ref : Int)) (x2 := .int .i64 x.i) (x3 := .int .u64 (x.word : Int)) (x4 := .bool x.done) (x5 := .int .i64 (x.err : Int))) (fun i hi e => by omega)).drew
    (Cells.kept HC2.out (six_kept _ _) (by omega)).drew)
  refine bodyPost_ret (v := .tuple #[.agg #[.int .i64 (x.kind : Int), .int .u64 (x.ref : Int), .int .i64 x.i, .int .u64 (x.word : Int), .bool x.done, .int .i64 (x.err : Int)], errV x.err]) (by simp [results, Tryz.results96, go_sem, y0, y1, y2, y3, y4, y5]) rfl ?_
  exact ⟨rfl, ⟨_, hEnd.out.1⟩, hEnd.out.2⟩
end Go.Proofs.YtmdganpealbmpaaGreatDoor

/- Layer 5 (thread): access, where it is done now. -/
namespace Go.Proofs.YtmdganpealbmpaaGreatDoor
open Go.RowKit Bl Th
set_option maxRecDepth 10000

theorem entryInfo : (Tryz.prog.info? 189).map (fun i => (i.zero, i.size, i.bytes)) = some (some (.agg #[.int .i64 0, .int .u64 0, .int .i64 0, .int .u64 0, .bool false, .int .i64 0]), 6, 48) := by kernel_rfl

theorem ownsRow_heldBy {w w' : World} {R : List Nat} {base : Nat} {e : TypeId} {size : Nat} {v : Value} {n : Nat} {xs : List Value} (h : w.ownsRow base e size v n xs) (k : HeldBy R w w') (hs : ∀ b, v.ownBlock = some b → b ∈ R) : w'.ownsRow base e size v n xs := by
  refine ⟨h.1, ?_⟩
  rcases h.2 with hn | ⟨g, cap, cur, rfl, h1, h2, h3⟩
  · exact Or.inl hn
  · exact Or.inr ⟨g, cap, cur, rfl, h1, (k.2 g (hs g rfl)).trans h2, h3⟩
theorem six_other_d {w : World} {b c : Nat} {o : Nat} {x0 x1 x2 x3 x4 x5 : Value} (h : c ≠ b) :
    ((((((w.setCell ⟨b, 0, none⟩ x0).setCell ⟨b, 1, none⟩ x1).setCell ⟨b, 2, none⟩ x2).setCell ⟨b, 3, none⟩ x3).setCell ⟨b, 4, none⟩ x4).setCell ⟨b, 5, none⟩ x5).drew.cell? ⟨c, o, none⟩ = w.cell? ⟨c, o, none⟩ := by
  rw [show ∀ (u : World) (a : Addr), u.drew.cell? a = u.cell? a from fun _ _ => rfl]
  exact six_other h
theorem access_end {W : World} {R : List Nat} {pa pb pc : Nat} {log : List Ntry} {nx len gg cap : Nat} {did : Bool} {bs bs' : BS} {x : Ntry} {lv : Value} {wr w2 w7 : World} (h : CtxLies W R pa pb pc ⟨log, nx, did, bs⟩ lv wr) (hlen : log.length = len) (hfew : log.length < 6000) (hs : wr.heap.size < w2.heap.size)
    (hg : Held W (wr.heap.size :: (pc :: (lv.ownBlock.toList ++ R))) pa pb bs' w2) (hh : HeldBy R wr w2) (hk : Kept (fun b => b = pc ∨ b = wr.heap.size ∨ some b = lv.ownBlock) w2 w7)
    (hc : Cells w7 pc [.pointer (some ⟨pb, 0, none⟩), .slice (some ⟨gg, 0, none⟩) (len + 1) cap, .int .i64 ((nx : Int) + 1), .bool true] 123)
    (hown : w7.ownsRow W.heap.size 189 6 (.slice (some ⟨gg, 0, none⟩) (len + 1) cap) (len + 1) (log.flatMap encE ++ encE x)) (hat : lv.ownBlock = some gg ∨ w2.heap.size ≤ gg) (hlt : gg < w7.heap.size) (hfit : Fit x) (hnx : log.length ≤ nx) :
    CtxLies W R pa pb pc ⟨log ++ [x], nx + 1, true, bs'⟩ (.slice (some ⟨gg, 0, none⟩) (len + 1) cap) w7 ∧ HeldBy R wr w7 := by
  have hpc : pc < wr.heap.size := h.cells.lt
  have hn := h.next
  simp only at hn
  have hR (b : Nat) (hb : b ∈ R) : ¬ (b = pc ∨ b = wr.heap.size ∨ some b = lv.ownBlock) := by
    rintro (e | e | e)
    · exact h.pcR (by simp [← e, hb])
    · have := h.heldR b hb; omega
    · exact h.logR b (by simp [← e]) hb
  have hgR : gg ∉ R := fun hm => by
    rcases hat with e | e
    · exact h.logR gg (by simp [e]) hm
    · have := h.heldR gg hm; omega
  have hgp : pc ≠ gg := fun e => by
    rcases hat with q | q
    · exact h.pcR (by simp [q, e])
    · omega
  have hlv : ∀ b, lv.ownBlock = some b → W.heap.size ≤ b := fun b hb => (h.row.lt b hb).1
  have hW := h.held.below.size
  refine ⟨⟨?_, ?_, ?_, ?_, ?_, h.new, ?_, ?_, ?_⟩, ⟨Nat.le_trans hh.1 hk.size, fun b hb => ?_⟩⟩
  · simpa using hc
  · simpa [hlen] using hown
  · refine hg.step (hk.mono ?_) (hg.below.trans (hk.below hg.below.size ?_)) fun b hb => ?_
    · rintro b _ (e | e | e)
      · simp [e]
      · simp [e]
      · simp [← e]
    · rintro k hk' (e | e | e)
      · have := h.new; omega
      · omega
      · have := hlv k e.symm; omega
    · simp only [Value.ownBlock, Option.toList_some, List.mem_cons, List.mem_append, List.not_mem_nil, or_false] at hb
      rcases hb with rfl | rfl | hb
      · exact ⟨.inl (by simp), Nat.lt_of_lt_of_le (Nat.lt_trans hpc hs) hk.size⟩
      · refine ⟨?_, hlt⟩
        rcases hat with e | e
        · exact .inl (by simp [e])
        · exact .inr e
      · exact ⟨.inl (by simp [hb]), Nat.lt_of_lt_of_le (hg.held b (by simp [hb])) hk.size⟩
  · simp only [Value.ownBlock, Option.toList_some, List.mem_cons, List.mem_append, List.not_mem_nil, or_false]
    rintro (e | e)
    · exact hgp e
    · exact h.pcR (by simp [e])
  · intro b hb
    simp only [Value.ownBlock, Option.toList_some, List.mem_singleton] at hb
    subst hb; exact hgR
  · simp; omega
  · simp; omega
  · intro y hy
    rcases List.mem_append.1 hy with e | e
    · exact h.fit y e
    · simp only [List.mem_singleton] at e
      subst e; exact hfit
  · rw [hk.block b (hg.held b (by simp [hb])) (hR b hb)]
    exact hh.2 b hb

set_option maxHeartbeats 2000000 in
theorem access_new {W : World} {R : List Nat} {pa pb pc : Nat} {c : CS} {wr : World} (h : Ctx W R pa pb pc c wr) (f : Nat) (ef : ∀ (args : Array Value) (w : World), (callFunc f args).run Tryz.prog w = .ok (.enter f args) w) (caps : Array Value) (op : BS → Ntry × BS) (hfit : Fit (op c.bs).1) (h1 : c.log.length ≤ c.next) (h2 : c.did = false) (h3 : c.log.length < 6000)
    (hdo : ∀ (w1 : World) (R' : List Nat), Held W R' pa pb c.bs w1 → HeldBy (pc :: R) wr w1 → (∀ b ∈ pc :: R, b ∈ R') → Calls Tryz.prog f caps w1 (Gave W R' pa pb w1 (op c.bs).1 (op c.bs).2)) :
    Calls Tryz.prog 96 #[.pointer (some ⟨pc, 0, none⟩), .func (.func f) #[] caps] wr (After W R pa pb pc wr ((op c.bs).1.err, (op c.bs).1, ⟨c.log ++ [(op c.bs).1], c.next + 1, true, (op c.bs).2⟩)) := by
  obtain ⟨log, nx, did, bs⟩ := c
  simp only at h1 h2 h3 hfit hdo ⊢
  subst h2
  obtain ⟨lv, hl⟩ := h
  obtain ⟨p, cap, hlv⟩ := ownsRow_shape hl.row
  simp only at hlv
  subst hlv
  have HNX := Lib.hid h1
  have HLN := Lib.hid h3
  obtain ⟨len, hlen⟩ : ∃ len, log.length = len := ⟨_, rfl⟩
  rw [hlen] at hl h1 h3
  have b1 : len ≤ 6000 := by rw [← hlen]; exact hl.few
  have b2 : nx ≤ 6000 := Nat.le_trans hl.next (by rw [hlen]; exact b1)
  have H := Lib.hid hl
  obtain ⟨p0, p1, p2, p3, z0, z1, z2, z3⟩ := four hl.cells
  simp only at p2 p3
  have g1 : decide ((nx : Int) < (len : Int)) = false := by simp; omega
  have g2 : decide (nx < len) = false := by simp; omega
  have g3 : decide ((6000 : Int) ≤ (len : Int)) = false := by simp; omega
  have lp := hl.cells.lt
  have HD := Lib.hid hdo
  have HFIT := Lib.hid hfit
  have HLEN := Lib.hid hlen
  clear hl h1 h3 hdo hfit hlen
  go_enter Tryz.func96, Tryz.ntmps96
  go_wp2
  go_quiet (fail)
  have B1 := Lib.hid (below_drewN ((Below.refl wr.heap.size wr).alloc (Nat.le_refl _) (.cells #[.int .i64 0, .int .u64 0, .int .i64 0, .int .u64 0, .bool false, .int .i64 0] 189)) nq)
  have K1 := Lib.hid (H.out.below B1.out)
  have Z1 : Cells ((wr.alloc (.cells #[.int .i64 0, .int .u64 0, .int .i64 0, .int .u64 0, .bool false, .int .i64 0] 189)).drewN nq) wr.heap.size [.int .i64 0, .int .u64 0, .int .i64 0, .int .u64 0, .bool false, .int .i64 0] 189 := Cells.new wr _ _
  have HZ1 := Lib.hid Z1
  clear Z1
  have L1 : wr.heap.size < ((wr.alloc (.cells #[.int .i64 0, .int .u64 0, .int .i64 0, .int .u64 0, .bool false, .int .i64 0] 189)).drewN nq).heap.size := by simp
  go_wp2_with fail
  generalize (wr.alloc (.cells #[.int .i64 0, .int .u64 0, .int .i64 0, .int .u64 0, .bool false, .int .i64 0] 189)).drewN nq = w1 at *
  have HR : Held W (wr.heap.size :: (pc :: ((Value.slice p len cap).ownBlock.toList ++ R))) pa pb bs w1 := H.out.held.came B1.out [wr.heap.size] (by simpa using L1)
  refine (HD.out w1 _ HR ?_ ?_).mono ?_
  · exact HeldBy.of_below B1.out (fun b hb => by
      rcases List.mem_cons.1 hb with e | e
      · rw [e]; exact lp
      · exact H.out.heldR b e)
  · intro b hb
    simp only [List.mem_cons, List.mem_append] at hb ⊢
    rcases hb with e | e
    · exact .inr (.inl e)
    · exact .inr (.inr (.inr e))
  rintro e w2 ⟨he, hg2, hh2⟩
  obtain ⟨x, hx⟩ : ∃ x, (op bs).1 = x := ⟨_, rfl⟩
  rw [hx] at he HFIT
  have HX := Lib.hid hx
  rw [show (encE x).toArray = #[.int .i64 (x.kind : Int), .int .u64 (x.ref : Int), .int .i64 x.i, .int .u64 (x.word : Int), .bool x.done, .int .i64 (x.err : Int)] from rfl] at he
  subst he
  have HH2 := Lib.hid hh2
  have HG2 := Lib.hid hg2
  have C2 : Cells w2 pc [.pointer (some ⟨pb, 0, none⟩), .slice p len cap, .int .i64 (nx : Int), .bool false] 123 := K1.out.cells.heldBy hh2 (by simp)
  have Z2 : Cells w2 wr.heap.size [.int .i64 0, .int .u64 0, .int .i64 0, .int .u64 0, .bool false, .int .i64 0] 189 := HZ1.out.heldBy hh2 (by simp)
  have X2 := Cells.new w2 [.int .i64 (x.kind : Int), .int .u64 (x.ref : Int), .int .i64 x.i, .int .u64 (x.word : Int), .bool x.done, .int .i64 (x.err : Int)] 189
  have R2 : w2.ownsRow W.heap.size 189 6 (.slice p len cap) len (log.flatMap encE) := ownsRow_heldBy (HLEN.out ▸ K1.out.row) hh2 (fun b hb => by simp [hb])
  have HC2 := Lib.hid C2; have HZ2 := Lib.hid Z2; have HX2 := Lib.hid X2; have HR2 := Lib.hid R2
  have lp2 := C2.lt
  have lz2 := Z2.lt
  obtain ⟨a0, a1, a2, a3, y0, y1, y2, y3⟩ := four C2
  obtain ⟨u0, u1, u2, u3, u4, u5, -⟩ := six X2
  have L2 := Lib.hid lz2
  clear hh2 hg2 C2 Z2 X2 R2 hx p0 p1 p2 p3 z0 z1 z2 z3
  go_wp2
  obtain ⟨i0, hi0, hz0, hz1, hz2⟩ := info_parts entryInfo
  have hownlt : ∀ b, (Value.slice p len cap).ownBlock = some b → b < wr.heap.size := fun b hb => H.out.held.held b (by simp [hb])
  have nz : some wr.heap.size ≠ (Value.slice p len cap).ownBlock := fun e => Nat.lt_irrefl _ (hownlt _ e.symm)
  have nx2 : some w2.heap.size ≠ (Value.slice p len cap).ownBlock := fun e => by have := hownlt _ e.symm; omega
  clear hownlt
  have npc : some pc ≠ (Value.slice p len cap).ownBlock := fun e => H.out.pcR (by simp [← e])
  have hnews : ∀ j u, (encE x)[j]? = some u → (((w2.alloc (.cells #[.int .i64 (x.kind : Int), .int .u64 (x.ref : Int), .int .i64 x.i, .int .u64 (x.word : Int), .bool x.done, .int .i64 (x.err : Int)] 189)).alloc (.cells #[.int .i64 (x.kind : Int), .int .u64 (x.ref : Int), .int .i64 x.i, .int .u64 (x.word : Int), .bool x.done, .int .i64 (x.err : Int)] 189)).drew).cell? ((⟨w2.heap.size + 1, 0, none⟩ : Addr).add j) = some u := by
    have := World.news_of_block (w := ((w2.alloc (.cells #[.int .i64 (x.kind : Int), .int .u64 (x.ref : Int), .int .i64 x.i, .int .u64 (x.word : Int), .bool x.done, .int .i64 (x.err : Int)] 189)).alloc (.cells #[.int .i64 (x.kind : Int), .int .u64 (x.ref : Int), .int .i64 x.i, .int .u64 (x.word : Int), .bool x.done, .int .i64 (x.err : Int)] 189)).drew) (B := w2.heap.size + 1) (cs := (encE x).toArray) (t := 189) (fr := (0, 0)) (by
      have := heap_alloc_new (w2.alloc (.cells #[.int .i64 (x.kind : Int), .int .u64 (x.ref : Int), .int .i64 x.i, .int .u64 (x.word : Int), .bool x.done, .int .i64 (x.err : Int)] 189)) (.cells #[.int .i64 (x.kind : Int), .int .u64 (x.ref : Int), .int .i64 x.i, .int .u64 (x.word : Int), .bool x.done, .int .i64 (x.err : Int)] 189)
      rw [World.size_alloc] at this
      exact this)
    simpa using this
  have HNEWS := Lib.hid hnews
  have HONE := Lib.hid (show ∀ u ∈ encE x, u.oneCell' = true by intro u hu; simp [encE] at hu; rcases hu with rfl | rfl | rfl | rfl | rfl | rfl <;> rfl)
  have HBASE := Lib.hid (show W.heap.size ≤ (((w2.alloc (.cells #[.int .i64 (x.kind : Int), .int .u64 (x.ref : Int), .int .i64 x.i, .int .u64 (x.word : Int), .bool x.done, .int .i64 (x.err : Int)] 189)).alloc (.cells #[.int .i64 (x.kind : Int), .int .u64 (x.ref : Int), .int .i64 x.i, .int .u64 (x.word : Int), .bool x.done, .int .i64 (x.err : Int)] 189)).drew).heap.size by have := HG2.out.below.size; simp; omega)
  clear hnews
  go_region_law (first | (refine step_append_lies _ (by rfl) _ _ _ (by rfl) W.heap.size 189 i0 _ 6 48 Tryz.underlying107 hi0 hz0 hz1 hz2 rfl (by omega) (.slice p len cap) len (log.flatMap encE) (by rfl) (((HR2.out.alloc _).alloc _).drew) ⟨w2.heap.size + 1, 0, none⟩ 1 1 (encE x) (by rfl) (by rfl) HNEWS.out HONE.out (by omega) (by unfold maxLen; omega) (by omega) HBASE.out (w2.heap.size + 1 + 1) (by simp) ?_; intro gg cap3 w3 hown3 hgrow3 hat3 hlt3; have k1 := (hgrow3.cell_far ⟨pc, 1, none⟩ (by simp; omega) npc); have k2 := (hgrow3.frozen_far ⟨pc, 1, none⟩ (by simp; omega) npc)))
  all_goals
    have gk : Kept (fun b => some b = (Value.slice p len cap).ownBlock) w2 w3 := ((((Kept.refl _ w2).alloc _).alloc _).drew).trans (Kept.of_grown hgrow3)
    have kk : Kept (fun b => b = pc ∨ b = wr.heap.size ∨ some b = (Value.slice p len cap).ownBlock) w2 (w3.setCell ⟨pc, 1, none⟩ (.slice (some ⟨gg, 0, none⟩) (len + 1) cap3)) := Kept.setCell (gk.mono fun b _ e => .inr (.inr e)) (fun _ => .inl rfl) _
    have C4 : Cells (w3.setCell ⟨pc, 1, none⟩ (.slice (some ⟨gg, 0, none⟩) (len + 1) cap3)) pc [.pointer (some ⟨pb, 0, none⟩), .slice (some ⟨gg, 0, none⟩) (len + 1) cap3, .int .i64 (nx : Int), .bool false] 123 := (HC2.out.kept gk (fun e => npc e)).set 1 _
    have X4 : Cells (w3.setCell ⟨pc, 1, none⟩ (.slice (some ⟨gg, 0, none⟩) (len + 1) cap3)) w2.heap.size [.int .i64 (x.kind : Int), .int .u64 (x.ref : Int), .int .i64 x.i, .int .u64 (x.word : Int), .bool x.done, .int .i64 (x.err : Int)] 189 := by
      refine Cells.set_other ?_ (a := ⟨pc, 1, none⟩) (by simp; omega) _
      exact (hgrow3.block w2.heap.size (by simp; omega) nx2).trans ((HX2.out.alloc _).drew)
    have Z4 : Cells (w3.setCell ⟨pc, 1, none⟩ (.slice (some ⟨gg, 0, none⟩) (len + 1) cap3)) wr.heap.size [.int .i64 0, .int .u64 0, .int .i64 0, .int .u64 0, .bool false, .int .i64 0] 189 := (HZ2.out.kept gk (fun e => nz e)).set_other (a := ⟨pc, 1, none⟩) (by simp; omega) _
    have O4 : (w3.setCell ⟨pc, 1, none⟩ (.slice (some ⟨gg, 0, none⟩) (len + 1) cap3)).ownsRow W.heap.size 189 6 (.slice (some ⟨gg, 0, none⟩) (len + 1) cap3) (len + 1) (log.flatMap encE ++ encE x) := by
      refine ownsRow_kept hown3 (Kept.setCell (S := fun b => b = pc) (Kept.refl _ w3) (fun _ => rfl) _) ?_
      intro b hb e
      simp only [Value.ownBlock, Option.some.injEq] at hb
      rcases hat3 with q | q
      · exact npc (by rw [q, hb, e])
      · omega
    have NG := Lib.hid (show ∀ b, (Value.slice (some ⟨gg, 0, none⟩) (len + 1) cap3).ownBlock = some b → ¬ b = wr.heap.size from fun b hb e => by
      simp only [Value.ownBlock, Option.some.injEq] at hb
      rcases hat3 with q | q
      · exact nz (by rw [q, hb, e])
      · omega)
    have hat4 : (Value.slice p len cap).ownBlock = some gg ∨ w2.heap.size ≤ gg := by
      rcases hat3 with q | q
      · exact .inl q
      · exact .inr (by omega)
    have lt4 : gg < (w3.setCell ⟨pc, 1, none⟩ (.slice (some ⟨gg, 0, none⟩) (len + 1) cap3)).heap.size := by simpa using hlt3
    generalize w3.setCell ⟨pc, 1, none⟩ (.slice (some ⟨gg, 0, none⟩) (len + 1) cap3) = w4 at *
    clear k1 k2 hown3 hgrow3 hat3 hlt3 gk a0 a1 a2 a3 y0 y1 y2 y3 u0 u1 u2 u3 u4 u5
    obtain ⟨a0, a1, a2, a3, y0, y1, y2, y3⟩ := four C4
    obtain ⟨u0, u1, u2, u3, u4, u5, -⟩ := six X4
    obtain ⟨v0, v1, v2, v3, v4, v5, f0, f1, f2, f3, f4, f5⟩ := six Z4
    have HKK := Lib.hid kk; have HC4 := Lib.hid C4; have HX4 := Lib.hid X4; have HZ4 := Lib.hid Z4; have HO4 := Lib.hid O4; have HAT := Lib.hid hat4; have HLT := Lib.hid lt4
    clear kk C4 X4 Z4 O4 hat4 lt4
    go_wp2
    have K5 : Kept (fun b => b = pc) w4 ((w4.setCell ⟨pc, 2, none⟩ (.int .i64 ((nx : Int) + 1))).setCell ⟨pc, 3, none⟩ (.bool true)) := (Kept.setCell (S := fun b => b = pc) (Kept.refl _ w4) (fun _ => rfl) _).setCell (fun _ => rfl) _
    have C5 : Cells ((w4.setCell ⟨pc, 2, none⟩ (.int .i64 ((nx : Int) + 1))).setCell ⟨pc, 3, none⟩ (.bool true)) pc [.pointer (some ⟨pb, 0, none⟩), .slice (some ⟨gg, 0, none⟩) (len + 1) cap3, .int .i64 ((nx : Int) + 1), .bool true] 123 := (HC4.out.set 2 _).set 3 _
    generalize (w4.setCell ⟨pc, 2, none⟩ (.int .i64 ((nx : Int) + 1))).setCell ⟨pc, 3, none⟩ (.bool true) = w5 at *
    have X5 := HX4.out.kept K5 (by omega)
    have Z5 := HZ4.out.kept K5 (by omega)
    have O5 := ownsRow_kept HO4.out K5 (by
      intro b hb e
      simp only [Value.ownBlock, Option.some.injEq] at hb
      rcases HAT.out with q | q
      · exact npc (by rw [q, hb, e])
      · omega)
    have lt5 : gg < w5.heap.size := Nat.lt_of_lt_of_le HLT.out K5.size
    have kk5 := HKK.out.then K5 (fun b _ e => .inl e)
    clear a0 a1 a2 a3 y0 y1 y2 y3 u0 u1 u2 u3 u4 u5 v0 v1 v2 v3 v4 v5 f0 f1 f2 f3 f4 f5
    obtain ⟨u0, u1, u2, u3, u4, u5, -⟩ := six X5
    obtain ⟨v0, v1, v2, v3, v4, v5, f0, f1, f2, f3, f4, f5⟩ := six Z5
    have HKK5 := Lib.hid kk5; have HC5 := Lib.hid C5; have HO5 := Lib.hid O5; have HLT5 := Lib.hid lt5
    have nwz : w2.heap.size ≠ wr.heap.size := by omega
    clear kk5 C5 X5 Z5 O5 lt5 K5
    go_region_held3 (fun w' => w'.cell? ⟨w2.heap.size, 0, none⟩ = some (.int .i64 (x.kind : Int)) ∧ w'.cell? ⟨w2.heap.size, 1, none⟩ = some (.int .u64 (x.ref : Int)) ∧ w'.cell? ⟨w2.heap.size, 2, none⟩ = some (.int .i64 x.i) ∧ w'.cell? ⟨w2.heap.size, 3, none⟩ = some (.int .u64 (x.word : Int)) ∧ w'.cell? ⟨w2.heap.size, 4, none⟩ = some (.bool x.done) ∧ w'.cell? ⟨w2.heap.size, 5, none⟩ = some (.int .i64 (x.err : Int)))
      (first | with_reducible exact ⟨u0, u1, u2, u3, u4, u5⟩ | with_reducible exact ⟨(six_other_d nwz).trans u0, (six_other_d nwz).trans u1, (six_other_d nwz).trans u2, (six_other_d nwz).trans u3, (six_other_d nwz).trans u4, (six_other_d nwz).trans u5⟩ | go_keep)
      (first | (go_at_call 116; refine (told_any x.err (by have := HFIT.out.err; omega) _).mono ?_; rintro e w' ⟨rfl, rfl⟩))
    go_wp2
    have hEnd := Lib.hid (access_end (x := x) H.out HLEN.out HLN.out L2.out HG2.out (HeldBy.trans (HeldBy.of_below B1.out H.out.heldR) (HH2.out.less (fun b hb => by simp [hb]))) (HKK5.out.then (six_kept w5 wr.heap.size (x0 := .int .i64 (x.kind : Int)) (x1 := .int .u64 (x.ref : Int)) (x2 := .int .i64 x.i) (x3 := .int .u64 (x.word : Int)) (x4 := .bool x.done) (x5 := .int .i64 (x.err : Int))) (fun i hi e => .inr (.inl e))).drew
      (Cells.kept HC5.out (six_kept _ _) (by omega)).drew (ownsRow_kept (ownsRow_kept HO5.out (six_kept _ _) NG.out) ((Kept.refl (fun _ => False) _).drew) (fun _ _ h => h)) HAT.out (by simpa using HLT5.out) HFIT.out HNX.out)
    refine bodyPost_ret (v := .tuple #[.agg #[.int .i64 (x.kind : Int), .int .u64 (x.ref : Int), .int .i64 x.i, .int .u64 (x.word : Int), .bool x.done, .int .i64 (x.err : Int)], errV x.err]) (by simp [results, Tryz.results96, go_sem, v0, v1, v2, v3, v4, v5]) rfl ?_
    rw [HX.out]
    exact ⟨rfl, ⟨_, hEnd.out.1⟩, hEnd.out.2⟩
end Go.Proofs.YtmdganpealbmpaaGreatDoor

/- Layer 5 (thread): the accesses of a Ctx, one contract each. -/
namespace Go.Proofs.YtmdganpealbmpaaGreatDoor
open Go.RowKit Bl Th
set_option maxRecDepth 10000

theorem ref_lt {S S' : BS} {n : Int} {ref : Nat} (ho : Ok S) (h : alloc S n = .ok (ref, S')) : ref < 18446744073709551616 := by
  unfold alloc at h
  split at h
  · split at h
    · cases h
    · rename_i p S1 ht
      obtain ⟨b, hb, _, hgen, _, _, hws, hp⟩ := take_fits ho ht
      have htop : S1.top ≤ S.ws.length := by
        have := ho.top
        unfold take at ht
        split at ht
        · simp only [Option.some.injEq, Prod.mk.injEq] at ht
          obtain ⟨_, rfl⟩ := ht
          exact this
        · split at ht
          · cases ht
          · simp only [Option.some.injEq, Prod.mk.injEq] at ht
            obtain ⟨_, rfl⟩ := ht
            simp only
            omega
      have := ho.len
      rw [hb] at h
      simp only [Except.ok.injEq, Prod.mk.injEq] at h
      obtain ⟨rfl, _⟩ := h
      unfold refOf
      omega
  · cases h
theorem word_err5 {S : BS} {ref : Nat} {i : Int} {n : Nat} (h : word S ref i = .error n) : n ≤ 5 := by
  unfold word at h
  split at h
  · obtain rfl := Except.error.inj h; omega
  · split at h
    · cases h
    · obtain rfl := Except.error.inj h; omega
theorem alloc_err5 {S : BS} {i : Int} {n : Nat} (h : alloc S i = .error n) : n ≤ 5 := by
  unfold alloc at h
  split at h
  · split at h
    · obtain rfl := Except.error.inj h; omega
    · split at h
      · obtain rfl := Except.error.inj h; omega
      · cases h
  · obtain rfl := Except.error.inj h; omega
theorem fit_load {S : BS} (ho : Ok S) {ref : Nat} (hr : ref < 18446744073709551616) (i : Int) : Fit (opLoad ref i S).1 := by
  unfold opLoad
  cases hw : word S ref i with
  | ok k =>
    refine ⟨hr, ?_, by simp⟩
    simp only
    rw [List.getD_eq_getElem?_getD]
    cases hk : S.ws[k]? with
    | none => simp
    | some y => exact ho.words y (List.mem_of_getElem? hk)
  | error n => exact ⟨hr, by simp, word_err5 hw⟩
theorem fit_store {S : BS} {ref x : Nat} (hr : ref < 18446744073709551616) (hx : x < 18446744073709551616) (i : Int) : Fit (opStore ref i x S).1 := by
  unfold opStore
  cases hw : word S ref i with
  | ok k => exact ⟨hr, hx, by simp⟩
  | error n => exact ⟨hr, hx, word_err5 hw⟩
theorem fit_cas {S : BS} {ref old x : Nat} (hr : ref < 18446744073709551616) (hx : x < 18446744073709551616) (i : Int) : Fit (opCAS ref i old x S).1 := by
  unfold opCAS
  cases hw : word S ref i with
  | ok k => exact ⟨hr, hx, by simp⟩
  | error n => exact ⟨hr, hx, word_err5 hw⟩
theorem fit_alloc {S : BS} (ho : Ok S) (i : Int) : Fit (opAlloc i S).1 := by
  unfold opAlloc
  cases ha : alloc S i with
  | ok q => exact ⟨ref_lt ho ha, by simp, by simp⟩
  | error n => exact ⟨by simp, by simp, alloc_err5 ha⟩
theorem fit_free {S : BS} {ref : Nat} (hr : ref < 18446744073709551616) : Fit (opFree ref S).1 := by
  unfold opFree
  cases free S ref with
  | some q => exact ⟨hr, by simp, by simp⟩
  | none => exact ⟨hr, by simp, by simp⟩

theorem Ctx.ok {W : World} {R : List Nat} {pa pb pc : Nat} {c : CS} {wr : World} (h : Ctx W R pa pb pc c wr) : Ok c.bs := by
  obtain ⟨lv, h⟩ := h
  exact h.held.ok
theorem Ctx.below {W : World} {R : List Nat} {pa pb pc : Nat} {c : CS} {wr : World} (h : Ctx W R pa pb pc c wr) : Below W.heap.size W wr := by
  obtain ⟨lv, h⟩ := h
  exact h.held.below
theorem Ctx.fit {W : World} {R : List Nat} {pa pb pc : Nat} {c : CS} {wr : World} (h : Ctx W R pa pb pc c wr) : ∀ x ∈ c.log, Fit x := by
  obtain ⟨lv, h⟩ := h
  exact h.fit
theorem Ctx.heldR {W : World} {R : List Nat} {pa pb pc : Nat} {c : CS} {wr : World} (h : Ctx W R pa pb pc c wr) : ∀ b ∈ R, b < wr.heap.size := by
  obtain ⟨lv, h⟩ := h
  exact h.heldR
theorem Ctx.cell0 {W : World} {R : List Nat} {pa pb pc : Nat} {c : CS} {wr : World} (h : Ctx W R pa pb pc c wr) : wr.cell? ⟨pc, 0, none⟩ = some (.pointer (some ⟨pb, 0, none⟩)) := by
  obtain ⟨lv, h⟩ := h
  exact h.cells.cell 0
/-- What is held changes, or something new is held. -/
theorem Ctx.step {W : World} {R R' : List Nat} {pa pb pc : Nat} {c : CS} {wr w' : World} (h : Ctx W R pa pb pc c wr) (k : Kept (fun b => b ∈ R) wr w') (hb : Below W.heap.size W w') (hr : ∀ b ∈ R', (b ∈ R ∨ wr.heap.size ≤ b) ∧ b < w'.heap.size) : Ctx W R' pa pb pc c w' := by
  obtain ⟨lv, h⟩ := h
  have hp := h.cells.lt
  have hlt (b : Nat) (hb : b ∈ lv.ownBlock.toList) : b < wr.heap.size := h.held.held b (by simp only [List.mem_cons, List.mem_append]; exact .inr (.inl hb))
  refine ⟨lv, h.cells.kept k (fun e => h.pcR (by simp [e])), ownsRow_kept h.row k (fun b hb' e => h.logR b (by simp [hb']) e), ?_, ?_, ?_, h.new, h.next, h.few, h.fit⟩
  · refine h.held.step (k.mono fun b _ e => by simp [e]) hb fun b hb' => ?_
    simp only [List.mem_cons, List.mem_append] at hb' ⊢
    rcases hb' with rfl | e | e
    · exact ⟨.inl (.inl rfl), Nat.lt_of_lt_of_le hp k.size⟩
    · exact ⟨.inl (.inr (.inl e)), Nat.lt_of_lt_of_le (hlt b e) k.size⟩
    · refine ⟨?_, (hr b e).2⟩
      rcases (hr b e).1 with q | q
      · exact .inl (.inr (.inr q))
      · exact .inr q
  · intro hm
    rcases List.mem_append.1 hm with e | e
    · exact h.pcR (by simp only [List.mem_append]; exact .inl e)
    · rcases (hr pc e).1 with q | q
      · exact h.pcR (by simp [q])
      · omega
  · intro b hb' hm
    rcases (hr b hm).1 with q | q
    · exact h.logR b hb' q
    · have := hlt b hb'; omega
theorem Ctx.came {W : World} {R : List Nat} {pa pb pc : Nat} {c : CS} {wr w' : World} (h : Ctx W R pa pb pc c wr) (k : Below wr.heap.size wr w') (N : List Nat) (hN : ∀ b ∈ N, wr.heap.size ≤ b ∧ b < w'.heap.size) : Ctx W (N ++ R) pa pb pc c w' := by
  have hs := h.below.size
  have hR := h.heldR
  refine h.step ((Kept.of_below k).mono fun b hb e => absurd e (by omega)) (h.below.trans (k.mono hs)) fun b hb => ?_
  rcases List.mem_append.1 hb with e | e
  · exact ⟨.inr (hN b e).1, (hN b e).2⟩
  · exact ⟨.inl e, Nat.lt_of_lt_of_le (hR b e) k.size⟩
theorem Ctx.less {W : World} {R R' : List Nat} {pa pb pc : Nat} {c : CS} {wr : World} (h : Ctx W R pa pb pc c wr) (hr : ∀ b ∈ R', b ∈ R) : Ctx W R' pa pb pc c wr :=
  h.step (Kept.refl _ _) h.below fun b hb => ⟨.inl (hr b hb), h.heldR b (hr b hb)⟩

/-- access, whichever way it goes. -/
theorem access_any {W : World} {R : List Nat} {pa pb pc : Nat} {c : CS} {wr : World} (h : Ctx W R pa pb pc c wr) (f : Nat) (ef : ∀ (args : Array Value) (w : World), (callFunc f args).run Tryz.prog w = .ok (.enter f args) w) (caps : Array Value) (op : BS → Ntry × BS) (hfit : Fit (op c.bs).1)
    (hdo : ∀ (w1 : World) (R' : List Nat), Held W R' pa pb c.bs w1 → HeldBy (pc :: R) wr w1 → (∀ b ∈ pc :: R, b ∈ R') → Calls Tryz.prog f caps w1 (Gave W R' pa pb w1 (op c.bs).1 (op c.bs).2)) :
    Calls Tryz.prog 96 #[.pointer (some ⟨pc, 0, none⟩), .func (.func f) #[] caps] wr (After W R pa pb pc wr (access op c)) := by
  unfold access
  cases hx : c.log[c.next]? with
  | some x => exact access_log h _ hx
  | none =>
    have h1 : c.log.length ≤ c.next := by simpa using hx
    simp only
    by_cases h2 : c.did = true
    · rw [if_pos h2]; exact access_over h _ h1 h2
    · rw [if_neg h2]
      have h2' : c.did = false := by simpa using h2
      by_cases h3 : 6000 ≤ c.log.length
      · rw [if_pos h3]; exact access_full h _ h1 h2' h3
      · rw [if_neg h3]; exact access_new h f ef caps op hfit h1 h2' (by omega) hdo
theorem blank_fit : Fit Th.blank := ⟨by decide, by decide, by decide⟩
/-- The entry that an access tells fits. -/
theorem access_fit {op : BS → Ntry × BS} {c : CS} (h : ∀ x ∈ c.log, Fit x) (ho : Fit (op c.bs).1) : Fit (access op c).2.1 := by
  unfold access
  cases hx : c.log[c.next]? with
  | some x => exact h x (List.mem_of_getElem? hx)
  | none =>
    simp only
    split
    · exact blank_fit
    · split
      · exact blank_fit
      · exact ho

/-- What an access with a result answers. -/
def After2 (W : World) (R : List Nat) (pa pb pc : Nat) (wr : World) (v : Ntry → Value) (r : Nat × Ntry × CS) (e : Ending) (w' : World) : Prop :=
  e = .returned (.tuple #[v r.2.1, errV r.1]) ∧ Ctx W R pa pb pc r.2.2 w' ∧ HeldBy R wr w'
def After1 (W : World) (R : List Nat) (pa pb pc : Nat) (wr : World) (r : Nat × Ntry × CS) (e : Ending) (w' : World) : Prop :=
  e = .returned (errV r.1) ∧ Ctx W R pa pb pc r.2.2 w' ∧ HeldBy R wr w'

theorem ef_load (args : Array Value) (w : World) : (callFunc 121 args).run Tryz.prog w = .ok (.enter 121 args) w := enters_of Tryz.func121 (by kernel_rfl) rfl args w
set_option maxHeartbeats 1000000 in
theorem cload_ok {W : World} {R : List Nat} {pa pb pc : Nat} {c : CS} {wr : World} (h : Ctx W R pa pb pc c wr) (hg : Handle W) {ref : Nat} (hr : ref < 18446744073709551616) (i : Int) :
    Calls Tryz.prog 100 #[(.pointer (some ⟨pc, 0, none⟩)), (.int .u64 (ref : Int)), (.int .i64 i)] wr (After2 W R pa pb pc wr (fun x => (.int .u64 (x.word : Int))) (access (opLoad ref i) c)) := by
  have H := Lib.hid h
  have HG := Lib.hid hg
  have hmf : ∀ (fn : Fn) (first cap : Array Value) (w : World), (Instr.makeFunc fn first cap).run Tryz.prog w = .ok (.func fn first cap) w := fun _ _ _ _ => rfl
  have hB : Below wr.heap.size wr (((wr.alloc (.cells #[(.pointer (some ⟨pc, 0, none⟩))] 60)).alloc (.cells #[(.int .u64 (ref : Int))] 41)).alloc (.cells #[(.int .i64 i)] 3)) := ((((Below.refl _ _).alloc (by simp) _).alloc (by simp) _).alloc (by simp; omega) _)
  have q0 : (((wr.alloc (.cells #[(.pointer (some ⟨pc, 0, none⟩))] 60)).alloc (.cells #[(.int .u64 (ref : Int))] 41)).alloc (.cells #[(.int .i64 i)] 3)).cell? ⟨wr.heap.size, 0, none⟩ = some (.pointer (some ⟨pc, 0, none⟩)) := by
    have h := (((Cells.new wr [(.pointer (some ⟨pc, 0, none⟩))] 60).alloc (.cells #[(.int .u64 (ref : Int))] 41)).alloc (.cells #[(.int .i64 i)] 3)).cell 0
    simpa only [World.size_alloc, List.getElem?_cons_zero] using h
  have q1 : (((wr.alloc (.cells #[(.pointer (some ⟨pc, 0, none⟩))] 60)).alloc (.cells #[(.int .u64 (ref : Int))] 41)).alloc (.cells #[(.int .i64 i)] 3)).cell? ⟨wr.heap.size + 1, 0, none⟩ = some (.int .u64 (ref : Int)) := by
    have h := ((Cells.new (wr.alloc (.cells #[(.pointer (some ⟨pc, 0, none⟩))] 60)) [(.int .u64 (ref : Int))] 41).alloc (.cells #[(.int .i64 i)] 3)).cell 0
    simpa only [World.size_alloc, List.getElem?_cons_zero] using h
  have q2 : (((wr.alloc (.cells #[(.pointer (some ⟨pc, 0, none⟩))] 60)).alloc (.cells #[(.int .u64 (ref : Int))] 41)).alloc (.cells #[(.int .i64 i)] 3)).cell? ⟨wr.heap.size + 1 + 1, 0, none⟩ = some (.int .i64 i) := by
    have h := (Cells.new ((wr.alloc (.cells #[(.pointer (some ⟨pc, 0, none⟩))] 60)).alloc (.cells #[(.int .u64 (ref : Int))] 41)) [(.int .i64 i)] 3).cell 0
    simpa only [World.size_alloc, List.getElem?_cons_zero] using h
  have hctx := h.came hB [wr.heap.size, wr.heap.size + 1, wr.heap.size + 1 + 1] (by simp; try omega)
  have q3 : (((wr.alloc (.cells #[(.pointer (some ⟨pc, 0, none⟩))] 60)).alloc (.cells #[(.int .u64 (ref : Int))] 41)).alloc (.cells #[(.int .i64 i)] 3)).cell? ⟨pc, 0, none⟩ = some (.pointer (some ⟨pb, 0, none⟩)) := hctx.cell0
  have HB := Lib.hid hB
  have HA := Lib.hid (access_any hctx 121 ef_load #[.pointer (some ⟨wr.heap.size, 0, none⟩), .pointer (some ⟨wr.heap.size + 1, 0, none⟩), .pointer (some ⟨wr.heap.size + 1 + 1, 0, none⟩)] (opLoad ref i) (fit_load h.ok hr i) (fun w1 R' hh hby hs => load1_ok hh HG.out hr ((hby.cell (a := ⟨wr.heap.size, 0, none⟩) (by simp)).trans q0) ((hby.cell (a := ⟨pc, 0, none⟩) (by simp)).trans q3) ((hby.cell (a := ⟨wr.heap.size + 1, 0, none⟩) (by simp)).trans q1) ((hby.cell (a := ⟨wr.heap.size + 1 + 1, 0, none⟩) (by simp)).trans q2) (hs _ (by simp)) (hs _ (by simp)) (hs _ (by simp)) (hs _ (by simp))))
  clear h hg hB hctx q0 q1 q2 q3
  go_enter Tryz.func100, Tryz.ntmps100
  go_wp2_with fail
  refine HA.out.mono ?_
  rintro e w4 ⟨he, hc4, hb4⟩
  obtain ⟨r, hr⟩ : ∃ r, access (opLoad ref i) c = r := ⟨_, rfl⟩
  rw [hr] at he hc4
  have HR := Lib.hid hr
  rw [show (encE r.2.1).toArray = #[.int .i64 (r.2.1.kind : Int), .int .u64 (r.2.1.ref : Int), .int .i64 r.2.1.i, .int .u64 (r.2.1.word : Int), .bool r.2.1.done, .int .i64 (r.2.1.err : Int)] from rfl] at he
  subst he
  have HC4 := Lib.hid hc4; have HB4 := Lib.hid hb4
  clear hc4 hb4 hr HA
  go_wp2
  go_ret2
  rw [HR.out]
  have b5 := (Below.refl w4.heap.size w4).alloc (Nat.le_refl _) (.cells #[.int .i64 (r.2.1.kind : Int), .int .u64 (r.2.1.ref : Int), .int .i64 r.2.1.i, .int .u64 (r.2.1.word : Int), .bool r.2.1.done, .int .i64 (r.2.1.err : Int)] 189)
  refine ⟨rfl, (HC4.out.came b5 [] (by simp)).less (fun b hb => by simp [hb]), ?_⟩
  exact HeldBy.trans (HeldBy.of_below HB.out H.out.heldR) (HeldBy.trans (HB4.out.less (fun b hb => by simp [hb])) (HeldBy.of_below b5 (fun b hb => HC4.out.heldR b (by simp [hb]))))
theorem ef_store (args : Array Value) (w : World) : (callFunc 113 args).run Tryz.prog w = .ok (.enter 113 args) w := enters_of Tryz.func113 (by kernel_rfl) rfl args w
set_option maxHeartbeats 1000000 in
theorem cstore_ok {W : World} {R : List Nat} {pa pb pc : Nat} {c : CS} {wr : World} (h : Ctx W R pa pb pc c wr) (hg : Handle W) {ref x : Nat} (hr : ref < 18446744073709551616) (hx : x < 18446744073709551616) (i : Int) :
    Calls Tryz.prog 90 #[(.pointer (some ⟨pc, 0, none⟩)), (.int .u64 (ref : Int)), (.int .i64 i), (.int .u64 (x : Int))] wr (After1 W R pa pb pc wr (access (opStore ref i x) c)) := by
  have H := Lib.hid h
  have HG := Lib.hid hg
  have hmf : ∀ (fn : Fn) (first cap : Array Value) (w : World), (Instr.makeFunc fn first cap).run Tryz.prog w = .ok (.func fn first cap) w := fun _ _ _ _ => rfl
  have hB : Below wr.heap.size wr ((((wr.alloc (.cells #[(.pointer (some ⟨pc, 0, none⟩))] 60)).alloc (.cells #[(.int .u64 (ref : Int))] 41)).alloc (.cells #[(.int .i64 i)] 3)).alloc (.cells #[(.int .u64 (x : Int))] 41)) := (((((Below.refl _ _).alloc (by simp) _).alloc (by simp) _).alloc (by simp; omega) _).alloc (by simp; omega) _)
  have q0 : ((((wr.alloc (.cells #[(.pointer (some ⟨pc, 0, none⟩))] 60)).alloc (.cells #[(.int .u64 (ref : Int))] 41)).alloc (.cells #[(.int .i64 i)] 3)).alloc (.cells #[(.int .u64 (x : Int))] 41)).cell? ⟨wr.heap.size, 0, none⟩ = some (.pointer (some ⟨pc, 0, none⟩)) := by
    have h := ((((Cells.new wr [(.pointer (some ⟨pc, 0, none⟩))] 60).alloc (.cells #[(.int .u64 (ref : Int))] 41)).alloc (.cells #[(.int .i64 i)] 3)).alloc (.cells #[(.int .u64 (x : Int))] 41)).cell 0
    simpa only [World.size_alloc, List.getElem?_cons_zero] using h
  have q1 : ((((wr.alloc (.cells #[(.pointer (some ⟨pc, 0, none⟩))] 60)).alloc (.cells #[(.int .u64 (ref : Int))] 41)).alloc (.cells #[(.int .i64 i)] 3)).alloc (.cells #[(.int .u64 (x : Int))] 41)).cell? ⟨wr.heap.size + 1, 0, none⟩ = some (.int .u64 (ref : Int)) := by
    have h := (((Cells.new (wr.alloc (.cells #[(.pointer (some ⟨pc, 0, none⟩))] 60)) [(.int .u64 (ref : Int))] 41).alloc (.cells #[(.int .i64 i)] 3)).alloc (.cells #[(.int .u64 (x : Int))] 41)).cell 0
    simpa only [World.size_alloc, List.getElem?_cons_zero] using h
  have q2 : ((((wr.alloc (.cells #[(.pointer (some ⟨pc, 0, none⟩))] 60)).alloc (.cells #[(.int .u64 (ref : Int))] 41)).alloc (.cells #[(.int .i64 i)] 3)).alloc (.cells #[(.int .u64 (x : Int))] 41)).cell? ⟨wr.heap.size + 1 + 1, 0, none⟩ = some (.int .i64 i) := by
    have h := ((Cells.new ((wr.alloc (.cells #[(.pointer (some ⟨pc, 0, none⟩))] 60)).alloc (.cells #[(.int .u64 (ref : Int))] 41)) [(.int .i64 i)] 3).alloc (.cells #[(.int .u64 (x : Int))] 41)).cell 0
    simpa only [World.size_alloc, List.getElem?_cons_zero] using h
  have q3 : ((((wr.alloc (.cells #[(.pointer (some ⟨pc, 0, none⟩))] 60)).alloc (.cells #[(.int .u64 (ref : Int))] 41)).alloc (.cells #[(.int .i64 i)] 3)).alloc (.cells #[(.int .u64 (x : Int))] 41)).cell? ⟨wr.heap.size + 1 + 1 + 1, 0, none⟩ = some (.int .u64 (x : Int)) := by
    have h := (Cells.new (((wr.alloc (.cells #[(.pointer (some ⟨pc, 0, none⟩))] 60)).alloc (.cells #[(.int .u64 (ref : Int))] 41)).alloc (.cells #[(.int .i64 i)] 3)) [(.int .u64 (x : Int))] 41).cell 0
    simpa only [World.size_alloc, List.getElem?_cons_zero] using h
  have hctx := h.came hB [wr.heap.size, wr.heap.size + 1, wr.heap.size + 1 + 1, wr.heap.size + 1 + 1 + 1] (by simp; try omega)
  have q4 : ((((wr.alloc (.cells #[(.pointer (some ⟨pc, 0, none⟩))] 60)).alloc (.cells #[(.int .u64 (ref : Int))] 41)).alloc (.cells #[(.int .i64 i)] 3)).alloc (.cells #[(.int .u64 (x : Int))] 41)).cell? ⟨pc, 0, none⟩ = some (.pointer (some ⟨pb, 0, none⟩)) := hctx.cell0
  have HB := Lib.hid hB
  have HA := Lib.hid (access_any hctx 113 ef_store #[.pointer (some ⟨wr.heap.size + 1, 0, none⟩), .pointer (some ⟨wr.heap.size + 1 + 1, 0, none⟩), .pointer (some ⟨wr.heap.size + 1 + 1 + 1, 0, none⟩), .pointer (some ⟨wr.heap.size, 0, none⟩)] (opStore ref i x) (fit_store hr hx i) (fun w1 R' hh hby hs => store1_ok hh HG.out hr hx ((hby.cell (a := ⟨wr.heap.size + 1, 0, none⟩) (by simp)).trans q1) ((hby.cell (a := ⟨wr.heap.size + 1 + 1, 0, none⟩) (by simp)).trans q2) ((hby.cell (a := ⟨wr.heap.size + 1 + 1 + 1, 0, none⟩) (by simp)).trans q3) ((hby.cell (a := ⟨wr.heap.size, 0, none⟩) (by simp)).trans q0) ((hby.cell (a := ⟨pc, 0, none⟩) (by simp)).trans q4) (hs _ (by simp)) (hs _ (by simp)) (hs _ (by simp)) (hs _ (by simp)) (hs _ (by simp))))
  clear h hg hB hctx q0 q1 q2 q3 q4
  go_enter Tryz.func90, Tryz.ntmps90
  go_wp2_with fail
  refine HA.out.mono ?_
  rintro e w4 ⟨he, hc4, hb4⟩
  obtain ⟨r, hr⟩ : ∃ r, access (opStore ref i x) c = r := ⟨_, rfl⟩
  rw [hr] at he hc4
  have HR := Lib.hid hr
  rw [show (encE r.2.1).toArray = #[.int .i64 (r.2.1.kind : Int), .int .u64 (r.2.1.ref : Int), .int .i64 r.2.1.i, .int .u64 (r.2.1.word : Int), .bool r.2.1.done, .int .i64 (r.2.1.err : Int)] from rfl] at he
  subst he
  have HC4 := Lib.hid hc4; have HB4 := Lib.hid hb4
  clear hc4 hb4 hr HA
  go_wp2
  go_ret
  rw [HR.out]
  have b5 := (Below.refl w4.heap.size w4).alloc (Nat.le_refl _) (.cells #[.int .i64 (r.2.1.kind : Int), .int .u64 (r.2.1.ref : Int), .int .i64 r.2.1.i, .int .u64 (r.2.1.word : Int), .bool r.2.1.done, .int .i64 (r.2.1.err : Int)] 189)
  refine ⟨rfl, (HC4.out.came b5 [] (by simp)).less (fun b hb => by simp [hb]), ?_⟩
  exact HeldBy.trans (HeldBy.of_below HB.out H.out.heldR) (HeldBy.trans (HB4.out.less (fun b hb => by simp [hb])) (HeldBy.of_below b5 (fun b hb => HC4.out.heldR b (by simp [hb]))))
theorem ef_cas (args : Array Value) (w : World) : (callFunc 128 args).run Tryz.prog w = .ok (.enter 128 args) w := enters_of Tryz.func128 (by kernel_rfl) rfl args w
set_option maxHeartbeats 1000000 in
theorem ccas_ok {W : World} {R : List Nat} {pa pb pc : Nat} {c : CS} {wr : World} (h : Ctx W R pa pb pc c wr) (hg : Handle W) {ref x : Nat} (hr : ref < 18446744073709551616) (hx : x < 18446744073709551616) (i : Int) (old : Nat) :
    Calls Tryz.prog 110 #[(.pointer (some ⟨pc, 0, none⟩)), (.int .u64 (ref : Int)), (.int .i64 i), (.int .u64 (old : Int)), (.int .u64 (x : Int))] wr (After2 W R pa pb pc wr (fun x => (.bool x.done)) (access (opCAS ref i old x) c)) := by
  have H := Lib.hid h
  have HG := Lib.hid hg
  have hmf : ∀ (fn : Fn) (first cap : Array Value) (w : World), (Instr.makeFunc fn first cap).run Tryz.prog w = .ok (.func fn first cap) w := fun _ _ _ _ => rfl
  have hB : Below wr.heap.size wr (((((wr.alloc (.cells #[(.pointer (some ⟨pc, 0, none⟩))] 60)).alloc (.cells #[(.int .u64 (ref : Int))] 41)).alloc (.cells #[(.int .i64 i)] 3)).alloc (.cells #[(.int .u64 (old : Int))] 41)).alloc (.cells #[(.int .u64 (x : Int))] 41)) := ((((((Below.refl _ _).alloc (by simp) _).alloc (by simp) _).alloc (by simp; omega) _).alloc (by simp; omega) _).alloc (by simp; omega) _)
  have q0 : (((((wr.alloc (.cells #[(.pointer (some ⟨pc, 0, none⟩))] 60)).alloc (.cells #[(.int .u64 (ref : Int))] 41)).alloc (.cells #[(.int .i64 i)] 3)).alloc (.cells #[(.int .u64 (old : Int))] 41)).alloc (.cells #[(.int .u64 (x : Int))] 41)).cell? ⟨wr.heap.size, 0, none⟩ = some (.pointer (some ⟨pc, 0, none⟩)) := by
    have h := (((((Cells.new wr [(.pointer (some ⟨pc, 0, none⟩))] 60).alloc (.cells #[(.int .u64 (ref : Int))] 41)).alloc (.cells #[(.int .i64 i)] 3)).alloc (.cells #[(.int .u64 (old : Int))] 41)).alloc (.cells #[(.int .u64 (x : Int))] 41)).cell 0
    simpa only [World.size_alloc, List.getElem?_cons_zero] using h
  have q1 : (((((wr.alloc (.cells #[(.pointer (some ⟨pc, 0, none⟩))] 60)).alloc (.cells #[(.int .u64 (ref : Int))] 41)).alloc (.cells #[(.int .i64 i)] 3)).alloc (.cells #[(.int .u64 (old : Int))] 41)).alloc (.cells #[(.int .u64 (x : Int))] 41)).cell? ⟨wr.heap.size + 1, 0, none⟩ = some (.int .u64 (ref : Int)) := by
    have h := ((((Cells.new (wr.alloc (.cells #[(.pointer (some ⟨pc, 0, none⟩))] 60)) [(.int .u64 (ref : Int))] 41).alloc (.cells #[(.int .i64 i)] 3)).alloc (.cells #[(.int .u64 (old : Int))] 41)).alloc (.cells #[(.int .u64 (x : Int))] 41)).cell 0
    simpa only [World.size_alloc, List.getElem?_cons_zero] using h
  have q2 : (((((wr.alloc (.cells #[(.pointer (some ⟨pc, 0, none⟩))] 60)).alloc (.cells #[(.int .u64 (ref : Int))] 41)).alloc (.cells #[(.int .i64 i)] 3)).alloc (.cells #[(.int .u64 (old : Int))] 41)).alloc (.cells #[(.int .u64 (x : Int))] 41)).cell? ⟨wr.heap.size + 1 + 1, 0, none⟩ = some (.int .i64 i) := by
    have h := (((Cells.new ((wr.alloc (.cells #[(.pointer (some ⟨pc, 0, none⟩))] 60)).alloc (.cells #[(.int .u64 (ref : Int))] 41)) [(.int .i64 i)] 3).alloc (.cells #[(.int .u64 (old : Int))] 41)).alloc (.cells #[(.int .u64 (x : Int))] 41)).cell 0
    simpa only [World.size_alloc, List.getElem?_cons_zero] using h
  have q3 : (((((wr.alloc (.cells #[(.pointer (some ⟨pc, 0, none⟩))] 60)).alloc (.cells #[(.int .u64 (ref : Int))] 41)).alloc (.cells #[(.int .i64 i)] 3)).alloc (.cells #[(.int .u64 (old : Int))] 41)).alloc (.cells #[(.int .u64 (x : Int))] 41)).cell? ⟨wr.heap.size + 1 + 1 + 1, 0, none⟩ = some (.int .u64 (old : Int)) := by
    have h := ((Cells.new (((wr.alloc (.cells #[(.pointer (some ⟨pc, 0, none⟩))] 60)).alloc (.cells #[(.int .u64 (ref : Int))] 41)).alloc (.cells #[(.int .i64 i)] 3)) [(.int .u64 (old : Int))] 41).alloc (.cells #[(.int .u64 (x : Int))] 41)).cell 0
    simpa only [World.size_alloc, List.getElem?_cons_zero] using h
  have q4 : (((((wr.alloc (.cells #[(.pointer (some ⟨pc, 0, none⟩))] 60)).alloc (.cells #[(.int .u64 (ref : Int))] 41)).alloc (.cells #[(.int .i64 i)] 3)).alloc (.cells #[(.int .u64 (old : Int))] 41)).alloc (.cells #[(.int .u64 (x : Int))] 41)).cell? ⟨wr.heap.size + 1 + 1 + 1 + 1, 0, none⟩ = some (.int .u64 (x : Int)) := by
    have h := (Cells.new ((((wr.alloc (.cells #[(.pointer (some ⟨pc, 0, none⟩))] 60)).alloc (.cells #[(.int .u64 (ref : Int))] 41)).alloc (.cells #[(.int .i64 i)] 3)).alloc (.cells #[(.int .u64 (old : Int))] 41)) [(.int .u64 (x : Int))] 41).cell 0
    simpa only [World.size_alloc, List.getElem?_cons_zero] using h
  have hctx := h.came hB [wr.heap.size, wr.heap.size + 1, wr.heap.size + 1 + 1, wr.heap.size + 1 + 1 + 1, wr.heap.size + 1 + 1 + 1 + 1] (by simp; try omega)
  have q5 : (((((wr.alloc (.cells #[(.pointer (some ⟨pc, 0, none⟩))] 60)).alloc (.cells #[(.int .u64 (ref : Int))] 41)).alloc (.cells #[(.int .i64 i)] 3)).alloc (.cells #[(.int .u64 (old : Int))] 41)).alloc (.cells #[(.int .u64 (x : Int))] 41)).cell? ⟨pc, 0, none⟩ = some (.pointer (some ⟨pb, 0, none⟩)) := hctx.cell0
  have HB := Lib.hid hB
  have HA := Lib.hid (access_any hctx 128 ef_cas #[.pointer (some ⟨wr.heap.size, 0, none⟩), .pointer (some ⟨wr.heap.size + 1, 0, none⟩), .pointer (some ⟨wr.heap.size + 1 + 1, 0, none⟩), .pointer (some ⟨wr.heap.size + 1 + 1 + 1, 0, none⟩), .pointer (some ⟨wr.heap.size + 1 + 1 + 1 + 1, 0, none⟩)] (opCAS ref i old x) (fit_cas hr hx i) (fun w1 R' hh hby hs => cas1_ok hh HG.out hr hx ((hby.cell (a := ⟨wr.heap.size, 0, none⟩) (by simp)).trans q0) ((hby.cell (a := ⟨wr.heap.size + 1, 0, none⟩) (by simp)).trans q1) ((hby.cell (a := ⟨wr.heap.size + 1 + 1, 0, none⟩) (by simp)).trans q2) ((hby.cell (a := ⟨wr.heap.size + 1 + 1 + 1, 0, none⟩) (by simp)).trans q3) ((hby.cell (a := ⟨wr.heap.size + 1 + 1 + 1 + 1, 0, none⟩) (by simp)).trans q4) ((hby.cell (a := ⟨pc, 0, none⟩) (by simp)).trans q5) (hs _ (by simp)) (hs _ (by simp)) (hs _ (by simp)) (hs _ (by simp)) (hs _ (by simp)) (hs _ (by simp))))
  clear h hg hB hctx q0 q1 q2 q3 q4 q5
  go_enter Tryz.func110, Tryz.ntmps110
  go_wp2_with fail
  refine HA.out.mono ?_
  rintro e w4 ⟨he, hc4, hb4⟩
  obtain ⟨r, hr⟩ : ∃ r, access (opCAS ref i old x) c = r := ⟨_, rfl⟩
  rw [hr] at he hc4
  have HR := Lib.hid hr
  rw [show (encE r.2.1).toArray = #[.int .i64 (r.2.1.kind : Int), .int .u64 (r.2.1.ref : Int), .int .i64 r.2.1.i, .int .u64 (r.2.1.word : Int), .bool r.2.1.done, .int .i64 (r.2.1.err : Int)] from rfl] at he
  subst he
  have HC4 := Lib.hid hc4; have HB4 := Lib.hid hb4
  clear hc4 hb4 hr HA
  go_wp2
  go_ret2
  rw [HR.out]
  have b5 := (Below.refl w4.heap.size w4).alloc (Nat.le_refl _) (.cells #[.int .i64 (r.2.1.kind : Int), .int .u64 (r.2.1.ref : Int), .int .i64 r.2.1.i, .int .u64 (r.2.1.word : Int), .bool r.2.1.done, .int .i64 (r.2.1.err : Int)] 189)
  refine ⟨rfl, (HC4.out.came b5 [] (by simp)).less (fun b hb => by simp [hb]), ?_⟩
  exact HeldBy.trans (HeldBy.of_below HB.out H.out.heldR) (HeldBy.trans (HB4.out.less (fun b hb => by simp [hb])) (HeldBy.of_below b5 (fun b hb => HC4.out.heldR b (by simp [hb]))))
theorem ef_alloc (args : Array Value) (w : World) : (callFunc 97 args).run Tryz.prog w = .ok (.enter 97 args) w := enters_of Tryz.func97 (by kernel_rfl) rfl args w
set_option maxHeartbeats 1000000 in
theorem calloc_ok {W : World} {R : List Nat} {pa pb pc : Nat} {c : CS} {wr : World} (h : Ctx W R pa pb pc c wr) (hg : Handle W) (i : Int) :
    Calls Tryz.prog 72 #[(.pointer (some ⟨pc, 0, none⟩)), (.int .i64 i)] wr (After2 W R pa pb pc wr (fun x => (.int .u64 (x.ref : Int))) (access (opAlloc i) c)) := by
  have H := Lib.hid h
  have HG := Lib.hid hg
  have hmf : ∀ (fn : Fn) (first cap : Array Value) (w : World), (Instr.makeFunc fn first cap).run Tryz.prog w = .ok (.func fn first cap) w := fun _ _ _ _ => rfl
  have hB : Below wr.heap.size wr ((wr.alloc (.cells #[(.pointer (some ⟨pc, 0, none⟩))] 60)).alloc (.cells #[(.int .i64 i)] 3)) := (((Below.refl _ _).alloc (by simp) _).alloc (by simp) _)
  have q0 : ((wr.alloc (.cells #[(.pointer (some ⟨pc, 0, none⟩))] 60)).alloc (.cells #[(.int .i64 i)] 3)).cell? ⟨wr.heap.size, 0, none⟩ = some (.pointer (some ⟨pc, 0, none⟩)) := by
    have h := ((Cells.new wr [(.pointer (some ⟨pc, 0, none⟩))] 60).alloc (.cells #[(.int .i64 i)] 3)).cell 0
    simpa only [World.size_alloc, List.getElem?_cons_zero] using h
  have q1 : ((wr.alloc (.cells #[(.pointer (some ⟨pc, 0, none⟩))] 60)).alloc (.cells #[(.int .i64 i)] 3)).cell? ⟨wr.heap.size + 1, 0, none⟩ = some (.int .i64 i) := by
    have h := (Cells.new (wr.alloc (.cells #[(.pointer (some ⟨pc, 0, none⟩))] 60)) [(.int .i64 i)] 3).cell 0
    simpa only [World.size_alloc, List.getElem?_cons_zero] using h
  have hctx := h.came hB [wr.heap.size, wr.heap.size + 1] (by simp; try omega)
  have q2 : ((wr.alloc (.cells #[(.pointer (some ⟨pc, 0, none⟩))] 60)).alloc (.cells #[(.int .i64 i)] 3)).cell? ⟨pc, 0, none⟩ = some (.pointer (some ⟨pb, 0, none⟩)) := hctx.cell0
  have HB := Lib.hid hB
  have HA := Lib.hid (access_any hctx 97 ef_alloc #[.pointer (some ⟨wr.heap.size, 0, none⟩), .pointer (some ⟨wr.heap.size + 1, 0, none⟩)] (opAlloc i) (fit_alloc h.ok i) (fun w1 R' hh hby hs => alloc1_ok hh HG.out  ((hby.cell (a := ⟨wr.heap.size, 0, none⟩) (by simp)).trans q0) ((hby.cell (a := ⟨wr.heap.size + 1, 0, none⟩) (by simp)).trans q1) ((hby.cell (a := ⟨pc, 0, none⟩) (by simp)).trans q2) (hs _ (by simp)) (hs _ (by simp)) (hs _ (by simp))))
  clear h hg hB hctx q0 q1 q2
  go_enter Tryz.func72, Tryz.ntmps72
  go_wp2_with fail
  refine HA.out.mono ?_
  rintro e w4 ⟨he, hc4, hb4⟩
  obtain ⟨r, hr⟩ : ∃ r, access (opAlloc i) c = r := ⟨_, rfl⟩
  rw [hr] at he hc4
  have HR := Lib.hid hr
  rw [show (encE r.2.1).toArray = #[.int .i64 (r.2.1.kind : Int), .int .u64 (r.2.1.ref : Int), .int .i64 r.2.1.i, .int .u64 (r.2.1.word : Int), .bool r.2.1.done, .int .i64 (r.2.1.err : Int)] from rfl] at he
  subst he
  have HC4 := Lib.hid hc4; have HB4 := Lib.hid hb4
  clear hc4 hb4 hr HA
  go_wp2
  go_ret2
  rw [HR.out]
  have b5 := (Below.refl w4.heap.size w4).alloc (Nat.le_refl _) (.cells #[.int .i64 (r.2.1.kind : Int), .int .u64 (r.2.1.ref : Int), .int .i64 r.2.1.i, .int .u64 (r.2.1.word : Int), .bool r.2.1.done, .int .i64 (r.2.1.err : Int)] 189)
  refine ⟨rfl, (HC4.out.came b5 [] (by simp)).less (fun b hb => by simp [hb]), ?_⟩
  exact HeldBy.trans (HeldBy.of_below HB.out H.out.heldR) (HeldBy.trans (HB4.out.less (fun b hb => by simp [hb])) (HeldBy.of_below b5 (fun b hb => HC4.out.heldR b (by simp [hb]))))
end Go.Proofs.YtmdganpealbmpaaGreatDoor
