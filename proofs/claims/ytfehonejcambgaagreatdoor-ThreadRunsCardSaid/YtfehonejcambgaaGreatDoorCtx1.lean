/- Layer 5 (thread): what the accesses of a Ctx do: the closures. -/
import Derived.Test.YtfehonejcambgaaGreatDoorCtx
import Derived.Outline
namespace Go.Proofs.YtfehonejcambgaaGreatDoor
open Go.RowKit Bl Th
set_option maxRecDepth 10000

/-- The cells of an entry. -/
def encE (x : Ntry) : List Value := [.int .i64 (x.kind : Int), .int .u64 (x.ref : Int), .int .i64 x.i, .int .u64 (x.word : Int), .bool x.done, .int .i64 (x.err : Int)]

theorem HeldBy.cell {R : List Nat} {w w' : World} (h : HeldBy R w w') {a : Addr} (ha : a.block ∈ R) : w'.cell? a = w.cell? a := by
  unfold World.cell?
  rw [h a.block ha]
theorem HeldBy.frozen {R : List Nat} {w w' : World} (h : HeldBy R w w') {a : Addr} (ha : a.block ∈ R) : w'.frozen? a = w.frozen? a := by
  unfold World.frozen?
  rw [h a.block ha]
theorem Held.drewN {W : World} {R : List Nat} {pa pb : Nat} {S : BS} {wr : World} (h : Held W R pa pb S wr) (n : Nat) : Held W R pa pb S (wr.drewN n) := h.below' (below_drewN (Below.refl _ _) _)
theorem Held.new {W : World} {R : List Nat} {pa pb : Nat} {S : BS} {wr : World} (h : Held W R pa pb S wr) (o : Obj) : Held W (wr.heap.size :: R) pa pb S (wr.alloc o) := h.came ((Below.refl _ _).alloc (Nat.le_refl _) o) [wr.heap.size] (by simp)
theorem heldBy_new {W : World} {R : List Nat} {pa pb : Nat} {S : BS} {wr : World} (h : Held W R pa pb S wr) (o : Obj) : HeldBy R wr (wr.alloc o) := HeldBy.of_below ((Below.refl _ _).alloc (Nat.le_refl _) o) h.held
theorem Handle.alloc {w : World} (h : Handle w) (o : Obj) : Handle (w.alloc o) := h.below h.lt ((Below.refl _ _).alloc (Nat.le_refl _) o)
theorem Did.cell {W : World} {R : List Nat} {pa pb n : Nat} {S' : BS} {wr w' : World} {v : Value} (h : Did W R pa pb wr n S' v w') {a : Addr} (ha : a.block ∈ R) : w'.cell? a = wr.cell? a := by
  obtain ⟨E, _, _, _, hh⟩ := h
  exact hh.cell ha
theorem Err.drewN {w : World} {v : Value} {n : Nat} {E : List Nat} (h : Err w v n E) (m : Nat) : Err (w.drewN m) v n E := h.heldBy (R := E) (fun _ _ => rfl) (fun _ h => h)
theorem Held.handle {W : World} {R : List Nat} {pa pb : Nat} {S : BS} {wr : World} (h : Held W R pa pb S wr) (hg : Handle W) : Handle wr := hg.below hg.lt h.below
theorem Handle.drewN {w : World} (h : Handle w) (n : Nat) : Handle (w.drewN n) := h.below h.lt (below_drewN (Below.refl _ _) _)
theorem six {w : World} {b : Nat} {t : TypeId} {a0 a1 a2 a3 a4 a5 : Value} (h : Cells w b [a0, a1, a2, a3, a4, a5] t) :
    w.cell? ⟨b, 0, none⟩ = some a0 ∧ w.cell? ⟨b, 1, none⟩ = some a1 ∧ w.cell? ⟨b, 2, none⟩ = some a2 ∧ w.cell? ⟨b, 3, none⟩ = some a3 ∧ w.cell? ⟨b, 4, none⟩ = some a4 ∧ w.cell? ⟨b, 5, none⟩ = some a5 ∧
    w.frozen? ⟨b, 0, none⟩ = false ∧ w.frozen? ⟨b, 1, none⟩ = false ∧ w.frozen? ⟨b, 2, none⟩ = false ∧ w.frozen? ⟨b, 3, none⟩ = false ∧ w.frozen? ⟨b, 4, none⟩ = false ∧ w.frozen? ⟨b, 5, none⟩ = false :=
  ⟨h.cell 0, h.cell 1, h.cell 2, h.cell 3, h.cell 4, h.cell 5, h.free 0, h.free 1, h.free 2, h.free 3, h.free 4, h.free 5⟩
theorem six_other {w : World} {b c : Nat} {o : Nat} {x0 x1 x2 x3 x4 x5 : Value} (h : c ≠ b) :
    ((((((w.setCell ⟨b, 0, none⟩ x0).setCell ⟨b, 1, none⟩ x1).setCell ⟨b, 2, none⟩ x2).setCell ⟨b, 3, none⟩ x3).setCell ⟨b, 4, none⟩ x4).setCell ⟨b, 5, none⟩ x5).cell? ⟨c, o, none⟩ = w.cell? ⟨c, o, none⟩ := by
  unfold World.cell?
  simp only [Below.heap_setCell _ ⟨b, _, none⟩ _ c h]
/-- What an access that is done now leaves. -/
def Gave (W : World) (R : List Nat) (pa pb : Nat) (wr : World) (x : Ntry) (S' : BS) (e : Ending) (w' : World) : Prop :=
  e = .returned (.agg (encE x).toArray) ∧ Held W R pa pb S' w' ∧ HeldBy R wr w'

theorem opLoad_form (ref : Nat) (i : Int) (S : BS) : #[.int .i64 1, .int .u64 (ref : Int), .int .i64 i, .int .u64 ((opLoad ref i S).1.word : Int), .bool false, .int .i64 ((opLoad ref i S).1.err : Int)] = (encE (opLoad ref i S).1).toArray := by
  unfold opLoad encE
  cases word S ref i <;> rfl
theorem six_kept (w : World) (b : Nat) {x0 x1 x2 x3 x4 x5 : Value} : Kept (fun k => k = b) w ((((((w.setCell ⟨b, 0, none⟩ x0).setCell ⟨b, 1, none⟩ x1).setCell ⟨b, 2, none⟩ x2).setCell ⟨b, 3, none⟩ x3).setCell ⟨b, 4, none⟩ x4).setCell ⟨b, 5, none⟩ x5) :=
  (((((((Kept.refl (fun k => k = b) w).setCell (fun _ => rfl) _).setCell (fun _ => rfl) _).setCell (fun _ => rfl) _).setCell (fun _ => rfl) _).setCell (fun _ => rfl) _).setCell (fun _ => rfl) _)
theorem gave_end {W : World} {R : List Nat} {pa pb n : Nat} {S S' : BS} {x : Ntry} {wr w1 w2 w3 w4 : World} {v : Value} {r : Array Value} (h : Held W R pa pb S wr) (hx : r = (encE x).toArray) (h1 : HeldBy R wr w1) (hd : Did W (wr.heap.size :: R) pa pb (w1.drewN 1) n S' v w2)
    (hb : Below w2.heap.size w2 w3) (hk : Kept (fun k => k = wr.heap.size) w3 w4) : Gave W R pa pb wr x S' (.returned (.agg r)) w4 := by
  obtain ⟨E, he, hn, hh, hby⟩ := hd
  have h3 := hh.below' hb
  have hs := h.below.size
  refine ⟨by rw [hx], h3.step (hk.mono fun k _ e => by subst e; simp) (h3.below.trans (hk.below h3.below.size fun k hk e => by omega)) fun b hb' => ⟨.inl (by simp [hb']), ?_⟩, fun b hb' => ?_⟩
  · have := h3.held b (by simp [hb'])
    exact Nat.lt_of_lt_of_le this hk.size
  · have hl := h.held b hb'
    have hl2 := hh.held b (by simp [hb'])
    rw [hk.block b (Nat.lt_of_lt_of_le hl2 hb.size) (by omega), hb.block b hl2, hby b (by simp [hb'])]
    exact h1 b hb'
set_option maxHeartbeats 1000000 in
theorem load1_ok {W : World} {R : List Nat} {pa pb : Nat} {S : BS} {wr : World} (h : Held W R pa pb S wr) (hg : Handle W) {bc br bi pc ref : Nat} {i : Int} (hr : ref < 18446744073709551616)
    (c0 : wr.cell? ⟨bc, 0, none⟩ = some (.pointer (some ⟨pc, 0, none⟩))) (c1 : wr.cell? ⟨pc, 0, none⟩ = some (.pointer (some ⟨pb, 0, none⟩))) (c2 : wr.cell? ⟨br, 0, none⟩ = some (.int .u64 (ref : Int))) (c3 : wr.cell? ⟨bi, 0, none⟩ = some (.int .i64 i))
    (m1 : br ∈ R) (m2 : bi ∈ R) (m4 : bc ∈ R) (m5 : pc ∈ R) :
    Calls Tryz.prog 40 #[.pointer (some ⟨bc, 0, none⟩), .pointer (some ⟨br, 0, none⟩), .pointer (some ⟨bi, 0, none⟩)] wr (Gave W R pa pb wr (opLoad ref i S).1 (opLoad ref i S).2) := by
  have l1 := World.block_lt_of_cell? wr _ c0
  have l2 := World.block_lt_of_cell? wr _ c1
  have l3 := World.block_lt_of_cell? wr _ c2
  have l4 := World.block_lt_of_cell? wr _ c3
  have H := Lib.hid h
  have HG := Lib.hid hg
  clear h hg
  go_enter Tryz.func40, Tryz.ntmps40
  go_wp2
  have H1 := Lib.hid (H.out.new (.cells #[.int .i64 0, .int .u64 0, .int .i64 0, .int .u64 0, .bool false, .int .i64 0] 70))
  have B1 := Lib.hid (heldBy_new H.out (.cells #[.int .i64 0, .int .u64 0, .int .i64 0, .int .u64 0, .bool false, .int .i64 0] 70))
  have C1 := Lib.hid (Cells.new wr [.int .i64 0, .int .u64 0, .int .i64 0, .int .u64 0, .bool false, .int .i64 0] 70)
  have HC := Lib.hid (fun n => held_load (H1.out.drewN n) hr i)
  have q0 : (wr.alloc (.cells #[.int .i64 0, .int .u64 0, .int .i64 0, .int .u64 0, .bool false, .int .i64 0] 70)).cell? ⟨bc, 0, none⟩ = some (.pointer (some ⟨pc, 0, none⟩)) := (World.cell?_alloc_lt _ _ ⟨bc, 0, none⟩ l1).trans c0
  have q1 : (wr.alloc (.cells #[.int .i64 0, .int .u64 0, .int .i64 0, .int .u64 0, .bool false, .int .i64 0] 70)).cell? ⟨pc, 0, none⟩ = some (.pointer (some ⟨pb, 0, none⟩)) := (World.cell?_alloc_lt _ _ ⟨pc, 0, none⟩ l2).trans c1
  have q2 : (wr.alloc (.cells #[.int .i64 0, .int .u64 0, .int .i64 0, .int .u64 0, .bool false, .int .i64 0] 70)).cell? ⟨br, 0, none⟩ = some (.int .u64 (ref : Int)) := (World.cell?_alloc_lt _ _ ⟨br, 0, none⟩ l3).trans c2
  have q3 : (wr.alloc (.cells #[.int .i64 0, .int .u64 0, .int .i64 0, .int .u64 0, .bool false, .int .i64 0] 70)).cell? ⟨bi, 0, none⟩ = some (.int .i64 i) := (World.cell?_alloc_lt _ _ ⟨bi, 0, none⟩ l4).trans c3
  generalize wr.alloc (.cells #[.int .i64 0, .int .u64 0, .int .i64 0, .int .u64 0, .bool false, .int .i64 0] 70) = w1 at *
  clear c0 c1 c2 c3
  go_region_held3 (fun w' => w'.cell? ⟨bc, 0, none⟩ = some (.pointer (some ⟨pc, 0, none⟩)) ∧ w'.cell? ⟨pc, 0, none⟩ = some (.pointer (some ⟨pb, 0, none⟩)) ∧ w'.cell? ⟨br, 0, none⟩ = some (.int .u64 (ref : Int)) ∧ w'.cell? ⟨bi, 0, none⟩ = some (.int .i64 i))
    (first | go_keep | exact ⟨k0, k1, k2, k3⟩)
    (first | (go_at_call 41; refine (HC.out 1).mono ?_; rintro e w2 ⟨v, rfl, hd⟩; have k0 := (hd.cell (a := ⟨bc, 0, none⟩) (by simp [m4])).trans q0; have k1 := (hd.cell (a := ⟨pc, 0, none⟩) (by simp [m5])).trans q1; have k2 := (hd.cell (a := ⟨br, 0, none⟩) (by simp [m1])).trans q2; have k3 := (hd.cell (a := ⟨bi, 0, none⟩) (by simp [m2])).trans q3; have HD := Lib.hid hd; clear hd))
  go_wp2
  obtain ⟨E, he, hn, hh, hb⟩ := HD.out
  have HN := Lib.hid (fun n => number_any (he.drewN n) (hh.handle HG.out |>.drewN n))
  have C2 := Lib.hid (C1.out.heldBy hb (List.mem_cons_self ..))
  have hz := Lib.hid fun b (hm : b ∈ R) => hh.held b (List.mem_append_right _ (List.mem_cons_of_mem _ hm))
  clear he hn hh hb
  go_region_held3 (fun w' => w'.cell? ⟨br, 0, none⟩ = some (.int .u64 (ref : Int)) ∧ w'.cell? ⟨bi, 0, none⟩ = some (.int .i64 i))
    (first | with_reducible exact ⟨j2, j3⟩ | with_reducible exact ⟨(six_other (Nat.ne_of_lt l3)).trans j2, (six_other (Nat.ne_of_lt l4)).trans j3⟩ | with_reducible exact ⟨k2, k3⟩ | go_keep)
    (first | (go_at_call 42; refine (HN.out 1).mono ?_; rintro e w3 ⟨rfl, hb3'⟩; have hb3 : Below w2.heap.size w2 w3 := (below_drewN (Below.refl _ _) 1).trans hb3'; have j2 := (hb3.cell (p := ⟨br, 0, none⟩) (by exact hz.out br m1)).trans k2; have j3 := (hb3.cell (p := ⟨bi, 0, none⟩) (by exact hz.out bi m2)).trans k3; have C3 := (Cells.kept C2.out (Kept.of_below hb3) (by have := C2.out.lt; simp; omega)); obtain ⟨u0, u1, u2, u3, u4, u5, f0, f1, f2, f3, f4, f5⟩ := six C3; have HC3 := Lib.hid C3; have HB3 := Lib.hid hb3; clear hb3 hb3' C3))
  go_wp2
  refine bodyPost_ret (v := .agg #[.int .i64 1, .int .u64 (ref : Int), .int .i64 i, .int .u64 ((opLoad ref i S).1.word : Int), .bool false, .int .i64 ((opLoad ref i S).1.err : Int)]) (by simp [results, Tryz.results40, go_sem, u0, u1, u2, u3, u4, u5]) rfl ?_
  exact gave_end H.out (opLoad_form ref i S) B1.out HD.out HB3.out (six_kept _ _)
end Go.Proofs.YtfehonejcambgaaGreatDoor
