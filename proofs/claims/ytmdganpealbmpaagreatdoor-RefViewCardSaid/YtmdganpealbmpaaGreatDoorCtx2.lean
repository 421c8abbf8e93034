/- Ctx2: Ctx, Ctx1, Ctx2. -/
import Derived.Test.YtmdganpealbmpaaGreatDoorHold
import Derived.StillTailTactics
import Derived.Deep.RegionHeld3
import Derived.Deep.AppendLies
import Derived.Outline

/- Layer 5 (thread): told, number. -/
namespace Go.Proofs.YtmdganpealbmpaaGreatDoor
open Go.RowKit Bl Th
set_option maxRecDepth 10000

/-- An error by its number. -/
def errV (n : Nat) : Value := if n = 0 then .nilIface else .iface 99 (.int .i64 (n : Int))
theorem errV_err (w : World) {n : Nat} (h : n ≤ 17) : Err w (errV n) n [] := by
  unfold errV
  split
  · rename_i e; subst e; exact .none
  · exact .no n (by omega) h

set_option maxHeartbeats 400000 in
theorem told_any (n : Nat) (hn : n ≤ 17) (w : World) : Calls Tryz.prog 116 #[.int .i64 (n : Int)] w fun e w' => e = .returned (errV n) ∧ w = w' := by
  unfold errV
  by_cases h : n = 0
  · subst h
    rw [if_pos rfl]
    go_enter Tryz.func116, Tryz.ntmps116
    go_wp2
    go_ret
    exact ⟨rfl, rfl⟩
  · rw [if_neg h]
    have h0 : ((n : Int) == 0) = false := by rw [beq_eq_false_iff_ne]; omega
    have h1 : (n == 0) = false := by rw [beq_eq_false_iff_ne]; omega
    clear h
    go_enter Tryz.func116, Tryz.ntmps116
    go_wp2
    go_ret
    exact ⟨rfl, rfl⟩

set_option maxHeartbeats 1000000 in
theorem number_any {w : World} {v : Value} {n : Nat} {E : List Nat} (h : Err0 w v n E) (hg : Handle w) :
    Calls Tryz.prog 99 #[v] w fun e w' => e = .returned (.int .i64 (n : Int)) ∧ Below w.heap.size w w' := by
  have hgl := hg.lt
  have hB : ∀ (t o v) , Below w.heap.size w (((((w.alloc (.cells #[.int .i64 0] 99)).alloc t).alloc o).alloc o).alloc v) := fun t o v =>
    ((((Below.refl _ _).alloc (Nat.le_refl _) _).alloc (by simp) _).alloc (by simp; omega) _).alloc (by simp; omega) _ |>.alloc (by simp; omega) _
  have HB := Lib.hid hB
  clear hB
  cases h with
  | none =>
    clear hg hgl HB
    go_enter Tryz.func99, Tryz.ntmps99
    go_wp2
    go_ret
    exact ⟨rfl, (Below.refl _ _).alloc (Nat.le_refl _) _⟩
  | no n h1 h2 =>
    clear h1 h2
    go_enter Tryz.func99, Tryz.ntmps99
    go_wp2_with fail
    refine (an_hit (n : Int) ⟨w.heap.size, 0, none⟩ (.int .i64 0) _ ?_ ?_ ?_).mono ?_
    · exact (World.cell?_alloc_lt _ _ ⟨0, 0, none⟩ hgl).trans hg
    · simp
    · simp
    rintro e w1 ⟨rfl, hw1⟩
    have hb : Below w.heap.size w w1 := by
      rw [hw1]
      exact Below.setCell (HB.out _ _ _) (Nat.le_refl _) _
    have q0 : w1.cell? ⟨w.heap.size, 0, none⟩ = some (.int .i64 (n : Int)) := by
      rw [hw1]
      refine World.cell?_setCell_same _ _ _ (u := .int .i64 0) ?_
      rw [World.cell?_alloc_lt _ _ ⟨w.heap.size, 0, none⟩ (by simp; omega), World.cell?_alloc_lt _ _ ⟨w.heap.size, 0, none⟩ (by simp; omega), World.cell?_alloc_lt _ _ ⟨w.heap.size, 0, none⟩ (by simp; omega), World.cell?_alloc_lt _ _ ⟨w.heap.size, 0, none⟩ (by simp)]
      simp
    have HW := Lib.hid hb
    clear hb hw1 HB
    go_wp2
    go_ret
    exact ⟨rfl, HW.out⟩
  | fault f a n h1 h2 hc =>
    have hc1 : w.cell? ⟨f, 0 + 1, none⟩ = some (.int .i64 (n : Int)) := by simpa using hc.cell 1
    have hfl := hc.lt
    have HC := Lib.hid hc1
    clear h1 h2 hc hc1
    go_enter Tryz.func99, Tryz.ntmps99
    go_wp2_with fail
    refine (an_fault f 0 (n : Int) ⟨w.heap.size, 0, none⟩ (.int .i64 0) _ ?_ ?_ ?_ ?_).mono ?_
    · exact (World.cell?_alloc_lt _ _ ⟨0, 0, none⟩ hgl).trans hg
    · exact (World.cell?_alloc_lt _ _ ⟨f, 0 + 1, none⟩ hfl).trans HC.out
    · simp
    · simp
    rintro e w1 ⟨rfl, hw1⟩
    have hb : Below w.heap.size w w1 := by
      rw [hw1]
      exact Below.setCell (HB.out _ _ _) (Nat.le_refl _) _
    have q0 : w1.cell? ⟨w.heap.size, 0, none⟩ = some (.int .i64 (n : Int)) := by
      rw [hw1]
      refine World.cell?_setCell_same _ _ _ (u := .int .i64 0) ?_
      rw [World.cell?_alloc_lt _ _ ⟨w.heap.size, 0, none⟩ (by simp; omega), World.cell?_alloc_lt _ _ ⟨w.heap.size, 0, none⟩ (by simp; omega), World.cell?_alloc_lt _ _ ⟨w.heap.size, 0, none⟩ (by simp; omega), World.cell?_alloc_lt _ _ ⟨w.heap.size, 0, none⟩ (by simp)]
      simp
    have HW := Lib.hid hb
    clear hb hw1 HB HC
    go_wp2
    go_ret
    exact ⟨rfl, HW.out⟩
end Go.Proofs.YtmdganpealbmpaaGreatDoor

/- Layer 5 (thread): what the accesses of a Ctx do: the closures. -/
namespace Go.Proofs.YtmdganpealbmpaaGreatDoor
open Go.RowKit Bl Th
set_option maxRecDepth 10000

/-- The cells of an entry. -/
def encE (x : Ntry) : List Value := [.int .i64 (x.kind : Int), .int .u64 (x.ref : Int), .int .i64 x.i, .int .u64 (x.word : Int), .bool x.done, .int .i64 (x.err : Int)]

theorem HeldBy.cell {R : List Nat} {w w' : World} (h : HeldBy R w w') {a : Addr} (ha : a.block ∈ R) : w'.cell? a = w.cell? a := by
  unfold World.cell?
  rw [h.2 a.block ha]
theorem HeldBy.frozen {R : List Nat} {w w' : World} (h : HeldBy R w w') {a : Addr} (ha : a.block ∈ R) : w'.frozen? a = w.frozen? a := by
  unfold World.frozen?
  rw [h.2 a.block ha]
theorem Held.drewN {W : World} {R : List Nat} {pa pb : Nat} {S : BS} {wr : World} (h : Held W R pa pb S wr) (n : Nat) : Held W R pa pb S (wr.drewN n) := h.below' (below_drewN (Below.refl _ _) _)
theorem Held.new {W : World} {R : List Nat} {pa pb : Nat} {S : BS} {wr : World} (h : Held W R pa pb S wr) (o : Obj) : Held W (wr.heap.size :: R) pa pb S (wr.alloc o) := h.came ((Below.refl _ _).alloc (Nat.le_refl _) o) [wr.heap.size] (by simp)
theorem heldBy_new {W : World} {R : List Nat} {pa pb : Nat} {S : BS} {wr : World} (h : Held W R pa pb S wr) (o : Obj) : HeldBy R wr (wr.alloc o) := HeldBy.of_below ((Below.refl _ _).alloc (Nat.le_refl _) o) h.held
theorem Handle.alloc {w : World} (h : Handle w) (o : Obj) : Handle (w.alloc o) := h.below h.lt ((Below.refl _ _).alloc (Nat.le_refl _) o)
theorem Did.cell {W : World} {R : List Nat} {pa pb n : Nat} {S' : BS} {wr w' : World} {v : Value} (h : Did W R pa pb wr n S' v w') {a : Addr} (ha : a.block ∈ R) : w'.cell? a = wr.cell? a := by
  obtain ⟨E, _, _, _, hh⟩ := h
  exact hh.cell ha
theorem Err.drewN {w : World} {v : Value} {n : Nat} {E : List Nat} (h : Err w v n E) (m : Nat) : Err (w.drewN m) v n E := h.heldBy (R := E) ⟨Nat.le_refl _, fun _ _ => rfl⟩ (fun _ h => h)
theorem Err0.drewN {w : World} {v : Value} {n : Nat} {E : List Nat} (h : Err0 w v n E) (m : Nat) : Err0 (w.drewN m) v n E := h.heldBy (R := E) ⟨Nat.le_refl _, fun _ _ => rfl⟩ (fun _ h => h)
theorem Held.handle {W : World} {R : List Nat} {pa pb : Nat} {S : BS} {wr : World} (h : Held W R pa pb S wr) (hg : Handle W) : Handle wr := hg.below hg.lt h.below
theorem Handle.drewN {w : World} (h : Handle w) (n : Nat) : Handle (w.drewN n) := h.below h.lt (below_drewN (Below.refl _ _) _)
theorem six {w : World} {b : Nat} {t : TypeId} {a0 a1 a2 a3 a4 a5 : Value} (h : Cells w b [a0, a1, a2, a3, a4, a5] t) :
    w.cell? ⟨b, 0, none⟩ = some a0 ∧ w.cell? ⟨b, 1, none⟩ = some a1 ∧ w.cell? ⟨b, 2, none⟩ = some a2 ∧ w.cell? ⟨b, 3, none⟩ = some a3 ∧ w.cell? ⟨b, 4, none⟩ = some a4 ∧ w.cell? ⟨b, 5, none⟩ = some a5 ∧
    w.frozen? ⟨b, 0, none⟩ = false ∧ w.frozen? ⟨b, 1, none⟩ = false ∧ w.frozen? ⟨b, 2, none⟩ = false ∧ w.frozen? ⟨b, 3, none⟩ = false ∧ w.frozen? ⟨b, 4, none⟩ = false ∧ w.frozen? ⟨b, 5, none⟩ = false :=
  ⟨h.cell 0, h.cell 1, h.cell 2, h.cell 3, h.cell 4, h.cell 5, h.free 0, h.free 1, h.free 2, h.free 3, h.free 4, h.free 5⟩
theorem six_other {w : World} {b c : Nat} {o : Nat} {x0 x1 x2 x3 x4 x5 : Value} (h : c ≠ b) :
    ((((((w.setCell ⟨b, 0, none⟩ x0).setCell ⟨b, 1, none⟩ x1).setCell ⟨b, 2, none⟩ x2).setCell ⟨b, 3, none⟩ x3).setCell ⟨b, 4, none⟩ x4).setCell ⟨b, 5, none⟩ x5).cell? ⟨c, o, none⟩ = w.cell? ⟨c, o, none⟩ := by
  unfold World.cell?
  simp only [Below.heap_setCell _ ⟨b, _, none⟩ _ c h]
/-- What an access that is done now leaves. -/
def Gave (W : World) (R : List Nat) (pa pb : Nat) (wr : World) (x : Ntry) (S' : BS) (e : Ending) (w' : World) : Prop :=
  e = .returned (.agg (encE x).toArray) ∧ Held W R pa pb S' w' ∧ HeldBy R wr w'

theorem opLoad_form (ref : Nat) (i : Int) (S : BS) : #[.int .i64 1, .int .u64 (ref : Int), .int .i64 i, .int .u64 ((opLoad ref i S).1.word : Int), .bool false, .int .i64 ((opLoad ref i S).1.err : Int)] = (encE (opLoad ref i S).1).toArray := by
  unfold opLoad encE
  cases word S ref i <;> rfl
theorem six_kept (w : World) (b : Nat) {x0 x1 x2 x3 x4 x5 : Value} : Kept (fun k => k = b) w ((((((w.setCell ⟨b, 0, none⟩ x0).setCell ⟨b, 1, none⟩ x1).setCell ⟨b, 2, none⟩ x2).setCell ⟨b, 3, none⟩ x3).setCell ⟨b, 4, none⟩ x4).setCell ⟨b, 5, none⟩ x5) :=
  (((((((Kept.refl (fun k => k = b) w).setCell (fun _ => rfl) _).setCell (fun _ => rfl) _).setCell (fun _ => rfl) _).setCell (fun _ => rfl) _).setCell (fun _ => rfl) _).setCell (fun _ => rfl) _)
theorem gave_end {W : World} {R : List Nat} {pa pb n : Nat} {S S' : BS} {x : Ntry} {wr w1 w2 w3 w4 : World} {v : Value} {r : Array Value} (h : Held W R pa pb S wr) (hx : r = (encE x).toArray) (h1 : HeldBy R wr w1) (hd : Did W (wr.heap.size :: R) pa pb (w1.drewN 1) n S' v w2)
    (hb : Below w2.heap.size w2 w3) (hk : Kept (fun k => k = wr.heap.size) w3 w4) : Gave W R pa pb wr x S' (.returned (.agg r)) w4 := by
  obtain ⟨E, he, hn, hh, hby⟩ := hd
  have h3 := hh.below' hb
  have hs := h.below.size
  refine ⟨by rw [hx], h3.step (hk.mono fun k _ e => by subst e; simp) (h3.below.trans (hk.below h3.below.size fun k hk e => by omega)) fun b hb' => ⟨.inl (by simp [hb']), ?_⟩, ⟨Nat.le_trans h1.1 (Nat.le_trans (Nat.le_trans hby.1 hb.size) hk.size), fun b hb' => ?_⟩⟩
  · have := h3.held b (by simp [hb'])
    exact Nat.lt_of_lt_of_le this hk.size
  · have hl := h.held b hb'
    have hl2 := hh.held b (by simp [hb'])
    rw [hk.block b (Nat.lt_of_lt_of_le hl2 hb.size) (by omega), hb.block b hl2, hby.2 b (by simp [hb'])]
    exact h1.2 b hb'
set_option maxHeartbeats 1000000 in
theorem load1_ok {W : World} {R : List Nat} {pa pb : Nat} {S : BS} {wr : World} (h : Held W R pa pb S wr) (hg : Handle W) {bc br bi pc ref : Nat} {i : Int} (hr : ref < 18446744073709551616)
    (c0 : wr.cell? ⟨bc, 0, none⟩ = some (.pointer (some ⟨pc, 0, none⟩))) (c1 : wr.cell? ⟨pc, 0, none⟩ = some (.pointer (some ⟨pb, 0, none⟩))) (c2 : wr.cell? ⟨br, 0, none⟩ = some (.int .u64 (ref : Int))) (c3 : wr.cell? ⟨bi, 0, none⟩ = some (.int .i64 i))
    (m1 : br ∈ R) (m2 : bi ∈ R) (m4 : bc ∈ R) (m5 : pc ∈ R) :
    Calls Tryz.prog 121 #[.pointer (some ⟨bc, 0, none⟩), .pointer (some ⟨br, 0, none⟩), .pointer (some ⟨bi, 0, none⟩)] wr (Gave W R pa pb wr (opLoad ref i S).1 (opLoad ref i S).2) := by
  have l1 := World.block_lt_of_cell? wr _ c0
  have l2 := World.block_lt_of_cell? wr _ c1
  have l3 := World.block_lt_of_cell? wr _ c2
  have l4 := World.block_lt_of_cell? wr _ c3
  have H := Lib.hid h
  have HG := Lib.hid hg
  clear h hg
  go_enter Tryz.func121, Tryz.ntmps121
  go_wp2
  have H1 := Lib.hid (H.out.new (.cells #[.int .i64 0, .int .u64 0, .int .i64 0, .int .u64 0, .bool false, .int .i64 0] 189))
  have B1 := Lib.hid (heldBy_new H.out (.cells #[.int .i64 0, .int .u64 0, .int .i64 0, .int .u64 0, .bool false, .int .i64 0] 189))
  have C1 := Lib.hid (Cells.new wr [.int .i64 0, .int .u64 0, .int .i64 0, .int .u64 0, .bool false, .int .i64 0] 189)
  have HC := Lib.hid (fun n => held_load (H1.out.drewN n) hr i)
  have q0 : (wr.alloc (.cells #[.int .i64 0, .int .u64 0, .int .i64 0, .int .u64 0, .bool false, .int .i64 0] 189)).cell? ⟨bc, 0, none⟩ = some (.pointer (some ⟨pc, 0, none⟩)) := (World.cell?_alloc_lt _ _ ⟨bc, 0, none⟩ l1).trans c0
  have q1 : (wr.alloc (.cells #[.int .i64 0, .int .u64 0, .int .i64 0, .int .u64 0, .bool false, .int .i64 0] 189)).cell? ⟨pc, 0, none⟩ = some (.pointer (some ⟨pb, 0, none⟩)) := (World.cell?_alloc_lt _ _ ⟨pc, 0, none⟩ l2).trans c1
  have q2 : (wr.alloc (.cells #[.int .i64 0, .int .u64 0, .int .i64 0, .int .u64 0, .bool false, .int .i64 0] 189)).cell? ⟨br, 0, none⟩ = some (.int .u64 (ref : Int)) := (World.cell?_alloc_lt _ _ ⟨br, 0, none⟩ l3).trans c2
  have q3 : (wr.alloc (.cells #[.int .i64 0, .int .u64 0, .int .i64 0, .int .u64 0, .bool false, .int .i64 0] 189)).cell? ⟨bi, 0, none⟩ = some (.int .i64 i) := (World.cell?_alloc_lt _ _ ⟨bi, 0, none⟩ l4).trans c3
  generalize wr.alloc (.cells #[.int .i64 0, .int .u64 0, .int .i64 0, .int .u64 0, .bool false, .int .i64 0] 189) = w1 at *
  clear c0 c1 c2 c3
  go_region_held3 (fun w' => w'.cell? ⟨bc, 0, none⟩ = some (.pointer (some ⟨pc, 0, none⟩)) ∧ w'.cell? ⟨pc, 0, none⟩ = some (.pointer (some ⟨pb, 0, none⟩)) ∧ w'.cell? ⟨br, 0, none⟩ = some (.int .u64 (ref : Int)) ∧ w'.cell? ⟨bi, 0, none⟩ = some (.int .i64 i))
    (first | go_keep | exact ⟨k0, k1, k2, k3⟩)
    (first | (go_at_call 16; refine (HC.out 1).mono ?_; rintro e w2 ⟨v, rfl, hd⟩; have k0 := (hd.cell (a := ⟨bc, 0, none⟩) (by simp [m4])).trans q0; have k1 := (hd.cell (a := ⟨pc, 0, none⟩) (by simp [m5])).trans q1; have k2 := (hd.cell (a := ⟨br, 0, none⟩) (by simp [m1])).trans q2; have k3 := (hd.cell (a := ⟨bi, 0, none⟩) (by simp [m2])).trans q3; have HD := Lib.hid hd; clear hd))
  go_wp2
  obtain ⟨E, he, hn, hh, hb⟩ := HD.out
  have HN := Lib.hid (fun n => number_any (he.drewN n) (hh.handle HG.out |>.drewN n))
  have C2 := Lib.hid (C1.out.heldBy hb (List.mem_cons_self ..))
  have hz := Lib.hid fun b (hm : b ∈ R) => hh.held b (List.mem_append_right _ (List.mem_cons_of_mem _ hm))
  clear he hn hh hb
  go_region_held3 (fun w' => w'.cell? ⟨br, 0, none⟩ = some (.int .u64 (ref : Int)) ∧ w'.cell? ⟨bi, 0, none⟩ = some (.int .i64 i))
    (first | with_reducible exact ⟨j2, j3⟩ | with_reducible exact ⟨(six_other (Nat.ne_of_lt l3)).trans j2, (six_other (Nat.ne_of_lt l4)).trans j3⟩ | with_reducible exact ⟨k2, k3⟩ | go_keep)
    (first | (go_at_call 99; refine (HN.out 1).mono ?_; rintro e w3 ⟨rfl, hb3'⟩; have hb3 : Below w2.heap.size w2 w3 := (below_drewN (Below.refl _ _) 1).trans hb3'; have j2 := (hb3.cell (p := ⟨br, 0, none⟩) (by exact hz.out br m1)).trans k2; have j3 := (hb3.cell (p := ⟨bi, 0, none⟩) (by exact hz.out bi m2)).trans k3; have C3 := (Cells.kept C2.out (Kept.of_below hb3) (by have := C2.out.lt; simp; omega)); obtain ⟨u0, u1, u2, u3, u4, u5, f0, f1, f2, f3, f4, f5⟩ := six C3; have HC3 := Lib.hid C3; have HB3 := Lib.hid hb3; clear hb3 hb3' C3))
  go_wp2
  refine bodyPost_ret (v := .agg #[.int .i64 1, .int .u64 (ref : Int), .int .i64 i, .int .u64 ((opLoad ref i S).1.word : Int), .bool false, .int .i64 ((opLoad ref i S).1.err : Int)]) (by simp [results, Tryz.results121, go_sem, u0, u1, u2, u3, u4, u5]) rfl ?_
  exact gave_end H.out (opLoad_form ref i S) B1.out HD.out HB3.out (six_kept _ _)
end Go.Proofs.YtmdganpealbmpaaGreatDoor

/- Layer 5 (thread): what the accesses of a Ctx do: the other closures. Printed by closures.py. -/
namespace Go.Proofs.YtmdganpealbmpaaGreatDoor
open Go.RowKit Bl Th
set_option maxRecDepth 10000


theorem opStore_form {ref : Nat} {i : Int} {x : Nat} {S : BS} : #[.int .i64 2, .int .u64 (ref : Int), .int .i64 i, .int .u64 (x : Int), .bool false, .int .i64 ((opStore ref i x S).1.err : Int)] = (encE (opStore ref i x S).1).toArray := by
  unfold opStore encE
  cases word S ref i <;> rfl

set_option maxHeartbeats 1000000 in
theorem store1_ok {W : World} {R : List Nat} {pa pb : Nat} {S : BS} {wr : World} (h : Held W R pa pb S wr) (hg : Handle W) {br bi bx bc pc : Nat} {ref x : Nat} {i : Int} (hr : ref < 18446744073709551616) (hx : x < 18446744073709551616)
    (c0 : wr.cell? ⟨br, 0, none⟩ = some (.int .u64 (ref : Int))) (c1 : wr.cell? ⟨bi, 0, none⟩ = some (.int .i64 i)) (c2 : wr.cell? ⟨bx, 0, none⟩ = some (.int .u64 (x : Int))) (c3 : wr.cell? ⟨bc, 0, none⟩ = some (.pointer (some ⟨pc, 0, none⟩))) (cp : wr.cell? ⟨pc, 0, none⟩ = some (.pointer (some ⟨pb, 0, none⟩)))
    (m0 : br ∈ R) (m1 : bi ∈ R) (m2 : bx ∈ R) (m3 : bc ∈ R) (mp : pc ∈ R) :
    Calls Tryz.prog 113 #[.pointer (some ⟨br, 0, none⟩), .pointer (some ⟨bi, 0, none⟩), .pointer (some ⟨bx, 0, none⟩), .pointer (some ⟨bc, 0, none⟩)] wr (Gave W R pa pb wr (opStore ref i x S).1 (opStore ref i x S).2) := by
  have l0 := World.block_lt_of_cell? wr _ c0
  have l1 := World.block_lt_of_cell? wr _ c1
  have l2 := World.block_lt_of_cell? wr _ c2
  have l3 := World.block_lt_of_cell? wr _ c3
  have lp := World.block_lt_of_cell? wr _ cp
  have H := Lib.hid h
  have HG := Lib.hid hg
  clear h hg
  go_enter Tryz.func113, Tryz.ntmps113
  go_wp2
  have H1 := Lib.hid (H.out.new (.cells #[.int .i64 0, .int .u64 0, .int .i64 0, .int .u64 0, .bool false, .int .i64 0] 189))
  have B1 := Lib.hid (heldBy_new H.out (.cells #[.int .i64 0, .int .u64 0, .int .i64 0, .int .u64 0, .bool false, .int .i64 0] 189))
  have C1 := Lib.hid (Cells.new wr [.int .i64 0, .int .u64 0, .int .i64 0, .int .u64 0, .bool false, .int .i64 0] 189)
  have HC := Lib.hid (fun n => held_store (H1.out.drewN n) hr i hx)
  have q0 : (wr.alloc (.cells #[.int .i64 0, .int .u64 0, .int .i64 0, .int .u64 0, .bool false, .int .i64 0] 189)).cell? ⟨br, 0, none⟩ = some (.int .u64 (ref : Int)) := (World.cell?_alloc_lt _ _ ⟨br, 0, none⟩ l0).trans c0
  have q1 : (wr.alloc (.cells #[.int .i64 0, .int .u64 0, .int .i64 0, .int .u64 0, .bool false, .int .i64 0] 189)).cell? ⟨bi, 0, none⟩ = some (.int .i64 i) := (World.cell?_alloc_lt _ _ ⟨bi, 0, none⟩ l1).trans c1
  have q2 : (wr.alloc (.cells #[.int .i64 0, .int .u64 0, .int .i64 0, .int .u64 0, .bool false, .int .i64 0] 189)).cell? ⟨bx, 0, none⟩ = some (.int .u64 (x : Int)) := (World.cell?_alloc_lt _ _ ⟨bx, 0, none⟩ l2).trans c2
  have q3 : (wr.alloc (.cells #[.int .i64 0, .int .u64 0, .int .i64 0, .int .u64 0, .bool false, .int .i64 0] 189)).cell? ⟨bc, 0, none⟩ = some (.pointer (some ⟨pc, 0, none⟩)) := (World.cell?_alloc_lt _ _ ⟨bc, 0, none⟩ l3).trans c3
  have qp : (wr.alloc (.cells #[.int .i64 0, .int .u64 0, .int .i64 0, .int .u64 0, .bool false, .int .i64 0] 189)).cell? ⟨pc, 0, none⟩ = some (.pointer (some ⟨pb, 0, none⟩)) := (World.cell?_alloc_lt _ _ ⟨pc, 0, none⟩ lp).trans cp
  generalize wr.alloc (.cells #[.int .i64 0, .int .u64 0, .int .i64 0, .int .u64 0, .bool false, .int .i64 0] 189) = w1 at *
  clear c0 c1 c2 c3 cp
  go_region_held3 (fun w' => w'.cell? ⟨br, 0, none⟩ = some (.int .u64 (ref : Int)) ∧ w'.cell? ⟨bi, 0, none⟩ = some (.int .i64 i) ∧ w'.cell? ⟨bx, 0, none⟩ = some (.int .u64 (x : Int)) ∧ w'.cell? ⟨bc, 0, none⟩ = some (.pointer (some ⟨pc, 0, none⟩)) ∧ w'.cell? ⟨pc, 0, none⟩ = some (.pointer (some ⟨pb, 0, none⟩)))
    (first | with_reducible exact ⟨j0, j1, j2, j3, jp⟩ | with_reducible exact ⟨(six_other (Nat.ne_of_lt l0)).trans j0, (six_other (Nat.ne_of_lt l1)).trans j1, (six_other (Nat.ne_of_lt l2)).trans j2, (six_other (Nat.ne_of_lt l3)).trans j3, (six_other (Nat.ne_of_lt lp)).trans jp⟩ | with_reducible exact ⟨k0, k1, k2, k3, kp⟩ | go_keep)
    (first | (go_at_call 114; refine (HC.out 1).mono ?_; rintro e w2 ⟨v, rfl, hd⟩; have k0 := (hd.cell (a := ⟨br, 0, none⟩) (by simp [m0])).trans q0; have k1 := (hd.cell (a := ⟨bi, 0, none⟩) (by simp [m1])).trans q1; have k2 := (hd.cell (a := ⟨bx, 0, none⟩) (by simp [m2])).trans q2; have k3 := (hd.cell (a := ⟨bc, 0, none⟩) (by simp [m3])).trans q3; have kp := (hd.cell (a := ⟨pc, 0, none⟩) (by simp [mp])).trans qp; have HD := Lib.hid hd; clear hd; obtain ⟨E, he, hn, hh, hb⟩ := HD.out; have HN := Lib.hid (number_any he (hh.handle HG.out)); have C2 := Lib.hid (C1.out.heldBy hb (List.mem_cons_self ..)); have hz := Lib.hid fun b (hm : b ∈ R) => hh.held b (List.mem_append_right _ (List.mem_cons_of_mem _ hm)); clear he hn hh hb) | (go_at_call 99; refine HN.out.mono ?_; rintro e w3 ⟨rfl, hb3'⟩; have hb3 : Below w2.heap.size w2 w3 := hb3'; have j0 := (hb3.cell (p := ⟨br, 0, none⟩) (by exact hz.out br m0)).trans k0; have j1 := (hb3.cell (p := ⟨bi, 0, none⟩) (by exact hz.out bi m1)).trans k1; have j2 := (hb3.cell (p := ⟨bx, 0, none⟩) (by exact hz.out bx m2)).trans k2; have j3 := (hb3.cell (p := ⟨bc, 0, none⟩) (by exact hz.out bc m3)).trans k3; have jp := (hb3.cell (p := ⟨pc, 0, none⟩) (by exact hz.out pc mp)).trans kp; have C3 := (Cells.kept C2.out (Kept.of_below hb3) (by have := C2.out.lt; simp; omega)); obtain ⟨u0, u1, u2, u3, u4, u5, f0, f1, f2, f3, f4, f5⟩ := six C3; have HC3 := Lib.hid C3; have HB3 := Lib.hid hb3; clear hb3 hb3' C3))
  go_wp2
  refine bodyPost_ret (v := .agg #[.int .i64 2, .int .u64 (ref : Int), .int .i64 i, .int .u64 (x : Int), .bool false, .int .i64 ((opStore ref i x S).1.err : Int)]) (by simp [results, Tryz.results113, go_sem, u0, u1, u2, u3, u4, u5]) rfl ?_
  exact gave_end H.out (opStore_form) B1.out HD.out HB3.out (six_kept _ _)

theorem opCAS_form {ref : Nat} {i : Int} {old x : Nat} {S : BS} : #[.int .i64 3, .int .u64 (ref : Int), .int .i64 i, .int .u64 (x : Int), .bool (opCAS ref i old x S).1.done, .int .i64 ((opCAS ref i old x S).1.err : Int)] = (encE (opCAS ref i old x S).1).toArray := by
  unfold opCAS encE
  cases word S ref i <;> rfl

set_option maxHeartbeats 1000000 in
theorem cas1_ok {W : World} {R : List Nat} {pa pb : Nat} {S : BS} {wr : World} (h : Held W R pa pb S wr) (hg : Handle W) {bc br bi bo bx pc : Nat} {ref old x : Nat} {i : Int} (hr : ref < 18446744073709551616) (hx : x < 18446744073709551616)
    (c0 : wr.cell? ⟨bc, 0, none⟩ = some (.pointer (some ⟨pc, 0, none⟩))) (c1 : wr.cell? ⟨br, 0, none⟩ = some (.int .u64 (ref : Int))) (c2 : wr.cell? ⟨bi, 0, none⟩ = some (.int .i64 i)) (c3 : wr.cell? ⟨bo, 0, none⟩ = some (.int .u64 (old : Int))) (c4 : wr.cell? ⟨bx, 0, none⟩ = some (.int .u64 (x : Int))) (cp : wr.cell? ⟨pc, 0, none⟩ = some (.pointer (some ⟨pb, 0, none⟩)))
    (m0 : bc ∈ R) (m1 : br ∈ R) (m2 : bi ∈ R) (m3 : bo ∈ R) (m4 : bx ∈ R) (mp : pc ∈ R) :
    Calls Tryz.prog 128 #[.pointer (some ⟨bc, 0, none⟩), .pointer (some ⟨br, 0, none⟩), .pointer (some ⟨bi, 0, none⟩), .pointer (some ⟨bo, 0, none⟩), .pointer (some ⟨bx, 0, none⟩)] wr (Gave W R pa pb wr (opCAS ref i old x S).1 (opCAS ref i old x S).2) := by
  have l0 := World.block_lt_of_cell? wr _ c0
  have l1 := World.block_lt_of_cell? wr _ c1
  have l2 := World.block_lt_of_cell? wr _ c2
  have l3 := World.block_lt_of_cell? wr _ c3
  have l4 := World.block_lt_of_cell? wr _ c4
  have lp := World.block_lt_of_cell? wr _ cp
  have H := Lib.hid h
  have HG := Lib.hid hg
  clear h hg
  go_enter Tryz.func128, Tryz.ntmps128
  go_wp2
  have H1 := Lib.hid (H.out.new (.cells #[.int .i64 0, .int .u64 0, .int .i64 0, .int .u64 0, .bool false, .int .i64 0] 189))
  have B1 := Lib.hid (heldBy_new H.out (.cells #[.int .i64 0, .int .u64 0, .int .i64 0, .int .u64 0, .bool false, .int .i64 0] 189))
  have C1 := Lib.hid (Cells.new wr [.int .i64 0, .int .u64 0, .int .i64 0, .int .u64 0, .bool false, .int .i64 0] 189)
  have HC := Lib.hid (fun n => held_cas (H1.out.drewN n) hr i old hx)
  have q0 : (wr.alloc (.cells #[.int .i64 0, .int .u64 0, .int .i64 0, .int .u64 0, .bool false, .int .i64 0] 189)).cell? ⟨bc, 0, none⟩ = some (.pointer (some ⟨pc, 0, none⟩)) := (World.cell?_alloc_lt _ _ ⟨bc, 0, none⟩ l0).trans c0
  have q1 : (wr.alloc (.cells #[.int .i64 0, .int .u64 0, .int .i64 0, .int .u64 0, .bool false, .int .i64 0] 189)).cell? ⟨br, 0, none⟩ = some (.int .u64 (ref : Int)) := (World.cell?_alloc_lt _ _ ⟨br, 0, none⟩ l1).trans c1
  have q2 : (wr.alloc (.cells #[.int .i64 0, .int .u64 0, .int .i64 0, .int .u64 0, .bool false, .int .i64 0] 189)).cell? ⟨bi, 0, none⟩ = some (.int .i64 i) := (World.cell?_alloc_lt _ _ ⟨bi, 0, none⟩ l2).trans c2
  have q3 : (wr.alloc (.cells #[.int .i64 0, .int .u64 0, .int .i64 0, .int .u64 0, .bool false, .int .i64 0] 189)).cell? ⟨bo, 0, none⟩ = some (.int .u64 (old : Int)) := (World.cell?_alloc_lt _ _ ⟨bo, 0, none⟩ l3).trans c3
  have q4 : (wr.alloc (.cells #[.int .i64 0, .int .u64 0, .int .i64 0, .int .u64 0, .bool false, .int .i64 0] 189)).cell? ⟨bx, 0, none⟩ = some (.int .u64 (x : Int)) := (World.cell?_alloc_lt _ _ ⟨bx, 0, none⟩ l4).trans c4
  have qp : (wr.alloc (.cells #[.int .i64 0, .int .u64 0, .int .i64 0, .int .u64 0, .bool false, .int .i64 0] 189)).cell? ⟨pc, 0, none⟩ = some (.pointer (some ⟨pb, 0, none⟩)) := (World.cell?_alloc_lt _ _ ⟨pc, 0, none⟩ lp).trans cp
  generalize wr.alloc (.cells #[.int .i64 0, .int .u64 0, .int .i64 0, .int .u64 0, .bool false, .int .i64 0] 189) = w1 at *
  clear c0 c1 c2 c3 c4 cp
  go_region_held3 (fun w' => w'.cell? ⟨bc, 0, none⟩ = some (.pointer (some ⟨pc, 0, none⟩)) ∧ w'.cell? ⟨br, 0, none⟩ = some (.int .u64 (ref : Int)) ∧ w'.cell? ⟨bi, 0, none⟩ = some (.int .i64 i) ∧ w'.cell? ⟨bo, 0, none⟩ = some (.int .u64 (old : Int)) ∧ w'.cell? ⟨bx, 0, none⟩ = some (.int .u64 (x : Int)) ∧ w'.cell? ⟨pc, 0, none⟩ = some (.pointer (some ⟨pb, 0, none⟩)))
    (first | go_keep | exact ⟨k0, k1, k2, k3, k4, kp⟩)
    (first | (go_at_call 129; refine (HC.out 1).mono ?_; rintro e w2 ⟨v, rfl, hd⟩; have k0 := (hd.cell (a := ⟨bc, 0, none⟩) (by simp [m0])).trans q0; have k1 := (hd.cell (a := ⟨br, 0, none⟩) (by simp [m1])).trans q1; have k2 := (hd.cell (a := ⟨bi, 0, none⟩) (by simp [m2])).trans q2; have k3 := (hd.cell (a := ⟨bo, 0, none⟩) (by simp [m3])).trans q3; have k4 := (hd.cell (a := ⟨bx, 0, none⟩) (by simp [m4])).trans q4; have kp := (hd.cell (a := ⟨pc, 0, none⟩) (by simp [mp])).trans qp; have HD := Lib.hid hd; clear hd))
  go_wp2
  obtain ⟨E, he, hn, hh, hb⟩ := HD.out
  have HN := Lib.hid (number_any (he.drewN 1) (hh.handle HG.out |>.drewN 1))
  have C2 := Lib.hid (C1.out.heldBy hb (List.mem_cons_self ..))
  have hz := Lib.hid fun b (hm : b ∈ R) => hh.held b (List.mem_append_right _ (List.mem_cons_of_mem _ hm))
  clear he hn hh hb
  go_region_held3 (fun w' => w'.cell? ⟨bc, 0, none⟩ = some (.pointer (some ⟨pc, 0, none⟩)) ∧ w'.cell? ⟨br, 0, none⟩ = some (.int .u64 (ref : Int)) ∧ w'.cell? ⟨bi, 0, none⟩ = some (.int .i64 i) ∧ w'.cell? ⟨bo, 0, none⟩ = some (.int .u64 (old : Int)) ∧ w'.cell? ⟨bx, 0, none⟩ = some (.int .u64 (x : Int)) ∧ w'.cell? ⟨pc, 0, none⟩ = some (.pointer (some ⟨pb, 0, none⟩)))
    (first | with_reducible exact ⟨j0, j1, j2, j3, j4, jp⟩ | with_reducible exact ⟨(six_other (Nat.ne_of_lt l0)).trans j0, (six_other (Nat.ne_of_lt l1)).trans j1, (six_other (Nat.ne_of_lt l2)).trans j2, (six_other (Nat.ne_of_lt l3)).trans j3, (six_other (Nat.ne_of_lt l4)).trans j4, (six_other (Nat.ne_of_lt lp)).trans jp⟩ | with_reducible exact ⟨k0, k1, k2, k3, k4, kp⟩ | go_keep)
    (first | (go_at_call 99; refine HN.out.mono ?_; rintro e w3 ⟨rfl, hb3'⟩; have hb3 : Below w2.heap.size w2 w3 := (below_drewN (Below.refl _ _) 1).trans hb3'; have j0 := (hb3.cell (p := ⟨bc, 0, none⟩) (by exact hz.out bc m0)).trans k0; have j1 := (hb3.cell (p := ⟨br, 0, none⟩) (by exact hz.out br m1)).trans k1; have j2 := (hb3.cell (p := ⟨bi, 0, none⟩) (by exact hz.out bi m2)).trans k2; have j3 := (hb3.cell (p := ⟨bo, 0, none⟩) (by exact hz.out bo m3)).trans k3; have j4 := (hb3.cell (p := ⟨bx, 0, none⟩) (by exact hz.out bx m4)).trans k4; have jp := (hb3.cell (p := ⟨pc, 0, none⟩) (by exact hz.out pc mp)).trans kp; have C3 := (Cells.kept C2.out (Kept.of_below hb3) (by have := C2.out.lt; simp; omega)); obtain ⟨u0, u1, u2, u3, u4, u5, f0, f1, f2, f3, f4, f5⟩ := six C3; have HC3 := Lib.hid C3; have HB3 := Lib.hid hb3; clear hb3 hb3' C3))
  go_wp2
  refine bodyPost_ret (v := .agg #[.int .i64 3, .int .u64 (ref : Int), .int .i64 i, .int .u64 (x : Int), .bool (opCAS ref i old x S).1.done, .int .i64 ((opCAS ref i old x S).1.err : Int)]) (by simp [results, Tryz.results128, go_sem, u0, u1, u2, u3, u4, u5]) rfl ?_
  exact gave_end H.out (opCAS_form) B1.out HD.out HB3.out (six_kept _ _)

theorem opAlloc_form {i : Int} {S : BS} : #[.int .i64 4, .int .u64 ((opAlloc i S).1.ref : Int), .int .i64 i, .int .u64 0, .bool false, .int .i64 ((opAlloc i S).1.err : Int)] = (encE (opAlloc i S).1).toArray := by
  unfold opAlloc encE
  cases alloc S i <;> rfl

set_option maxHeartbeats 1000000 in
theorem alloc1_ok {W : World} {R : List Nat} {pa pb : Nat} {S : BS} {wr : World} (h : Held W R pa pb S wr) (hg : Handle W) {bc bi pc : Nat} {i : Int}
    (c0 : wr.cell? ⟨bc, 0, none⟩ = some (.pointer (some ⟨pc, 0, none⟩))) (c1 : wr.cell? ⟨bi, 0, none⟩ = some (.int .i64 i)) (cp : wr.cell? ⟨pc, 0, none⟩ = some (.pointer (some ⟨pb, 0, none⟩)))
    (m0 : bc ∈ R) (m1 : bi ∈ R) (mp : pc ∈ R) :
    Calls Tryz.prog 97 #[.pointer (some ⟨bc, 0, none⟩), .pointer (some ⟨bi, 0, none⟩)] wr (Gave W R pa pb wr (opAlloc i S).1 (opAlloc i S).2) := by
  have l0 := World.block_lt_of_cell? wr _ c0
  have l1 := World.block_lt_of_cell? wr _ c1
  have lp := World.block_lt_of_cell? wr _ cp
  have H := Lib.hid h
  have HG := Lib.hid hg
  clear h hg
  go_enter Tryz.func97, Tryz.ntmps97
  go_wp2
  have H1 := Lib.hid (H.out.new (.cells #[.int .i64 0, .int .u64 0, .int .i64 0, .int .u64 0, .bool false, .int .i64 0] 189))
  have B1 := Lib.hid (heldBy_new H.out (.cells #[.int .i64 0, .int .u64 0, .int .i64 0, .int .u64 0, .bool false, .int .i64 0] 189))
  have C1 := Lib.hid (Cells.new wr [.int .i64 0, .int .u64 0, .int .i64 0, .int .u64 0, .bool false, .int .i64 0] 189)
  have HC := Lib.hid (fun n => held_alloc (H1.out.drewN n) i)
  have q0 : (wr.alloc (.cells #[.int .i64 0, .int .u64 0, .int .i64 0, .int .u64 0, .bool false, .int .i64 0] 189)).cell? ⟨bc, 0, none⟩ = some (.pointer (some ⟨pc, 0, none⟩)) := (World.cell?_alloc_lt _ _ ⟨bc, 0, none⟩ l0).trans c0
  have q1 : (wr.alloc (.cells #[.int .i64 0, .int .u64 0, .int .i64 0, .int .u64 0, .bool false, .int .i64 0] 189)).cell? ⟨bi, 0, none⟩ = some (.int .i64 i) := (World.cell?_alloc_lt _ _ ⟨bi, 0, none⟩ l1).trans c1
  have qp : (wr.alloc (.cells #[.int .i64 0, .int .u64 0, .int .i64 0, .int .u64 0, .bool false, .int .i64 0] 189)).cell? ⟨pc, 0, none⟩ = some (.pointer (some ⟨pb, 0, none⟩)) := (World.cell?_alloc_lt _ _ ⟨pc, 0, none⟩ lp).trans cp
  generalize wr.alloc (.cells #[.int .i64 0, .int .u64 0, .int .i64 0, .int .u64 0, .bool false, .int .i64 0] 189) = w1 at *
  clear c0 c1 cp
  go_region_held3 (fun w' => w'.cell? ⟨bc, 0, none⟩ = some (.pointer (some ⟨pc, 0, none⟩)) ∧ w'.cell? ⟨bi, 0, none⟩ = some (.int .i64 i) ∧ w'.cell? ⟨pc, 0, none⟩ = some (.pointer (some ⟨pb, 0, none⟩)))
    (first | go_keep | exact ⟨k0, k1, kp⟩)
    (first | (go_at_call 98; refine (HC.out 1).mono ?_; rintro e w2 ⟨v, rfl, hd⟩; have k0 := (hd.cell (a := ⟨bc, 0, none⟩) (by simp [m0])).trans q0; have k1 := (hd.cell (a := ⟨bi, 0, none⟩) (by simp [m1])).trans q1; have kp := (hd.cell (a := ⟨pc, 0, none⟩) (by simp [mp])).trans qp; have HD := Lib.hid hd; clear hd))
  go_wp2
  obtain ⟨E, he, hn, hh, hb⟩ := HD.out
  have HN := Lib.hid (number_any (he.drewN 1) (hh.handle HG.out |>.drewN 1))
  have C2 := Lib.hid (C1.out.heldBy hb (List.mem_cons_self ..))
  have hz := Lib.hid fun b (hm : b ∈ R) => hh.held b (List.mem_append_right _ (List.mem_cons_of_mem _ hm))
  clear he hn hh hb
  go_region_held3 (fun w' => w'.cell? ⟨bc, 0, none⟩ = some (.pointer (some ⟨pc, 0, none⟩)) ∧ w'.cell? ⟨bi, 0, none⟩ = some (.int .i64 i) ∧ w'.cell? ⟨pc, 0, none⟩ = some (.pointer (some ⟨pb, 0, none⟩)))
    (first | with_reducible exact ⟨j0, j1, jp⟩ | with_reducible exact ⟨(six_other (Nat.ne_of_lt l0)).trans j0, (six_other (Nat.ne_of_lt l1)).trans j1, (six_other (Nat.ne_of_lt lp)).trans jp⟩ | with_reducible exact ⟨k0, k1, kp⟩ | go_keep)
    (first | (go_at_call 99; refine HN.out.mono ?_; rintro e w3 ⟨rfl, hb3'⟩; have hb3 : Below w2.heap.size w2 w3 := (below_drewN (Below.refl _ _) 1).trans hb3'; have j0 := (hb3.cell (p := ⟨bc, 0, none⟩) (by exact hz.out bc m0)).trans k0; have j1 := (hb3.cell (p := ⟨bi, 0, none⟩) (by exact hz.out bi m1)).trans k1; have jp := (hb3.cell (p := ⟨pc, 0, none⟩) (by exact hz.out pc mp)).trans kp; have C3 := (Cells.kept C2.out (Kept.of_below hb3) (by have := C2.out.lt; simp; omega)); obtain ⟨u0, u1, u2, u3, u4, u5, f0, f1, f2, f3, f4, f5⟩ := six C3; have HC3 := Lib.hid C3; have HB3 := Lib.hid hb3; clear hb3 hb3' C3))
  go_wp2
  refine bodyPost_ret (v := .agg #[.int .i64 4, .int .u64 ((opAlloc i S).1.ref : Int), .int .i64 i, .int .u64 0, .bool false, .int .i64 ((opAlloc i S).1.err : Int)]) (by simp [results, Tryz.results97, go_sem, u0, u1, u2, u3, u4, u5]) rfl ?_
  exact gave_end H.out (opAlloc_form) B1.out HD.out HB3.out (six_kept _ _)

theorem opFree_form {ref : Nat} {S : BS} : #[.int .i64 5, .int .u64 (ref : Int), .int .i64 0, .int .u64 0, .bool false, .int .i64 ((opFree ref S).1.err : Int)] = (encE (opFree ref S).1).toArray := by
  unfold opFree encE
  cases free S ref <;> rfl

end Go.Proofs.YtmdganpealbmpaaGreatDoor
