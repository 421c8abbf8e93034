/- Layer 5 (thread): what the accesses of a Ctx do: the other closures. Printed by closures.py. -/
import Derived.Test.YtfehonejcambgaaGreatDoorCtx1
namespace Go.Proofs.YtfehonejcambgaaGreatDoor
open Go.RowKit Bl Th
set_option maxRecDepth 10000


theorem opStore_form {ref : Nat} {i : Int} {x : Nat} {S : BS} : #[.int .i64 2, .int .u64 (ref : Int), .int .i64 i, .int .u64 (x : Int), .bool false, .int .i64 ((opStore ref i x S).1.err : Int)] = (encE (opStore ref i x S).1).toArray := by
  unfold opStore encE
  cases word S ref i <;> rfl

set_option maxHeartbeats 1000000 in
theorem store1_ok {W : World} {R : List Nat} {pa pb : Nat} {S : BS} {wr : World} (h : Held W R pa pb S wr) (hg : Handle W) {br bi bx bc pc : Nat} {ref x : Nat} {i : Int} (hr : ref < 18446744073709551616) (hx : x < 18446744073709551616)
    (c0 : wr.cell? ⟨br, 0, none⟩ = some (.int .u64 (ref : Int))) (c1 : wr.cell? ⟨bi, 0, none⟩ = some (.int .i64 i)) (c2 : wr.cell? ⟨bx, 0, none⟩ = some (.int .u64 (x : Int))) (c3 : wr.cell? ⟨bc, 0, none⟩ = some (.pointer (some ⟨pc, 0, none⟩))) (cp : wr.cell? ⟨pc, 0, none⟩ = some (.pointer (some ⟨pb, 0, none⟩)))
    (m0 : br ∈ R) (m1 : bi ∈ R) (m2 : bx ∈ R) (m3 : bc ∈ R) (mp : pc ∈ R) :
    Calls Tryz.prog 43 #[.pointer (some ⟨br, 0, none⟩), .pointer (some ⟨bi, 0, none⟩), .pointer (some ⟨bx, 0, none⟩), .pointer (some ⟨bc, 0, none⟩)] wr (Gave W R pa pb wr (opStore ref i x S).1 (opStore ref i x S).2) := by
  have l0 := World.block_lt_of_cell? wr _ c0
  have l1 := World.block_lt_of_cell? wr _ c1
  have l2 := World.block_lt_of_cell? wr _ c2
  have l3 := World.block_lt_of_cell? wr _ c3
  have lp := World.block_lt_of_cell? wr _ cp
  have H := Lib.hid h
  have HG := Lib.hid hg
  clear h hg
  go_enter Tryz.func43, Tryz.ntmps43
  go_wp2
  have H1 := Lib.hid (H.out.new (.cells #[.int .i64 0, .int .u64 0, .int .i64 0, .int .u64 0, .bool false, .int .i64 0] 70))
  have B1 := Lib.hid (heldBy_new H.out (.cells #[.int .i64 0, .int .u64 0, .int .i64 0, .int .u64 0, .bool false, .int .i64 0] 70))
  have C1 := Lib.hid (Cells.new wr [.int .i64 0, .int .u64 0, .int .i64 0, .int .u64 0, .bool false, .int .i64 0] 70)
  have HC := Lib.hid (fun n => held_store (H1.out.drewN n) hr i hx)
  have q0 : (wr.alloc (.cells #[.int .i64 0, .int .u64 0, .int .i64 0, .int .u64 0, .bool false, .int .i64 0] 70)).cell? ⟨br, 0, none⟩ = some (.int .u64 (ref : Int)) := (World.cell?_alloc_lt _ _ ⟨br, 0, none⟩ l0).trans c0
  have q1 : (wr.alloc (.cells #[.int .i64 0, .int .u64 0, .int .i64 0, .int .u64 0, .bool false, .int .i64 0] 70)).cell? ⟨bi, 0, none⟩ = some (.int .i64 i) := (World.cell?_alloc_lt _ _ ⟨bi, 0, none⟩ l1).trans c1
  have q2 : (wr.alloc (.cells #[.int .i64 0, .int .u64 0, .int .i64 0, .int .u64 0, .bool false, .int .i64 0] 70)).cell? ⟨bx, 0, none⟩ = some (.int .u64 (x : Int)) := (World.cell?_alloc_lt _ _ ⟨bx, 0, none⟩ l2).trans c2
  have q3 : (wr.alloc (.cells #[.int .i64 0, .int .u64 0, .int .i64 0, .int .u64 0, .bool false, .int .i64 0] 70)).cell? ⟨bc, 0, none⟩ = some (.pointer (some ⟨pc, 0, none⟩)) := (World.cell?_alloc_lt _ _ ⟨bc, 0, none⟩ l3).trans c3
  have qp : (wr.alloc (.cells #[.int .i64 0, .int .u64 0, .int .i64 0, .int .u64 0, .bool false, .int .i64 0] 70)).cell? ⟨pc, 0, none⟩ = some (.pointer (some ⟨pb, 0, none⟩)) := (World.cell?_alloc_lt _ _ ⟨pc, 0, none⟩ lp).trans cp
  generalize wr.alloc (.cells #[.int .i64 0, .int .u64 0, .int .i64 0, .int .u64 0, .bool false, .int .i64 0] 70) = w1 at *
  clear c0 c1 c2 c3 cp
  go_region_held3 (fun w' => w'.cell? ⟨br, 0, none⟩ = some (.int .u64 (ref : Int)) ∧ w'.cell? ⟨bi, 0, none⟩ = some (.int .i64 i) ∧ w'.cell? ⟨bx, 0, none⟩ = some (.int .u64 (x : Int)) ∧ w'.cell? ⟨bc, 0, none⟩ = some (.pointer (some ⟨pc, 0, none⟩)) ∧ w'.cell? ⟨pc, 0, none⟩ = some (.pointer (some ⟨pb, 0, none⟩)))
    (first | with_reducible exact ⟨j0, j1, j2, j3, jp⟩ | with_reducible exact ⟨(six_other (Nat.ne_of_lt l0)).trans j0, (six_other (Nat.ne_of_lt l1)).trans j1, (six_other (Nat.ne_of_lt l2)).trans j2, (six_other (Nat.ne_of_lt l3)).trans j3, (six_other (Nat.ne_of_lt lp)).trans jp⟩ | with_reducible exact ⟨k0, k1, k2, k3, kp⟩ | go_keep)
    (first | (go_at_call 44; refine (HC.out 1).mono ?_; rintro e w2 ⟨v, rfl, hd⟩; have k0 := (hd.cell (a := ⟨br, 0, none⟩) (by simp [m0])).trans q0; have k1 := (hd.cell (a := ⟨bi, 0, none⟩) (by simp [m1])).trans q1; have k2 := (hd.cell (a := ⟨bx, 0, none⟩) (by simp [m2])).trans q2; have k3 := (hd.cell (a := ⟨bc, 0, none⟩) (by simp [m3])).trans q3; have kp := (hd.cell (a := ⟨pc, 0, none⟩) (by simp [mp])).trans qp; have HD := Lib.hid hd; clear hd; obtain ⟨E, he, hn, hh, hb⟩ := HD.out; have HN := Lib.hid (number_any he (hh.handle HG.out)); have C2 := Lib.hid (C1.out.heldBy hb (List.mem_cons_self ..)); have hz := Lib.hid fun b (hm : b ∈ R) => hh.held b (List.mem_append_right _ (List.mem_cons_of_mem _ hm)); clear he hn hh hb) | (go_at_call 42; refine HN.out.mono ?_; rintro e w3 ⟨rfl, hb3'⟩; have hb3 : Below w2.heap.size w2 w3 := hb3'; have j0 := (hb3.cell (p := ⟨br, 0, none⟩) (by exact hz.out br m0)).trans k0; have j1 := (hb3.cell (p := ⟨bi, 0, none⟩) (by exact hz.out bi m1)).trans k1; have j2 := (hb3.cell (p := ⟨bx, 0, none⟩) (by exact hz.out bx m2)).trans k2; have j3 := (hb3.cell (p := ⟨bc, 0, none⟩) (by exact hz.out bc m3)).trans k3; have jp := (hb3.cell (p := ⟨pc, 0, none⟩) (by exact hz.out pc mp)).trans kp; have C3 := (Cells.kept C2.out (Kept.of_below hb3) (by have := C2.out.lt; simp; omega)); obtain ⟨u0, u1, u2, u3, u4, u5, f0, f1, f2, f3, f4, f5⟩ := six C3; have HC3 := Lib.hid C3; have HB3 := Lib.hid hb3; clear hb3 hb3' C3))
  go_wp2
  refine bodyPost_ret (v := .agg #[.int .i64 2, .int .u64 (ref : Int), .int .i64 i, .int .u64 (x : Int), .bool false, .int .i64 ((opStore ref i x S).1.err : Int)]) (by simp [results, Tryz.results43, go_sem, u0, u1, u2, u3, u4, u5]) rfl ?_
  exact gave_end H.out (opStore_form) B1.out HD.out HB3.out (six_kept _ _)

theorem opCAS_form {ref : Nat} {i : Int} {old x : Nat} {S : BS} : #[.int .i64 3, .int .u64 (ref : Int), .int .i64 i, .int .u64 (x : Int), .bool (opCAS ref i old x S).1.done, .int .i64 ((opCAS ref i old x S).1.err : Int)] = (encE (opCAS ref i old x S).1).toArray := by
  unfold opCAS encE
  cases word S ref i <;> rfl

set_option maxHeartbeats 1000000 in
theorem cas1_ok {W : World} {R : List Nat} {pa pb : Nat} {S : BS} {wr : World} (h : Held W R pa pb S wr) (hg : Handle W) {bc br bi bo bx pc : Nat} {ref old x : Nat} {i : Int} (hr : ref < 18446744073709551616) (hx : x < 18446744073709551616)
    (c0 : wr.cell? ⟨bc, 0, none⟩ = some (.pointer (some ⟨pc, 0, none⟩))) (c1 : wr.cell? ⟨br, 0, none⟩ = some (.int .u64 (ref : Int))) (c2 : wr.cell? ⟨bi, 0, none⟩ = some (.int .i64 i)) (c3 : wr.cell? ⟨bo, 0, none⟩ = some (.int .u64 (old : Int))) (c4 : wr.cell? ⟨bx, 0, none⟩ = some (.int .u64 (x : Int))) (cp : wr.cell? ⟨pc, 0, none⟩ = some (.pointer (some ⟨pb, 0, none⟩)))
    (m0 : bc ∈ R) (m1 : br ∈ R) (m2 : bi ∈ R) (m3 : bo ∈ R) (m4 : bx ∈ R) (mp : pc ∈ R) :
    Calls Tryz.prog 45 #[.pointer (some ⟨bc, 0, none⟩), .pointer (some ⟨br, 0, none⟩), .pointer (some ⟨bi, 0, none⟩), .pointer (some ⟨bo, 0, none⟩), .pointer (some ⟨bx, 0, none⟩)] wr (Gave W R pa pb wr (opCAS ref i old x S).1 (opCAS ref i old x S).2) := by
  have l0 := World.block_lt_of_cell? wr _ c0
  have l1 := World.block_lt_of_cell? wr _ c1
  have l2 := World.block_lt_of_cell? wr _ c2
  have l3 := World.block_lt_of_cell? wr _ c3
  have l4 := World.block_lt_of_cell? wr _ c4
  have lp := World.block_lt_of_cell? wr _ cp
  have H := Lib.hid h
  have HG := Lib.hid hg
  clear h hg
  go_enter Tryz.func45, Tryz.ntmps45
  go_wp2
  have H1 := Lib.hid (H.out.new (.cells #[.int .i64 0, .int .u64 0, .int .i64 0, .int .u64 0, .bool false, .int .i64 0] 70))
  have B1 := Lib.hid (heldBy_new H.out (.cells #[.int .i64 0, .int .u64 0, .int .i64 0, .int .u64 0, .bool false, .int .i64 0] 70))
  have C1 := Lib.hid (Cells.new wr [.int .i64 0, .int .u64 0, .int .i64 0, .int .u64 0, .bool false, .int .i64 0] 70)
  have HC := Lib.hid (fun n => held_cas (H1.out.drewN n) hr i old hx)
  have q0 : (wr.alloc (.cells #[.int .i64 0, .int .u64 0, .int .i64 0, .int .u64 0, .bool false, .int .i64 0] 70)).cell? ⟨bc, 0, none⟩ = some (.pointer (some ⟨pc, 0, none⟩)) := (World.cell?_alloc_lt _ _ ⟨bc, 0, none⟩ l0).trans c0
  have q1 : (wr.alloc (.cells #[.int .i64 0, .int .u64 0, .int .i64 0, .int .u64 0, .bool false, .int .i64 0] 70)).cell? ⟨br, 0, none⟩ = some (.int .u64 (ref : Int)) := (World.cell?_alloc_lt _ _ ⟨br, 0, none⟩ l1).trans c1
  have q2 : (wr.alloc (.cells #[.int .i64 0, .int .u64 0, .int .i64 0, .int .u64 0, .bool false, .int .i64 0] 70)).cell? ⟨bi, 0, none⟩ = some (.int .i64 i) := (World.cell?_alloc_lt _ _ ⟨bi, 0, none⟩ l2).trans c2
  have q3 : (wr.alloc (.cells #[.int .i64 0, .int .u64 0, .int .i64 0, .int .u64 0, .bool false, .int .i64 0] 70)).cell? ⟨bo, 0, none⟩ = some (.int .u64 (old : Int)) := (World.cell?_alloc_lt _ _ ⟨bo, 0, none⟩ l3).trans c3
  have q4 : (wr.alloc (.cells #[.int .i64 0, .int .u64 0, .int .i64 0, .int .u64 0, .bool false, .int .i64 0] 70)).cell? ⟨bx, 0, none⟩ = some (.int .u64 (x : Int)) := (World.cell?_alloc_lt _ _ ⟨bx, 0, none⟩ l4).trans c4
  have qp : (wr.alloc (.cells #[.int .i64 0, .int .u64 0, .int .i64 0, .int .u64 0, .bool false, .int .i64 0] 70)).cell? ⟨pc, 0, none⟩ = some (.pointer (some ⟨pb, 0, none⟩)) := (World.cell?_alloc_lt _ _ ⟨pc, 0, none⟩ lp).trans cp
  generalize wr.alloc (.cells #[.int .i64 0, .int .u64 0, .int .i64 0, .int .u64 0, .bool false, .int .i64 0] 70) = w1 at *
  clear c0 c1 c2 c3 c4 cp
  go_region_held3 (fun w' => w'.cell? ⟨bc, 0, none⟩ = some (.pointer (some ⟨pc, 0, none⟩)) ∧ w'.cell? ⟨br, 0, none⟩ = some (.int .u64 (ref : Int)) ∧ w'.cell? ⟨bi, 0, none⟩ = some (.int .i64 i) ∧ w'.cell? ⟨bo, 0, none⟩ = some (.int .u64 (old : Int)) ∧ w'.cell? ⟨bx, 0, none⟩ = some (.int .u64 (x : Int)) ∧ w'.cell? ⟨pc, 0, none⟩ = some (.pointer (some ⟨pb, 0, none⟩)))
    (first | go_keep | exact ⟨k0, k1, k2, k3, k4, kp⟩)
    (first | (go_at_call 46; refine (HC.out 1).mono ?_; rintro e w2 ⟨v, rfl, hd⟩; have k0 := (hd.cell (a := ⟨bc, 0, none⟩) (by simp [m0])).trans q0; have k1 := (hd.cell (a := ⟨br, 0, none⟩) (by simp [m1])).trans q1; have k2 := (hd.cell (a := ⟨bi, 0, none⟩) (by simp [m2])).trans q2; have k3 := (hd.cell (a := ⟨bo, 0, none⟩) (by simp [m3])).trans q3; have k4 := (hd.cell (a := ⟨bx, 0, none⟩) (by simp [m4])).trans q4; have kp := (hd.cell (a := ⟨pc, 0, none⟩) (by simp [mp])).trans qp; have HD := Lib.hid hd; clear hd))
  go_wp2
  obtain ⟨E, he, hn, hh, hb⟩ := HD.out
  have HN := Lib.hid (number_any (he.drewN 1) (hh.handle HG.out |>.drewN 1))
  have C2 := Lib.hid (C1.out.heldBy hb (List.mem_cons_self ..))
  have hz := Lib.hid fun b (hm : b ∈ R) => hh.held b (List.mem_append_right _ (List.mem_cons_of_mem _ hm))
  clear he hn hh hb
  go_region_held3 (fun w' => w'.cell? ⟨bc, 0, none⟩ = some (.pointer (some ⟨pc, 0, none⟩)) ∧ w'.cell? ⟨br, 0, none⟩ = some (.int .u64 (ref : Int)) ∧ w'.cell? ⟨bi, 0, none⟩ = some (.int .i64 i) ∧ w'.cell? ⟨bo, 0, none⟩ = some (.int .u64 (old : Int)) ∧ w'.cell? ⟨bx, 0, none⟩ = some (.int .u64 (x : Int)) ∧ w'.cell? ⟨pc, 0, none⟩ = some (.pointer (some ⟨pb, 0, none⟩)))
    (first | with_reducible exact ⟨j0, j1, j2, j3, j4, jp⟩ | with_reducible exact ⟨(six_other (Nat.ne_of_lt l0)).trans j0, (six_other (Nat.ne_of_lt l1)).trans j1, (six_other (Nat.ne_of_lt l2)).trans j2, (six_other (Nat.ne_of_lt l3)).trans j3, (six_other (Nat.ne_of_lt l4)).trans j4, (six_other (Nat.ne_of_lt lp)).trans jp⟩ | with_reducible exact ⟨k0, k1, k2, k3, k4, kp⟩ | go_keep)
    (first | (go_at_call 42; refine HN.out.mono ?_; rintro e w3 ⟨rfl, hb3'⟩; have hb3 : Below w2.heap.size w2 w3 := (below_drewN (Below.refl _ _) 1).trans hb3'; have j0 := (hb3.cell (p := ⟨bc, 0, none⟩) (by exact hz.out bc m0)).trans k0; have j1 := (hb3.cell (p := ⟨br, 0, none⟩) (by exact hz.out br m1)).trans k1; have j2 := (hb3.cell (p := ⟨bi, 0, none⟩) (by exact hz.out bi m2)).trans k2; have j3 := (hb3.cell (p := ⟨bo, 0, none⟩) (by exact hz.out bo m3)).trans k3; have j4 := (hb3.cell (p := ⟨bx, 0, none⟩) (by exact hz.out bx m4)).trans k4; have jp := (hb3.cell (p := ⟨pc, 0, none⟩) (by exact hz.out pc mp)).trans kp; have C3 := (Cells.kept C2.out (Kept.of_below hb3) (by have := C2.out.lt; simp; omega)); obtain ⟨u0, u1, u2, u3, u4, u5, f0, f1, f2, f3, f4, f5⟩ := six C3; have HC3 := Lib.hid C3; have HB3 := Lib.hid hb3; clear hb3 hb3' C3))
  go_wp2
  refine bodyPost_ret (v := .agg #[.int .i64 3, .int .u64 (ref : Int), .int .i64 i, .int .u64 (x : Int), .bool (opCAS ref i old x S).1.done, .int .i64 ((opCAS ref i old x S).1.err : Int)]) (by simp [results, Tryz.results45, go_sem, u0, u1, u2, u3, u4, u5]) rfl ?_
  exact gave_end H.out (opCAS_form) B1.out HD.out HB3.out (six_kept _ _)

theorem opAlloc_form {i : Int} {S : BS} : #[.int .i64 4, .int .u64 ((opAlloc i S).1.ref : Int), .int .i64 i, .int .u64 0, .bool false, .int .i64 ((opAlloc i S).1.err : Int)] = (encE (opAlloc i S).1).toArray := by
  unfold opAlloc encE
  cases alloc S i <;> rfl

set_option maxHeartbeats 1000000 in
theorem alloc1_ok {W : World} {R : List Nat} {pa pb : Nat} {S : BS} {wr : World} (h : Held W R pa pb S wr) (hg : Handle W) {bc bi pc : Nat} {i : Int}
    (c0 : wr.cell? ⟨bc, 0, none⟩ = some (.pointer (some ⟨pc, 0, none⟩))) (c1 : wr.cell? ⟨bi, 0, none⟩ = some (.int .i64 i)) (cp : wr.cell? ⟨pc, 0, none⟩ = some (.pointer (some ⟨pb, 0, none⟩)))
    (m0 : bc ∈ R) (m1 : bi ∈ R) (mp : pc ∈ R) :
    Calls Tryz.prog 47 #[.pointer (some ⟨bc, 0, none⟩), .pointer (some ⟨bi, 0, none⟩)] wr (Gave W R pa pb wr (opAlloc i S).1 (opAlloc i S).2) := by
  have l0 := World.block_lt_of_cell? wr _ c0
  have l1 := World.block_lt_of_cell? wr _ c1
  have lp := World.block_lt_of_cell? wr _ cp
  have H := Lib.hid h
  have HG := Lib.hid hg
  clear h hg
  go_enter Tryz.func47, Tryz.ntmps47
  go_wp2
  have H1 := Lib.hid (H.out.new (.cells #[.int .i64 0, .int .u64 0, .int .i64 0, .int .u64 0, .bool false, .int .i64 0] 70))
  have B1 := Lib.hid (heldBy_new H.out (.cells #[.int .i64 0, .int .u64 0, .int .i64 0, .int .u64 0, .bool false, .int .i64 0] 70))
  have C1 := Lib.hid (Cells.new wr [.int .i64 0, .int .u64 0, .int .i64 0, .int .u64 0, .bool false, .int .i64 0] 70)
  have HC := Lib.hid (fun n => held_alloc (H1.out.drewN n) i)
  have q0 : (wr.alloc (.cells #[.int .i64 0, .int .u64 0, .int .i64 0, .int .u64 0, .bool false, .int .i64 0] 70)).cell? ⟨bc, 0, none⟩ = some (.pointer (some ⟨pc, 0, none⟩)) := (World.cell?_alloc_lt _ _ ⟨bc, 0, none⟩ l0).trans c0
  have q1 : (wr.alloc (.cells #[.int .i64 0, .int .u64 0, .int .i64 0, .int .u64 0, .bool false, .int .i64 0] 70)).cell? ⟨bi, 0, none⟩ = some (.int .i64 i) := (World.cell?_alloc_lt _ _ ⟨bi, 0, none⟩ l1).trans c1
  have qp : (wr.alloc (.cells #[.int .i64 0, .int .u64 0, .int .i64 0, .int .u64 0, .bool false, .int .i64 0] 70)).cell? ⟨pc, 0, none⟩ = some (.pointer (some ⟨pb, 0, none⟩)) := (World.cell?_alloc_lt _ _ ⟨pc, 0, none⟩ lp).trans cp
  generalize wr.alloc (.cells #[.int .i64 0, .int .u64 0, .int .i64 0, .int .u64 0, .bool false, .int .i64 0] 70) = w1 at *
  clear c0 c1 cp
  go_region_held3 (fun w' => w'.cell? ⟨bc, 0, none⟩ = some (.pointer (some ⟨pc, 0, none⟩)) ∧ w'.cell? ⟨bi, 0, none⟩ = some (.int .i64 i) ∧ w'.cell? ⟨pc, 0, none⟩ = some (.pointer (some ⟨pb, 0, none⟩)))
    (first | go_keep | exact ⟨k0, k1, kp⟩)
    (first | (go_at_call 48; refine (HC.out 1).mono ?_; rintro e w2 ⟨v, rfl, hd⟩; have k0 := (hd.cell (a := ⟨bc, 0, none⟩) (by simp [m0])).trans q0; have k1 := (hd.cell (a := ⟨bi, 0, none⟩) (by simp [m1])).trans q1; have kp := (hd.cell (a := ⟨pc, 0, none⟩) (by simp [mp])).trans qp; have HD := Lib.hid hd; clear hd))
  go_wp2
  obtain ⟨E, he, hn, hh, hb⟩ := HD.out
  have HN := Lib.hid (number_any (he.drewN 1) (hh.handle HG.out |>.drewN 1))
  have C2 := Lib.hid (C1.out.heldBy hb (List.mem_cons_self ..))
  have hz := Lib.hid fun b (hm : b ∈ R) => hh.held b (List.mem_append_right _ (List.mem_cons_of_mem _ hm))
  clear he hn hh hb
  go_region_held3 (fun w' => w'.cell? ⟨bc, 0, none⟩ = some (.pointer (some ⟨pc, 0, none⟩)) ∧ w'.cell? ⟨bi, 0, none⟩ = some (.int .i64 i) ∧ w'.cell? ⟨pc, 0, none⟩ = some (.pointer (some ⟨pb, 0, none⟩)))
    (first | with_reducible exact ⟨j0, j1, jp⟩ | with_reducible exact ⟨(six_other (Nat.ne_of_lt l0)).trans j0, (six_other (Nat.ne_of_lt l1)).trans j1, (six_other (Nat.ne_of_lt lp)).trans jp⟩ | with_reducible exact ⟨k0, k1, kp⟩ | go_keep)
    (first | (go_at_call 42; refine HN.out.mono ?_; rintro e w3 ⟨rfl, hb3'⟩; have hb3 : Below w2.heap.size w2 w3 := (below_drewN (Below.refl _ _) 1).trans hb3'; have j0 := (hb3.cell (p := ⟨bc, 0, none⟩) (by exact hz.out bc m0)).trans k0; have j1 := (hb3.cell (p := ⟨bi, 0, none⟩) (by exact hz.out bi m1)).trans k1; have jp := (hb3.cell (p := ⟨pc, 0, none⟩) (by exact hz.out pc mp)).trans kp; have C3 := (Cells.kept C2.out (Kept.of_below hb3) (by have := C2.out.lt; simp; omega)); obtain ⟨u0, u1, u2, u3, u4, u5, f0, f1, f2, f3, f4, f5⟩ := six C3; have HC3 := Lib.hid C3; have HB3 := Lib.hid hb3; clear hb3 hb3' C3))
  go_wp2
  refine bodyPost_ret (v := .agg #[.int .i64 4, .int .u64 ((opAlloc i S).1.ref : Int), .int .i64 i, .int .u64 0, .bool false, .int .i64 ((opAlloc i S).1.err : Int)]) (by simp [results, Tryz.results47, go_sem, u0, u1, u2, u3, u4, u5]) rfl ?_
  exact gave_end H.out (opAlloc_form) B1.out HD.out HB3.out (six_kept _ _)

theorem opFree_form {ref : Nat} {S : BS} : #[.int .i64 5, .int .u64 (ref : Int), .int .i64 0, .int .u64 0, .bool false, .int .i64 ((opFree ref S).1.err : Int)] = (encE (opFree ref S).1).toArray := by
  unfold opFree encE
  cases free S ref <;> rfl

set_option maxHeartbeats 1000000 in
theorem free1_ok {W : World} {R : List Nat} {pa pb : Nat} {S : BS} {wr : World} (h : Held W R pa pb S wr) (hg : Handle W) {br bc pc : Nat} {ref : Nat} (hr : ref < 18446744073709551616)
    (c0 : wr.cell? ⟨br, 0, none⟩ = some (.int .u64 (ref : Int))) (c1 : wr.cell? ⟨bc, 0, none⟩ = some (.pointer (some ⟨pc, 0, none⟩))) (cp : wr.cell? ⟨pc, 0, none⟩ = some (.pointer (some ⟨pb, 0, none⟩)))
    (m0 : br ∈ R) (m1 : bc ∈ R) (mp : pc ∈ R) :
    Calls Tryz.prog 49 #[.pointer (some ⟨br, 0, none⟩), .pointer (some ⟨bc, 0, none⟩)] wr (Gave W R pa pb wr (opFree ref S).1 (opFree ref S).2) := by
  have l0 := World.block_lt_of_cell? wr _ c0
  have l1 := World.block_lt_of_cell? wr _ c1
  have lp := World.block_lt_of_cell? wr _ cp
  have H := Lib.hid h
  have HG := Lib.hid hg
  clear h hg
  go_enter Tryz.func49, Tryz.ntmps49
  go_wp2
  have H1 := Lib.hid (H.out.new (.cells #[.int .i64 0, .int .u64 0, .int .i64 0, .int .u64 0, .bool false, .int .i64 0] 70))
  have B1 := Lib.hid (heldBy_new H.out (.cells #[.int .i64 0, .int .u64 0, .int .i64 0, .int .u64 0, .bool false, .int .i64 0] 70))
  have C1 := Lib.hid (Cells.new wr [.int .i64 0, .int .u64 0, .int .i64 0, .int .u64 0, .bool false, .int .i64 0] 70)
  have HC := Lib.hid (fun n => held_free (H1.out.drewN n) hr)
  have q0 : (wr.alloc (.cells #[.int .i64 0, .int .u64 0, .int .i64 0, .int .u64 0, .bool false, .int .i64 0] 70)).cell? ⟨br, 0, none⟩ = some (.int .u64 (ref : Int)) := (World.cell?_alloc_lt _ _ ⟨br, 0, none⟩ l0).trans c0
  have q1 : (wr.alloc (.cells #[.int .i64 0, .int .u64 0, .int .i64 0, .int .u64 0, .bool false, .int .i64 0] 70)).cell? ⟨bc, 0, none⟩ = some (.pointer (some ⟨pc, 0, none⟩)) := (World.cell?_alloc_lt _ _ ⟨bc, 0, none⟩ l1).trans c1
  have qp : (wr.alloc (.cells #[.int .i64 0, .int .u64 0, .int .i64 0, .int .u64 0, .bool false, .int .i64 0] 70)).cell? ⟨pc, 0, none⟩ = some (.pointer (some ⟨pb, 0, none⟩)) := (World.cell?_alloc_lt _ _ ⟨pc, 0, none⟩ lp).trans cp
  generalize wr.alloc (.cells #[.int .i64 0, .int .u64 0, .int .i64 0, .int .u64 0, .bool false, .int .i64 0] 70) = w1 at *
  clear c0 c1 cp
  go_region_held3 (fun w' => w'.cell? ⟨br, 0, none⟩ = some (.int .u64 (ref : Int)) ∧ w'.cell? ⟨bc, 0, none⟩ = some (.pointer (some ⟨pc, 0, none⟩)) ∧ w'.cell? ⟨pc, 0, none⟩ = some (.pointer (some ⟨pb, 0, none⟩)))
    (first | with_reducible exact ⟨j0, j1, jp⟩ | with_reducible exact ⟨(six_other (Nat.ne_of_lt l0)).trans j0, (six_other (Nat.ne_of_lt l1)).trans j1, (six_other (Nat.ne_of_lt lp)).trans jp⟩ | with_reducible exact ⟨k0, k1, kp⟩ | go_keep)
    (first | (go_at_call 50; refine (HC.out 1).mono ?_; rintro e w2 ⟨v, rfl, hd⟩; have k0 := (hd.cell (a := ⟨br, 0, none⟩) (by simp [m0])).trans q0; have k1 := (hd.cell (a := ⟨bc, 0, none⟩) (by simp [m1])).trans q1; have kp := (hd.cell (a := ⟨pc, 0, none⟩) (by simp [mp])).trans qp; have HD := Lib.hid hd; clear hd; obtain ⟨E, he, hn, hh, hb⟩ := HD.out; have HN := Lib.hid (number_any he (hh.handle HG.out)); have C2 := Lib.hid (C1.out.heldBy hb (List.mem_cons_self ..)); have hz := Lib.hid fun b (hm : b ∈ R) => hh.held b (List.mem_append_right _ (List.mem_cons_of_mem _ hm)); clear he hn hh hb) | (go_at_call 42; refine HN.out.mono ?_; rintro e w3 ⟨rfl, hb3'⟩; have hb3 : Below w2.heap.size w2 w3 := hb3'; have j0 := (hb3.cell (p := ⟨br, 0, none⟩) (by exact hz.out br m0)).trans k0; have j1 := (hb3.cell (p := ⟨bc, 0, none⟩) (by exact hz.out bc m1)).trans k1; have jp := (hb3.cell (p := ⟨pc, 0, none⟩) (by exact hz.out pc mp)).trans kp; have C3 := (Cells.kept C2.out (Kept.of_below hb3) (by have := C2.out.lt; simp; omega)); obtain ⟨u0, u1, u2, u3, u4, u5, f0, f1, f2, f3, f4, f5⟩ := six C3; have HC3 := Lib.hid C3; have HB3 := Lib.hid hb3; clear hb3 hb3' C3))
  go_wp2
  refine bodyPost_ret (v := .agg #[.int .i64 5, .int .u64 (ref : Int), .int .i64 0, .int .u64 0, .bool false, .int .i64 ((opFree ref S).1.err : Int)]) (by simp [results, Tryz.results49, go_sem, u0, u1, u2, u3, u4, u5]) rfl ?_
  exact gave_end H.out (opFree_form) B1.out HD.out HB3.out (six_kept _ _)

end Go.Proofs.YtfehonejcambgaaGreatDoor
