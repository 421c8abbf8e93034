/- Alive13: AloneScene13, Alive13. -/
import Derived.Test.YtmdganpealbmpaaGreatDoorAlonePlain13
import Derived.Test.YtmdganpealbmpaaGreatDoorScene
import Derived.Test.YtmdganpealbmpaaGreatDoorBody13a

/- Layer 13's laws: the scene as transactions that run alone find it. -/
namespace Go.Proofs.YtmdganpealbmpaaGreatDoor
open Bl Th
set_option maxRecDepth 10000

/-- A number below 3: each case. -/
theorem below3 {p : Nat → Prop} {n : Nat} (hn : n ≤ 3) (h0 : 0 < n → p 0) (h1 : 1 < n → p 1) (h2 : 2 < n → p 2) : ∀ i, i < n → p i := by
  intro i hi
  rcases (by omega : i = 0 ∨ i = 1 ∨ i = 2) with rfl | rfl | rfl
  · exact h0 hi
  · exact h1 hi
  · exact h2 hi
theorem scene_sc {n : Nat} (h1 : 1 ≤ n) (h3 : n ≤ 3) : Sc n (sceneS n) 0 (fun _ => rest 0) (fun i => 10 + i) := by
  rcases (by omega : n = 1 ∨ n = 2 ∨ n = 3) with rfl | rfl | rfl
  all_goals
    refine ⟨by kernel_rfl, below3 (by omega) ?_ ?_ ?_, below3 (by omega) ?_ ?_ ?_, by kernel_rfl, below3 (by omega) ?_ ?_ ?_, below3 (by omega) ?_ ?_ ?_, by decide +kernel, below3 (by omega) ?_ ?_ ?_⟩
    all_goals intro h; first | (exact absurd h (by decide)) | kernel_rfl | (decide +kernel)
theorem scene_cell {n : Nat} (h1 : 1 ≤ n) (h3 : n ≤ 3) (a : Int) : cellAt (sceneCells n) a = 3 + 3 * (a % (n : Int)).toNat := by
  have hl : (sceneCells n).length = n := by simp [sceneCells]
  have h1' := Int.emod_nonneg a (b := (n : Int)) (by omega)
  have h2' := Int.emod_lt_of_pos a (b := (n : Int)) (by omega)
  unfold cellAt
  rw [hl]
  have hj : (a % (n : Int)).toNat < n := by omega
  simp [sceneCells, List.getD_eq_getElem?_getD, hj]
end Go.Proofs.YtmdganpealbmpaaGreatDoor

/- Layer 13's laws: alive. -/
namespace Go.Proofs.YtmdganpealbmpaaGreatDoor
open Go.RowKit Bl Th
set_option maxRecDepth 10000

/-- The world behind Body. -/
def bodyW (w1 : World) (lv : Value) (clock : Nat) (g m : Nat) (owner : Int) (po : Nat) : World := ((((w1.alloc (.cells #[lv] 35)).alloc (.cells #[.int .u64 (clock : Int)] 41)).alloc (.cells #[.slice (some ⟨g, 0, none⟩) m m] 31)).alloc (.cells #[.int .i64 owner] 3)).alloc (.cells #[.pointer (some ⟨po, 0, none⟩)] 39)
theorem body_set {W : World} {R : List Nat} {pa pb po g : Nat} {S : BS} {w1 : World} {lv : Value} {Qo : List Nat} {l : List Op13} {clock : Nat} {cells : List Nat} (owner : Int) (h : Held W R pa pb S w1) (hg : g ∈ R) (hQ : ∀ b ∈ Qo, b ∈ R) (hc : Cells w1 g (cells.map fun x : Nat => .int .u64 (x : Int)) 41) (ho : OpsIn W w1 lv Qo l) :
    Below w1.heap.size w1 (bodyW w1 lv clock g cells.length owner po) ∧ Held W ([w1.heap.size, w1.heap.size + 1, w1.heap.size + 2, w1.heap.size + 3, w1.heap.size + 4] ++ R) pa pb S (bodyW w1 lv clock g cells.length owner po) ∧ Shared W (w1.heap.size + 1) (w1.heap.size + 3) w1.heap.size (w1.heap.size + 2) (w1.heap.size + 4) po g lv Qo l clock cells owner (bodyW w1 lv clock g cells.length owner po) := by
  have B : Below w1.heap.size w1 (bodyW w1 lv clock g cells.length owner po) := (((((Below.refl w1.heap.size w1).alloc (Nat.le_refl _) _).alloc (by simp) _).alloc (by simp; omega) _).alloc (by simp; omega) _).alloc (by simp; omega) _
  have k := HeldBy.of_below (R := R) B h.held
  have hz : (bodyW w1 lv clock g cells.length owner po).heap.size = w1.heap.size + 5 := by simp [bodyW]
  refine ⟨B, h.came B _ (by intro b hb; rw [hz]; simp at hb; omega), ?_, ?_, ?_, ?_, ?_, hc.heldBy k hg, ho.heldBy k hQ⟩
  · have := ((((Cells.new (w1.alloc (.cells #[lv] 35)) [.int .u64 (clock : Int)] 41).alloc (.cells #[.slice (some ⟨g, 0, none⟩) cells.length cells.length] 31)).alloc (.cells #[.int .i64 owner] 3)).alloc (.cells #[.pointer (some ⟨po, 0, none⟩)] 39))
    simpa [bodyW] using this
  · have := (Cells.new (((w1.alloc (.cells #[lv] 35)).alloc (.cells #[.int .u64 (clock : Int)] 41)).alloc (.cells #[.slice (some ⟨g, 0, none⟩) cells.length cells.length] 31)) [.int .i64 owner] 3).alloc (.cells #[.pointer (some ⟨po, 0, none⟩)] 39)
    simpa [bodyW] using this
  · exact (((((Cells.new w1 [lv] 35).alloc _).alloc _).alloc _).alloc _)
  · have := ((Cells.new ((w1.alloc (.cells #[lv] 35)).alloc (.cells #[.int .u64 (clock : Int)] 41)) [.slice (some ⟨g, 0, none⟩) cells.length cells.length] 31).alloc (.cells #[.int .i64 owner] 3)).alloc (.cells #[.pointer (some ⟨po, 0, none⟩)] 39)
    simpa [bodyW] using this
  · have := Cells.new ((((w1.alloc (.cells #[lv] 35)).alloc (.cells #[.int .u64 (clock : Int)] 41)).alloc (.cells #[.slice (some ⟨g, 0, none⟩) cells.length cells.length] 31)).alloc (.cells #[.int .i64 owner] 3)) [.pointer (some ⟨po, 0, none⟩)] 39
    simpa [bodyW] using this

/-- New, and the thread lies in a new block. -/
theorem tnew_new {σ : Type} {W : World} {R : List Nat} {pa pb : Nat} {S : BS} {wr : World} (h : Held W R pa pb S wr) (A : Aux σ) (s : σ) {Q : List Nat} (hq : A.at' s Q wr) (hQ : ∀ b ∈ Q, b ∈ R) (f : Nat) (caps : Array Value) :
    Calls Tryz.prog 20 #[.pointer (some ⟨pb, 0, none⟩), .func (.func f) #[] caps] wr fun e w' => ∃ pt, e = .returned (.pointer (some ⟨pt, 0, none⟩)) ∧ Thr W pb pt (.func (.func f) #[] caps) A (Th.start s) (pt :: Q) w' ∧ Held W (pt :: R) pa pb S w' ∧ Below wr.heap.size wr w' ∧ wr.heap.size ≤ pt := by
  have hn : ∀ w, (binOp .eql 69 (.func (.func f) #[] caps) .nilFunc).run Tryz.prog w = .ok (.bool false) w := fun _ => by kernel_rfl
  have hB := (Below.refl wr.heap.size wr).alloc (Nat.le_refl _) (.cells #[.pointer (some ⟨pb, 0, none⟩), .func (.func f) #[] caps, .slice none 0 0, .int .i64 0, .int .i64 0, .bool false, .nilIface] 109)
  have HE := Lib.hid (show ∃ pt, Ending.returned (.pointer (some ⟨wr.heap.size, 0, none⟩)) = .returned (.pointer (some ⟨pt, 0, none⟩)) ∧ Thr W pb pt (.func (.func f) #[] caps) A (Th.start s) (pt :: Q) (wr.alloc (.cells #[.pointer (some ⟨pb, 0, none⟩), .func (.func f) #[] caps, .slice none 0 0, .int .i64 0, .int .i64 0, .bool false, .nilIface] 109)) ∧ Held W (pt :: R) pa pb S (wr.alloc (.cells #[.pointer (some ⟨pb, 0, none⟩), .func (.func f) #[] caps, .slice none 0 0, .int .i64 0, .int .i64 0, .bool false, .nilIface] 109)) ∧ Below wr.heap.size wr (wr.alloc (.cells #[.pointer (some ⟨pb, 0, none⟩), .func (.func f) #[] caps, .slice none 0 0, .int .i64 0, .int .i64 0, .bool false, .nilIface] 109)) ∧ wr.heap.size ≤ pt from
    ⟨wr.heap.size, rfl, ⟨.slice none 0 0, .nilIface, [], Q, rfl, Cells.new wr _ _, World.ownsRow_nil _ _ _ _, .none, A.loc _ _ _ _ hq (HeldBy.of_below hB (fun b hb => h.held b (hQ b hb))), fun hm => by
      have := h.held _ (hQ _ (by simpa [Value.ownBlock] using hm)); omega, by simp [Value.ownBlock], h.below.size, by simp [Th.start], by simp [Th.start], by simp [Th.start], fun _ => rfl⟩, h.new _, hB, Nat.le_refl _⟩)
  clear h hB
  go_enter Tryz.func20, Tryz.ntmps20
  go_wp2
  go_ret
  exact HE.out

/-- The example. -/
def al13 : List Op13 := [⟨1, 0, 0⟩, ⟨2, 0, 1⟩, ⟨1, 0, 0⟩]
theorem al13_in (W w : World) (g : Nat) (Q : List Nat) (hg : g ∈ Q) (h : Cells w g [.int .i64 1, .int .i64 0, .int .u64 0, .int .i64 2, .int .i64 0, .int .u64 1, .int .i64 1, .int .i64 0, .int .u64 0] 82) : OpsIn W w (.slice (some ⟨g, 0, none⟩) 3 3) Q al13 := by
  refine ⟨⟨_, _, rfl, fun _ => ⟨g, 0, rfl, fun k m hk j hj => .inl ⟨hg, ?_⟩⟩⟩, by decide, by decide⟩
  rw [h.cell]
  match k, hk with
  | 0, hk => simp [al13] at hk; subst hk; match j, hj with | 0, _ => rfl | 1, _ => rfl | 2, _ => rfl
  | 1, hk => simp [al13] at hk; subst hk; match j, hj with | 0, _ => rfl | 1, _ => rfl | 2, _ => rfl
  | 2, hk => simp [al13] at hk; subst hk; match j, hj with | 0, _ => rfl | 1, _ => rfl | 2, _ => rfl
  | k + 3, hk => simp [al13] at hk
def al13Run : Nat × TS Out13 × BS := Th.run (treeBody fun _ => bodyT al13 1 (sceneCells 1) 1) 100 (0, Th.start ⟨[], false, false, 0⟩, sceneS 1)
theorem al13_run : al13Run.1 = 0 ∧ al13Run.2.1.aux = ⟨[10, 11], true, true, 1⟩ ∧ (opLoad 3 1 al13Run.2.2).1.word = 11 ∧ (opLoad 3 1 al13Run.2.2).1.err = 0 := ⟨by kernel_rfl, by kernel_rfl, by kernel_rfl, by kernel_rfl⟩
set_option maxHeartbeats 4000000 in
theorem alive13_ok (w : World) (hg : Handle w) : Calls Tryz.prog 8 #[] w fun e w' => e = .returned (.bool true) ∧ Below w.heap.size w w' := by
  have HG := Lib.hid hg
  clear hg
  go_enter Tryz.func8, Tryz.ntmps8
  go_wp2_with fail
  refine (scene_ok HG.out (n := 1) (by omega) (by omega) w rfl).mono ?_
  rintro e w1 ⟨pa, pb, g, rfl, hh, hc, hgw⟩
  have HH := Lib.hid hh; have HC := Lib.hid hc; have HGW := Lib.hid hgw
  clear hh hc hgw
  have B2 := ((Below.refl w1.heap.size w1).alloc (Nat.le_refl _) (.cells #[.slice none 0 0, .bool false, .bool false, .int .i64 0] 38)).alloc (by simp) (.cells #[.int .i64 1, .int .i64 0, .int .u64 0, .int .i64 2, .int .i64 0, .int .u64 1, .int .i64 1, .int .i64 0, .int .u64 0] 82)
  have c1 := (Cells.new w1 [.slice none 0 0, .bool false, .bool false, .int .i64 0] 38).alloc (.cells #[.int .i64 1, .int .i64 0, .int .u64 0, .int .i64 2, .int .i64 0, .int .u64 1, .int .i64 1, .int .i64 0, .int .u64 0] 82)
  have c2 := Cells.new (w1.alloc (.cells #[.slice none 0 0, .bool false, .bool false, .int .i64 0] 38)) [.int .i64 1, .int .i64 0, .int .u64 0, .int .i64 2, .int .i64 0, .int .u64 1, .int .i64 1, .int .i64 0, .int .u64 0] 82
  rw [World.size_alloc] at c2
  have h2 := HH.out.came B2 [w1.heap.size, w1.heap.size + 1] (by intro b hb; simp at hb ⊢; omega)
  have lg := HC.out.lt
  have c3 := HC.out.heldBy (R := [g]) (HeldBy.of_below B2 (by simpa using lg)) (by simp)
  obtain ⟨w2, hw2⟩ : ∃ w2, (w1.alloc (.cells #[.slice none 0 0, .bool false, .bool false, .int .i64 0] 38)).alloc (.cells #[.int .i64 1, .int .i64 0, .int .u64 0, .int .i64 2, .int .i64 0, .int .u64 1, .int .i64 1, .int .i64 0, .int .u64 0] 82) = w2 := ⟨_, rfl⟩
  rw [hw2] at B2 c1 c2 h2 c3
  have hz2 : w2.heap.size = w1.heap.size + 2 := by rw [← hw2]; simp
  have ho := al13_in w w2 (w1.heap.size + 1) [w1.heap.size + 1] (by simp) c2
  obtain ⟨S1, S2, S3⟩ := body_set (po := w1.heap.size) (cells := sceneCells 1) (clock := 1) 1 h2 (by simp) (by simp) c3 ho
  have hW1 := HH.out.below.size
  have hq : (outAux w w1.heap.size).at' ⟨[], false, false, 0⟩ [w1.heap.size] (bodyW w2 (.slice (some ⟨w1.heap.size + 1, 0, none⟩) 3 3) 1 g 1 1 w1.heap.size) :=
    ⟨.slice none 0 0, rfl, by simp [Value.ownBlock], hW1, c1.heldBy (R := [w1.heap.size]) (HeldBy.of_below S1 (by simp; omega)) (by simp), World.ownsRow_nil _ _ _ _⟩
  have HN := Lib.hid (tnew_new S2 (outAux w w1.heap.size) _ hq (by simp) 59 #[.pointer (some ⟨w2.heap.size + 1, 0, none⟩), .pointer (some ⟨w2.heap.size + 3, 0, none⟩), .pointer (some ⟨w2.heap.size, 0, none⟩), .pointer (some ⟨w2.heap.size + 2, 0, none⟩), .pointer (some ⟨w2.heap.size + 4, 0, none⟩)])
  have HS3 := Lib.hid S3; have HZ2 := Lib.hid hz2; have HH3 := Lib.hid S2
  have HR3 := Lib.hid (show Below w.heap.size w w2 from HH.out.below.trans (B2.mono hW1))
  clear B2 c1 c2 h2 c3 ho S1 S2 S3 hq hz2
  go_wp2_with fail
  refine (body13_ok _ _ _ 1 g 1 1 w1.heap.size w2).mono ?_
  rintro e w3 ⟨fv, rfl, rfl, hw3⟩
  obtain rfl : w3 = bodyW w2 (.slice (some ⟨w1.heap.size + 1, 0, none⟩) 3 3) 1 g 1 1 w1.heap.size := hw3
  clear hw2
  go_wp2_with fail
  refine HN.out.mono ?_
  rintro e w4 ⟨pt, rfl, ht, hh4, hb4, hpt⟩
  obtain ⟨w3, hw3⟩ : ∃ w3, bodyW w2 (.slice (some ⟨w1.heap.size + 1, 0, none⟩) 3 3) 1 g 1 1 w1.heap.size = w3 := ⟨_, rfl⟩
  have hz3 : w3.heap.size = w2.heap.size + 5 := by rw [← hw3]; simp [bodyW]
  have hsc : (sceneCells 1).length = 1 := rfl
  rw [hsc, hw3] at HS3 HH3 hb4 hpt
  have hk4 := HeldBy.of_below hb4 HH3.out.held
  have hP4 := HS3.out.heldBy hk4 (by intro b hb; simp [shOf] at hb ⊢; omega)
  obtain ⟨z, hz⟩ : ∃ z, w1.heap.size = z := ⟨_, rfl⟩
  have hz2 : w2.heap.size = z + 2 := by rw [HZ2.out, hz]
  have hgz : g < z := by rw [← hz]; exact HC.out.lt
  rw [hz] at ht hh4 hP4
  rw [hz2] at ht hh4 hP4 hz3
  have HRUN := Lib.hid (trun_ok (R := [z + 2, z + 2 + 1, z + 2 + 2, z + 2 + 3, z + 2 + 4, z + 1, g]) (S := sceneS 1) (body13_body (pa := pa) (Qo := [z + 1]) (g := g) (lp := some ⟨z + 1, 0, none⟩) (lcap := 3) (l := al13) (clock := 1) (cells := sceneCells 1) (owner := 1) HG.out (by decide) (by decide) (by decide) (by decide)) ht (hh4.less (by intro b hb; simp at hb ⊢; omega)) (by intro b hb hm; simp at hb hm; omega) (by intro b hb; simp [shOf] at hb ⊢; omega) hP4 100 (by show 0 + 100 ≤ 3000000000; omega))
  have HP4 := Lib.hid hP4
  clear ht hh4 hb4 hpt hk4 hP4 HN HS3 HH3 hz3 hw3
  rw [hz2, hz]
  go_wp2_with fail
  refine HRUN.out.mono ?_
  rintro e w5 ⟨v, E, B', rfl, he, ht5, hh5, hk5, -, -⟩
  change Err w5 v al13Run.1 E at he
  change Thr _ _ _ _ _ al13Run.2.1 B' w5 at ht5
  change Held _ _ _ _ al13Run.2.2 w5 at hh5
  obtain ⟨r1, r2, r3, r4⟩ := al13_run
  rw [r1] at he
  obtain ⟨rfl, rfl⟩ := he.isNil rfl
  obtain ⟨lv, ev, E2, Q2, rfl, hl⟩ := ht5
  have hau := hl.aux
  rw [r2] at hau
  obtain ⟨tv, rfl, -, -, a1, a2⟩ := hau
  have hld := held_load hh5 (ref := 3) (by omega) 1
  rw [r3, r4] at hld
  have HLD := Lib.hid hld
  have q0 := (HP4.out.arr.heldBy hk5 (by simp)).cell 0
  have q0' : w5.cell? ⟨g, 0, none⟩ = some (.int .u64 3) := q0
  have HA1 := Lib.hid a1; have HA2 := Lib.hid a2
  clear he hl hh5 hk5 a1 a2 r1 r2 r3 r4 HRUN HP4 hld q0
  go_wp2_with (first | (go_at_call 17; refine (no_nil _).mono ?_; rintro e w' ⟨rfl, rfl⟩))
  refine HLD.out.mono ?_
  rintro e w6 ⟨v, rfl, E6, he6, -, hh6, hk6⟩
  obtain ⟨rfl, rfl⟩ := he6.isNil rfl
  have a1 := HA1.out.heldBy hk6 (by simp)
  have a2 := ownsRow_heldBy HA2.out hk6 (fun b hb => by simp [hb])
  have HB6 := Lib.hid hh6.below
  obtain ⟨p0, p1, p2, p3, -⟩ := four a1
  rcases a2.2 with ⟨-, h0⟩ | ⟨gt, cap, cur, rfl, -⟩
  · simp at h0
  · have t0 : w6.cell? ⟨gt, 0, none⟩ = some (.int .u64 10) := a2.cells (g := gt) rfl 0 (.int .u64 10) rfl
    have t1 : w6.cell? ⟨gt, 1, none⟩ = some (.int .u64 11) := a2.cells (g := gt) rfl 1 (.int .u64 11) rfl
    clear a1 a2 he6 hh6 hk6 HLD
    go_wp2_with (first | (go_at_call 17; refine (no_nil _).mono ?_; rintro e w' ⟨rfl, rfl⟩))
    go_ret
    exact ⟨rfl, HB6.out⟩
end Go.Proofs.YtmdganpealbmpaaGreatDoor
