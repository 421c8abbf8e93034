/- Layer 1 (words): one contract a function. -/
import Derived.Test.YtmdganpealbmpaaGreatDoorHeap
import Derived.Test.YtmdganpealbmpaaGreatDoorErr
import Derived.WalkSpells
import Derived.WalkLawsBesides
import Derived.BigQuiet
import Derived.Deep.QuietTactic
import Derived.Deep.OwnRows
import Derived.Laws.OwnMore
namespace Go.Proofs.YtmdganpealbmpaaGreatDoor
open Go.RowKit
set_option maxRecDepth 10000

/-- An arena: its struct lies at pa, its words at wb. -/
structure Arena (w : World) (pa wb : Nat) (ws : List Nat) : Prop where
  hd : ∃ (c k a o n : Int) (d : Bool), Cells w pa [.slice (some ⟨wb, 0, none⟩) ws.length ws.length, .int .i64 c, .int .i64 k, .int .i64 a, .int .u64 o, .int .u64 n, .bool d] 177
  row : Cells w wb (ws.map fun (x : Nat) => .int .u64 (x : Int)) 41
  ne : pa ≠ wb
  pos : 0 < ws.length
  few : ws.length ≤ 16384
  fit : ∀ x ∈ ws, x < 18446744073709551616

theorem Arena.kept {S : Nat → Prop} {w w' : World} {pa wb : Nat} {ws : List Nat} (h : Arena w pa wb ws) (k : Kept S w w') (h1 : ¬ S pa) (h2 : ¬ S wb) : Arena w' pa wb ws := by
  obtain ⟨c, k', a, o, n, d, hc⟩ := h.hd
  exact ⟨⟨c, k', a, o, n, d, hc.kept k h1⟩, h.row.kept k h2, h.ne, h.pos, h.few, h.fit⟩

set_option maxHeartbeats 400000 in
theorem word_nil (i : Int) (w : World) :
    Calls Tryz.prog 65 #[.pointer none, .int .i64 i] w fun e w' => e = .returned (.tuple #[.pointer none, .iface 99 (.int .i64 1)]) ∧ w = w' := by
  go_enter Tryz.func65, Tryz.ntmps65
  go_wp2
  go_ret2
  exact ⟨rfl, rfl⟩

set_option maxHeartbeats 400000 in
theorem word_ok {w : World} {pa wb : Nat} {ws : List Nat} (h : Arena w pa wb ws) (i : Nat) (hi : i < ws.length) :
    Calls Tryz.prog 65 #[.pointer (some ⟨pa, 0, none⟩), .int .i64 i] w fun e w' => e = .returned (.tuple #[.pointer (some ⟨wb, i, none⟩), .nilIface]) ∧ w = w' := by
  obtain ⟨c, k, a, o, n, d, hc⟩ := h.hd
  have c0 := hc.cell 0
  simp only [List.getElem?_cons_zero] at c0
  have g0 : decide ((i : Int) < 0) = false := by simp
  have g1 : decide ((ws.length : Int) ≤ (i : Int)) = false := by simp; omega
  have g2 : (i : Int) < (ws.length : Int) := by omega
  clear hc h
  generalize ws.length = len at *
  have en := fun w => Lib.run_eql_slice_nil (P := Tryz.prog) w 31 41 (some ⟨wb, 0, none⟩) len len 0 0 Tryz.underlying31
  simp only [Option.isNone_some] at en
  go_enter Tryz.func65, Tryz.ntmps65
  go_wp2
  go_ret2
  exact ⟨rfl, rfl⟩

/-- The arena's struct, its words' slice kept open. -/
def ArenaHd (w : World) (pa : Nat) (s : Value) : Prop :=
  ∃ (c k a o n : Int) (d : Bool), Cells w pa [s, .int .i64 c, .int .i64 k, .int .i64 a, .int .u64 o, .int .u64 n, .bool d] 177

theorem ArenaHd.set1 {w : World} {pa : Nat} {s : Value} (h : ArenaHd w pa s) (c' : Int) : ArenaHd (w.setCell ⟨pa, 1, none⟩ (.int .i64 c')) pa s := by
  obtain ⟨c, k, a, o, n, d, h⟩ := h
  exact ⟨c', k, a, o, n, d, h.set 1 _⟩
theorem ArenaHd.set2 {w : World} {pa : Nat} {s : Value} (h : ArenaHd w pa s) (c' : Int) : ArenaHd (w.setCell ⟨pa, 2, none⟩ (.int .i64 c')) pa s := by
  obtain ⟨c, k, a, o, n, d, h⟩ := h
  exact ⟨c, c', a, o, n, d, h.set 2 _⟩
theorem ArenaHd.set3 {w : World} {pa : Nat} {s : Value} (h : ArenaHd w pa s) (c' : Int) : ArenaHd (w.setCell ⟨pa, 3, none⟩ (.int .i64 c')) pa s := by
  obtain ⟨c, k, a, o, n, d, h⟩ := h
  exact ⟨c, k, c', o, n, d, h.set 3 _⟩
theorem ArenaHd.set4 {w : World} {pa : Nat} {s : Value} (h : ArenaHd w pa s) (c' : Int) : ArenaHd (w.setCell ⟨pa, 4, none⟩ (.int .u64 c')) pa s := by
  obtain ⟨c, k, a, o, n, d, h⟩ := h
  exact ⟨c, k, a, c', n, d, h.set 4 _⟩
theorem ArenaHd.set5 {w : World} {pa : Nat} {s : Value} (h : ArenaHd w pa s) (c' : Int) : ArenaHd (w.setCell ⟨pa, 5, none⟩ (.int .u64 c')) pa s := by
  obtain ⟨c, k, a, o, n, d, h⟩ := h
  exact ⟨c, k, a, o, c', d, h.set 5 _⟩
theorem ArenaHd.set6 {w : World} {pa : Nat} {s : Value} (h : ArenaHd w pa s) (c' : Bool) : ArenaHd (w.setCell ⟨pa, 6, none⟩ (.bool c')) pa s := by
  obtain ⟨c, k, a, o, n, d, h⟩ := h
  exact ⟨c, k, a, o, n, c', h.set 6 _⟩
theorem ArenaHd.alloc {w : World} {pa : Nat} {s : Value} (h : ArenaHd w pa s) (o : Obj) : ArenaHd (w.alloc o) pa s := by
  obtain ⟨c, k, a, o', n, d, h⟩ := h
  exact ⟨c, k, a, o', n, d, h.alloc _⟩
theorem ArenaHd.drew {w : World} {pa : Nat} {s : Value} (h : ArenaHd w pa s) : ArenaHd w.drew pa s := h

set_option maxHeartbeats 1000000 in
theorem note_any {w : World} {pa : Nat} {s : Value} (h : ArenaHd w pa s) (k at' o n : Int) (d : Bool) (hk : k = 1 ∨ k = 2 ∨ k = 3) :
    Calls Tryz.prog 66 #[.pointer (some ⟨pa, 0, none⟩), .agg #[.int .i64 k, .int .i64 at', .int .u64 o, .int .u64 n, .bool d]] w fun e w' => e = .returned (.tuple #[]) ∧ ArenaHd w' pa s ∧ Kept (fun b => b = pa) w w' := by
  have HC := Lib.hid h
  obtain ⟨c0, k0, a0, o0, n0, d0, hc⟩ := h
  have q1 := hc.cell
  have f1 := hc.free
  have hlt := hc.lt
  clear hc
  rcases hk with rfl | rfl | rfl
  all_goals
    go_enter Tryz.func66, Tryz.ntmps66
    go_wp2
    go_end0
    exact ⟨rfl, (by repeat (first | with_reducible refine ArenaHd.alloc ?_ _ | with_reducible refine ArenaHd.drew ?_ | with_reducible refine ArenaHd.set1 ?_ _ | with_reducible refine ArenaHd.set2 ?_ _ | with_reducible refine ArenaHd.set3 ?_ _ | with_reducible refine ArenaHd.set4 ?_ _ | with_reducible refine ArenaHd.set5 ?_ _ | with_reducible refine ArenaHd.set6 ?_ _ | with_reducible exact HC.out)), (by repeat (first | with_reducible exact Kept.refl _ _ | with_reducible refine Kept.alloc ?_ _ | with_reducible refine Kept.drew ?_ | with_reducible refine Kept.drewN ?_ _ | with_reducible refine Kept.setCell ?_ (fun hlt' => by first | rfl | (simp; done) | (simp at hlt'; omega)) _))⟩

theorem Arena.head {w : World} {pa wb : Nat} {ws : List Nat} (h : Arena w pa wb ws) : ArenaHd w pa (.slice (some ⟨wb, 0, none⟩) ws.length ws.length) := h.hd

/-- What stays of an arena behind an access. -/
theorem Arena.again {w w' : World} {pa wb : Nat} {ws : List Nat} (h : Arena w pa wb ws) (hd : ArenaHd w' pa (.slice (some ⟨wb, 0, none⟩) ws.length ws.length)) (k : Kept (fun b => b = pa) w w') : Arena w' pa wb ws :=
  ⟨hd, h.row.kept k (fun e => h.ne e.symm), h.ne, h.pos, h.few, h.fit⟩

theorem cell_kept {S : Nat → Prop} {w w' : World} {b i : Nat} {v : Value} (h : w.cell? ⟨b, i, none⟩ = some v) (k : Kept S w w') (hs : ¬ S b) : w'.cell? ⟨b, i, none⟩ = some v :=
  (World.cell?_of_block (a := ⟨b, i, none⟩) (k.block b (World.block_lt_of_cell? _ _ h) hs)).trans h
theorem Arena.put {w : World} {pa wb : Nat} {ws : List Nat} (h : Arena w pa wb ws) (i x : Nat) (hx : x < 18446744073709551616) : Arena (w.setCell ⟨wb, i, none⟩ (.int .u64 x)) pa wb (ws.set i x) := by
  obtain ⟨c, k, a, o, n, d, hc⟩ := h.hd
  refine ⟨⟨c, k, a, o, n, d, by rw [List.length_set]; exact hc.set_other h.ne _⟩, by rw [List.map_set]; exact h.row.set i _, h.ne, by rw [List.length_set]; exact h.pos, by rw [List.length_set]; exact h.few, ?_⟩
  intro y hy
  rcases List.mem_or_eq_of_mem_set hy with h' | h'
  · exact h.fit y h'
  · rw [h']; exact hx

theorem Arena.at {w : World} {pa wb : Nat} {ws : List Nat} (h : Arena w pa wb ws) (i : Nat) (hi : i < ws.length) : w.cell? ⟨wb, i, none⟩ = some (.int .u64 (ws.getD i 0 : Nat)) := by
  rw [h.row.cell i]; simp [hi]

set_option maxHeartbeats 1000000 in
theorem arena_load {w : World} {pa wb : Nat} {ws : List Nat} (h : Arena w pa wb ws) (i : Nat) (hi : i < ws.length) :
    Calls Tryz.prog 38 #[.pointer (some ⟨pa, 0, none⟩), .int .i64 i] w fun e w' => e = .returned (.tuple #[.int .u64 (ws.getD i 0 : Nat), .nilIface]) ∧ Arena w' pa wb ws ∧ Kept (fun b => b = pa) w w' := by
  have HW := Lib.hid (word_ok h i hi)
  have q := h.at i hi
  have H := Lib.hid h
  clear h
  generalize ws.getD i 0 = x at *
  go_enter Tryz.func38, Tryz.ntmps38
  go_wp2_with (go_at_call 65; refine HW.out.mono ?_; rintro e w' ⟨rfl, rfl⟩)
  refine (note_any H.out.head _ _ _ _ _ (Or.inl rfl)).mono ?_
  rintro e w1 ⟨rfl, hh, hk⟩
  have A1 := H.out.again hh hk
  have q1 := cell_kept q hk (fun e => H.out.ne e.symm)
  clear hh q
  go_wp2
  go_ret2
  exact ⟨rfl, A1, hk⟩

set_option maxHeartbeats 1000000 in
theorem arena_store {w : World} {pa wb : Nat} {ws : List Nat} (h : Arena w pa wb ws) (i : Nat) (hi : i < ws.length) (x : Nat) (hx : x < 18446744073709551616) :
    Calls Tryz.prog 119 #[.pointer (some ⟨pa, 0, none⟩), .int .i64 i, .int .u64 x] w fun e w' => e = .returned .nilIface ∧ Arena w' pa wb (ws.set i x) ∧ Kept (fun b => b = pa ∨ b = wb) w w' := by
  have HW := Lib.hid (word_ok h i hi)
  have q := h.at i hi
  have H := Lib.hid h
  have hx' := Lib.hid hx
  clear h hx
  generalize hy : ws.getD i 0 = y at *
  clear hy
  go_enter Tryz.func119, Tryz.ntmps119
  go_wp2_with (go_at_call 65; refine HW.out.mono ?_; rintro e w' ⟨rfl, rfl⟩)
  refine (note_any H.out.head _ _ _ _ _ (Or.inr (Or.inl rfl))).mono ?_
  rintro e w1 ⟨rfl, hh, hk⟩
  have A1 := H.out.again hh hk
  have q1 := cell_kept q hk (fun e => H.out.ne e.symm)
  have f1 := A1.row.free
  clear hh q
  go_wp2
  go_ret
  exact ⟨rfl, A1.put i x hx'.out, (hk.mono fun j _ hj => Or.inl hj).then (T := fun b => b = wb) (by repeat (first | with_reducible exact Kept.refl _ _ | with_reducible refine Kept.alloc ?_ _ | with_reducible refine Kept.drew ?_ | with_reducible refine Kept.drewN ?_ _ | with_reducible refine Kept.setCell ?_ (fun hlt' => by first | rfl | (simp; done) | (simp at hlt'; omega)) _)) (fun j _ hj => Or.inr hj)⟩

set_option maxHeartbeats 1000000 in
theorem arena_cas {w : World} {pa wb : Nat} {ws : List Nat} (h : Arena w pa wb ws) (i : Nat) (hi : i < ws.length) (old x : Nat) (hx : x < 18446744073709551616) :
    Calls Tryz.prog 145 #[.pointer (some ⟨pa, 0, none⟩), .int .i64 i, .int .u64 old, .int .u64 x] w fun e w' => e = .returned (.tuple #[.bool (decide (ws.getD i 0 = old)), .nilIface]) ∧ Arena w' pa wb (if ws.getD i 0 = old then ws.set i x else ws) ∧ Kept (fun b => b = pa ∨ b = wb) w w' := by
  have HW := Lib.hid (word_ok h i hi)
  have q := h.at i hi
  have f1 := h.row.free
  have H := Lib.hid h
  have HX := Lib.hid hx
  clear h hx
  generalize ws.getD i 0 = y at *
  by_cases hy : y = old
  · subst hy
    have A1 := Lib.hid (H.out.put i x HX.out)
    simp only [if_true, decide_true]
    go_enter Tryz.func145, Tryz.ntmps145
    go_wp2_with (go_at_call 65; refine HW.out.mono ?_; rintro e w' ⟨rfl, rfl⟩)
    have hh := A1.out.head
    rw [List.length_set] at hh
    refine (note_any hh _ _ _ _ _ (Or.inr (Or.inr rfl))).mono ?_
    rintro e w1 ⟨rfl, hh1, hk⟩
    have A2 := A1.out.again (by rw [List.length_set]; exact hh1) hk
    clear hh hh1
    go_wp2
    go_ret2
    exact ⟨rfl, A2, (Kept.setCell (Kept.refl _ _) (fun _ => Or.inr rfl) _).then hk (fun j _ hj => Or.inl hj)⟩
  · have g1 : ((y : Int) == (old : Int)) = false := by rw [beq_eq_false_iff_ne]; omega
    have g2 : (y == old) = false := by rw [beq_eq_false_iff_ne]; omega
    simp only [hy, if_false, decide_false]
    clear hy
    go_enter Tryz.func145, Tryz.ntmps145
    go_wp2_with (go_at_call 65; refine HW.out.mono ?_; rintro e w' ⟨rfl, rfl⟩)
    refine (note_any H.out.head _ _ _ _ _ (Or.inr (Or.inr rfl))).mono ?_
    rintro e w1 ⟨rfl, hh, hk⟩
    have A1 := H.out.again hh hk
    clear hh q f1
    go_wp2
    go_ret2
    exact ⟨rfl, A1, hk.mono fun j _ hj => Or.inl hj⟩

set_option maxHeartbeats 400000 in
theorem arena_len {w : World} {pa wb : Nat} {ws : List Nat} (h : Arena w pa wb ws) :
    Calls Tryz.prog 95 #[.pointer (some ⟨pa, 0, none⟩)] w fun e w' => e = .returned (.int .i64 ws.length) ∧ w = w' := by
  have HW := Lib.hid (word_ok h 0 h.pos)
  obtain ⟨c, k, a, o, n, d, hc⟩ := h.hd
  have q := hc.cell 0
  simp only [List.getElem?_cons_zero] at q
  clear hc h
  go_enter Tryz.func95, Tryz.ntmps95
  go_wp2_with (first | (go_at_call 65; refine HW.out.mono ?_; rintro e w' ⟨rfl, rfl⟩) | (go_at_call 39; refine (is_none _ _).mono ?_; rintro e w' ⟨rfl, rfl⟩))
  go_ret
  exact ⟨rfl, rfl⟩

set_option maxHeartbeats 400000 in
theorem arena_len_nil (w : World) :
    Calls Tryz.prog 95 #[.pointer none] w fun e w' => e = .returned (.int .i64 0) ∧ w = w' := by
  go_enter Tryz.func95, Tryz.ntmps95
  go_wp2_with (first | (go_at_call 65; refine (word_nil _ _).mono ?_; rintro e w' ⟨rfl, rfl⟩) | (go_at_call 39; refine (is_errno _ _ _).mono ?_; rintro e w' ⟨rfl, rfl⟩))
  go_ret
  exact ⟨rfl, rfl⟩

/-- What New leaves: an arena of n words, all 0. -/
def NewArena (n : Nat) (w : World) (e : Ending) (w' : World) : Prop :=
  ∃ pa wb, e = .returned (.tuple #[.pointer (some ⟨pa, 0, none⟩), .nilIface]) ∧ Arena w' pa wb (List.replicate n 0) ∧ w.heap.size ≤ pa ∧ w.heap.size ≤ wb ∧ Below w.heap.size w w'
theorem u64info : (Tryz.prog.info? 41).map (fun i => (i.zero, i.size, i.bytes)) = some (some (.int .u64 0), 1, 8) := by kernel_rfl

set_option maxHeartbeats 400000 in
theorem arena_new (n : Nat) (h1 : 1 ≤ n) (h2 : n ≤ 16384) (w : World) :
    Calls Tryz.prog 69 #[.int .i64 n] w (NewArena n w) := by
  have hmk := run_make_row' (P := Tryz.prog) 31 41 (.int .u64 0) 8 Tryz.underlying31 u64info rfl .i64 .i64 n (by omega) (by omega)
  have hmc := toList_madeCells_one (.int .u64 0) n
  generalize madeCells #[.int .u64 0] n = mc at *
  obtain ⟨ml⟩ := mc
  have HM := Lib.hid hmc; clear hmc
  have g1 : decide ((n : Int) < 1) = false := by simp; omega
  have g2 : decide (16384 < (n : Int)) = false := by simp; omega
  have H1 := Lib.hid h1; have H2 := Lib.hid h2
  clear h1 h2
  go_enter Tryz.func69, Tryz.ntmps69
  go_wp2
  go_ret2
  refine ⟨w.heap.size + 1, w.heap.size, rfl, ?_, by omega, by omega, ((Below.refl _ _).alloc (Nat.le_refl _) _).alloc (by simp) _⟩
  have e : ml = List.replicate n (.int .u64 0) := HM.out
  refine ⟨⟨0, 0, 0, 0, 0, false, ?_⟩, ?_, by omega, by have := H1.out; simp; omega, by simpa using H2.out, by simp⟩
  · rw [List.length_replicate]
    have := Cells.new (w.alloc (.cells ⟨ml⟩ 41)) [.slice (some ⟨w.heap.size, 0, none⟩) n n, .int .i64 0, .int .i64 0, .int .i64 0, .int .u64 0, .int .u64 0, .bool false] 177
    rwa [World.size_alloc] at this
  · rw [List.map_replicate]
    exact (Cells.cast (Cells.new w ml 41) e).alloc _
end Go.Proofs.YtmdganpealbmpaaGreatDoor
