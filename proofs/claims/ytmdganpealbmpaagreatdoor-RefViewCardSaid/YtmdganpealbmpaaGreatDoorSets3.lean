/- Sets3: Sets, Sets2, Sets3. -/
import Derived.Test.YtmdganpealbmpaaGreatDoorMeta4
import Derived.Test.YtmdganpealbmpaaGreatDoorSetsLook
import Derived.Maps.AppendAt
import Derived.WalkSpells
import Derived.StillTailTactics

/- Layer 7 (sets): sets in memory; New, Get, Version, Read, Write. -/
namespace Go.Proofs.YtmdganpealbmpaaGreatDoor
open Go.RowKit Bl Th
set_option maxRecDepth 10000

def encSeen (x : Nat × Int) : List Value := [.int .u64 (x.1 : Int), .int .i64 x.2]
def encUndo (u : Undo) : List Value := [.int .u64 (u.cell : Int), .int .u64 (u.value : Int), .bool u.was]
def encNat (n : Nat) : List Value := [.int .i64 (n : Int)]

/-- Sets lie in memory so: the slices, the maps, their entries. -/
structure SetsLies (W : World) (ps : Nat) (s : Sets) (rv lv mv : Value) (ba bw : Nat) (ea ew : List Ent) (ca cw : Nat) (w : World) : Prop where
  main : Cells w ps [rv, .map (some ba), .map (some bw), lv, mv] 198
  reads : w.ownsRow W.heap.size 164 2 rv s.reads.length (s.reads.flatMap encSeen)
  log : w.ownsRow W.heap.size 217 3 lv s.log.length (s.log.flatMap encUndo)
  marks : w.ownsRow W.heap.size 3 1 mv s.marks.length (s.marks.flatMap encNat)
  at' : MapAt w ba .u64 ea ca
  wr : MapAt w bw .u64 ew cw
  atLook : ∀ k : Nat, look (k : Int) ea = (at? k s.reads 0).map fun i => .int .i64 (i : Int)
  wm : WMap s.writes ew cw
  fitR : ∀ x ∈ s.reads, x.1 < 18446744073709551616
  fitW : ∀ x ∈ s.writes, x.1 < 18446744073709551616 ∧ x.2 < 18446744073709551616
  fitL : ∀ x ∈ s.log, x.cell < 18446744073709551616 ∧ x.value < 18446744073709551616
  fewR : s.reads.length ≤ 500
  fewW : s.writes.length ≤ 500
  fewM : s.marks.length ≤ 20
  new : W.heap.size ≤ ps ∧ W.heap.size ≤ ba ∧ W.heap.size ≤ bw
  nodup : (ps :: ba :: bw :: (rv.ownBlock.toList ++ (lv.ownBlock.toList ++ mv.ownBlock.toList))).Nodup
/-- Sets in some blocks. -/
def SetsAt (W : World) (ps : Nat) (s : Sets) (B : List Nat) (w : World) : Prop :=
  ∃ rv lv mv ba bw ea ew ca cw, B = ps :: ba :: bw :: (rv.ownBlock.toList ++ (lv.ownBlock.toList ++ mv.ownBlock.toList)) ∧ SetsLies W ps s rv lv mv ba bw ea ew ca cw w

theorem MapAt.heldBy {R : List Nat} {w w' : World} {b : Nat} {kd : IntKind} {es : List Ent} {c : Nat} (h : MapAt w b kd es c) (k : HeldBy R w w') (hb : b ∈ R) : MapAt w' b kd es c := (k.2 b hb).trans h
theorem SetsAt.heldBy {W : World} {ps : Nat} {s : Sets} {B R : List Nat} {w w' : World} (h : SetsAt W ps s B w) (k : HeldBy R w w') (hs : ∀ b ∈ B, b ∈ R) : SetsAt W ps s B w' := by
  obtain ⟨rv, lv, mv, ba, bw, ea, ew, ca, cw, rfl, h⟩ := h
  refine ⟨rv, lv, mv, ba, bw, ea, ew, ca, cw, rfl, { h with main := h.main.heldBy k (hs ps (by simp)), reads := ownsRow_heldBy h.reads k (fun b hb => hs b (by simp [hb])), log := ownsRow_heldBy h.log k (fun b hb => hs b (by simp [hb])), marks := ownsRow_heldBy h.marks k (fun b hb => hs b (by simp [hb])), at' := h.at'.heldBy k (hs ba (by simp)), wr := h.wr.heldBy k (hs bw (by simp)) }⟩
theorem SetsAt.lt {W : World} {ps : Nat} {s : Sets} {B : List Nat} {w : World} (h : SetsAt W ps s B w) : ∀ b ∈ B, b < w.heap.size := by
  obtain ⟨rv, lv, mv, ba, bw, ea, ew, ca, cw, rfl, h⟩ := h
  have row {e : TypeId} {z : Nat} {v : Value} {n : Nat} {xs : List Value} (hr : w.ownsRow W.heap.size e z v n xs) : ∀ b ∈ v.ownBlock.toList, b < w.heap.size := fun b hb => (hr.lt b (by simpa using hb)).2
  intro b hb
  simp only [List.mem_cons, List.mem_append] at hb
  rcases hb with e | e | e | e | e | e
  · exact e ▸ h.main.lt
  · exact e ▸ h.at'.lt
  · exact e ▸ h.wr.lt
  · exact row h.reads b e
  · exact row h.log b e
  · exact row h.marks b e
theorem SetsAt.new {W : World} {ps : Nat} {s : Sets} {B : List Nat} {w : World} (h : SetsAt W ps s B w) : ∀ b ∈ B, W.heap.size ≤ b := by
  obtain ⟨rv, lv, mv, ba, bw, ea, ew, ca, cw, rfl, h⟩ := h
  have row {e : TypeId} {z : Nat} {v : Value} {n : Nat} {xs : List Value} (hr : w.ownsRow W.heap.size e z v n xs) : ∀ b ∈ v.ownBlock.toList, W.heap.size ≤ b := fun b hb => (hr.lt b (by simpa using hb)).1
  intro b hb
  simp only [List.mem_cons, List.mem_append] at hb
  rcases hb with e | e | e | e | e | e
  · exact e ▸ h.new.1
  · exact e ▸ h.new.2.1
  · exact e ▸ h.new.2.2
  · exact row h.reads b e
  · exact row h.log b e
  · exact row h.marks b e
/-- What a call of something with blocks of its own leaves of all else. -/
theorem Ctx.objs {W : World} {R B B' : List Nat} {pa pb pc : Nat} {c : CS} {w w' : World} (hc : Ctx W (B ++ R) pa pb pc c w) (k : Kept (fun b => b ∈ B) w w') (hB : ∀ b ∈ B, W.heap.size ≤ b) (hR : ∀ b ∈ B, b ∉ R) (hB' : ∀ b ∈ B', (b ∈ B ∨ w.heap.size ≤ b) ∧ b < w'.heap.size) : Ctx W (B' ++ R) pa pb pc c w' ∧ HeldBy R w w' := by
  refine ⟨hc.step (k.mono fun b _ e => by simp [e]) (hc.below.trans (k.below hc.below.size fun b hb e => by have := hB b e; omega)) fun b hb => ?_, ⟨k.size, fun b hb => k.block b (hc.heldR b (by simp [hb])) fun e => hR b e hb⟩⟩
  rcases List.mem_append.1 hb with e | e
  · rcases hB' b e with ⟨q | q, hl⟩
    · exact ⟨.inl (by simp [q]), hl⟩
    · exact ⟨.inr q, hl⟩
  · exact ⟨.inl (by simp [e]), Nat.lt_of_lt_of_le (hc.heldR b (by simp [e])) k.size⟩

theorem five {w : World} {b : Nat} {t : TypeId} {a0 a1 a2 a3 a4 : Value} (h : Cells w b [a0, a1, a2, a3, a4] t) :
    w.cell? ⟨b, 0, none⟩ = some a0 ∧ w.cell? ⟨b, 1, none⟩ = some a1 ∧ w.cell? ⟨b, 2, none⟩ = some a2 ∧ w.cell? ⟨b, 3, none⟩ = some a3 ∧ w.cell? ⟨b, 4, none⟩ = some a4 ∧
    w.frozen? ⟨b, 0, none⟩ = false ∧ w.frozen? ⟨b, 1, none⟩ = false ∧ w.frozen? ⟨b, 2, none⟩ = false ∧ w.frozen? ⟨b, 3, none⟩ = false ∧ w.frozen? ⟨b, 4, none⟩ = false :=
  ⟨h.cell 0, h.cell 1, h.cell 2, h.cell 3, h.cell 4, h.free 0, h.free 1, h.free 2, h.free 3, h.free 4⟩

theorem zeroInt (w : World) : (zeroValue 3).run Tryz.prog w = .ok (.int .i64 0) w := by kernel_rfl
theorem zeroU64 (w : World) : (zeroValue 41).run Tryz.prog w = .ok (.int .u64 0) w := by kernel_rfl

theorem smade_nil (w : World) : Calls Tryz.prog 101 #[.pointer none] w fun e w' => e = .returned (.bool false) ∧ w = w' := by
  go_enter Tryz.func101, Tryz.ntmps101
  go_wp2
  go_ret
  exact ⟨rfl, rfl⟩
theorem smade_ok {W : World} {ps : Nat} {s : Sets} {B : List Nat} {w : World} (h : SetsAt W ps s B w) : Calls Tryz.prog 101 #[.pointer (some ⟨ps, 0, none⟩)] w fun e w' => e = .returned (.bool true) ∧ w = w' := by
  obtain ⟨rv, lv, mv, ba, bw, ea, ew, ca, cw, rfl, h⟩ := h
  obtain ⟨p0, p1, p2, p3, p4, -⟩ := five h.main
  have hn := fun w => run_neq_map_nil (P := Tryz.prog) w 194 41 3 (some ba) Tryz.underlying194
  simp only [Option.isNone_some, Bool.not_false] at hn
  clear h
  go_enter Tryz.func101, Tryz.ntmps101
  go_wp2
  go_ret
  exact ⟨rfl, rfl⟩

/-- Get. -/
theorem sget_ok {W : World} {ps : Nat} {s : Sets} {B : List Nat} {w : World} (h : SetsAt W ps s B w) (cell : Nat) : Calls Tryz.prog 84 #[.pointer (some ⟨ps, 0, none⟩), .int .u64 (cell : Int)] w fun e w' => e = .returned (.tuple #[.int .u64 (((wget cell s.writes).getD 0 : Nat) : Int), .bool (wget cell s.writes).isSome]) ∧ w = w' := by
  have HM := Lib.hid (smade_ok h)
  obtain ⟨rv, lv, mv, ba, bw, ea, ew, ca, cw, rfl, h⟩ := h
  obtain ⟨p0, p1, p2, p3, p4, -⟩ := five h.main
  have hl := run_lookup_ok (P := Tryz.prog) h.wr Tryz.underlying195 Tryz.underlying41 zeroU64 (cell : Int)
  rw [h.wm.look] at hl
  clear h
  cases hw : wget cell s.writes with
  | none =>
    rw [hw] at hl
    simp only [Option.map_none, Option.getD_none, Option.isSome_none] at hl
    clear hw
    go_enter Tryz.func84, Tryz.ntmps84
    go_wp2_with (go_at_call 101; refine HM.out.mono ?_; rintro e w' ⟨rfl, rfl⟩)
    go_ret2
    exact ⟨rfl, rfl⟩
  | some v =>
    rw [hw] at hl
    simp only [Option.map_some, Option.getD_some, Option.isSome_some] at hl
    clear hw
    go_enter Tryz.func84, Tryz.ntmps84
    go_wp2_with (go_at_call 101; refine HM.out.mono ?_; rintro e w' ⟨rfl, rfl⟩)
    go_ret2
    exact ⟨rfl, rfl⟩

theorem at_spec (k : Nat) : ∀ (l : List (Nat × Int)) (i j : Nat), at? k l i = some j → i ≤ j ∧ ∃ v, l[j - i]? = some (k, v)
  | [], i, j, h => by simp [at?] at h
  | x :: l, i, j, h => by
    unfold at? at h
    split at h
    · rename_i e
      simp only [Option.some.injEq] at h
      subst h
      exact ⟨Nat.le_refl _, x.2, by simp [e]⟩
    · obtain ⟨h1, v, h2⟩ := at_spec k l (i + 1) j h
      exact ⟨by omega, v, by rw [show j - i = (j - (i + 1)) + 1 by omega]; simpa using h2⟩
theorem flat2_at (l : List (Nat × Int)) (k : Nat) (x : Nat × Int) (hx : l[k]? = some x) : ∀ j, j < 2 → (l.flatMap encSeen)[k * 2 + j]? = (encSeen x)[j]? := by
  induction l generalizing k with
  | nil => simp at hx
  | cons y l ih =>
    intro j hj
    have hy : (encSeen y).length = 2 := rfl
    cases k with
    | zero =>
      simp only [List.getElem?_cons_zero, Option.some.injEq] at hx
      subst hx
      rw [List.flatMap_cons, List.getElem?_append_left (by omega)]
      simp
    | succ k =>
      simp only [List.getElem?_cons_succ] at hx
      rw [List.flatMap_cons, List.getElem?_append_right (by omega), ← ih k hx j hj]
      congr 1
      omega
/-- The cells of a thing that was read. -/
theorem SetsLies.seen {W : World} {ps : Nat} {s : Sets} {rv lv mv : Value} {ba bw : Nat} {ea ew : List Ent} {ca cw : Nat} {w : World} (h : SetsLies W ps s rv lv mv ba bw ea ew ca cw w) {k : Nat} {x : Nat × Int} (hx : s.reads[k]? = some x) :
    ∃ g cap, rv = .slice (some ⟨g, 0, none⟩) s.reads.length cap ∧ w.cell? ⟨g, k * 2, none⟩ = some (.int .u64 (x.1 : Int)) ∧ w.cell? ⟨g, k * 2 + 1, none⟩ = some (.int .i64 x.2) := by
  have hk : k < s.reads.length := (List.getElem?_eq_some_iff.1 hx).1
  rcases h.reads.2 with ⟨_, h0⟩ | ⟨g, cap, cur, rfl, hb, hg, hn, hm, hc, ht⟩
  · omega
  · have key : ∀ j, j < 2 → w.cell? ⟨g, k * 2 + j, none⟩ = (encSeen x)[j]? := fun j hj => by
      rw [← flat2_at s.reads k x hx j hj, ← ht, cell_of_row w g (k * 2 + j) cur 164 (0, 0) hg, List.getElem?_take, if_pos (by omega)]
      simp
    exact ⟨g, cap, rfl, key 0 (by omega), key 1 (by omega)⟩

/-- Version. -/
theorem sversion_ok {W : World} {ps : Nat} {s : Sets} {B : List Nat} {w : World} (h : SetsAt W ps s B w) (cell : Nat) : Calls Tryz.prog 106 #[.pointer (some ⟨ps, 0, none⟩), .int .u64 (cell : Int)] w fun e w' => e = .returned (.tuple #[.int .i64 ((s.version cell).getD 0), .bool (s.version cell).isSome]) ∧ w = w' := by
  have HM := Lib.hid (smade_ok h)
  obtain ⟨rv, lv, mv, ba, bw, ea, ew, ca, cw, rfl, h⟩ := h
  obtain ⟨p0, p1, p2, p3, p4, -⟩ := five h.main
  have hl := run_lookup_ok (P := Tryz.prog) h.at' Tryz.underlying194 Tryz.underlying41 zeroInt (cell : Int)
  rw [h.atLook] at hl
  unfold Sets.version
  cases ha : at? cell s.reads 0 with
  | none =>
    rw [ha] at hl
    simp only [Option.map_none, Option.getD_none, Option.isSome_none] at hl ⊢
    clear ha h
    go_enter Tryz.func106, Tryz.ntmps106
    go_wp2_with (go_at_call 101; refine HM.out.mono ?_; rintro e w' ⟨rfl, rfl⟩)
    go_ret2
    exact ⟨rfl, rfl⟩
  | some i =>
    obtain ⟨-, v, hv⟩ := at_spec cell s.reads 0 i ha
    simp only [Nat.sub_zero] at hv
    have hi : i < s.reads.length := (List.getElem?_eq_some_iff.1 hv).1
    have hfew := h.fewR
    obtain ⟨g, cap, rfl, -, q1⟩ := h.seen hv
    have hval : (s.reads.map (·.2)).getD i 0 = v := by simp [List.getD_eq_getElem?_getD, List.getElem?_map, hv]
    have HV := Lib.hid hval
    rw [ha] at hl
    simp only [Option.map_some, Option.getD_some, Option.isSome_some] at hl ⊢
    generalize s.reads.length = len at *
    clear ha h hv hval
    go_enter Tryz.func106, Tryz.ntmps106
    go_wp2_with (go_at_call 101; refine HM.out.mono ?_; rintro e w' ⟨rfl, rfl⟩)
    go_ret2
    exact ⟨by rw [HV.out]; rfl, rfl⟩
end Go.Proofs.YtmdganpealbmpaaGreatDoor

/- Layer 7 (sets): New, Read, Write. -/
namespace Go.Proofs.YtmdganpealbmpaaGreatDoor
open Go.RowKit Bl Th
set_option maxRecDepth 10000

theorem snew_ok {W : World} {w : World} (hb : Below W.heap.size W w) : Calls Tryz.prog 74 #[] w fun e w' => ∃ ps B, e = .returned (.pointer (some ⟨ps, 0, none⟩)) ∧ SetsAt W ps .empty B w' ∧ Below w.heap.size w w' ∧ ∀ b ∈ B, w.heap.size ≤ b := by
  have hmm := @run_makeMap Tryz.prog
  have HB := Lib.hid hb
  have HE := Lib.hid (show ∃ ps B, Ending.returned (.pointer (some ⟨w.heap.size + 1 + 1, 0, none⟩)) = .returned (.pointer (some ⟨ps, 0, none⟩)) ∧ SetsAt W ps .empty B (((w.alloc (.map #[] 0)).alloc (.map #[] 0)).alloc (.cells #[.slice none 0 0, .map (some w.heap.size), .map (some (w.heap.size + 1)), .slice none 0 0, .slice none 0 0] 198)) ∧ Below w.heap.size w (((w.alloc (.map #[] 0)).alloc (.map #[] 0)).alloc (.cells #[.slice none 0 0, .map (some w.heap.size), .map (some (w.heap.size + 1)), .slice none 0 0, .slice none 0 0] 198)) ∧ ∀ b ∈ B, w.heap.size ≤ b from by
    have hs := hb.size
    have m0 := ((MapAt.new w .u64).alloc (.map #[] 0)).alloc (.cells #[.slice none 0 0, .map (some w.heap.size), .map (some (w.heap.size + 1)), .slice none 0 0, .slice none 0 0] 198)
    have m1 := (MapAt.new (w.alloc (.map #[] 0)) .u64).alloc (.cells #[.slice none 0 0, .map (some w.heap.size), .map (some (w.heap.size + 1)), .slice none 0 0, .slice none 0 0] 198)
    have c2 := Cells.new ((w.alloc (.map #[] 0)).alloc (.map #[] 0)) [.slice none 0 0, .map (some w.heap.size), .map (some (w.heap.size + 1)), .slice none 0 0, .slice none 0 0] 198
    simp only [World.size_alloc] at m1 c2
    refine ⟨w.heap.size + 1 + 1, _, rfl, ⟨.slice none 0 0, .slice none 0 0, .slice none 0 0, w.heap.size, w.heap.size + 1, [], [], 0, 0, rfl, ⟨c2, World.ownsRow_nil _ _ _ _, World.ownsRow_nil _ _ _ _, World.ownsRow_nil _ _ _ _, m0, m1, fun _ => rfl, .empty, by simp [Sets.empty], by simp [Sets.empty], by simp [Sets.empty], by simp [Sets.empty], by simp [Sets.empty], by simp [Sets.empty], ⟨by omega, by omega, by omega⟩, by simp [Value.ownBlock]; omega⟩⟩, (((Below.refl _ _).alloc (Nat.le_refl _) _).alloc (by simp) _).alloc (by simp; omega) _, ?_⟩
    intro b hb'
    simp [Value.ownBlock] at hb'
    omega)
  clear hb
  go_enter Tryz.func74, Tryz.ntmps74
  go_wp2
  go_ret
  exact HE.out

/-- What a call of sets leaves: an error, the sets, and what changed. -/
def SetsPost (W : World) (ps : Nat) (B : List Nat) (w : World) (n : Nat) (s : Sets) (e : Ending) (w' : World) : Prop :=
  ∃ v E B', e = .returned v ∧ Err w' v n E ∧ SetsAt W ps s B' w' ∧ Kept (fun b => b ∈ B) w w' ∧ (∀ b ∈ B', b ∈ B ∨ w.heap.size ≤ b) ∧ (∀ b ∈ E, w.heap.size ≤ b) ∧ ∀ b ∈ E, b ∉ B'

/-- What is read is noted. -/
theorem sets_noted {W : World} {ps : Nat} {s : Sets} {rv lv mv v' : Value} {ba bw : Nat} {ea ew : List Ent} {ca cw : Nat} {w w' : World} (h : SetsLies W ps s rv lv mv ba bw ea ew ca cw w) {cell : Nat} {ver : Int} (hc : cell < 18446744073709551616) (hn : at? cell s.reads 0 = none) (hf : s.reads.length < 500)
    (hk : Kept (fun b => b = ps ∨ b = ba ∨ some b = rv.ownBlock) w w') (hm : Cells w' ps [v', .map (some ba), .map (some bw), lv, mv] 198) (hr : w'.ownsRow W.heap.size 164 2 v' (s.reads.length + 1) (s.reads.flatMap encSeen ++ encSeen (cell, ver))) (ha : MapAt w' ba .u64 (upd (cell : Int) (.int .i64 (s.reads.length : Int)) ca ea) (updClock (cell : Int) ea ca)) (ho : v'.ownBlock = rv.ownBlock ∨ ∃ b, v'.ownBlock = some b ∧ w.heap.size ≤ b) :
    SetsPost W ps (ps :: ba :: bw :: (rv.ownBlock.toList ++ (lv.ownBlock.toList ++ mv.ownBlock.toList))) w 0 { s with reads := s.reads ++ [(cell, ver)] } (.returned .nilIface) w' := by
  have hnd := h.nodup
  have hlt := (SetsAt.lt (W := W) (ps := ps) (s := s) ⟨rv, lv, mv, ba, bw, ea, ew, ca, cw, rfl, h⟩)
  simp only [List.nodup_cons, List.mem_cons, List.mem_append, not_or] at hnd
  obtain ⟨⟨n1, n2, n3, n4, n5⟩, ⟨n6, n7, n8, n9⟩, ⟨n10, n11, n12⟩, n13⟩ := hnd
  rw [List.nodup_append] at n13
  obtain ⟨_, n14, n15⟩ := n13
  have hnot : ∀ b, b ∈ lv.ownBlock.toList ++ mv.ownBlock.toList → ¬ (b = ps ∨ b = ba ∨ some b = rv.ownBlock) := by
    intro b hb
    rintro (e | e | e)
    · subst e; rcases List.mem_append.1 hb with q | q; exact n4 q; exact n5 q
    · subst e; rcases List.mem_append.1 hb with q | q; exact n8 q; exact n9 q
    · exact n15 b (by simp [← e]) b hb rfl
  have hnew : ∀ b ∈ v'.ownBlock.toList, b ∈ rv.ownBlock.toList ∨ w.heap.size ≤ b := by
    intro b hb
    rcases ho with e | ⟨q, e, hq⟩
    · exact .inl (by rw [← e]; exact hb)
    · rw [e] at hb
      simp only [Option.toList_some, List.mem_singleton] at hb
      exact .inr (hb ▸ hq)
  have hdis : ∀ b ∈ v'.ownBlock.toList, b ≠ ps ∧ b ≠ ba ∧ b ≠ bw ∧ b ∉ lv.ownBlock.toList ++ mv.ownBlock.toList := by
    intro b hb
    rcases hnew b hb with e | e
    · exact ⟨fun q => n3 (q ▸ e), fun q => n7 (q ▸ e), fun q => n10 (q ▸ e), fun q => n15 b e b q rfl⟩
    · refine ⟨fun q => ?_, fun q => ?_, fun q => ?_, fun q => ?_⟩
      · have := hlt ps (by simp); omega
      · have := hlt ba (by simp); omega
      · have := hlt bw (by simp); omega
      · have := hlt b (by rcases List.mem_append.1 q with r | r <;> simp [r]); omega
  refine ⟨.nilIface, [], ps :: ba :: bw :: (v'.ownBlock.toList ++ (lv.ownBlock.toList ++ mv.ownBlock.toList)), rfl, .none, ⟨v', lv, mv, ba, bw, _, ew, _, cw, rfl, ⟨hm, ?_, ?_, ?_, ha, ?_, ?_, h.wm, ?_, h.fitW, h.fitL, ?_, h.fewW, h.fewM, h.new, ?_⟩⟩, ?_, ?_, by simp, by simp⟩
  · simpa using hr
  · exact ownsRow_kept h.log hk fun b hb => hnot b (by simp [hb])
  · exact ownsRow_kept h.marks hk fun b hb => hnot b (by simp [hb])
  · exact h.wr.kept hk (by
      rintro (e | e | e)
      · exact n2 e.symm
      · exact n6 e.symm
      · exact n10 (by simp [← e]))
  · intro k
    simp only
    rw [look_upd, at_append, h.atLook k]
    by_cases e : k = cell
    · subst e; rw [hn]; simp
    · rw [if_neg (by omega), if_neg e]
      cases at? k s.reads 0 <;> rfl
  · intro x hx
    rcases List.mem_append.1 hx with e | e
    · exact h.fitR x e
    · simp only [List.mem_singleton] at e; rw [e]; exact hc
  · simp; omega
  · simp only [List.nodup_cons, List.mem_cons, List.mem_append, not_or]
    refine ⟨⟨n1, n2, fun q => (hdis ps q).1 rfl, n4, n5⟩, ⟨n6, fun q => (hdis ba q).2.1 rfl, n8, n9⟩, ⟨fun q => (hdis bw q).2.2.1 rfl, n11, n12⟩, ?_⟩
    rw [List.nodup_append]
    refine ⟨by cases v'.ownBlock <;> simp, n14, fun a ha' b hb e => (hdis a ha').2.2.2 (e ▸ hb)⟩
  · refine hk.mono fun b _ e => ?_
    rcases e with e | e | e
    · simp [e]
    · simp [e]
    · simp [← e]
  · intro b hb
    simp only [List.mem_cons, List.mem_append] at hb ⊢
    rcases hb with e | e | e | e | e
    · exact .inl (.inl e)
    · exact .inl (.inr (.inl e))
    · exact .inl (.inr (.inr (.inl e)))
    · rcases hnew b e with q | q
      · exact .inl (.inr (.inr (.inr (.inl q))))
      · exact .inr q
    · exact .inl (.inr (.inr (.inr (.inr e))))

theorem seenInfo : (Tryz.prog.info? 164).map (fun i => (i.zero, i.size, i.bytes)) = some (some (.agg #[.int .u64 0, .int .i64 0]), 2, 16) := by kernel_rfl
theorem undoInfo : (Tryz.prog.info? 217).map (fun i => (i.zero, i.size, i.bytes)) = some (some (.agg #[.int .u64 0, .int .u64 0, .bool false]), 3, 24) := by kernel_rfl

/-- A block of new cells, at an address. -/
theorem cells_news (w : World) (cs : List Value) (t : TypeId) : ∀ j u, cs[j]? = some u → (w.alloc (.cells cs.toArray t)).cell? ((⟨w.heap.size, 0, none⟩ : Addr).add j) = some u := by
  intro j u hj
  have h2 := (Cells.new w cs t).cell j
  rw [hj] at h2
  have h3 : (⟨w.heap.size, 0, none⟩ : Addr).add j = ⟨w.heap.size, j, none⟩ := by
    rw [Addr.add_lit, Nat.zero_add]
  rw [h3]
  exact h2

set_option maxHeartbeats 2000000 in
theorem sread_ok {W : World} {ps : Nat} {s : Sets} {B : List Nat} {w : World} (h : SetsAt W ps s B w) {cell : Nat} (hc : cell < 18446744073709551616) (ver : Int) (hW : W.heap.size ≤ w.heap.size) :
    Calls Tryz.prog 92 #[.pointer (some ⟨ps, 0, none⟩), .int .u64 (cell : Int), .int .i64 ver] w (SetsPost W ps B w (s.read cell ver).1 (s.read cell ver).2) := by
  have HM := Lib.hid (smade_ok h)
  have HS := Lib.hid h
  obtain ⟨rv, lv, mv, ba, bw, ea, ew, ca, cw, rfl, h⟩ := h
  obtain ⟨p0, p1, p2, p3, p4, f0, -⟩ := five h.main
  have hl := run_lookup_ok (P := Tryz.prog) h.at' Tryz.underlying194 Tryz.underlying41 zeroInt (cell : Int)
  rw [h.atLook] at hl
  have hsame : ∀ v n E, Err w v n E → E = [] → SetsPost W ps (ps :: ba :: bw :: (rv.ownBlock.toList ++ (lv.ownBlock.toList ++ mv.ownBlock.toList))) w n s (.returned v) w := fun v n E he hE => ⟨v, E, _, rfl, he, HS.out, Kept.refl _ _, fun b hb => .inl hb, by simp [hE], by simp [hE]⟩
  have HSAME := Lib.hid hsame
  clear hsame
  cases ha : at? cell s.reads 0 with
  | some i =>
    obtain ⟨-, v, hv⟩ := at_spec cell s.reads 0 i ha
    simp only [Nat.sub_zero] at hv
    have hi : i < s.reads.length := (List.getElem?_eq_some_iff.1 hv).1
    have hfew := h.fewR
    obtain ⟨g, cap, rfl, -, q1⟩ := h.seen hv
    have hval : (s.reads.map (·.2)).getD i 0 = v := by simp [List.getD_eq_getElem?_getD, List.getElem?_map, hv]
    rw [ha] at hl
    simp only [Option.map_some, Option.getD_some, Option.isSome_some] at hl
    by_cases he : v = ver
    · have hr : s.read cell ver = (0, s) := by unfold Sets.read; rw [ha]; simp only; rw [hval, if_neg (by simp [he])]
      have HR := Lib.hid hr
      have g1 : ((v : Int) != ver) = false := by simp [he]
      generalize s.reads.length = len at *
      clear ha h hv hval he hr
      go_enter Tryz.func92, Tryz.ntmps92
      go_wp2_with (go_at_call 101; refine HM.out.mono ?_; rintro e w' ⟨rfl, rfl⟩)
      go_ret
      rw [HR.out]
      exact HSAME.out _ _ _ .none rfl
    · have hr : s.read cell ver = (12, s) := by unfold Sets.read; rw [ha]; simp only; rw [hval, if_pos (by simpa using he)]
      have HR := Lib.hid hr
      have g1 : ((v : Int) != ver) = true := by simp [he]
      have g2 : IntKind.i64.wrap ((i : Int) + 1) = (i : Int) + 1 := IntWalk.i64_in _ (by omega)
      have HF := Lib.hid (show SetsPost W ps (ps :: ba :: bw :: ((Value.slice (some ⟨g, 0, none⟩) s.reads.length cap).ownBlock.toList ++ (lv.ownBlock.toList ++ mv.ownBlock.toList))) w 12 s (.returned (.iface 134 (.pointer (some ⟨w.heap.size, 0, none⟩)))) (w.alloc (.cells #[.int .i64 ((i : Int) + 1), .int .i64 12] 136)) from by
        have B0 := (Below.refl w.heap.size w).alloc (Nat.le_refl _) (.cells #[.int .i64 ((i : Int) + 1), .int .i64 12] 136)
        refine ⟨_, [w.heap.size], _, rfl, .fault _ _ 12 (by omega) (by omega) (Cells.new w [.int .i64 ((i : Int) + 1), .int .i64 12] _), HS.out.heldBy (R := _) (HeldBy.of_below B0 HS.out.lt) (fun _ h => h), (Kept.of_below B0).mono fun b hb e => by omega, fun b hb => .inl hb, by simp, ?_⟩
        intro b hb hB
        simp only [List.mem_singleton] at hb
        subst hb
        exact Nat.lt_irrefl _ (HS.out.lt _ hB))
      generalize s.reads.length = len at *
      clear ha h hv hval he hr
      go_enter Tryz.func92, Tryz.ntmps92
      go_wp2_with (go_at_call 101; refine HM.out.mono ?_; rintro e w' ⟨rfl, rfl⟩)
      go_ret
      rw [HR.out]
      exact HF.out
  | none =>
    rw [ha] at hl
    simp only [Option.map_none, Option.getD_none, Option.isSome_none] at hl
    obtain ⟨p, cap, hrv⟩ := ownsRow_shape h.reads
    by_cases hf : 500 ≤ s.reads.length
    · have hr : s.read cell ver = (8, s) := by unfold Sets.read; rw [ha]; simp only; rw [if_pos hf]
      have HR := Lib.hid hr
      have hfew := h.fewR
      obtain ⟨len, hlen⟩ : ∃ len, s.reads.length = len := ⟨_, rfl⟩
      rw [hlen] at hf hrv hfew
      have g1 : decide ((500 : Int) ≤ (len : Int)) = true := by simp; omega
      subst hrv
      clear ha h hr hlen hf
      go_enter Tryz.func92, Tryz.ntmps92
      go_wp2_with (go_at_call 101; refine HM.out.mono ?_; rintro e w' ⟨rfl, rfl⟩)
      go_ret
      rw [HR.out]
      exact HSAME.out _ _ _ (.no 8 (by omega) (by omega)) rfl
    · have hr : s.read cell ver = (0, { s with reads := s.reads ++ [(cell, ver)] }) := by unfold Sets.read; rw [ha]; simp only; rw [if_neg hf]
      have HR := Lib.hid hr
      have hnd := h.nodup
      simp only [List.nodup_cons, List.mem_cons, List.mem_append, not_or] at hnd
      have n1 : ps ≠ ba := hnd.1.1
      have n3 : some ps ≠ rv.ownBlock := fun e => hnd.1.2.2.1 (by simp [← e])
      have n7 : some ba ≠ rv.ownBlock := fun e => hnd.2.1.2.1 (by simp [← e])
      have hend := fun v' w' => sets_noted (v' := v') (w' := w') (ver := ver) h hc ha (by omega)
      have hrow := h.reads
      obtain ⟨len, hlen⟩ : ∃ len, s.reads.length = len := ⟨_, rfl⟩
      rw [hlen] at hf hrv hend hrow
      have HEND := Lib.hid hend; have HROW := Lib.hid hrow; have HAT := Lib.hid h.at'; have HMAIN := Lib.hid h.main
      have g1 : decide ((500 : Int) ≤ (len : Int)) = false := by simp; omega
      have lps := h.main.lt; have lba := h.at'.lt
      have hmx : len ≤ 500 := by omega
      have N1 := Lib.hid n1; have N3 := Lib.hid n3; have N7 := Lib.hid n7; have HW := Lib.hid hW
      subst hrv
      clear ha h hr hlen hf hnd hend hrow n1 n3 n7 hW
      go_enter Tryz.func92, Tryz.ntmps92
      go_wp2_with (go_at_call 101; refine HM.out.mono ?_; rintro e w' ⟨rfl, rfl⟩)
      go_still_tail 10, (by kernel_rfl)
      obtain ⟨i0, hi0, hz0, hz1, hz2⟩ := info_parts seenInfo
      go_wp2_with (first
        | (at_mapUpdate; refine wpList_mapUpdate_at _ rfl _ _ _ 194 rfl 41 3 .u64 Tryz.underlying194 Tryz.underlying41 ba ea ca rfl HAT.out (cell : Int) (.int .i64 (len : Int)) rfl rfl ?_; intro w1 hm1 hk1; have HM1 := Lib.hid hm1; have HK1 : Hid (Kept (fun b => b = ba) w w1) := Lib.hid (((Kept.refl _ w).drew).trans hk1); have hmain1 := HMAIN.out.kept HK1.out N1.out; have HMAIN1 := Lib.hid hmain1; obtain ⟨p0, p1, p2, p3, p4, f0, -⟩ := five hmain1; have HROW1 := Lib.hid (ownsRow_kept HROW.out HK1.out (fun b hb e => N7.out (by rw [hb, e]))); have lp1 := hmain1.lt; have HWS := Lib.hid HK1.out.size; clear hm1 hk1 hmain1)
        | (at_builtin; refine wpList_append_own_at _ rfl _ _ 156 rfl W.heap.size 164 i0 (.agg #[.int .u64 0, .int .i64 0]) 2 16 Tryz.underlying156 hi0 hz0 hz1 hz2 rfl (by omega) (.slice p len cap) len _ rfl (HROW1.out.alloc _) ⟨w1.heap.size, 0, none⟩ 1 1 (encSeen (cell, ver)) rfl rfl (cells_news w1 [.int .u64 (cell : Int), .int .i64 ver] _) (by intro u hu; simp [encSeen] at hu; rcases hu with rfl | rfl <;> rfl) (by unfold maxLen; omega) (by omega) (by have := HW.out; have := HWS.out; simp; omega) ?_; intro v' w2 hown2 hgrow2 hnil2 hob2; obtain ⟨p2', cap2, rfl⟩ := ownsRow_shape hown2; have hm2 := (HMAIN1.out.alloc (.cells #[.int .u64 (cell : Int), .int .i64 ver] 164)).kept (Kept.of_grown hgrow2) (fun e => N3.out e); have HMAIN2 := Lib.hid hm2; have HOWN2 := Lib.hid hown2; have HGR2 := Lib.hid hgrow2; have HOB2 := Lib.hid hob2; clear p0 p1 p2 p3 p4 f0; obtain ⟨p0, p1, p2, p3, p4, f0, -⟩ := five hm2; clear hm2 hown2 hgrow2 hnil2 hob2)
        | go_in)
      go_ret
      rw [HR.out]
      have hob : (Value.slice p2' (len + 1) cap2).ownBlock ≠ some ps := fun e => by
        rcases HOB2.out with q | q
        · exact N3.out (by rw [← q, e])
        · rw [q] at e
          simp only [Option.some.injEq, World.size_alloc] at e
          omega
      refine HEND.out _ _ ?_ (HMAIN2.out.set 0 _) (ownsRow_kept HOWN2.out (Kept.setCell (S := fun b => b = ps) (Kept.refl _ w2) (fun _ => rfl) _) fun b hb e => hob (by rw [hb, e])) ?_ ?_
      · exact Kept.setCell (((HK1.out.mono fun b _ e => .inr (.inl e)).alloc _).then (Kept.of_grown HGR2.out) fun i _ e => .inr (.inr e)) (fun _ => .inl rfl) _
      · exact ((HM1.out.alloc _).kept (Kept.of_grown HGR2.out) N7.out).kept (Kept.setCell (S := fun b => b = ps) (Kept.refl _ w2) (fun _ => rfl) _) (fun e => N1.out e.symm)
      · rcases HOB2.out with q | q
        · exact .inl q
        · exact .inr ⟨_, q, by have := HWS.out; simp; omega⟩
end Go.Proofs.YtmdganpealbmpaaGreatDoor

/- Layer 7 (sets): Write. -/
namespace Go.Proofs.YtmdganpealbmpaaGreatDoor
open Go.RowKit Bl Th
set_option maxRecDepth 10000

/-- What is written is noted. -/
theorem sets_wrote {W : World} {ps : Nat} {s : Sets} {rv lv mv l' : Value} {ba bw : Nat} {ea ew : List Ent} {ca cw : Nat} {w w' : World} (h : SetsLies W ps s rv lv mv ba bw ea ew ca cw w) {cell value : Nat} (hc : cell < 18446744073709551616) (hv : value < 18446744073709551616) (hf : (wput cell value s.writes).length ≤ 500) {log' : List Undo}
    (hk : Kept (fun b => b = ps ∨ b = bw ∨ some b = lv.ownBlock) w w') (hm : Cells w' ps [rv, .map (some ba), .map (some bw), l', mv] 198) (hr : w'.ownsRow W.heap.size 217 3 l' log'.length (log'.flatMap encUndo)) (hfl : ∀ x ∈ log', x.cell < 18446744073709551616 ∧ x.value < 18446744073709551616) (ha : MapAt w' bw .u64 (upd (cell : Int) (.int .u64 (value : Int)) cw ew) (updClock (cell : Int) ew cw)) (ho : l'.ownBlock = lv.ownBlock ∨ ∃ b, l'.ownBlock = some b ∧ w.heap.size ≤ b) :
    SetsPost W ps (ps :: ba :: bw :: (rv.ownBlock.toList ++ (lv.ownBlock.toList ++ mv.ownBlock.toList))) w 0 { s with writes := wput cell value s.writes, log := log' } (.returned .nilIface) w' := by
  have hnd := h.nodup
  have hlt := (SetsAt.lt (W := W) (ps := ps) (s := s) ⟨rv, lv, mv, ba, bw, ea, ew, ca, cw, rfl, h⟩)
  simp only [List.nodup_cons, List.mem_cons, List.mem_append, not_or] at hnd
  obtain ⟨⟨n1, n2, n3, n4, n5⟩, ⟨n6, n7, n8, n9⟩, ⟨n10, n11, n12⟩, n13⟩ := hnd
  rw [List.nodup_append] at n13
  obtain ⟨n13a, n14, n15⟩ := n13
  rw [List.nodup_append] at n14
  obtain ⟨_, n16, n17⟩ := n14
  have hnotr : ∀ b, b ∈ rv.ownBlock.toList → ¬ (b = ps ∨ b = bw ∨ some b = lv.ownBlock) := by
    intro b hb
    rintro (e | e | e)
    · subst e; exact n3 hb
    · subst e; exact n10 hb
    · exact n15 b hb b (by simp [← e]) rfl
  have hnotm : ∀ b, b ∈ mv.ownBlock.toList → ¬ (b = ps ∨ b = bw ∨ some b = lv.ownBlock) := by
    intro b hb
    rintro (e | e | e)
    · subst e; exact n5 hb
    · subst e; exact n12 hb
    · exact n17 b (by simp [← e]) b hb rfl
  have hnew : ∀ b ∈ l'.ownBlock.toList, b ∈ lv.ownBlock.toList ∨ w.heap.size ≤ b := by
    intro b hb
    rcases ho with e | ⟨q, e, hq⟩
    · exact .inl (by rw [← e]; exact hb)
    · rw [e] at hb
      simp only [Option.toList_some, List.mem_singleton] at hb
      exact .inr (hb ▸ hq)
  have hdis : ∀ b ∈ l'.ownBlock.toList, b ≠ ps ∧ b ≠ ba ∧ b ≠ bw ∧ b ∉ rv.ownBlock.toList ∧ b ∉ mv.ownBlock.toList := by
    intro b hb
    rcases hnew b hb with e | e
    · exact ⟨fun q => n4 (q ▸ e), fun q => n8 (q ▸ e), fun q => n11 (q ▸ e), fun q => n15 b q b (by simp [e]) rfl, fun q => n17 b e b q rfl⟩
    · refine ⟨fun q => ?_, fun q => ?_, fun q => ?_, fun q => ?_, fun q => ?_⟩
      · have := hlt ps (by simp); omega
      · have := hlt ba (by simp); omega
      · have := hlt bw (by simp); omega
      · have := hlt b (by simp [q]); omega
      · have := hlt b (by simp [q]); omega
  refine ⟨.nilIface, [], ps :: ba :: bw :: (rv.ownBlock.toList ++ (l'.ownBlock.toList ++ mv.ownBlock.toList)), rfl, .none, ⟨rv, l', mv, ba, bw, ea, _, ca, _, rfl, ⟨hm, ?_, hr, ?_, ?_, ha, h.atLook, h.wm.put cell value, h.fitR, ?_, hfl, h.fewR, hf, h.fewM, h.new, ?_⟩⟩, ?_, ?_, by simp, by simp⟩
  · exact ownsRow_kept h.reads hk fun b hb => hnotr b (by simp [hb])
  · exact ownsRow_kept h.marks hk fun b hb => hnotm b (by simp [hb])
  · exact h.at'.kept hk (by
      rintro (e | e | e)
      · exact n1 e.symm
      · exact n6 e
      · exact n8 (by simp [← e]))
  · intro x hx
    rcases mem_wput cell value s.writes x hx with e | e
    · rw [e]; exact ⟨hc, hv⟩
    · exact h.fitW x e
  · simp only [List.nodup_cons, List.mem_cons, List.mem_append, not_or]
    refine ⟨⟨n1, n2, n3, fun q => (hdis ps q).1 rfl, n5⟩, ⟨n6, n7, fun q => (hdis ba q).2.1 rfl, n9⟩, ⟨n10, fun q => (hdis bw q).2.2.1 rfl, n12⟩, ?_⟩
    rw [List.nodup_append]
    refine ⟨n13a, ?_, ?_⟩
    · rw [List.nodup_append]
      exact ⟨by cases l'.ownBlock <;> simp, n16, fun a ha' b hb e => (hdis a ha').2.2.2.2 (e ▸ hb)⟩
    · intro a ha' b hb e
      subst e
      rcases List.mem_append.1 hb with q | q
      · exact (hdis a q).2.2.2.1 ha'
      · exact n15 a ha' a (by simp [q]) rfl
  · refine hk.mono fun b _ e => ?_
    rcases e with e | e | e
    · simp [e]
    · simp [e]
    · simp [← e]
  · intro b hb
    simp only [List.mem_cons, List.mem_append] at hb ⊢
    rcases hb with e | e | e | e | e | e
    · exact .inl (.inl e)
    · exact .inl (.inr (.inl e))
    · exact .inl (.inr (.inr (.inl e)))
    · exact .inl (.inr (.inr (.inr (.inl e))))
    · rcases hnew b e with q | q
      · exact .inl (.inr (.inr (.inr (.inr (.inl q)))))
      · exact .inr q
    · exact .inl (.inr (.inr (.inr (.inr (.inr e)))))

theorem wget_len {ws : List (Nat × Nat)} (hs : Th.Sorted ws) (k v : Nat) (h : ¬ (wget k ws = none ∧ 500 ≤ ws.length)) (h5 : ws.length ≤ 500) : (wput k v ws).length ≤ 500 := by
  rw [len_wput k v ws hs]
  split
  · exact h5
  · rename_i hn
    have : wget k ws = none := by simpa using hn
    have : ¬ 500 ≤ ws.length := fun e => h ⟨this, e⟩
    omega
/-- What len tells of a map. -/
theorem run_len_at {P : Program} {w : World} {b : Nat} {kd : IntKind} {es : List Ent} {c : Nat} (h : MapAt w b kd es c) {t k e : TypeId} (ht : P.underlying t = some (.map k e)) (ty : TypeId) : (Builtin.len_ #[t] ty #[.map (some b)]).run P w = .ok (.int .i64 (es.length : Int)) w := by
  simp [Builtin.len_, run_underlying ht, run_getObj h, goInt, Result.andThen]

set_option maxHeartbeats 4000000 in
theorem swrite_ok {W : World} {ps : Nat} {s : Sets} {B : List Nat} {w : World} (h : SetsAt W ps s B w) {cell value : Nat} (hc : cell < 18446744073709551616) (hv : value < 18446744073709551616) (hW : W.heap.size ≤ w.heap.size) (hlog : s.log.length < 1000000000) :
    Calls Tryz.prog 93 #[.pointer (some ⟨ps, 0, none⟩), .int .u64 (cell : Int), .int .u64 (value : Int)] w (SetsPost W ps B w (s.write cell value).1 (s.write cell value).2) := by
  have HM := Lib.hid (smade_ok h)
  have HS := Lib.hid h
  obtain ⟨rv, lv, mv, ba, bw, ea, ew, ca, cw, rfl, h⟩ := h
  obtain ⟨p0, p1, p2, p3, p4, f0, f1, f2, f3, -⟩ := five h.main
  have hlk := run_lookup_ok (P := Tryz.prog) h.wr Tryz.underlying195 Tryz.underlying41 zeroU64 (cell : Int)
  rw [h.wm.look] at hlk
  have hln := fun ty => run_len_at (P := Tryz.prog) h.wr Tryz.underlying195 ty
  rw [h.wm.len] at hln
  have hfew := h.fewW
  have hnd := h.nodup
  simp only [List.nodup_cons, List.mem_cons, List.mem_append, not_or] at hnd
  have n2 : ps ≠ bw := hnd.1.2.1
  have n4 : ps ∉ lv.ownBlock.toList := hnd.1.2.2.2.1
  have n11 : bw ∉ lv.ownBlock.toList := hnd.2.2.1.2.1
  cases hw : wget cell s.writes with
  | none =>
    rw [hw] at hlk
    simp only [Option.map_none, Option.getD_none, Option.isSome_none] at hlk
    by_cases hf : 500 ≤ s.writes.length
    · have hr : s.write cell value = (8, s) := by unfold Sets.write; rw [if_pos ⟨hw, hf⟩]
      have HR := Lib.hid hr
      have HF := Lib.hid (show SetsPost W ps (ps :: ba :: bw :: (rv.ownBlock.toList ++ (lv.ownBlock.toList ++ mv.ownBlock.toList))) w 8 s (.returned (.iface 99 (.int .i64 8))) w from ⟨_, [], _, rfl, .no 8 (by omega) (by omega), HS.out, Kept.refl _ _, fun b hb => .inl hb, by simp, by simp⟩)
      generalize s.writes.length = len at *
      have g1 : decide ((500 : Int) ≤ (len : Int)) = true := by simp; omega
      clear h hr hw hf hnd n2 n4 n11
      go_enter Tryz.func93, Tryz.ntmps93
      go_wp2_with (go_at_call 101; refine HM.out.mono ?_; rintro e w' ⟨rfl, rfl⟩)
      go_ret
      rw [HR.out]
      exact HF.out
    · have hfull : ¬ (wget cell s.writes = none ∧ 500 ≤ s.writes.length) := fun e => hf e.2
      have g1 : decide ((500 : Int) ≤ (s.writes.length : Int)) = false := by simp; omega
      have hold : 0 < 18446744073709551616 := by omega
      by_cases hmk : s.marks = []
      · have hr : s.write cell value = (0, { s with writes := wput cell value s.writes, log := s.log }) := by
          unfold Sets.write
          rw [if_neg hfull]
          simp [hmk]
        have HR := Lib.hid hr
        have hend := fun w' => sets_wrote (l' := lv) (w' := w') (log' := s.log) h hc hv (wget_len h.wm.sorted cell value hfull h.fewW)
        have HEND := Lib.hid hend; have HLOG := Lib.hid h.log; have HAT := Lib.hid h.wr; have HMAIN := Lib.hid h.main; have HFL := Lib.hid h.fitL
        obtain ⟨p, cap, hmv⟩ := ownsRow_shape h.marks
        rw [show s.marks.length = 0 by simp [hmk]] at hmv
        have N1 := Lib.hid n2; have N2 := Lib.hid n11
        subst hmv
        clear h hr hend hmk hfull hnd n2 n11 n4
        go_enter Tryz.func93, Tryz.ntmps93
        go_wp2_with (first
          | (go_at_call 101; refine HM.out.mono ?_; rintro e w' ⟨rfl, rfl⟩)
          | (at_mapUpdate; refine wpList_mapUpdate_at _ rfl _ _ _ 195 rfl 41 41 .u64 Tryz.underlying195 Tryz.underlying41 bw ew cw rfl HAT.out (cell : Int) (.int .u64 (value : Int)) rfl rfl ?_; intro w1 hm1 hk1; have HM1 := Lib.hid hm1; have HK1 := Lib.hid hk1; clear hm1 hk1)
          | go_in)
        go_ret
        rw [HR.out]
        refine HEND.out _ (HK1.out.mono fun b _ e => .inr (.inl e)) (HMAIN.out.kept HK1.out N1.out) (ownsRow_kept HLOG.out HK1.out fun b hb e => N2.out (by simp [← e, hb])) HFL.out HM1.out (by simp)
      · have hr : s.write cell value = (0, { s with writes := wput cell value s.writes, log := s.log ++ [⟨cell, 0, false⟩] }) := by
          unfold Sets.write
          rw [if_neg hfull]
          simp [hmk, hw]
        have HR := Lib.hid hr
        have hend := fun l' w' => sets_wrote (l' := l') (w' := w') (log' := s.log ++ [⟨cell, 0, false⟩]) h hc hv (wget_len h.wm.sorted cell value hfull h.fewW)
        have hfl : ∀ x ∈ s.log ++ [(⟨cell, 0, false⟩ : Undo)], x.cell < 18446744073709551616 ∧ x.value < 18446744073709551616 := by
          intro x hx
          rcases List.mem_append.1 hx with e | e
          · exact h.fitL x e
          · simp only [List.mem_singleton] at e
            rw [e]; exact ⟨hc, hold⟩
        obtain ⟨len, hlen⟩ : ∃ len, s.log.length = len := ⟨_, rfl⟩
        have hrow := h.log
        rw [hlen] at hrow hlog
        obtain ⟨p, cap, hlv⟩ := ownsRow_shape hrow
        obtain ⟨pm, capm, hmv⟩ := ownsRow_shape h.marks
        have hml : 0 < s.marks.length := by cases hs : s.marks with | nil => exact absurd hs hmk | cons => simp
        have hm20 := h.fewM
        generalize s.marks.length = ml at *
        have g5 : decide ((0 : Int) < (ml : Int)) = true := by simp; omega
        have HEND := Lib.hid hend; have HROW := Lib.hid hrow; have HAT := Lib.hid h.wr; have HMAIN := Lib.hid h.main; have HFL := Lib.hid hfl; have HLEN := Lib.hid hlen
        have lps := h.main.lt; have lbw := h.wr.lt
        have N1 := Lib.hid n2; have N2 := Lib.hid n11
        have n4' : some ps ≠ lv.ownBlock := fun e => n4 (by simp [← e])
        have n11' : some bw ≠ lv.ownBlock := fun e => n11 (by simp [← e])
        have N4 := Lib.hid n4'; have N11 := Lib.hid n11'; have HWW := Lib.hid hW
        subst hlv hmv
        clear h hr hend hmk hfull hnd n2 n11 n4 n4' n11' hrow hfl hlen hW hw hold
        obtain ⟨i0, hi0, hz0, hz1, hz2⟩ := info_parts undoInfo
        go_enter Tryz.func93, Tryz.ntmps93
        go_wp2_with (first
          | (go_at_call 101; refine HM.out.mono ?_; rintro e w' ⟨rfl, rfl⟩)
          | (at_mapUpdate; refine wpList_mapUpdate_at _ rfl _ _ _ 195 rfl 41 41 .u64 Tryz.underlying195 Tryz.underlying41 bw ew cw rfl HAT2.out (cell : Int) (.int .u64 (value : Int)) rfl rfl ?_; intro w4 hm4 hk4; have HM4 := Lib.hid hm4; have HK4 := Lib.hid hk4; clear hm4 hk4)
          | (at_builtin; refine wpList_append_own_at _ rfl _ _ 196 rfl W.heap.size 217 i0 (.agg #[.int .u64 0, .int .u64 0, .bool false]) 3 24 Tryz.underlying196 hi0 hz0 hz1 hz2 rfl (by omega) (.slice p len cap) len _ rfl (HROW.out.alloc _) ⟨w.heap.size, 0, none⟩ 1 1 (encUndo ⟨cell, 0, false⟩) rfl rfl (cells_news w [.int .u64 (cell : Int), .int .u64 ((0 : Nat) : Int), .bool false] _) (by intro u hu; simp [encUndo] at hu; rcases hu with rfl | rfl | rfl <;> rfl) (by unfold maxLen; omega) (by omega) (by have := HWW.out; simp; omega) ?_; intro v' w2 hown2 hgrow2 hnil2 hob2; obtain ⟨p2', cap2, rfl⟩ := ownsRow_shape hown2; have hm2 := (HMAIN.out.alloc (.cells #[.int .u64 (cell : Int), .int .u64 ((0 : Nat) : Int), .bool false] 217)).kept (Kept.of_grown hgrow2) (fun e => N4.out e); have HAT2 := Lib.hid (((HAT.out.alloc (.cells #[.int .u64 (cell : Int), .int .u64 ((0 : Nat) : Int), .bool false] 217)).kept (Kept.of_grown hgrow2) (fun e => N11.out e)).kept (Kept.setCell (S := fun b => b = ps) (Kept.refl _ w2) (fun _ => rfl) (p := ⟨ps, 3, none⟩) (.slice p2' (len + 1) cap2)) (fun e => N1.out e.symm)); have HMAIN2 := Lib.hid hm2; have HOWN2 := Lib.hid hown2; have HGR2 := Lib.hid hgrow2; have HOB2 := Lib.hid hob2; clear p0 p1 p2 p3 p4 f0 f1 f2 f3 hlk; obtain ⟨p0, p1, p2, p3, p4, f0, f1, f2, f3, -⟩ := five hm2; clear hm2 hown2 hgrow2 hnil2 hob2)
          | go_in)
        go_ret
        rw [HR.out]
        have hob : (Value.slice p2' (len + 1) cap2).ownBlock ≠ some ps := fun e => by
          rcases HOB2.out with q | q
          · exact N4.out (by rw [← q, e])
          · rw [q] at e
            simp only [Option.some.injEq, World.size_alloc] at e
            omega
        have hob2 : (Value.slice p2' (len + 1) cap2).ownBlock ≠ some bw := fun e => by
          rcases HOB2.out with q | q
          · exact N11.out (by rw [← q, e])
          · rw [q] at e
            simp only [Option.some.injEq, World.size_alloc] at e
            omega
        have e1 : (s.log ++ [(⟨cell, 0, false⟩ : Undo)]).length = len + 1 := by simp [HLEN.out]
        have e2 : (s.log ++ [(⟨cell, 0, false⟩ : Undo)]).flatMap encUndo = s.log.flatMap encUndo ++ encUndo ⟨cell, 0, false⟩ := by simp
        refine HEND.out (.slice p2' (len + 1) cap2) _ ?_ ((HMAIN2.out.set 3 _).kept HK4.out N1.out) ?_ HFL.out HM4.out ?_
        · exact ((((Kept.refl _ w).alloc _).then (Kept.of_grown HGR2.out) fun i _ e => .inr (.inr e)).setCell (fun _ => .inl rfl) _).then HK4.out fun i _ e => .inr (.inl e)
        · rw [e1, e2]
          exact ownsRow_kept (ownsRow_kept HOWN2.out (Kept.setCell (S := fun b => b = ps) (Kept.refl _ w2) (fun _ => rfl) _) fun b hb e => hob (by rw [hb, e])) HK4.out fun b hb e => hob2 (by rw [hb, e])
        · rcases HOB2.out with q | q
          · exact .inl q
          · exact .inr ⟨_, q, by simp⟩
  | some old =>
    rw [hw] at hlk
    simp only [Option.map_some, Option.getD_some, Option.isSome_some] at hlk
    have hfull : ¬ (wget cell s.writes = none ∧ 500 ≤ s.writes.length) := fun e => by rw [hw] at e; cases e.1
    have hold : old < 18446744073709551616 := (h.fitW _ (wget_mem cell old _ hw)).2
    by_cases hmk : s.marks = []
    · have hr : s.write cell value = (0, { s with writes := wput cell value s.writes, log := s.log }) := by
        unfold Sets.write
        rw [if_neg hfull]
        simp [hmk]
      have HR := Lib.hid hr
      have hend := fun w' => sets_wrote (l' := lv) (w' := w') (log' := s.log) h hc hv (wget_len h.wm.sorted cell value hfull h.fewW)
      have HEND := Lib.hid hend; have HLOG := Lib.hid h.log; have HAT := Lib.hid h.wr; have HMAIN := Lib.hid h.main; have HFL := Lib.hid h.fitL
      obtain ⟨p, cap, hmv⟩ := ownsRow_shape h.marks
      rw [show s.marks.length = 0 by simp [hmk]] at hmv
      have N1 := Lib.hid n2; have N2 := Lib.hid n11
      subst hmv
      clear h hr hend hmk hfull hnd n2 n11 n4
      go_enter Tryz.func93, Tryz.ntmps93
      go_wp2_with (first
        | (go_at_call 101; refine HM.out.mono ?_; rintro e w' ⟨rfl, rfl⟩)
        | (at_mapUpdate; refine wpList_mapUpdate_at _ rfl _ _ _ 195 rfl 41 41 .u64 Tryz.underlying195 Tryz.underlying41 bw ew cw rfl HAT.out (cell : Int) (.int .u64 (value : Int)) rfl rfl ?_; intro w1 hm1 hk1; have HM1 := Lib.hid hm1; have HK1 := Lib.hid hk1; clear hm1 hk1)
        | go_in)
      go_ret
      rw [HR.out]
      refine HEND.out _ (HK1.out.mono fun b _ e => .inr (.inl e)) (HMAIN.out.kept HK1.out N1.out) (ownsRow_kept HLOG.out HK1.out fun b hb e => N2.out (by simp [← e, hb])) HFL.out HM1.out (by simp)
    · have hr : s.write cell value = (0, { s with writes := wput cell value s.writes, log := s.log ++ [⟨cell, old, true⟩] }) := by
        unfold Sets.write
        rw [if_neg hfull]
        simp [hmk, hw]
      have HR := Lib.hid hr
      have hend := fun l' w' => sets_wrote (l' := l') (w' := w') (log' := s.log ++ [⟨cell, old, true⟩]) h hc hv (wget_len h.wm.sorted cell value hfull h.fewW)
      have hfl : ∀ x ∈ s.log ++ [(⟨cell, old, true⟩ : Undo)], x.cell < 18446744073709551616 ∧ x.value < 18446744073709551616 := by
        intro x hx
        rcases List.mem_append.1 hx with e | e
        · exact h.fitL x e
        · simp only [List.mem_singleton] at e
          rw [e]; exact ⟨hc, hold⟩
      obtain ⟨len, hlen⟩ : ∃ len, s.log.length = len := ⟨_, rfl⟩
      have hrow := h.log
      rw [hlen] at hrow hlog
      obtain ⟨p, cap, hlv⟩ := ownsRow_shape hrow
      obtain ⟨pm, capm, hmv⟩ := ownsRow_shape h.marks
      have hml : 0 < s.marks.length := by cases hs : s.marks with | nil => exact absurd hs hmk | cons => simp
      have hm20 := h.fewM
      generalize s.marks.length = ml at *
      have g5 : decide ((0 : Int) < (ml : Int)) = true := by simp; omega
      have HEND := Lib.hid hend; have HROW := Lib.hid hrow; have HAT := Lib.hid h.wr; have HMAIN := Lib.hid h.main; have HFL := Lib.hid hfl; have HLEN := Lib.hid hlen
      have lps := h.main.lt; have lbw := h.wr.lt
      have N1 := Lib.hid n2; have N2 := Lib.hid n11
      have n4' : some ps ≠ lv.ownBlock := fun e => n4 (by simp [← e])
      have n11' : some bw ≠ lv.ownBlock := fun e => n11 (by simp [← e])
      have N4 := Lib.hid n4'; have N11 := Lib.hid n11'; have HWW := Lib.hid hW
      subst hlv hmv
      clear h hr hend hmk hfull hnd n2 n11 n4 n4' n11' hrow hfl hlen hW hw hold
      obtain ⟨i0, hi0, hz0, hz1, hz2⟩ := info_parts undoInfo
      go_enter Tryz.func93, Tryz.ntmps93
      go_wp2_with (first
        | (go_at_call 101; refine HM.out.mono ?_; rintro e w' ⟨rfl, rfl⟩)
        | (at_mapUpdate; refine wpList_mapUpdate_at _ rfl _ _ _ 195 rfl 41 41 .u64 Tryz.underlying195 Tryz.underlying41 bw ew cw rfl HAT2.out (cell : Int) (.int .u64 (value : Int)) rfl rfl ?_; intro w4 hm4 hk4; have HM4 := Lib.hid hm4; have HK4 := Lib.hid hk4; clear hm4 hk4)
        | (at_builtin; refine wpList_append_own_at _ rfl _ _ 196 rfl W.heap.size 217 i0 (.agg #[.int .u64 0, .int .u64 0, .bool false]) 3 24 Tryz.underlying196 hi0 hz0 hz1 hz2 rfl (by omega) (.slice p len cap) len _ rfl (HROW.out.alloc _) ⟨w.heap.size, 0, none⟩ 1 1 (encUndo ⟨cell, old, true⟩) rfl rfl (cells_news w [.int .u64 (cell : Int), .int .u64 ((old : Nat) : Int), .bool true] _) (by intro u hu; simp [encUndo] at hu; rcases hu with rfl | rfl | rfl <;> rfl) (by unfold maxLen; omega) (by omega) (by have := HWW.out; simp; omega) ?_; intro v' w2 hown2 hgrow2 hnil2 hob2; obtain ⟨p2', cap2, rfl⟩ := ownsRow_shape hown2; have hm2 := (HMAIN.out.alloc (.cells #[.int .u64 (cell : Int), .int .u64 ((old : Nat) : Int), .bool true] 217)).kept (Kept.of_grown hgrow2) (fun e => N4.out e); have HAT2 := Lib.hid (((HAT.out.alloc (.cells #[.int .u64 (cell : Int), .int .u64 ((old : Nat) : Int), .bool true] 217)).kept (Kept.of_grown hgrow2) (fun e => N11.out e)).kept (Kept.setCell (S := fun b => b = ps) (Kept.refl _ w2) (fun _ => rfl) (p := ⟨ps, 3, none⟩) (.slice p2' (len + 1) cap2)) (fun e => N1.out e.symm)); have HMAIN2 := Lib.hid hm2; have HOWN2 := Lib.hid hown2; have HGR2 := Lib.hid hgrow2; have HOB2 := Lib.hid hob2; clear p0 p1 p2 p3 p4 f0 f1 f2 f3 hlk; obtain ⟨p0, p1, p2, p3, p4, f0, f1, f2, f3, -⟩ := five hm2; clear hm2 hown2 hgrow2 hnil2 hob2)
        | go_in)
      go_ret
      rw [HR.out]
      have hob : (Value.slice p2' (len + 1) cap2).ownBlock ≠ some ps := fun e => by
        rcases HOB2.out with q | q
        · exact N4.out (by rw [← q, e])
        · rw [q] at e
          simp only [Option.some.injEq, World.size_alloc] at e
          omega
      have hob2 : (Value.slice p2' (len + 1) cap2).ownBlock ≠ some bw := fun e => by
        rcases HOB2.out with q | q
        · exact N11.out (by rw [← q, e])
        · rw [q] at e
          simp only [Option.some.injEq, World.size_alloc] at e
          omega
      have e1 : (s.log ++ [(⟨cell, old, true⟩ : Undo)]).length = len + 1 := by simp [HLEN.out]
      have e2 : (s.log ++ [(⟨cell, old, true⟩ : Undo)]).flatMap encUndo = s.log.flatMap encUndo ++ encUndo ⟨cell, old, true⟩ := by simp
      refine HEND.out (.slice p2' (len + 1) cap2) _ ?_ ((HMAIN2.out.set 3 _).kept HK4.out N1.out) ?_ HFL.out HM4.out ?_
      · exact ((((Kept.refl _ w).alloc _).then (Kept.of_grown HGR2.out) fun i _ e => .inr (.inr e)).setCell (fun _ => .inl rfl) _).then HK4.out fun i _ e => .inr (.inl e)
      · rw [e1, e2]
        exact ownsRow_kept (ownsRow_kept HOWN2.out (Kept.setCell (S := fun b => b = ps) (Kept.refl _ w2) (fun _ => rfl) _) fun b hb e => hob (by rw [hb, e])) HK4.out fun b hb e => hob2 (by rw [hb, e])
      · rcases HOB2.out with q | q
        · exact .inl q
        · exact .inr ⟨_, q, by simp⟩
end Go.Proofs.YtmdganpealbmpaaGreatDoor
