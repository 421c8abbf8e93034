/- RnGoes: RnPlain, RnGoes. -/
import Derived.Test.YtkpdacfiglpgeaaGreatDoorStRead
import Derived.Test.YtkpdacfiglpgeaaGreatDoorTqPlain
import Derived.Test.YtkpdacfiglpgeaaGreatDoorTqScene0

/- Layer 14's laws: their transactions as trees; what they leave of a transaction's notes and marks. No program stands here. -/
namespace Go.Proofs.YtkpdacfiglpgeaaGreatDoor.Th
open Bl Go.Proofs.YtkpdacfiglpgeaaGreatDoor.Tx

/-- What a runner keeps: nine registers, and what was told. -/
structure Rn where
  regs : List Int
  told : List Int
def w64 (x : Int) : Int := toI (toU x)
def argN (r : Rn) (a : Int × Int) : Int := if 1 ≤ a.1 ∧ a.1 ≤ 8 then w64 (r.regs.getD a.1.toNat 0 + a.2) else a.2
def cellN (cells : List Nat) (r : Rn) (a : Int × Int) : Nat := cells.getD (argN r a % 64 % (cells.length : Int)).toNat 0
def Rn.set (r : Rn) (k v : Int) : Rn := { r with regs := r.regs.set k.toNat v }
def Rn.tell (r : Rn) (k v : Int) : Rn := ⟨r.regs.set k.toNat v, r.told ++ [v]⟩
def rTimes (P : Rn → Th.Tx → Tree (Nat × (Rn × Th.Tx))) : Nat → Rn → Th.Tx → Tree (Nat × (Rn × Th.Tx))
  | 0, r, t => .ret (0, r, t)
  | n + 1, r, t => (P r t).bind fun x => if x.1 = 0 then rTimes P n x.2.1 x.2.2 else .ret x
def rGet (r : Rn) (k : Int) (x : Nat × (Nat × Th.Tx)) : Tree (Nat × (Rn × Th.Tx)) := .ret (x.1, if x.1 = 0 then r.tell k (toI x.2.1) else r, x.2.2)
mutual
def rOne (cells : List Nat) : St → Rn → Th.Tx → Tree (Nat × (Rn × Th.Tx))
  | .mk h b e, r, t =>
    if h.kind = 1 then (tRead t (cellN cells r h.a)).bind (rGet r h.reg)
    else if h.kind = 2 then .ret ((tWrite t (cellN cells r h.a) (argN r h.b % 1000).toNat).1, r, (tWrite t (cellN cells r h.a) (argN r h.b % 1000).toNat).2)
    else if h.kind = 9 then .ret (0, r.set h.reg (argN r h.a % 1000), t)
    else if h.kind = 10 then .ret (0, r.set h.reg (w64 (argN r h.a + argN r h.b) % 1000), t)
    else if h.kind = 11 then (if argN r h.a % 1000 < argN r h.b % 1000 then rAll cells b r t else rAll cells e r t)
    else if h.kind = 12 then rTimes (fun r t => rAll cells b r t) h.a.2.toNat r t
    else if h.kind = 13 then tAtomic (fun r t => rAll cells b r t) r t
    else if h.kind = 14 then tOr (fun r t => rAll cells b r t) (fun _ t2 => rAll cells e r t2) r t
    else if h.kind = 15 then .ret (13, r, t)
    else if h.kind = 16 then .ret (14, r, t)
    else .ret (0, r, t)
def rAll (cells : List Nat) : List St → Rn → Th.Tx → Tree (Nat × (Rn × Th.Tx))
  | [], r, t => .ret (0, r, t)
  | s :: l, r, t => (rOne cells s r t).bind fun x => if x.1 = 0 then rAll cells l x.2.1 x.2.2 else .ret x
end
def Rn.none : Rn := ⟨List.replicate 9 0, []⟩
def bodyX (p : List St) (clock : Nat) (cells : List Nat) : Tree (Nat × (Rsl × List Int → Rsl × List Int)) :=
  (tBegin clock 1).bind fun b => if b.1 = 0 then (rAll cells p .none b.2).bind fun a => (tEnd a.2.2 a.1).bind fun f => .ret (f.1, fun _ => (f.2.1, a.2.1.told)) else .ret (b.1, id)
theorem rAll_drop {cells : List Nat} {l : List St} {k : Nat} {s : St} (hk : l[k]? = some s) (r : Rn) (t : Th.Tx) : rAll cells (l.drop k) r t = (rOne cells s r t).bind fun x => if x.1 = 0 then rAll cells (l.drop (k + 1)) x.2.1 x.2.2 else .ret x := by
  have hl := (List.getElem?_eq_some_iff.1 hk).1
  have hd : l.drop k = s :: l.drop (k + 1) := by
    rw [List.drop_eq_getElem_cons hl]
    rw [List.getElem?_eq_getElem hl] at hk
    rw [Option.some.inj hk]
  rw [hd, rAll]

/-! Each kind. -/
section
variable {cells : List Nat} {h : Sh} {b e : List St} {r : Rn} {t : Th.Tx}
theorem rOne_1 (hk : h.kind = 1) : rOne cells (.mk h b e) r t = (tRead t (cellN cells r h.a)).bind (rGet r h.reg) := by
  unfold rOne
  rw [if_pos hk]
theorem rOne_2 (hk : h.kind = 2) : rOne cells (.mk h b e) r t = .ret ((tWrite t (cellN cells r h.a) (argN r h.b % 1000).toNat).1, r, (tWrite t (cellN cells r h.a) (argN r h.b % 1000).toNat).2) := by
  unfold rOne
  rw [if_neg (by omega), if_pos hk]
theorem rOne_9 (hk : h.kind = 9) : rOne cells (.mk h b e) r t = .ret (0, r.set h.reg (argN r h.a % 1000), t) := by
  unfold rOne
  rw [if_neg (by omega), if_neg (by omega), if_pos hk]
theorem rOne_10 (hk : h.kind = 10) : rOne cells (.mk h b e) r t = .ret (0, r.set h.reg (w64 (argN r h.a + argN r h.b) % 1000), t) := by
  unfold rOne
  rw [if_neg (by omega), if_neg (by omega), if_neg (by omega), if_pos hk]
theorem rOne_11 (hk : h.kind = 11) : rOne cells (.mk h b e) r t = if argN r h.a % 1000 < argN r h.b % 1000 then rAll cells b r t else rAll cells e r t := by
  unfold rOne
  rw [if_neg (by omega), if_neg (by omega), if_neg (by omega), if_neg (by omega), if_pos hk]
theorem rOne_12 (hk : h.kind = 12) : rOne cells (.mk h b e) r t = rTimes (fun r t => rAll cells b r t) h.a.2.toNat r t := by
  unfold rOne
  rw [if_neg (by omega), if_neg (by omega), if_neg (by omega), if_neg (by omega), if_neg (by omega), if_pos hk]
theorem rOne_13 (hk : h.kind = 13) : rOne cells (.mk h b e) r t = tAtomic (fun r t => rAll cells b r t) r t := by
  unfold rOne
  rw [if_neg (by omega), if_neg (by omega), if_neg (by omega), if_neg (by omega), if_neg (by omega), if_neg (by omega), if_pos hk]
theorem rOne_14 (hk : h.kind = 14) : rOne cells (.mk h b e) r t = tOr (fun r t => rAll cells b r t) (fun _ t2 => rAll cells e r t2) r t := by
  unfold rOne
  rw [if_neg (by omega), if_neg (by omega), if_neg (by omega), if_neg (by omega), if_neg (by omega), if_neg (by omega), if_neg (by omega), if_pos hk]
theorem rOne_15 (hk : h.kind = 15) : rOne cells (.mk h b e) r t = .ret (13, r, t) := by
  unfold rOne
  rw [if_neg (by omega), if_neg (by omega), if_neg (by omega), if_neg (by omega), if_neg (by omega), if_neg (by omega), if_neg (by omega), if_neg (by omega), if_pos hk]
theorem rOne_16 (hk : h.kind = 16) : rOne cells (.mk h b e) r t = .ret (14, r, t) := by
  unfold rOne
  rw [if_neg (by omega), if_neg (by omega), if_neg (by omega), if_neg (by omega), if_neg (by omega), if_neg (by omega), if_neg (by omega), if_neg (by omega), if_neg (by omega), if_pos hk]
theorem rOne_no (h1 : h.kind ≠ 1) (h2 : h.kind ≠ 2) (h3 : h.kind ≠ 9) (h4 : h.kind ≠ 10) (h5 : h.kind ≠ 11) (h6 : h.kind ≠ 12) (h7 : h.kind ≠ 13) (h8 : h.kind ≠ 14) (h9 : h.kind ≠ 15) (h10 : h.kind ≠ 16) : rOne cells (.mk h b e) r t = .ret (0, r, t) := by
  unfold rOne
  rw [if_neg h1, if_neg h2, if_neg h3, if_neg h4, if_neg h5, if_neg h6, if_neg h7, if_neg h8, if_neg h9, if_neg h10]
end

/-! Writes: in order, of the cells. -/
theorem mem_wdel {k : Nat} {y : Nat × Nat} : ∀ {l}, y ∈ wdel k l → y ∈ l
  | [], h => by cases h
  | x :: l, h => by
    unfold wdel at h
    split at h
    · exact List.mem_cons_of_mem _ h
    · rcases List.mem_cons.1 h with e | e
      · rw [e]; exact List.mem_cons_self ..
      · exact List.mem_cons_of_mem _ (mem_wdel e)
theorem sorted_wdel {k : Nat} : ∀ {l}, Sorted l → Sorted (wdel k l)
  | [], _ => trivial
  | x :: l, h => by
    unfold wdel
    split
    · exact h.2
    · exact ⟨fun y hy => h.1 y (mem_wdel hy), sorted_wdel h.2⟩
theorem wput_back {k v o : Nat} : ∀ {l : List (Nat × Nat)}, Sorted l → wget k l = some o → wput k o (wput k v l) = l
  | [], _, h => by cases h
  | x :: l, hs, h => by
    obtain ⟨a, b⟩ := x
    unfold wget at h
    simp only at h
    split at h
    · rename_i e
      cases h
      subst e
      simp [wput]
    · rename_i e
      have hm := wget_mem h
      have hlt := hs.1 _ hm
      simp only at hlt
      have e1 : ¬ k < a := by omega
      simp only [wput, e1, e, if_false]
      rw [wput_back hs.2 h]
theorem wdel_back {k v : Nat} : ∀ {l : List (Nat × Nat)}, Sorted l → wget k l = none → wdel k (wput k v l) = l
  | [], _, _ => by simp [wput, wdel]
  | x :: l, hs, h => by
    obtain ⟨a, b⟩ := x
    unfold wget at h
    simp only at h
    split at h
    · cases h
    · rename_i e
      by_cases e1 : k < a
      · simp [wput, e1, wdel]
      · simp only [wput, e1, e, if_false, wdel]
        rw [wdel_back hs.2 h]
theorem undo_write {k v : Nat} {l : List (Nat × Nat)} (hs : Sorted l) : undo1 (wput k v l) ⟨k, (wget k l).getD 0, (wget k l).isSome⟩ = l := by
  unfold undo1
  cases h : wget k l with
  | some o => simp only [Option.isSome_some, if_true, Option.getD_some]; exact wput_back hs h
  | none => simp only [Option.isSome_none, Bool.false_eq_true, if_false]; exact wdel_back hs h
/-- Writes and notes are of the cells. -/
structure RnS (cells : List Nat) (s : Sets) : Prop where
  sorted : Sorted s.writes
  keys : ∀ x ∈ s.writes, x.1 ∈ cells
  logs : ∀ u ∈ s.log, u.cell ∈ cells
theorem RnS.empty (cells : List Nat) : RnS cells .empty := ⟨trivial, fun _ h => (by cases h), fun _ h => (by cases h)⟩
theorem sub_len : ∀ (l c : List Nat), l.Nodup → (∀ x ∈ l, x ∈ c) → l.length ≤ c.length
  | [], c, _, _ => Nat.zero_le _
  | x :: l, c, hd, hs => by
    rw [List.nodup_cons] at hd
    have hx := hs x (List.mem_cons_self ..)
    have := sub_len l (c.erase x) hd.2 (fun y hy => (List.mem_erase_of_ne (fun e => hd.1 (by rw [← e]; exact hy))).2 (hs y (List.mem_cons_of_mem _ hy)))
    rw [List.length_erase_of_mem hx] at this
    have := List.length_pos_of_mem hx
    simp only [List.length_cons]
    omega
theorem sortedKeys : ∀ {l : List (Nat × Nat)}, Sorted l → (l.map (·.1)).Nodup
  | [], _ => by simp
  | x :: l, h => by
    rw [List.map_cons, List.nodup_cons]
    refine ⟨fun hm => ?_, sortedKeys h.2⟩
    obtain ⟨y, hy, e⟩ := List.mem_map.1 hm
    have := h.1 y hy
    omega
theorem RnS.few {cells : List Nat} {s : Sets} (h : RnS cells s) : s.writes.length ≤ cells.length := by
  have := sub_len (s.writes.map (·.1)) cells (sortedKeys h.sorted) (fun x hx => by
    obtain ⟨y, hy, rfl⟩ := List.mem_map.1 hx
    exact h.keys y hy)
  simpa using this
theorem undo_keeps {cells : List Nat} : ∀ (l : List Undo) (w : List (Nat × Nat)), Sorted w → (∀ x ∈ w, x.1 ∈ cells) → (∀ u ∈ l, u.cell ∈ cells) → Sorted (l.foldl undo1 w) ∧ ∀ x ∈ l.foldl undo1 w, x.1 ∈ cells
  | [], w, h1, h2, _ => ⟨h1, h2⟩
  | u :: l, w, h1, h2, h3 => by
    rw [List.foldl_cons]
    refine undo_keeps l _ ?_ ?_ (fun v hv => h3 v (List.mem_cons_of_mem _ hv))
    · unfold undo1
      split
      · exact sorted_wput h1
      · exact sorted_wdel h1
    · intro x hx
      unfold undo1 at hx
      split at hx
      · rcases mem_wput hx with q | q
        · rw [q]; exact h3 u (List.mem_cons_self ..)
        · exact h2 x q
      · exact h2 x (mem_wdel hx)
/-- What statements leave: at most k notes more. -/
structure Kp (cells : List Nat) (k : Nat) (s s' : Sets) : Prop where
  ok : RnS cells s'
  marks : s'.marks = s.marks
  log : s.marks ≠ [] → s.log.length ≤ s'.log.length
  cln : s.marks = [] → s.log = [] → s'.log = []
  few : s'.log.length ≤ s.log.length + k
theorem Kp.refl {cells : List Nat} {s : Sets} (h : RnS cells s) : Kp cells 0 s s := ⟨h, rfl, fun _ => Nat.le_refl _, fun _ e => e, Nat.le_refl _⟩
theorem Kp.more {cells : List Nat} {k m : Nat} {s s' : Sets} (h : Kp cells k s s') (hk : k ≤ m) : Kp cells m s s' := ⟨h.ok, h.marks, h.log, h.cln, Nat.le_trans h.few (by omega)⟩
theorem Kp.trans {cells : List Nat} {k m : Nat} {s s1 s2 : Sets} (h : Kp cells k s s1) (g : Kp cells m s1 s2) : Kp cells (k + m) s s2 :=
  ⟨g.ok, g.marks.trans h.marks, fun e => Nat.le_trans (h.log e) (g.log (by rw [h.marks]; exact e)), fun e e2 => g.cln (by rw [h.marks]; exact e) (h.cln e e2), by have := h.few; have := g.few; omega⟩
/-- How many notes statements make at most; and how many numbers they tell. -/
def wlogH (k : Nat) (a : Int) (b e : Nat) : Nat := if k = 1 ∨ k = 2 then 1 else if k = 12 then a.toNat * b else b + e
mutual
def wlogS : St → Nat
  | .mk h b e => wlogH h.kind h.a.2 (wlogL b) (wlogL e)
def wlogL : List St → Nat
  | [] => 0
  | s :: l => wlogS s + wlogL l
end
theorem read_kp {cells : List Nat} {s : Sets} (h : RnS cells s) (cell : Nat) (ver : Int) : Kp cells 0 s (s.read cell ver).2 := by
  unfold Sets.read
  repeat' split
  all_goals exact ⟨⟨h.sorted, h.keys, h.logs⟩, rfl, fun _ => Nat.le_refl _, fun _ e => e, Nat.le_refl _⟩
theorem tRead_kp {cells : List Nat} {t : Th.Tx} (h : RnS cells t.sets) (cell : Nat) (c : CS) : Kp cells 0 t.sets (exec (tRead t cell) c).1.2.2.sets := by
  unfold tRead
  cases wget cell t.sets.writes with
  | some v => exact .refl h
  | none =>
    simp only [exec_bind]
    split
    · split
      · split
        · exact read_kp h _ _
        · simp only [exec_bind]
          split
          · simp only [exec_bind, exec]
            split <;> exact read_kp h _ _
          · exact read_kp h _ _
      · exact read_kp h _ _
    · exact .refl h
theorem tWrite_kp {cells : List Nat} {t : Th.Tx} (h : RnS cells t.sets) {cell : Nat} (hc : cell ∈ cells) (x : Nat) : Kp cells 1 t.sets (tWrite t cell x).2.sets := by
  unfold tWrite Sets.write
  simp only
  split
  · exact (Kp.refl h).more (by omega)
  · refine ⟨⟨sorted_wput h.sorted, fun y hy => ?_, fun u hu => ?_⟩, rfl, fun e => ?_, fun e e2 => ?_, ?_⟩
    · rcases mem_wput hy with q | q
      · rw [q]; exact hc
      · exact h.keys y q
    · simp only at hu
      split at hu
      · exact h.logs u hu
      · rcases List.mem_append.1 hu with q | q
        · exact h.logs u q
        · simp only [List.mem_singleton] at q
          rw [q]; exact hc
    · simp only [e, if_false, List.length_append]
      omega
    · simp only [e, if_true]
      exact e2
    · simp only
      split
      · omega
      · simp
theorem mark_ok {cells : List Nat} {s : Sets} (h : RnS cells s) (hm : s.marks.length < 20) : s.mark.1 = 0 ∧ s.mark.2.1 = s.marks.length + 1 ∧ RnS cells s.mark.2.2 ∧ s.mark.2.2.marks = s.marks ++ [s.log.length] ∧ s.mark.2.2.log = s.log ∧ s.mark.2.2.writes = s.writes ∧ s.mark.2.2.reads = s.reads := by
  unfold Sets.mark
  rw [if_neg (by omega)]
  exact ⟨rfl, rfl, ⟨h.sorted, h.keys, h.logs⟩, rfl, rfl, rfl, rfl⟩
theorem keep_kp {cells : List Nat} {k : Nat} {s s1 : Sets} (h : RnS cells s) (hm : s.marks.length < 20) (g : Kp cells k s.mark.2.2 s1) : Kp cells k s (s1.keep (s.marks.length + 1)) ∧ s1.keepN (s.marks.length + 1) = (0, s1.keep (s.marks.length + 1)) := by
  obtain ⟨m1, m2, m3, m4, m5, -⟩ := mark_ok h hm
  have e1 : s1.marks = s.marks ++ [s.log.length] := g.marks.trans m4
  have e2 : s.log.length ≤ s1.log.length := by
    have := g.log (by rw [m4]; simp)
    rwa [m5] at this
  have e3 := g.few
  rw [m5] at e3
  refine ⟨⟨⟨g.ok.sorted, g.ok.keys, fun u hu => ?_⟩, ?_, fun e => ?_, fun e _ => ?_, ?_⟩, ?_⟩
  · unfold Sets.keep at hu
    simp only at hu
    split at hu
    · cases hu
    · exact g.ok.logs u hu
  · unfold Sets.keep
    simp [e1]
  · unfold Sets.keep
    simp only
    rw [if_neg (by have := List.length_pos_iff.2 e; omega)]
    exact e2
  · unfold Sets.keep
    simp [e]
  · unfold Sets.keep
    simp only
    split
    · simp
    · exact e3
  · unfold Sets.keepN
    rw [if_pos (by rw [e1]; simp)]
theorem back_kp {cells : List Nat} {k : Nat} {s s1 : Sets} (h : RnS cells s) (hm : s.marks.length < 20) (g : Kp cells k s.mark.2.2 s1) : Kp cells k s (s1.back (s.marks.length + 1)) ∧ s1.backN (s.marks.length + 1) = (0, s1.back (s.marks.length + 1)) := by
  obtain ⟨m1, m2, m3, m4, m5, -⟩ := mark_ok h hm
  have e1 : s1.marks = s.marks ++ [s.log.length] := g.marks.trans m4
  have e2 : s.log.length ≤ s1.log.length := by
    have := g.log (by rw [m4]; simp)
    rwa [m5] at this
  have e4 : s1.marks.getD (s.marks.length + 1 - 1) 0 = s.log.length := by rw [e1]; simp
  have e5 : (s1.log.take s.log.length).length = s.log.length := by rw [List.length_take]; omega
  obtain ⟨u1, u2⟩ := undo_keeps (cells := cells) (s1.log.drop s.log.length).reverse s1.writes g.ok.sorted g.ok.keys (fun u hu => g.ok.logs u (List.mem_of_mem_drop (List.mem_reverse.1 hu)))
  have e6 : s1.back (s.marks.length + 1) = { s1 with writes := (s1.log.drop s.log.length).reverse.foldl undo1 s1.writes, log := s1.log.take s.log.length, marks := s1.marks.take (s.marks.length + 1 - 1) } := by
    unfold Sets.back
    rw [e4]
  refine ⟨?_, ?_⟩
  · rw [e6]
    exact ⟨⟨u1, u2, fun u hu => g.ok.logs u (List.mem_of_mem_take hu)⟩, by simp [e1], fun _ => Nat.le_of_eq e5.symm, fun _ e => List.length_eq_zero_iff.1 (by rw [e5, e]; rfl), by simp only [e5]; omega⟩
  · unfold Sets.backN
    rw [if_pos (by rw [e1]; simp)]
theorem part_kp {cells : List Nat} {k u : Nat} {P : Rn → Th.Tx → Tree (Nat × (Rn × Th.Tx))} {r : Rn} {t : Th.Tx} (c : CS) (h : RnS cells t.sets) (hP : t.sets.marks.length < 20 → Kp cells k t.sets.mark.2.2 (exec (P r (t.on t.sets.mark.2.2)) c).1.2.2.sets) :
    Kp cells k t.sets (exec (tPart P u r t) c).1.2.2.2.sets := by
  unfold tPart
  by_cases hm : t.sets.marks.length < 20
  · obtain ⟨m1, m2, m3, m4, m5, -⟩ := mark_ok h hm
    have g := hP hm
    rw [if_pos m1, m2]
    simp only [exec_bind]
    split
    · obtain ⟨q1, q2⟩ := back_kp h hm g
      rw [q2]
      exact q1
    · obtain ⟨q1, q2⟩ := keep_kp h hm g
      rw [q2]
      exact q1
  · have m1 : t.sets.mark.1 = 10 := by unfold Sets.mark; rw [if_pos (by omega)]
    rw [if_neg (by rw [m1]; omega)]
    exact (Kp.refl h).more (by omega)
theorem times_kp {cells : List Nat} {k : Nat} {P : Rn → Th.Tx → Tree (Nat × (Rn × Th.Tx))} (hP : ∀ r t c, RnS cells t.sets → Kp cells k t.sets (exec (P r t) c).1.2.2.sets) : ∀ (n : Nat) (r : Rn) (t : Th.Tx) (c : CS), RnS cells t.sets → Kp cells (n * k) t.sets (exec (rTimes P n r t) c).1.2.2.sets
  | 0, r, t, c, h => (Kp.refl h).more (by omega)
  | n + 1, r, t, c, h => by
    unfold rTimes
    simp only [exec_bind]
    have g := hP r t c h
    split
    · exact (g.trans (times_kp hP n _ _ _ g.ok)).more (by rw [Nat.add_one_mul]; omega)
    · exact g.more (by rw [Nat.add_one_mul]; omega)
theorem cellN_mem {cells : List Nat} (hc : 1 ≤ cells.length) (r : Rn) (a : Int × Int) : cellN cells r a ∈ cells := by
  unfold cellN
  have h1 : 0 ≤ argN r a % 64 % (cells.length : Int) := Int.emod_nonneg _ (by omega)
  have h2 : argN r a % 64 % (cells.length : Int) < (cells.length : Int) := Int.emod_lt_of_pos _ (by omega)
  rw [List.getD_eq_getElem?_getD, List.getElem?_eq_getElem (by omega)]
  exact List.getElem_mem _
mutual
theorem rOne_kp {cells : List Nat} (hc : 1 ≤ cells.length) : ∀ (s : St) (r : Rn) (t : Th.Tx) (c : CS), RnS cells t.sets → Kp cells (wlogS s) t.sets (exec (rOne cells s r t) c).1.2.2.sets
  | .mk h b e, r, t, c, hk => by
    have hw : wlogS (.mk h b e) = wlogH h.kind h.a.2 (wlogL b) (wlogL e) := by rw [wlogS]
    rw [hw]
    have hpart : t.sets.marks.length < 20 → Kp cells (wlogL b) t.sets.mark.2.2 (exec (rAll cells b r (t.on t.sets.mark.2.2)) c).1.2.2.sets := fun hm => rAll_kp hc b r (t.on t.sets.mark.2.2) c (mark_ok hk hm).2.2.1
    unfold rOne
    by_cases k1 : h.kind = 1
    · rw [if_pos k1]
      simp only [exec_bind, rGet, exec]
      exact (tRead_kp hk _ _).more (Nat.zero_le _)
    · rw [if_neg k1]
      by_cases k2 : h.kind = 2
      · rw [if_pos k2]
        refine (tWrite_kp hk (cellN_mem hc r h.a) _).more ?_
        unfold wlogH
        rw [if_pos (.inr k2)]
        exact Nat.le_refl _
      · rw [if_neg k2]
        by_cases k9 : h.kind = 9
        · rw [if_pos k9]
          exact (Kp.refl hk).more (Nat.zero_le _)
        · rw [if_neg k9]
          by_cases k10 : h.kind = 10
          · rw [if_pos k10]
            exact (Kp.refl hk).more (Nat.zero_le _)
          · rw [if_neg k10]
            by_cases k12 : h.kind = 12
            · rw [if_neg (by omega), if_pos k12]
              unfold wlogH
              rw [if_neg (by omega), if_pos k12]
              exact times_kp (fun r t c h => rAll_kp hc b r t c h) _ r t c hk
            · have hw2 : wlogH h.kind h.a.2 (wlogL b) (wlogL e) = wlogL b + wlogL e := by
                unfold wlogH
                rw [if_neg (by omega), if_neg k12]
              rw [hw2]
              by_cases k11 : h.kind = 11
              · rw [if_pos k11]
                split
                · exact (rAll_kp hc b r t c hk).more (by omega)
                · exact (rAll_kp hc e r t c hk).more (by omega)
              · rw [if_neg k11, if_neg k12]
                by_cases k13 : h.kind = 13
                · rw [if_pos k13]
                  unfold tAtomic
                  simp only [exec_bind]
                  exact (part_kp (u := 14) (P := fun r t => rAll cells b r t) c hk hpart).more (Nat.le_add_right _ _)
                · rw [if_neg k13]
                  by_cases k14 : h.kind = 14
                  · rw [if_pos k14]
                    unfold tOr
                    simp only [exec_bind]
                    have g := part_kp (u := 13) (P := fun r t => rAll cells b r t) c hk hpart
                    split
                    · exact g.trans (rAll_kp hc e r _ _ g.ok)
                    · exact g.more (Nat.le_add_right _ _)
                  · rw [if_neg k14]
                    split
                    · exact (Kp.refl hk).more (Nat.zero_le _)
                    · split
                      · exact (Kp.refl hk).more (Nat.zero_le _)
                      · exact (Kp.refl hk).more (Nat.zero_le _)
theorem rAll_kp {cells : List Nat} (hc : 1 ≤ cells.length) : ∀ (l : List St) (r : Rn) (t : Th.Tx) (c : CS), RnS cells t.sets → Kp cells (wlogL l) t.sets (exec (rAll cells l r t) c).1.2.2.sets
  | [], r, t, c, hk => by
    unfold rAll wlogL
    exact .refl hk
  | s :: l, r, t, c, hk => by
    unfold rAll wlogL
    simp only [exec_bind]
    have g := rOne_kp hc s r t c hk
    split
    · exact g.trans (rAll_kp hc l _ _ _ g.ok)
    · exact g.more (Nat.le_add_right _ _)
end
/-! Registers, and what is told. -/
structure RnB (k : Nat) (r r' : Rn) : Prop where
  regs : r'.regs.length = r.regs.length
  told : r'.told.length ≤ r.told.length + k
theorem RnB.refl (r : Rn) : RnB 0 r r := ⟨rfl, Nat.le_refl _⟩
theorem RnB.more {k m : Nat} {r r' : Rn} (h : RnB k r r') (hk : k ≤ m) : RnB m r r' := ⟨h.regs, Nat.le_trans h.told (by omega)⟩
theorem RnB.trans {k m : Nat} {r r1 r2 : Rn} (h : RnB k r r1) (g : RnB m r1 r2) : RnB (k + m) r r2 := ⟨g.regs.trans h.regs, by have := h.told; have := g.told; omega⟩
theorem part_b {k u : Nat} {P : Rn → Th.Tx → Tree (Nat × (Rn × Th.Tx))} {r : Rn} {t : Th.Tx} (c : CS) (hP : RnB k r (exec (P r (t.on t.sets.mark.2.2)) c).1.2.1) : RnB k r (exec (tPart P u r t) c).1.2.2.1 := by
  unfold tPart
  split
  · simp only [exec_bind]
    split
    · exact hP
    · exact hP
  · exact (RnB.refl r).more (Nat.zero_le _)
theorem times_b {k : Nat} {P : Rn → Th.Tx → Tree (Nat × (Rn × Th.Tx))} (hP : ∀ r t c, RnB k r (exec (P r t) c).1.2.1) : ∀ (n : Nat) (r : Rn) (t : Th.Tx) (c : CS), RnB (n * k) r (exec (rTimes P n r t) c).1.2.1
  | 0, r, t, c => (RnB.refl r).more (by omega)
  | n + 1, r, t, c => by
    unfold rTimes
    simp only [exec_bind]
    have g := hP r t c
    split
    · exact (g.trans (times_b hP n _ _ _)).more (by rw [Nat.add_one_mul]; omega)
    · exact g.more (by rw [Nat.add_one_mul]; omega)
mutual
theorem rOne_b (cells : List Nat) : ∀ (s : St) (r : Rn) (t : Th.Tx) (c : CS), RnB (wlogS s) r (exec (rOne cells s r t) c).1.2.1
  | .mk h b e, r, t, c => by
    have hw : wlogS (.mk h b e) = wlogH h.kind h.a.2 (wlogL b) (wlogL e) := by rw [wlogS]
    rw [hw]
    unfold rOne
    by_cases k1 : h.kind = 1
    · rw [if_pos k1]
      unfold wlogH
      rw [if_pos (.inl k1)]
      simp only [exec_bind, rGet, exec]
      split
      · exact ⟨by simp [Rn.tell], by simp [Rn.tell]⟩
      · exact (RnB.refl r).more (Nat.zero_le _)
    · rw [if_neg k1]
      by_cases k2 : h.kind = 2
      · rw [if_pos k2]
        exact (RnB.refl r).more (Nat.zero_le _)
      · rw [if_neg k2]
        by_cases k9 : h.kind = 9
        · rw [if_pos k9]
          exact ⟨by simp [Rn.set, exec], by simp [Rn.set, exec]⟩
        · rw [if_neg k9]
          by_cases k10 : h.kind = 10
          · rw [if_pos k10]
            exact ⟨by simp [Rn.set, exec], by simp [Rn.set, exec]⟩
          · rw [if_neg k10]
            by_cases k12 : h.kind = 12
            · rw [if_neg (by omega), if_pos k12]
              unfold wlogH
              rw [if_neg (by omega), if_pos k12]
              exact times_b (fun r t c => rAll_b cells b r t c) _ r t c
            · have hw2 : wlogH h.kind h.a.2 (wlogL b) (wlogL e) = wlogL b + wlogL e := by
                unfold wlogH
                rw [if_neg (by omega), if_neg k12]
              rw [hw2]
              by_cases k11 : h.kind = 11
              · rw [if_pos k11]
                split
                · exact (rAll_b cells b r t c).more (by omega)
                · exact (rAll_b cells e r t c).more (by omega)
              · rw [if_neg k11, if_neg k12]
                by_cases k13 : h.kind = 13
                · rw [if_pos k13]
                  unfold tAtomic
                  simp only [exec_bind]
                  exact (part_b (u := 14) (P := fun r t => rAll cells b r t) c (rAll_b cells b r _ c)).more (Nat.le_add_right _ _)
                · rw [if_neg k13]
                  by_cases k14 : h.kind = 14
                  · rw [if_pos k14]
                    unfold tOr
                    simp only [exec_bind]
                    split
                    · exact (rAll_b cells e r _ _).more (Nat.le_add_left _ _)
                    · exact (part_b (u := 13) (P := fun r t => rAll cells b r t) c (rAll_b cells b r _ c)).more (Nat.le_add_right _ _)
                  · rw [if_neg k14]
                    split
                    · exact (RnB.refl r).more (Nat.zero_le _)
                    · split
                      · exact (RnB.refl r).more (Nat.zero_le _)
                      · exact (RnB.refl r).more (Nat.zero_le _)
theorem rAll_b (cells : List Nat) : ∀ (l : List St) (r : Rn) (t : Th.Tx) (c : CS), RnB (wlogL l) r (exec (rAll cells l r t) c).1.2.1
  | [], r, t, c => by
    unfold rAll wlogL
    exact .refl r
  | s :: l, r, t, c => by
    unfold rAll wlogL
    simp only [exec_bind]
    have g := rOne_b cells s r t c
    split
    · exact g.trans (rAll_b cells l _ _ _)
    · exact g.more (Nat.le_add_right _ _)
end
end Go.Proofs.YtkpdacfiglpgeaaGreatDoor.Th

/- Layer 14's laws: statements without an end, alone; what is undone. No program stands here. -/
namespace Go.Proofs.YtkpdacfiglpgeaaGreatDoor.Th
open Bl Go.Proofs.YtkpdacfiglpgeaaGreatDoor.Tx

theorem bind_assoc {α β γ : Type} (f : α → Tree β) (g : β → Tree γ) : ∀ p : Tree α, (p.bind f).bind g = p.bind fun x => (f x).bind g
  | .ret _ => rfl
  | .acc op k => by
    show Tree.acc op _ = Tree.acc op _
    congr 1
    funext n x
    exact bind_assoc f g (k n x)
  | .left k => by
    show Tree.left _ = Tree.left _
    congr 1
    funext n
    exact bind_assoc f g (k n)
theorem rAll_app (cells : List Nat) (l' : List St) : ∀ (l : List St) (r : Rn) (t : Th.Tx), rAll cells (l ++ l') r t = (rAll cells l r t).bind fun x => if x.1 = 0 then rAll cells l' x.2.1 x.2.2 else .ret x
  | [], r, t => by
    rw [List.nil_append, show rAll cells [] r t = .ret (0, r, t) from by rw [rAll]]
    simp [Tree.bind]
  | s :: l, r, t => by
    rw [List.cons_append, rAll, rAll, bind_assoc]
    congr 1
    funext x
    by_cases h : x.1 = 0
    · rw [if_pos h, if_pos h, rAll_app cells l' l]
    · rw [if_neg h, if_neg h]
      show _ = if x.1 = 0 then _ else _
      rw [if_neg h]

/-! What is undone. -/
def Und (s s' : Sets) : Prop := ∃ more, s'.log = s.log ++ more ∧ more.reverse.foldl undo1 s'.writes = s.writes
theorem Und.of {s s' : Sets} (h1 : s'.log = s.log) (h2 : s'.writes = s.writes) : Und s s' := ⟨[], by simp [h1], by simp [h2]⟩
theorem Und.trans {s s1 s2 : Sets} (h : Und s s1) (g : Und s1 s2) : Und s s2 := by
  obtain ⟨m, h1, h2⟩ := h
  obtain ⟨k, g1, g2⟩ := g
  exact ⟨m ++ k, by rw [g1, h1, List.append_assoc], by rw [List.reverse_append, List.foldl_append, g2, h2]⟩
theorem und_write {t : Th.Tx} (hs : Sorted t.sets.writes) (hm : t.sets.marks ≠ []) (cell x : Nat) : Und t.sets (tWrite t cell x).2.sets := by
  unfold tWrite Sets.write
  simp only
  split
  · exact .of rfl rfl
  · refine ⟨[⟨cell, (wget cell t.sets.writes).getD 0, (wget cell t.sets.writes).isSome⟩], rfl, ?_⟩
    simp only [List.reverse_cons, List.reverse_nil, List.nil_append, List.foldl_cons, List.foldl_nil]
    exact undo_write hs
/-- All since the last mark is undone. -/
theorem und_back {s s1 : Sets} (hm : s1.marks = s.marks ++ [s.log.length]) (h : Und s s1) : s1.back (s.marks.length + 1) = { s with reads := s1.reads } ∧ s1.backN (s.marks.length + 1) = (0, { s with reads := s1.reads }) := by
  obtain ⟨m, h1, h2⟩ := h
  have e4 : s1.marks.getD (s.marks.length + 1 - 1) 0 = s.log.length := by rw [hm]; simp
  have key : s1.back (s.marks.length + 1) = { s with reads := s1.reads } := by
    unfold Sets.back
    rw [e4, h1, hm, List.drop_left, h2]
    simp
  refine ⟨key, ?_⟩
  unfold Sets.backN
  rw [if_pos (by rw [hm]; simp), key]
def cellsN (n : Nat) : List Nat := (List.range n).map fun j => 3 + 3 * j
theorem cellN_at {n : Nat} (hn : 1 ≤ n) (r : Rn) (a : Int × Int) : ∃ j, j < n ∧ cellN (cellsN n) r a = 3 + 3 * j := by
  have hl : (cellsN n).length = n := by simp [cellsN]
  have h1 : 0 ≤ argN r a % 64 % (n : Int) := Int.emod_nonneg _ (by omega)
  have h2 : argN r a % 64 % (n : Int) < (n : Int) := Int.emod_lt_of_pos _ (by omega)
  refine ⟨(argN r a % 64 % (n : Int)).toNat, by omega, ?_⟩
  have h3 : (argN r a % 64 % (n : Int)).toNat < n := by omega
  unfold cellN
  rw [hl]
  unfold cellsN
  simp [List.getD_eq_getElem?_getD, h3]
section
variable {n clk : Nat} {S : BS} {ver val : Nat → Nat}
/-- What statements come to. -/
def RnGo (n clk : Nat) (S : BS) (ver val : Nat → Nat) (p : Tree (Nat × (Rn × Th.Tx))) (r : Rn) (t : Th.Tx) (k : Nat) : Prop :=
  ∃ r' t' now', Goes p S (0, r', t') S k ∧ TxQ n clk ver val now' t' ∧ (∃ m, r'.told = r.told ++ m) ∧ t'.sets.marks = t.sets.marks ∧ (t.sets.marks ≠ [] → Und t.sets t'.sets)
/-- A part that is kept. -/
theorem part_goes {u k : Nat} {P : Rn → Th.Tx → Tree (Nat × (Rn × Th.Tx))} {r : Rn} {t : Th.Tx} {now : Nat → Nat} (hu : 12 ≤ u) (hm : t.sets.marks.length < 20) (ht : TxQ n clk ver val now t)
    (hP : ∀ t0, TxQ n clk ver val now t0 → t0.sets.marks = t.sets.marks ++ [t.sets.log.length] → t0.sets.log = t.sets.log → t0.sets.writes = t.sets.writes → t.on t.sets.mark.2.2 = t0 → RnGo n clk S ver val (P r t0) r t0 k) :
    ∃ r' t', (∃ now', Goes (tPart P u r t) S (0, false, r', t') S k ∧ TxQ n clk ver val now' t') ∧ (∃ m, r'.told = r.told ++ m) ∧ t'.sets.marks = t.sets.marks ∧ (t.sets.marks ≠ [] → Und t.sets t'.sets) := by
  have hmk : t.sets.mark = (0, t.sets.marks.length + 1, { t.sets with marks := t.sets.marks ++ [t.sets.log.length] }) := by
    unfold Sets.mark
    rw [if_neg (by omega)]
  obtain ⟨t0, ht0⟩ : ∃ t0, t.on t.sets.mark.2.2 = t0 := ⟨_, rfl⟩
  have h0 : TxQ n clk ver val now t0 := by rw [← ht0, hmk]; exact ht.on rfl rfl
  obtain ⟨r', t1, now', g1, g2, g3, g4, g5⟩ := hP t0 h0 (by rw [← ht0, hmk]; rfl) (by rw [← ht0, hmk]; rfl) (by rw [← ht0, hmk]; rfl) ht0
  have m0 : t0.sets.marks = t.sets.marks ++ [t.sets.log.length] := by rw [← ht0, hmk]; rfl
  rw [m0] at g4
  have hkp : t1.sets.keepN (t.sets.marks.length + 1) = (0, t1.sets.keep (t.sets.marks.length + 1)) := by
    unfold Sets.keepN
    rw [if_pos (by rw [g4]; simp)]
  refine ⟨r', t1.on (t1.sets.keep (t.sets.marks.length + 1)), ⟨now', ?_, g2.on rfl rfl⟩, g3, ?_, fun e => ?_⟩
  · unfold tPart
    rw [ht0, if_pos (by rw [hmk])]
    refine Goes.bindM (m := 0) g1 (fun x => ⟨_, by simp only; rw [if_neg (by omega)]⟩) ?_ (by omega)
    simp only
    rw [if_neg (by omega), hmk]
    simp only [hkp]
    exact Goes.ret _ _
  · show (t1.sets.keep _).marks = _
    unfold Sets.keep
    simp [g4]
  · obtain ⟨m, u1, u2⟩ := g5 (by rw [m0]; simp)
    refine ⟨m, ?_, ?_⟩
    · show (t1.sets.keep _).log = _
      unfold Sets.keep
      simp only
      rw [if_neg (by have := List.length_pos_iff.2 e; omega), u1, ← ht0, hmk]
      rfl
    · show m.reverse.foldl undo1 (t1.sets.keep _).writes = _
      unfold Sets.keep
      simp only
      rw [u2, ← ht0, hmk]
      rfl
/-- A part that is taken back. -/
theorem part_undone {u k : Nat} {P : Rn → Th.Tx → Tree (Nat × (Rn × Th.Tx))} {r : Rn} {t : Th.Tx} {now : Nat → Nat} (hu : 12 ≤ u) (hm : t.sets.marks.length < 20) (ht : TxQ n clk ver val now t)
    (hP : ∀ t0, TxQ n clk ver val now t0 → t0.sets.marks = t.sets.marks ++ [t.sets.log.length] → t.on t.sets.mark.2.2 = t0 → ∃ r' t' now', Goes (P r t0) S (u, r', t') S k ∧ TxQ n clk ver val now' t' ∧ (∃ m, r'.told = r.told ++ m) ∧ t'.sets.marks = t0.sets.marks ∧ Und t0.sets t'.sets) :
    ∃ r' rd, Goes (tPart P u r t) S (0, true, r', t.rd rd) S k ∧ TxQ n clk ver val now (t.rd rd) ∧ ∃ m, r'.told = r.told ++ m := by
  have hmk : t.sets.mark = (0, t.sets.marks.length + 1, { t.sets with marks := t.sets.marks ++ [t.sets.log.length] }) := by
    unfold Sets.mark
    rw [if_neg (by omega)]
  obtain ⟨t0, ht0⟩ : ∃ t0, t.on t.sets.mark.2.2 = t0 := ⟨_, rfl⟩
  have h0 : TxQ n clk ver val now t0 := by rw [← ht0, hmk]; exact ht.on rfl rfl
  obtain ⟨r', t1, now', g1, g2, g3, g4, g5⟩ := hP t0 h0 (by rw [← ht0, hmk]; rfl) ht0
  have m0 : t0.sets.marks = t.sets.marks ++ [t.sets.log.length] := by rw [← ht0, hmk]; rfl
  rw [m0] at g4
  have g5' : Und t.sets t1.sets := by
    obtain ⟨m, u1, u2⟩ := g5
    exact ⟨m, by rw [u1, ← ht0, hmk]; rfl, by rw [u2, ← ht0, hmk]; rfl⟩
  obtain ⟨b1, b2⟩ := und_back g4 g5'
  have e1 : t1.clock = t.clock ∧ t1.owner = t.owner ∧ t1.stamp = t.stamp := ⟨g2.tx.clock.trans ht.tx.clock.symm, g2.tx.owner.trans ht.tx.owner.symm, g2.tx.stamp.trans ht.tx.stamp.symm⟩
  have e2 : t1.on { t.sets with reads := t1.sets.reads } = t.rd t1.sets.reads := by
    obtain ⟨a1, a2, a3⟩ := e1
    unfold Tx.rd Tx.on
    rw [a1, a2, a3]
  refine ⟨r', t1.sets.reads, ?_, ?_, g3⟩
  · unfold tPart
    rw [ht0, if_pos (by rw [hmk])]
    refine Goes.bindM (m := 0) g1 (fun x => ⟨_, by simp only; rw [if_neg (by omega)]⟩) ?_ (by omega)
    simp only
    rw [if_pos True.intro, hmk]
    simp only [b2, e2]
    exact Goes.ret _ _
  · exact ⟨⟨ht.tx.clock, ht.tx.owner, ht.tx.stamp, g2.tx.reads, g2.tx.few, ht.tx.writes, ht.tx.sorted, ht.tx.fewW, ht.tx.now⟩, g2.dist⟩
end
mutual
theorem rOne_goes {n clk : Nat} {S : BS} {ver val : Nat → Nat} (hn : 1 ≤ n) (hn4 : n ≤ 4) (hs : Sc n S clk (fun i => rest (ver i)) val) (hv : ∀ i, i < n → ver i ≤ clk) : ∀ (s : St) (d : Nat) (r : Rn) (t : Th.Tx) (now : Nat → Nat), (∀ x ∈ flatS d s, x.2 ≤ 8) → t.sets.marks.length + 1 ≤ d → endsS s = false → TxQ n clk ver val now t → RnGo n clk S ver val (rOne (cellsN n) s r t) r t (3 * cntS s)
  | .mk h b e, d, r, t, now, hd, hm, he, ht => by
    have hd8 : d ≤ 8 := hd (.mk h b e, d) (by rw [flatS]; exact List.mem_cons_self ..)
    have hdb : ∀ x ∈ flatL (d + 1) b, x.2 ≤ 8 := fun x hx => hd x (by rw [flatS]; exact List.mem_cons_of_mem _ (List.mem_append_left _ hx))
    have hde : ∀ x ∈ flatL (d + 1) e, x.2 ≤ 8 := fun x hx => hd x (by rw [flatS]; exact List.mem_cons_of_mem _ (List.mem_append_right _ hx))
    have he' : (h.kind == 15 || h.kind == 16 || h.kind == 12 || endsL b || endsL e) = false := by rw [← he, endsS]
    simp only [Bool.or_eq_false_iff, beq_eq_false_iff_ne, ne_eq] at he'
    obtain ⟨⟨⟨⟨n15, n16⟩, n12⟩, eb⟩, ee⟩ := he'
    have hc : cntS (.mk h b e) = 1 + cntL b + cntL e := by rw [cntS]
    rw [hc]
    unfold rOne
    by_cases k1 : h.kind = 1
    · rw [if_pos k1]
      obtain ⟨j, hj, ej⟩ := cellN_at hn r h.a
      rw [ej]
      obtain ⟨rd, g1, g2⟩ := tRead_q hs ht hv (by omega) hj
      refine ⟨r.tell h.reg (toI (now j)), _, now, ?_, g2, ⟨_, rfl⟩, rfl, fun _ => .of rfl rfl⟩
      refine Goes.bindM (m := 0) g1 (fun x => ⟨_, rfl⟩) ?_ (by omega)
      unfold rGet
      simp only [if_true]
      exact Goes.ret _ _
    · rw [if_neg k1]
      by_cases k2 : h.kind = 2
      · rw [if_pos k2]
        obtain ⟨j, hj, ej⟩ := cellN_at hn r h.a
        rw [ej]
        obtain ⟨w1, w2, -⟩ := tWrite_q ht (by omega) hj (argN r h.b % 1000).toNat
        refine ⟨r, _, _, ?_, w2, ⟨[], by simp⟩, (tWrite_same _ _ _).1, fun hmk => und_write ht.tx.sorted hmk _ _⟩
        rw [w1]
        exact (Goes.ret _ _).more (by omega)
      · rw [if_neg k2]
        by_cases k9 : h.kind = 9
        · rw [if_pos k9]
          exact ⟨_, t, now, (Goes.ret _ _).more (by omega), ht, ⟨[], by simp [Rn.set]⟩, rfl, fun _ => .of rfl rfl⟩
        · rw [if_neg k9]
          by_cases k10 : h.kind = 10
          · rw [if_pos k10]
            exact ⟨_, t, now, (Goes.ret _ _).more (by omega), ht, ⟨[], by simp [Rn.set]⟩, rfl, fun _ => .of rfl rfl⟩
          · rw [if_neg k10]
            by_cases k11 : h.kind = 11
            · rw [if_pos k11]
              split
              · obtain ⟨r', t', now', g1, g⟩ := rAll_goes hn hn4 hs hv b (d + 1) r t now hdb (by omega) eb ht
                exact ⟨r', t', now', g1.more (by omega), g⟩
              · obtain ⟨r', t', now', g1, g⟩ := rAll_goes hn hn4 hs hv e (d + 1) r t now hde (by omega) ee ht
                exact ⟨r', t', now', g1.more (by omega), g⟩
            · rw [if_neg k11, if_neg n12]
              by_cases k13 : h.kind = 13
              · rw [if_pos k13]
                obtain ⟨r', t', ⟨now', g1, g2⟩, g3, g4, g5⟩ := part_goes (u := 14) (k := 3 * cntL b) (P := fun r t => rAll (cellsN n) b r t) (r := r) (by omega) (by omega) ht (fun t0 h0 m0 _ _ _ => rAll_goes hn hn4 hs hv b (d + 1) r t0 now hdb (by rw [m0, List.length_append, List.length_singleton]; omega) eb h0)
                refine ⟨r', t', now', ?_, g2, g3, g4, g5⟩
                unfold tAtomic
                refine Goes.bindM (m := 0) g1 (fun x => ⟨_, rfl⟩) ?_ (by omega)
                exact Goes.ret _ _
              · rw [if_neg k13]
                by_cases k14 : h.kind = 14
                · rw [if_pos k14]
                  obtain ⟨r', t', ⟨now', g1, g2⟩, g3, g4, g5⟩ := part_goes (u := 13) (k := 3 * cntL b) (P := fun r t => rAll (cellsN n) b r t) (r := r) (by omega) (by omega) ht (fun t0 h0 m0 _ _ _ => rAll_goes hn hn4 hs hv b (d + 1) r t0 now hdb (by rw [m0, List.length_append, List.length_singleton]; omega) eb h0)
                  refine ⟨r', t', now', ?_, g2, g3, g4, g5⟩
                  unfold tOr
                  refine Goes.bindM (m := 0) g1 (fun x => ⟨_, by simp only; rw [if_neg (by omega)]⟩) ?_ (by omega)
                  simp only [Bool.false_eq_true, and_false, if_false]
                  exact Goes.ret _ _
                · rw [if_neg k14, if_neg n15, if_neg n16]
                  exact ⟨r, t, now, (Goes.ret _ _).more (by omega), ht, ⟨[], by simp⟩, rfl, fun _ => .of rfl rfl⟩
theorem rAll_goes {n clk : Nat} {S : BS} {ver val : Nat → Nat} (hn : 1 ≤ n) (hn4 : n ≤ 4) (hs : Sc n S clk (fun i => rest (ver i)) val) (hv : ∀ i, i < n → ver i ≤ clk) : ∀ (l : List St) (d : Nat) (r : Rn) (t : Th.Tx) (now : Nat → Nat), (∀ x ∈ flatL d l, x.2 ≤ 8) → t.sets.marks.length + 1 ≤ d → endsL l = false → TxQ n clk ver val now t → RnGo n clk S ver val (rAll (cellsN n) l r t) r t (3 * cntL l)
  | [], d, r, t, now, hd, hm, he, ht => by
    unfold rAll
    exact ⟨r, t, now, (Goes.ret _ _).more (Nat.zero_le _), ht, ⟨[], by simp⟩, rfl, fun _ => .of rfl rfl⟩
  | s :: l, d, r, t, now, hd, hm, he, ht => by
    have he' : (endsS s || endsL l) = false := by rw [← he, endsL]
    simp only [Bool.or_eq_false_iff] at he'
    obtain ⟨r1, t1, now1, g1, g2, ⟨m1, g3⟩, g4, g5⟩ := rOne_goes hn hn4 hs hv s d r t now (fun x hx => hd x (by rw [flatL]; exact List.mem_append_left _ hx)) hm he'.1 ht
    obtain ⟨r2, t2, now2, a1, a2, ⟨m2, a3⟩, a4, a5⟩ := rAll_goes hn hn4 hs hv l d r1 t1 now1 (fun x hx => hd x (by rw [flatL]; exact List.mem_append_right _ hx)) (by rw [g4]; exact hm) he'.2 g2
    refine ⟨r2, t2, now2, ?_, a2, ⟨m1 ++ m2, by rw [a3, g3, List.append_assoc]⟩, a4.trans g4, fun hmk => (g5 hmk).trans (a5 (by rw [g4]; exact hmk))⟩
    unfold rAll
    refine Goes.bindM (m := 3 * cntL l) g1 (fun x => ⟨_, rfl⟩) ?_ (by rw [show cntL (s :: l) = cntS s + cntL l from by rw [cntL]]; omega)
    simp only [if_true]
    exact a1
end
def stGet (key : Nat) : St := .mk ⟨1, 0, 1, (0, (key : Int)), (0, 0)⟩ [] []
def stEnd (k : Nat) : St := .mk ⟨k, 0, 0, (0, 0), (0, 0)⟩ [] []
def stPart (waits : Bool) (q : List St) : St := .mk ⟨if waits then 14 else 13, 0, 0, (0, 0), (0, 0)⟩ (q ++ [stEnd (if waits then 15 else 16)]) []
section
variable {n clk : Nat} {S : BS} {ver val : Nat → Nat}
variable (hn : 1 ≤ n) (hn4 : n ≤ 4) (hs : Sc n S clk (fun i => rest (ver i)) val) (hv : ∀ i, i < n → ver i ≤ clk)
include hn hn4 hs hv
theorem get_goes {key : Nat} (hk : key < n) (r : Rn) {t : Th.Tx} {now : Nat → Nat} (ht : TxQ n clk ver val now t) : ∃ rd, Goes (rOne (cellsN n) (stGet key) r t) S (0, r.tell 1 (toI (now key)), t.rd rd) S 3 ∧ TxQ n clk ver val now (t.rd rd) := by
  have e : cellN (cellsN n) r (0, (key : Int)) = 3 + 3 * key := by
    have hl : (cellsN n).length = n := by simp [cellsN]
    unfold cellN argN
    rw [if_neg (by simp), hl]
    have e1 : ((key : Int) % 64 % (n : Int)) = (key : Int) := by
      rw [Int.emod_eq_of_lt (a := (key : Int)) (b := 64) (by omega) (by omega), Int.emod_eq_of_lt (by omega) (by omega)]
    simp only [e1, Int.toNat_natCast]
    unfold cellsN
    simp [List.getD_eq_getElem?_getD, hk]
  obtain ⟨rd, g1, g2⟩ := tRead_q hs ht hv (by omega) hk
  refine ⟨rd, ?_, g2⟩
  unfold stGet rOne
  rw [if_pos rfl, e]
  refine Goes.bindM (m := 0) g1 (fun x => ⟨_, rfl⟩) ?_ (by omega)
  unfold rGet
  simp only [if_true]
  exact Goes.ret _ _
/-- Statements, and an end behind them. -/
theorem ends_goes {u : Nat} (hu : u = 13 ∨ u = 14) {q : List St} {d : Nat} {r : Rn} {t : Th.Tx} {now : Nat → Nat} (hd : ∀ x ∈ flatL d q, x.2 ≤ 8) (hm : t.sets.marks.length + 1 ≤ d) (he : endsL q = false) (ht : TxQ n clk ver val now t) :
    ∃ r' t' now', Goes (rAll (cellsN n) (q ++ [stEnd (u + 2)]) r t) S (u, r', t') S (3 * cntL q) ∧ TxQ n clk ver val now' t' ∧ (∃ m, r'.told = r.told ++ m) ∧ t'.sets.marks = t.sets.marks ∧ (t.sets.marks ≠ [] → Und t.sets t'.sets) := by
  obtain ⟨r', t', now', g1, g2⟩ := rAll_goes hn hn4 hs hv q d r t now hd hm he ht
  refine ⟨r', t', now', ?_, g2⟩
  rw [rAll_app]
  refine Goes.bindM (m := 0) g1 (fun x => ⟨_, rfl⟩) ?_ (by omega)
  simp only [if_true]
  have e : rAll (cellsN n) [stEnd (u + 2)] r' t' = .ret (u, r', t') := by
    unfold rAll stEnd rOne
    rcases hu with rfl | rfl <;> rfl
  rw [e]
  exact Goes.ret _ _
omit hn hn4 hv in
theorem begin_goes (hc : clk < 9223372036854775808) : Goes (tBegin 1 1) S (0, ⟨.empty, 1, ((1 : Nat) : Int), (clk : Int)⟩) S 1 ∧ TxQ n clk ver val val ⟨.empty, 1, ((1 : Nat) : Int), (clk : Int)⟩ := by
  have b1 := mNow_goes hs hc
  refine ⟨?_, ⟨⟨rfl, rfl, rfl, fun _ h => (by cases h), Nat.zero_le _, fun _ h => (by cases h), trivial, Nat.zero_le _, fun _ _ => rfl⟩, by simp [Sets.empty]⟩⟩
  show Goes ((mNow 1).bind fun r => .ret (r.1, (⟨.empty, 1, 1, r.2⟩ : Th.Tx))) _ _ _ _
  exact b1.bind (m := 0) (fun x => ⟨_, rfl⟩) (Goes.ret _ _)
theorem undone_goes (hc : clk < 9223372036854775808) {key : Nat} (hk : key < n) (waits : Bool) {q : List St} (hd : ∀ x ∈ flatL 2 q, x.2 ≤ 8) (he : endsL q = false) :
    ∃ m, Goes (bodyX [stGet key, stPart waits q, stGet key] 1 (cellsN n)) S (0, fun _ => (⟨1, (clk : Int), false, false⟩, toI (val key) :: (m ++ [toI (val key)]))) S (10 + 3 * cntL q) := by
  obtain ⟨hb, h0⟩ := begin_goes hs hc
  obtain ⟨rd1, a1, a2⟩ := get_goes hn hn4 hs hv hk .none h0
  obtain ⟨t1, ht1⟩ : ∃ t1, (⟨.empty, 1, ((1 : Nat) : Int), (clk : Int)⟩ : Th.Tx).rd rd1 = t1 := ⟨_, rfl⟩
  have m1 : t1.sets.marks = [] := by rw [← ht1]; rfl
  have w1 : t1.sets.writes = [] := by rw [← ht1]; rfl
  rw [ht1] at a1 a2
  obtain ⟨u, hu1, hu2⟩ : ∃ u, (u = if waits then 13 else 14) ∧ (u = 13 ∨ u = 14) := ⟨_, rfl, by cases waits <;> simp⟩
  obtain ⟨r2, rd2, p1, p2, ⟨m, p3⟩⟩ := part_undone (u := u) (k := 3 * cntL q) (P := fun r t => rAll (cellsN n) (q ++ [stEnd (u + 2)]) r t) (r := Rn.none.tell 1 (toI (val key))) (by omega) (by rw [m1]; simp) a2 (fun t0 h m0 _ => by
    obtain ⟨r', t', now', g1, g2, g3, g4, g5⟩ := ends_goes hn hn4 hs hv hu2 hd (r := Rn.none.tell 1 (toI (val key))) (by rw [m0, m1]; simp) he h
    exact ⟨r', t', now', g1, g2, g3, g4, g5 (by rw [m0]; simp)⟩)
  have part : ∃ r3, Goes (rOne (cellsN n) (stPart waits q) (Rn.none.tell 1 (toI (val key))) t1) S (0, r3, t1.rd rd2) S (3 * cntL q) ∧ ∃ m, r3.told = [toI (val key)] ++ m := by
    cases waits with
    | false =>
      obtain rfl : u = 14 := hu1
      refine ⟨r2, ?_, m, p3⟩
      unfold stPart rOne
      simp only [Bool.false_eq_true, if_false]
      rw [if_neg (by omega), if_neg (by omega), if_neg (by omega), if_neg (by omega), if_neg (by omega), if_neg (by omega), if_pos True.intro]
      unfold tAtomic
      refine Goes.bindM (m := 0) p1 (fun x => ⟨_, rfl⟩) ?_ (by omega)
      exact Goes.ret _ _
    | true =>
      obtain rfl : u = 13 := hu1
      refine ⟨Rn.none.tell 1 (toI (val key)), ?_, [], rfl⟩
      unfold stPart rOne
      simp only [if_true]
      rw [if_neg (by omega), if_neg (by omega), if_neg (by omega), if_neg (by omega), if_neg (by omega), if_neg (by omega), if_neg (by omega)]
      try rw [if_pos True.intro]
      unfold tOr
      refine Goes.bindM (m := 0) p1 (fun x => ⟨_, by simp only; rw [if_neg (by omega)]⟩) ?_ (by omega)
      simp only [and_self, if_true]
      rw [show rAll (cellsN n) [] (Rn.none.tell 1 (toI (val key))) (t1.rd rd2) = .ret (0, Rn.none.tell 1 (toI (val key)), t1.rd rd2) from by rw [rAll]]
      exact Goes.ret _ _
  obtain ⟨r3, q1, m', q2⟩ := part
  obtain ⟨rd3, c1, c2⟩ := get_goes hn hn4 hs hv hk r3 p2
  refine ⟨m', ?_⟩
  have hall : Goes (rAll (cellsN n) [stGet key, stPart waits q, stGet key] .none ⟨.empty, 1, ((1 : Nat) : Int), (clk : Int)⟩) S (0, r3.tell 1 (toI (val key)), (t1.rd rd2).rd rd3) S (6 + 3 * cntL q) := by
    rw [rAll]
    refine Goes.bindM (m := 3 * cntL q + 3) a1 (fun x => ⟨_, rfl⟩) ?_ (by omega)
    simp only [if_true]
    rw [rAll]
    refine Goes.bindM (m := 3) q1 (fun x => ⟨_, rfl⟩) ?_ (by omega)
    simp only [if_true]
    rw [rAll]
    refine Goes.bindM (m := 0) c1 (fun x => ⟨_, rfl⟩) ?_ (by omega)
    simp only [if_true]
    rw [rAll]
    exact Goes.ret _ _
  unfold bodyX
  refine Goes.bindM (m := 6 + 3 * cntL q) hb (fun x => ⟨_, rfl⟩) ?_ (by omega)
  simp only [if_true]
  refine Goes.bindM (m := 0) hall (fun x => ⟨_, rfl⟩) ?_ (by omega)
  have hw : ((t1.rd rd2).rd rd3).sets.writes = [] := w1
  have hst : ((t1.rd rd2).rd rd3).stamp = (clk : Int) := c2.tx.stamp
  have e : tEnd ((t1.rd rd2).rd rd3) 0 = .ret (0, ⟨1, (clk : Int), false, false⟩, (t1.rd rd2).rd rd3) := by
    unfold tEnd tCommit
    rw [if_pos rfl, if_pos hw, hw, hst]
    rfl
  simp only [e]
  have e3 : (r3.tell 1 (toI (val key))).told = toI (val key) :: (m' ++ [toI (val key)]) := by
    show r3.told ++ [_] = _
    rw [q2]
    simp
  show Goes (.ret (0, fun _ : Rsl × List Int => ((⟨1, (clk : Int), false, false⟩ : Rsl), (r3.tell 1 (toI (val key))).told))) _ _ _ _
  rw [e3]
  exact Goes.ret _ _
theorem waits_goes (hc : clk < 9223372036854775808) {q : List St} (hd : ∀ x ∈ flatL 1 q, x.2 ≤ 8) (he : endsL q = false) :
    ∃ m, Goes (bodyX (q ++ [stEnd 15]) 1 (cellsN n)) S (0, fun _ => (⟨3, (clk : Int), false, false⟩, m)) S (10 + 3 * cntL q) := by
  obtain ⟨hb, h0⟩ := begin_goes hs hc
  obtain ⟨r', t', now', g1, g2, g3⟩ := ends_goes hn hn4 hs hv (u := 13) (.inl rfl) hd (r := .none) (by simp [Sets.empty]) he h0
  refine ⟨r'.told, ?_⟩
  unfold bodyX
  refine Goes.bindM (m := 3 * cntL q + 4) hb (fun x => ⟨_, rfl⟩) ?_ (by omega)
  simp only [if_true]
  refine Goes.bindM (m := 4) g1 (fun x => ⟨_, rfl⟩) ?_ (by omega)
  unfold tEnd
  simp only
  rw [if_neg (by omega), if_neg (by omega), if_pos True.intro]
  have := tCheck_goes hs g2.tx
  refine Goes.bindM (k := 4) (m := 0) (S1 := S) (b := (0, (⟨3, (clk : Int), false, false⟩ : Rsl), t')) ?_ (fun x => ⟨_, rfl⟩) (Goes.ret _ _) (by omega)
  refine Goes.bindM (m := 0) this (fun x => ⟨_, rfl⟩) ?_ (by omega)
  simp only [if_true, g2.tx.stamp]
  exact Goes.ret _ _
end
end Go.Proofs.YtkpdacfiglpgeaaGreatDoor.Th
