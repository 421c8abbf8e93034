/- Sets9: SetsDel, Sets7, Sets8, Sets9. -/
import Derived.Test.YtkpdacfiglpgeaaGreatDoorSetsLook
import Derived.Maps.OwnSet
import Derived.Test.YtkpdacfiglpgeaaGreatDoorSets3

/- Layer 7 (sets): what a deletion leaves of a map. No program stands here. -/
namespace Go.Proofs.YtkpdacfiglpgeaaGreatDoor
open Go.RowKit Th

/-- The entries without a key. -/
def dele (k : Int) : List Ent → List Ent
  | [] => []
  | e :: es => if e.key = k then es else e :: dele k es
theorem dele_none (k : Int) : ∀ es : List Ent, look k es = none → dele k es = es
  | [], _ => rfl
  | e :: es, h => by
    unfold look at h
    by_cases hk : e.key = k
    · simp [hk] at h
    · rw [if_neg hk] at h
      simp [dele, hk, dele_none k es h]
theorem dele_sub (k : Int) : ∀ es : List Ent, (dele k es).Sublist es
  | [] => .slnil
  | e :: es => by
    unfold dele
    split
    · exact List.sublist_cons_self e es
    · exact (dele_sub k es).cons_cons e
theorem place_del (k : Int) (kd : IntKind) : ∀ (es : List Ent) (i j : Nat) (x : Value), place k es i = some (j, x) → i ≤ j ∧ (es.map (Ent.mk' kd)).eraseIdx (j - i) = (dele k es).map (Ent.mk' kd)
  | [], _, _, _, h => by simp [place] at h
  | e :: es, i, j, x, h => by
    unfold place at h
    by_cases hk : e.key = k
    · rw [if_pos hk] at h
      obtain ⟨rfl, rfl⟩ := Prod.mk.inj (Option.some.inj h)
      simp [dele, hk]
    · rw [if_neg hk] at h
      obtain ⟨h1, h2⟩ := place_del k kd es (i + 1) j x h
      refine ⟨by omega, ?_⟩
      rw [show j - i = (j - (i + 1)) + 1 by omega]
      simp only [List.map_cons, List.eraseIdx_cons_succ, h2, dele, hk, if_false]
theorem look_dele (k j : Int) : ∀ es : List Ent, (es.map (·.key)).Nodup → look j (dele k es) = if j = k then none else look j es
  | [], _ => by simp [dele, look]
  | e :: es, hn => by
    simp only [List.map_cons, List.nodup_cons] at hn
    unfold dele
    by_cases hk : e.key = k
    · rw [if_pos hk]
      by_cases hj : j = k
      · rw [if_pos hj]
        exact (look_key j es).2 (by rw [hj, ← hk]; exact hn.1)
      · rw [if_neg hj]
        simp only [look]
        rw [if_neg (fun q => hj (q.symm.trans hk))]
    · rw [if_neg hk]
      simp only [look]
      by_cases hj : e.key = j
      · rw [if_pos hj, if_pos hj, if_neg (fun q => hk (hj.trans q))]
      · rw [if_neg hj, if_neg hj]
        exact look_dele k j es hn.2
theorem len_dele (k : Int) : ∀ es : List Ent, (dele k es).length = if (look k es).isSome then es.length - 1 else es.length
  | [] => rfl
  | e :: es => by
    unfold dele look
    by_cases hk : e.key = k
    · simp [hk]
    · rw [if_neg hk, if_neg hk]
      simp only [List.length_cons, len_dele k es]
      split
      · rename_i hs
        have : es ≠ [] := by
          rintro rfl
          simp [look] at hs
        have : 0 < es.length := List.length_pos_iff.2 this
        omega
      · rfl
theorem wget_lt (k : Nat) : ∀ l : List (Nat × Nat), (∀ y ∈ l, k < y.1) → wget k l = none
  | [], _ => rfl
  | x :: l, h => by
    unfold wget
    have := h x (by simp)
    rw [if_neg (by omega)]
    exact wget_lt k l fun y hy => h y (by simp [hy])
theorem wget_wdel (k j : Nat) : ∀ l : List (Nat × Nat), Th.Sorted l → wget j (wdel k l) = if j = k then none else wget j l
  | [], _ => by simp [wdel, wget]
  | x :: l, hs => by
    unfold wdel
    by_cases hk : k = x.1
    · rw [if_pos hk]
      by_cases hj : j = k
      · rw [if_pos hj, hj, hk]
        exact wget_lt _ l hs.1
      · rw [if_neg hj]
        simp only [wget]
        rw [if_neg (fun q => hj (q.trans hk.symm))]
    · rw [if_neg hk]
      simp only [wget]
      by_cases hj : j = x.1
      · rw [if_pos hj, if_pos hj, if_neg (fun q => hk (q.symm.trans hj))]
      · rw [if_neg hj, if_neg hj]
        exact wget_wdel k j l hs.2
theorem wdel_sub (k : Nat) : ∀ l : List (Nat × Nat), (wdel k l).Sublist l
  | [] => .slnil
  | x :: l => by
    unfold wdel
    split
    · exact List.sublist_cons_self x l
    · exact (wdel_sub k l).cons_cons x
theorem len_wdel (k : Nat) : ∀ l : List (Nat × Nat), (wdel k l).length = if (wget k l).isSome then l.length - 1 else l.length
  | [] => rfl
  | x :: l => by
    unfold wdel wget
    by_cases hk : k = x.1
    · simp [hk]
    · rw [if_neg hk, if_neg hk]
      simp only [List.length_cons, len_wdel k l]
      split
      · rename_i hs
        have : l ≠ [] := by
          rintro rfl
          simp [wget] at hs
        have : 0 < l.length := List.length_pos_iff.2 this
        omega
      · rfl
theorem sorted_sub : ∀ {l l' : List (Nat × Nat)}, l'.Sublist l → Th.Sorted l → Th.Sorted l'
  | _, _, .slnil, h => h
  | _, _, .cons _ s, h => sorted_sub s h.2
  | _, _, .cons_cons _ s, h => ⟨fun y hy => h.1 y (s.subset hy), sorted_sub s h.2⟩
theorem WMap.del {ws : List (Nat × Nat)} {es : List Ent} {c : Nat} (h : WMap ws es c) (k : Nat) : WMap (wdel k ws) (dele (k : Int) es) c := by
  have s := dele_sub (k : Int) es
  refine ⟨fun j => ?_, ?_, ?_, ?_, ?_, ?_, sorted_sub (wdel_sub k ws) h.sorted⟩
  · rw [look_dele _ _ _ h.keys, wget_wdel k j ws h.sorted, h.look j]
    by_cases e : j = k
    · simp [e]
    · rw [if_neg (by omega), if_neg e]
  · rw [len_dele, len_wdel, h.look k, h.len]
    simp
  · exact (s.map _).nodup h.born
  · exact fun b hb => h.old b ((s.map _).subset hb)
  · exact (s.map _).nodup h.keys
  · exact fun x hx => h.nat x ((s.map _).subset hx)
theorem run_delete_at {P : Program} {w : World} {b : Nat} {kd : IntKind} {es : List Ent} {c : Nat} (h : MapAt w b kd es c) {t kt e : TypeId} (ht : P.underlying t = some (.map kt e)) (hk : P.underlying kt = some (.int kd)) (k : Int) (ty : TypeId) :
    (Builtin.delete_ #[t, kt] ty #[.map (some b), .int kd k]).run P w = .ok (.tuple #[]) (updWorld w b kd (dele k es) c) := by
  have hf := findNow_at kd k es 0
  simp only [Builtin.delete_, run_underlying ht, Sem.run_bind, Result.andThen_ok, run_getObj h, run_checkKey_int hk, Instr.findKey, run_underlying hk, hf, Sem.run_pure, List.getElem?_toArray, List.getElem?_cons_zero, List.getElem?_cons_succ]
  cases hp : place k es 0 with
  | none =>
    have hl := place_none k es 0 hp
    simp only
    rw [Sem.run_bind, MapKept.run_setObj_map _ h]
    unfold updWorld
    rw [dele_none k es hl]
    simp
  | some q =>
    obtain ⟨j, x⟩ := q
    obtain ⟨_, h2⟩ := place_del k kd es 0 j x hp
    simp only [Nat.sub_zero] at h2
    simp only
    rw [Sem.run_bind, MapKept.run_setObj_map _ h]
    unfold updWorld
    rw [← h2]
    simp
/-- A deletion at the operation, for the walk. -/
theorem wpList_delete_at {P : Program} (w : World) {ops : Array Oper} {rest : List Oper} {o : Oper} {a : Act} {Q : Exit → Act → World → Prop}
    (hg : o.guard = none) (m x : Operand) (t kt : TypeId) (hop : o.op = Op.call { callee := Callee.builtin Builtin.delete, args := #[m, x], argTypes := #[t, kt] })
    (e : TypeId) (kd : IntKind) (ht : P.underlying t = some (.map kt e)) (hk : P.underlying kt = some (.int kd)) (b : Nat) (es : List Ent) (c : Nat)
    (hm : a.eval m = .map (some b)) (h : MapAt w b kd es c) (k : Int) (hx : a.eval x = .int kd k)
    (hK : ∀ w', MapAt w' b kd (dele k es) c → Kept (fun i => i = b) w w' → wpList P ops Q rest (a.put o.dst (.tuple #[])) w') :
    wpList P ops Q (o :: rest) a w := by
  refine wpList_plain hg fun K' hK' => ?_
  have hrun := run_delete_at (P := P) h ht hk k o.type
  unfold Oper.wp
  simp [execOp, hop, resolve, invoke, builtin, hm, hx, hrun, Result.andThen]
  exact hK' _ _ (hK _ (updWorld_at h.lt kd _ c) (updWorld_kept w b kd _ c))
end Go.Proofs.YtkpdacfiglpgeaaGreatDoor

/- Layer 7 (sets): Mark, find, Keep. -/
namespace Go.Proofs.YtkpdacfiglpgeaaGreatDoor
open Go.RowKit Bl Th
set_option maxRecDepth 10000

/-- A row's beginning. -/
theorem ownsRow_cut {w : World} {base : Nat} {e : TypeId} {z : Nat} {p : Option Addr} {n cap : Nat} {xs : List Value} (h : w.ownsRow base e z (.slice p n cap) n xs) {k : Nat} (hk : k ≤ n) : w.ownsRow base e z (.slice p k cap) k (xs.take (k * z)) := by
  have hz : k * z ≤ n * z := Nat.mul_le_mul_right z hk
  refine ⟨by rw [List.length_take, h.1]; omega, ?_⟩
  rcases h.2 with ⟨hv, h0⟩ | ⟨g, c, cur, hv, hb, hg, hn, hm, hc, ht⟩
  · simp only [Value.slice.injEq] at hv
    exact .inl ⟨by rw [hv.1, hv.2.2, show k = 0 by omega], by omega⟩
  · simp only [Value.slice.injEq] at hv
    obtain ⟨rfl, -, rfl⟩ := hv
    refine .inr ⟨g, cap, cur, rfl, hb, hg, by omega, hm, hc, ?_⟩
    rw [← ht, List.take_take]
    congr 1
    omega
theorem ownsRow_cap {w : World} {base : Nat} {e : TypeId} {z : Nat} {p : Option Addr} {n cap : Nat} {xs : List Value} (h : w.ownsRow base e z (.slice p n cap) n xs) : n ≤ cap ∧ cap ≤ maxLen ∧ (p = none → n = 0 ∧ cap = 0) ∧ ∀ a, p = some a → ∃ g, a = ⟨g, 0, none⟩ := by
  rcases h.2 with ⟨hv, h0⟩ | ⟨g, c, cur, hv, hb, hg, hn, hm, hc, ht⟩
  · simp only [Value.slice.injEq] at hv
    obtain ⟨rfl, -, rfl⟩ := hv
    exact ⟨by omega, Nat.zero_le _, fun _ => ⟨h0, rfl⟩, by simp⟩
  · simp only [Value.slice.injEq] at hv
    obtain ⟨rfl, -, rfl⟩ := hv
    exact ⟨hn, hm, by simp, fun a ha => ⟨g, (Option.some.inj ha).symm⟩⟩
theorem take_flat {α : Type} (f : α → List Value) (z : Nat) (hf : ∀ a, (f a).length = z) : ∀ (l : List α) (k : Nat), (l.flatMap f).take (k * z) = (l.take k).flatMap f
  | [], k => by simp
  | a :: l, 0 => by simp
  | a :: l, k + 1 => by
    simp only [List.flatMap_cons, List.take_succ_cons]
    rw [List.take_append, hf a, List.take_of_length_le (by rw [hf a, Nat.succ_mul]; omega)]
    rw [show (k + 1) * z - z = k * z by rw [Nat.succ_mul]; omega, take_flat f z hf l k]

/-- What holds of a slice of sets behind a change: it is the one of before, it is none, or it is new. -/
def OwnCame (v v' : Value) (n : Nat) : Prop := v'.ownBlock = v.ownBlock ∨ v'.ownBlock = none ∨ ∃ b, v'.ownBlock = some b ∧ n ≤ b
theorem sets_turn {W : World} {ps : Nat} {s : Sets} {rv lv mv l' m' : Value} {ba bw : Nat} {ea ew ew' : List Ent} {ca cw cw' : Nat} {w w' : World} (h : SetsLies W ps s rv lv mv ba bw ea ew ca cw w) {ws' : List (Nat × Nat)} {log' : List Undo} {marks' : List Nat}
    (hk : Kept (fun b => b = ps ∨ b = bw ∨ some b = lv.ownBlock ∨ some b = mv.ownBlock) w w') (hm : Cells w' ps [rv, .map (some ba), .map (some bw), l', m'] 259)
    (hl : w'.ownsRow W.heap.size 318 3 l' log'.length (log'.flatMap encUndo)) (hmk : w'.ownsRow W.heap.size 3 1 m' marks'.length (marks'.flatMap encNat))
    (hw : MapAt w' bw .u64 ew' cw') (hwm : WMap ws' ew' cw') (hfw : ∀ x ∈ ws', x.1 < 18446744073709551616 ∧ x.2 < 18446744073709551616) (hfl : ∀ x ∈ log', x.cell < 18446744073709551616 ∧ x.value < 18446744073709551616) (hfewW : ws'.length ≤ 500) (hfewM : marks'.length ≤ 20)
    (hol : OwnCame lv l' w.heap.size) (hom : OwnCame mv m' w.heap.size) (hlm : l'.ownBlock = lv.ownBlock ∨ l'.ownBlock = none ∨ m'.ownBlock = mv.ownBlock ∨ m'.ownBlock = none) :
    ∃ B', SetsAt W ps ⟨s.reads, ws', log', marks'⟩ B' w' ∧ (∀ b ∈ B', b ∈ ps :: ba :: bw :: (rv.ownBlock.toList ++ (lv.ownBlock.toList ++ mv.ownBlock.toList)) ∨ w.heap.size ≤ b) ∧ Kept (fun b => b ∈ ps :: ba :: bw :: (rv.ownBlock.toList ++ (lv.ownBlock.toList ++ mv.ownBlock.toList))) w w' := by
  have hnd := h.nodup
  have hlt := (SetsAt.lt (W := W) (ps := ps) (s := s) ⟨rv, lv, mv, ba, bw, ea, ew, ca, cw, rfl, h⟩)
  simp only [List.nodup_cons, List.mem_cons, List.mem_append, not_or] at hnd
  obtain ⟨⟨n1, n2, n3, n4, n5⟩, ⟨n6, n7, n8, n9⟩, ⟨n10, n11, n12⟩, n13⟩ := hnd
  rw [List.nodup_append] at n13
  obtain ⟨n13a, n14, n15⟩ := n13
  rw [List.nodup_append] at n14
  obtain ⟨_, n16, n17⟩ := n14
  have hnotr : ∀ b, b ∈ rv.ownBlock.toList → ¬ (b = ps ∨ b = bw ∨ some b = lv.ownBlock ∨ some b = mv.ownBlock) := by
    intro b hb
    rintro (e | e | e | e)
    · subst e; exact n3 hb
    · subst e; exact n10 hb
    · exact n15 b hb b (by simp [← e]) rfl
    · exact n15 b hb b (by simp [← e]) rfl
  have came : ∀ {v v' : Value}, OwnCame v v' w.heap.size → ∀ b ∈ v'.ownBlock.toList, b ∈ v.ownBlock.toList ∨ w.heap.size ≤ b := by
    intro v v' ho b hb
    rcases ho with e | e | ⟨q, e, hq⟩
    · exact .inl (by rw [← e]; exact hb)
    · rw [e] at hb
      simp at hb
    · rw [e] at hb
      simp only [Option.toList_some, List.mem_singleton] at hb
      exact .inr (hb ▸ hq)
  have hl5 : ∀ b ∈ l'.ownBlock.toList, b ≠ ps ∧ b ≠ ba ∧ b ≠ bw ∧ b ∉ rv.ownBlock.toList := by
    intro b hb
    rcases came hol b hb with e | e
    · exact ⟨fun q => n4 (q ▸ e), fun q => n8 (q ▸ e), fun q => n11 (q ▸ e), fun q => n15 b q b (by simp [e]) rfl⟩
    · refine ⟨fun q => ?_, fun q => ?_, fun q => ?_, fun q => ?_⟩
      · have := hlt ps (by simp); omega
      · have := hlt ba (by simp); omega
      · have := hlt bw (by simp); omega
      · have := hlt b (by simp [q]); omega
  have hm5 : ∀ b ∈ m'.ownBlock.toList, b ≠ ps ∧ b ≠ ba ∧ b ≠ bw ∧ b ∉ rv.ownBlock.toList := by
    intro b hb
    rcases came hom b hb with e | e
    · exact ⟨fun q => n5 (q ▸ e), fun q => n9 (q ▸ e), fun q => n12 (q ▸ e), fun q => n15 b q b (by simp [e]) rfl⟩
    · refine ⟨fun q => ?_, fun q => ?_, fun q => ?_, fun q => ?_⟩
      · have := hlt ps (by simp); omega
      · have := hlt ba (by simp); omega
      · have := hlt bw (by simp); omega
      · have := hlt b (by simp [q]); omega
  have hlm' : ∀ b, b ∈ l'.ownBlock.toList → b ∉ m'.ownBlock.toList := by
    intro b h1 h2
    rcases hlm with e | e | e | e
    · rw [e] at h1
      rcases came hom b h2 with q | q
      · exact n17 b h1 b q rfl
      · have := hlt b (by simp [h1]); omega
    · rw [e] at h1; simp at h1
    · rw [e] at h2
      rcases came hol b h1 with q | q
      · exact n17 b q b h2 rfl
      · have := hlt b (by simp [h2]); omega
    · rw [e] at h2; simp at h2
  refine ⟨ps :: ba :: bw :: (rv.ownBlock.toList ++ (l'.ownBlock.toList ++ m'.ownBlock.toList)), ⟨rv, l', m', ba, bw, ea, ew', ca, cw', rfl, ⟨hm, ?_, hl, hmk, ?_, hw, h.atLook, hwm, h.fitR, hfw, hfl, h.fewR, hfewW, hfewM, h.new, ?_⟩⟩, ?_, ?_⟩
  · exact ownsRow_kept h.reads hk fun b hb => hnotr b (by simp [hb])
  · exact h.at'.kept hk (by
      rintro (e | e | e | e)
      · exact n1 e.symm
      · exact n6 e
      · exact n8 (by simp [← e])
      · exact n9 (by simp [← e]))
  · simp only [List.nodup_cons, List.mem_cons, List.mem_append, not_or]
    refine ⟨⟨n1, n2, n3, fun q => (hl5 ps q).1 rfl, fun q => (hm5 ps q).1 rfl⟩, ⟨n6, n7, fun q => (hl5 ba q).2.1 rfl, fun q => (hm5 ba q).2.1 rfl⟩, ⟨n10, fun q => (hl5 bw q).2.2.1 rfl, fun q => (hm5 bw q).2.2.1 rfl⟩, ?_⟩
    rw [List.nodup_append]
    refine ⟨n13a, ?_, ?_⟩
    · rw [List.nodup_append]
      exact ⟨by cases l'.ownBlock <;> simp, by cases m'.ownBlock <;> simp, fun a ha' b hb e => hlm' a ha' (e ▸ hb)⟩
    · intro a ha' b hb e
      subst e
      rcases List.mem_append.1 hb with q | q
      · exact (hl5 a q).2.2.2 ha'
      · exact (hm5 a q).2.2.2 ha'
  · intro b hb
    simp only [List.mem_cons, List.mem_append] at hb ⊢
    rcases hb with e | e | e | e | e | e
    · exact .inl (.inl e)
    · exact .inl (.inr (.inl e))
    · exact .inl (.inr (.inr (.inl e)))
    · exact .inl (.inr (.inr (.inr (.inl e))))
    · rcases came hol b e with q | q
      · exact .inl (.inr (.inr (.inr (.inr (.inl q)))))
      · exact .inr q
    · rcases came hom b e with q | q
      · exact .inl (.inr (.inr (.inr (.inr (.inr q)))))
      · exact .inr q
  · refine hk.mono fun b _ e => ?_
    rcases e with e | e | e | e
    · simp [e]
    · simp [e]
    · simp [← e]
    · simp [← e]

/-- find. -/
theorem sfind_ok {W : World} {ps : Nat} {s : Sets} {B : List Nat} {w : World} (h : SetsAt W ps s B w) {mark : Nat} (h1 : 1 ≤ mark) (h2 : mark ≤ s.marks.length) :
    Calls Tryz.prog 191 #[.pointer (some ⟨ps, 0, none⟩), .int .i64 (mark : Int)] w fun e w' => e = .returned (.tuple #[.int .i64 ((s.marks.getD (mark - 1) 0 : Nat) : Int), .nilIface]) ∧ w = w' := by
  have HM := Lib.hid (smade_ok h)
  obtain ⟨rv, lv, mv, ba, bw, ea, ew, ca, cw, rfl, h⟩ := h
  obtain ⟨p0, p1, p2, p3, p4, -⟩ := five h.main
  have hfew := h.fewM
  obtain ⟨p, cap, hmv⟩ := ownsRow_shape h.marks
  have hrow := h.marks
  rw [hmv] at hrow
  obtain ⟨-, -, hn, hs⟩ := ownsRow_cap hrow
  obtain ⟨a, ha⟩ : ∃ a, p = some a := by
    cases p with
    | none => have := (hn rfl).1; omega
    | some a => exact ⟨a, rfl⟩
  obtain ⟨g, rfl⟩ := hs a ha
  subst ha
  have q1 : w.cell? ⟨g, mark - 1, none⟩ = some (.int .i64 ((s.marks.getD (mark - 1) 0 : Nat) : Int)) := by
    have := hrow.cellAt (mark - 1) (by omega)
    rw [this]
    have hl : mark - 1 < s.marks.length := by omega
    rw [show s.marks.flatMap encNat = s.marks.map (fun n : Nat => Value.int .i64 (n : Int)) by rw [List.map_eq_flatMap]; rfl]
    simp [List.getElem?_map, List.getElem?_eq_getElem hl, List.getD_eq_getElem?_getD]
  obtain ⟨x, hx⟩ : ∃ x, s.marks.getD (mark - 1) 0 = x := ⟨_, rfl⟩
  rw [hx] at q1 ⊢
  obtain ⟨k, rfl⟩ : ∃ k, mark = k + 1 := ⟨mark - 1, by omega⟩
  simp only [Nat.add_sub_cancel] at q1
  obtain ⟨len, hlen⟩ : ∃ len, s.marks.length = len := ⟨_, rfl⟩
  rw [hlen] at hmv h2 hfew
  subst hmv
  have e1 : ((k + 1 : Nat) : Int) - 1 = (k : Int) := by omega
  have g1 : decide (((k + 1 : Nat) : Int) < 1) = false := by simp; omega
  have g2 : decide ((len : Int) < ((k + 1 : Nat) : Int)) = false := by simp; omega
  clear h hrow hn hs hx hlen h1
  go_enter Tryz.func191, Tryz.ntmps191
  go_wp2_with (go_at_call 136; refine HM.out.mono ?_; rintro e w' ⟨rfl, rfl⟩)
  go_ret2
  exact ⟨rfl, rfl⟩
end Go.Proofs.YtkpdacfiglpgeaaGreatDoor

/- Layer 7 (sets): Mark, Keep. -/
namespace Go.Proofs.YtkpdacfiglpgeaaGreatDoor
open Go.RowKit Bl Th
set_option maxRecDepth 10000

theorem slice_own (p : Option Addr) (k cap k' cap' : Nat) : (Value.slice p k cap).ownBlock = (Value.slice p k' cap').ownBlock := by cases p <;> rfl
theorem flatNat_len (l : List Nat) : (l.flatMap encNat).length = l.length := by
  induction l with
  | nil => rfl
  | cons a l ih => rw [List.flatMap_cons, List.length_append, ih]; simp [encNat]; omega
/-- Keep. -/
theorem skeep_ok {W : World} {ps : Nat} {s : Sets} {B : List Nat} {w : World} (h : SetsAt W ps s B w) {mark : Nat} (h1 : 1 ≤ mark) (h2 : mark ≤ s.marks.length) :
    Calls Tryz.prog 176 #[.pointer (some ⟨ps, 0, none⟩), .int .i64 (mark : Int)] w (SetsPost W ps B w 0 (s.keep mark)) := by
  have HF := Lib.hid (sfind_ok h h1 h2)
  obtain ⟨rv, lv, mv, ba, bw, ea, ew, ca, cw, rfl, h⟩ := h
  obtain ⟨p0, p1, p2, p3, p4, f0, f1, f2, f3, f4⟩ := five h.main
  have hfew := h.fewM
  obtain ⟨p, cap, hmv⟩ := ownsRow_shape h.marks
  have hrow := h.marks
  rw [hmv] at hrow
  obtain ⟨hc1, hc2, -, -⟩ := ownsRow_cap hrow
  have hcut := ownsRow_cut hrow (k := mark - 1) (by omega)
  rw [take_flat encNat 1 (fun _ => rfl)] at hcut
  have hend := fun (w' : World) (l' m' : Value) (log' : List Undo) => sets_turn (w' := w') (l' := l') (m' := m') (ws' := s.writes) (ew' := ew) (cw' := cw) (log' := log') (marks' := s.marks.take (mark - 1)) h
  obtain ⟨lp, lcap, hlv⟩ := ownsRow_shape h.log
  have HEND := Lib.hid hend; have HCUT := Lib.hid hcut; have HH := Lib.hid h
  have hle : (s.marks.take (mark - 1)).length = mark - 1 := by rw [List.length_take]; omega
  have HLE := Lib.hid hle
  obtain ⟨k, rfl⟩ : ∃ k, mark = k + 1 := ⟨mark - 1, by omega⟩
  simp only [Nat.add_sub_cancel] at HEND HCUT HLE
  have HMV := Lib.hid hmv
  obtain ⟨len, hlen⟩ : ∃ len, s.marks.length = len := ⟨_, rfl⟩
  rw [hlen] at hmv h2 hfew hc1
  subst hmv
  have e1 : ((k + 1 : Nat) : Int) - 1 = (k : Int) := by omega
  have H1 := Lib.hid h1; have H2 := Lib.hid h2
  have hcx : k ≤ cap := by omega
  have hmx : cap ≤ 9223372036854775807 := by unfold maxLen at hc2; omega
  clear h hrow hcut hend hle h1 hlen hc1 hc2
  go_enter Tryz.func176, Tryz.ntmps176
  go_wp2_with (go_at_call 191; refine HF.out.mono ?_; rintro e w' ⟨rfl, rfl⟩)
  all_goals
    rename_i hk0
    go_ret
    have hh := HH.out
    have hnd := hh.nodup
    simp only [List.nodup_cons, List.mem_cons, List.mem_append, not_or] at hnd
    obtain ⟨⟨n1, n2, n3, n4, n5⟩, -⟩ := hnd
    have hle := HLE.out
    have hown := slice_own p k cap len cap
  · have k0 : k = 0 := by simpa using hk0
    have hkk := (((Kept.refl (fun b => b = ps) w).setCell (p := ⟨ps, 4, none⟩) (fun _ => rfl) (.slice p k cap)).setCell (p := ⟨ps, 3, none⟩) (fun _ => rfl) (.slice none 0 0))
    obtain ⟨B', r1, r2, r3⟩ := HEND.out _ (.slice none 0 0) (.slice p k cap) [] (hkk.mono fun b _ e => .inl e) ((hh.main.set 4 _).set 3 _) (World.ownsRow_nil _ _ _ _) (by rw [hle]; exact ownsRow_kept HCUT.out hkk (fun b hb e => n5 (by rw [← e, ← hown]; simpa using hb))) (hh.wr.kept hkk (fun e => n2 e.symm)) hh.wm hh.fitW (by simp) hh.fewW (by omega) (.inr (.inl rfl)) (.inl hown) (.inr (.inl rfl))
    refine ⟨.nilIface, [], B', rfl, .none, ?_, r3, r2, by simp, by simp⟩
    unfold Sets.keep
    rw [if_pos (by omega), Nat.add_sub_cancel]
    exact r1
  · have k0 : ¬ k = 0 := by simpa using hk0
    have hkk := ((Kept.refl (fun b => b = ps) w).setCell (p := ⟨ps, 4, none⟩) (fun _ => rfl) (.slice p k cap))
    obtain ⟨B', r1, r2, r3⟩ := HEND.out _ lv (.slice p k cap) s.log (hkk.mono fun b _ e => .inl e) (hh.main.set 4 _) (ownsRow_kept hh.log hkk (fun b hb e => n4 (by rw [← e]; simpa using hb))) (by rw [hle]; exact ownsRow_kept HCUT.out hkk (fun b hb e => n5 (by rw [← e, ← hown]; simpa using hb))) (hh.wr.kept hkk (fun e => n2 e.symm)) hh.wm hh.fitW hh.fitL hh.fewW (by omega) (.inl rfl) (.inl hown) (.inl rfl)
    refine ⟨.nilIface, [], B', rfl, .none, ?_, r3, r2, by simp, by simp⟩
    unfold Sets.keep
    rw [if_neg (by omega), Nat.add_sub_cancel]
    exact r1
/-- Mark: there is room for one more. -/
theorem smark_ok {W : World} {ps : Nat} {s : Sets} {B : List Nat} {w : World} (h : SetsAt W ps s B w) (hm : s.marks.length < 20) (hW : W.heap.size ≤ w.heap.size) :
    Calls Tryz.prog 174 #[.pointer (some ⟨ps, 0, none⟩)] w fun e w' => ∃ B', e = .returned (.tuple #[.int .i64 ((s.marks.length + 1 : Nat) : Int), .nilIface]) ∧ SetsAt W ps s.mark.2.2 B' w' ∧ Kept (fun b => b ∈ B) w w' ∧ ∀ b ∈ B', b ∈ B ∨ w.heap.size ≤ b := by
  have HM := Lib.hid (smade_ok h)
  obtain ⟨rv, lv, mv, ba, bw, ea, ew, ca, cw, rfl, h⟩ := h
  obtain ⟨p0, p1, p2, p3, p4, f0, f1, f2, f3, f4⟩ := five h.main
  have hmk : s.mark.2.2 = { s with marks := s.marks ++ [s.log.length] } := by unfold Sets.mark; rw [if_neg (by omega)]
  rw [hmk]
  have hend := fun (w' : World) (m' : Value) => sets_turn (w' := w') (l' := lv) (m' := m') (ws' := s.writes) (ew' := ew) (cw' := cw) (log' := s.log) (marks' := s.marks ++ [s.log.length]) h
  have HEND := Lib.hid hend; have HH := Lib.hid h
  obtain ⟨lp, lcap, hlv⟩ := ownsRow_shape h.log
  obtain ⟨p, cap, hmv⟩ := ownsRow_shape h.marks
  have hrow := h.marks
  obtain ⟨ml, hml⟩ : ∃ ml, s.marks.length = ml := ⟨_, rfl⟩
  obtain ⟨ll, hll⟩ : ∃ ll, s.log.length = ll := ⟨_, rfl⟩
  rw [hml] at hrow
  rw [hml] at hmv hm ⊢
  rw [hll] at hlv ⊢
  have HROW := Lib.hid hrow; have HMAIN := Lib.hid h.main; have HW := Lib.hid hW; have HML := Lib.hid hml; have HLL := Lib.hid hll
  have hnd := h.nodup
  simp only [List.nodup_cons, List.mem_cons, List.mem_append, not_or] at hnd
  have N5 := Lib.hid (show mv.ownBlock ≠ some ps from fun e => hnd.1.2.2.2.2 (by simp [e]))
  have lps := h.main.lt
  have hm20 : ml ≤ 19 := by omega
  have g1 : decide ((20 : Int) ≤ (ml : Int)) = false := by simp; omega
  subst hlv hmv
  clear h hend hmk hrow hnd hll hml hm hW
  have npc : some ps ≠ (Value.slice p ml cap).ownBlock := fun e => N5.out e.symm
  have hnews : ∀ j u, (encNat ll)[j]? = some u → ((w.alloc (.cells #[.int .i64 (ll : Int)] 3)).drew).cell? ((⟨w.heap.size, 0, none⟩ : Addr).add j) = some u := by
    have := World.news_of_block (w := (w.alloc (.cells #[.int .i64 (ll : Int)] 3)).drew) (B := w.heap.size) (cs := (encNat ll).toArray) (t := 3) (fr := (0, 0)) (heap_alloc_new w _)
    simpa using this
  have HNEWS := Lib.hid hnews
  have HONE := Lib.hid (show ∀ u ∈ encNat ll, u.oneCell' = true by intro u hu; simp [encNat] at hu; rcases hu with rfl; rfl)
  have HBASE := Lib.hid (show W.heap.size ≤ ((w.alloc (.cells #[.int .i64 (ll : Int)] 3)).drew).heap.size by have := HW.out; simp; omega)
  obtain ⟨i0, hi0, hz0, hz1, hz2⟩ := info_parts intInfo
  clear hnews
  go_enter Tryz.func174, Tryz.ntmps174
  go_wp2_with (go_at_call 136; refine HM.out.mono ?_; rintro e w' ⟨rfl, rfl⟩)
  go_region_law (first | (refine step_append_lies _ (by rfl) _ _ _ (by rfl) W.heap.size 3 i0 _ 1 8 Tryz.underlying53 hi0 hz0 hz1 hz2 rfl (by omega) (.slice p ml cap) ml (s.marks.flatMap encNat) (by rfl) ((HROW.out.alloc _).drew) ⟨w.heap.size, 0, none⟩ 1 1 (encNat ll) (by rfl) (by rfl) HNEWS.out HONE.out (by omega) (by unfold maxLen; omega) (by omega) HBASE.out (w.heap.size + 1) (by simp) ?_; intro gg cap3 w2 hown3 hgrow3 hat3 hlt3; have k1 := (hgrow3.cell_far ⟨ps, 4, none⟩ (by simp; omega) npc); have k2 := (hgrow3.frozen_far ⟨ps, 4, none⟩ (by simp; omega) npc)))
  all_goals
    have gk : Kept (fun b => some b = (Value.slice p ml cap).ownBlock) w w2 := (((Kept.refl _ w).alloc _).drew).trans (Kept.of_grown hgrow3)
    have HGR2 := Lib.hid gk
    have HMAIN2 := Lib.hid (HMAIN.out.kept gk (fun e => npc e))
    have HOWN2 := Lib.hid hown3
    have HOB2 := Lib.hid hat3
    have p4' : (w2.setCell ⟨ps, 4, none⟩ (.slice (some ⟨gg, 0, none⟩) (ml + 1) cap3)).cell? ⟨ps, 4, none⟩ = some (.slice (some ⟨gg, 0, none⟩) (ml + 1) cap3) := (HMAIN2.out.set 4 _).cell 4
    clear gk hown3 hgrow3 hat3
    go_wp2
    go_ret2
    have hh := HH.out
    have hnd := hh.nodup
    simp only [List.nodup_cons, List.mem_cons, List.mem_append, not_or] at hnd
    obtain ⟨⟨n1, n2, n3, n4, n5⟩, -, ⟨n10, n11, n12⟩, n13⟩ := hnd
    rw [List.nodup_append] at n13
    obtain ⟨-, n14, -⟩ := n13
    rw [List.nodup_append] at n14
    obtain ⟨-, -, n17⟩ := n14
    have hkk := HGR2.out.mono (T := fun b => b = ps ∨ b = bw ∨ some b = (Value.slice lp ll lcap).ownBlock ∨ some b = (Value.slice p ml cap).ownBlock) fun b _ e => .inr (.inr (.inr e))
    have hob : (Value.slice (some ⟨gg, 0, none⟩) (ml + 1) cap3).ownBlock ≠ some ps := fun e => by
      simp only [Value.ownBlock, Option.some.injEq] at e
      rcases HOB2.out with q | q
      · exact N5.out (by rw [q, e])
      · omega
    obtain ⟨B', r1, r2, r3⟩ := HEND.out _ (.slice (some ⟨gg, 0, none⟩) (ml + 1) cap3) (hkk.setCell (p := ⟨ps, 4, none⟩) (fun _ => .inl rfl) _) (HMAIN2.out.set 4 _) (ownsRow_kept hh.log (HGR2.out.mono (T := fun b => b = ps ∨ some b = (Value.slice p ml cap).ownBlock) (fun b _ e => .inr e) |>.setCell (p := ⟨ps, 4, none⟩) (fun _ => .inl rfl) _) (fun b hb e => by
        rcases e with e | e
        · exact n4 (by rw [← e]; simpa using hb)
        · exact n17 b (by simpa using hb) b (by simp [← e]) rfl)) (by
        have e1 : (s.marks ++ [s.log.length]).length = ml + 1 := by simp [HML.out]
        have e2 : (s.marks ++ [s.log.length]).flatMap encNat = s.marks.flatMap encNat ++ encNat ll := by rw [List.flatMap_append, HLL.out]; simp
        rw [e1, e2]
        exact ownsRow_kept HOWN2.out (Kept.setCell (S := fun b => b = ps) (Kept.refl _ w2) (fun _ => rfl) _) fun b hb e => hob (by rw [hb, e]))
      (hh.wr.kept (HGR2.out.mono (T := fun b => b = ps ∨ some b = (Value.slice p ml cap).ownBlock) (fun b _ e => .inr e) |>.setCell (p := ⟨ps, 4, none⟩) (fun _ => .inl rfl) _) (by
        rintro (e | e)
        · exact n2 e.symm
        · exact n12 (by simp [← e]))) hh.wm hh.fitW hh.fitL hh.fewW (by simp [HML.out]; omega) (.inl rfl) (by
        rcases HOB2.out with q | q
        · exact .inl q.symm
        · exact .inr (.inr ⟨gg, rfl, by omega⟩)) (.inl trivial)
    exact ⟨B', rfl, by rw [HLL.out] at r1; exact r1, r3, r2⟩
end Go.Proofs.YtkpdacfiglpgeaaGreatDoor

/- Layer 7 (sets): Back. -/
namespace Go.Proofs.YtkpdacfiglpgeaaGreatDoor
open Go.RowKit Bl Th
set_option maxRecDepth 10000

/-- The writes, with the notes from the j-th one on taken back. -/
def backs (s : Sets) (j : Nat) : List (Nat × Nat) := (s.log.drop j).reverse.foldl undo1 s.writes
theorem backs_step (s : Sets) {j : Nat} {u : Undo} (h : s.log[j]? = some u) : backs s j = undo1 (backs s (j + 1)) u := by
  have hl := (List.getElem?_eq_some_iff.1 h).1
  have hu := (List.getElem?_eq_some_iff.1 h).2
  unfold backs
  rw [List.drop_eq_getElem_cons hl, hu, List.reverse_cons, List.foldl_append]
  rfl
theorem backs_len (s : Sets) : backs s s.log.length = s.writes := by simp [backs]
theorem mem_wdel (k : Nat) (l : List (Nat × Nat)) (x : Nat × Nat) (h : x ∈ wdel k l) : x ∈ l := (wdel_sub k l).subset h
theorem backs_fit (s : Sets) (hw : ∀ x ∈ s.writes, x.1 < 18446744073709551616 ∧ x.2 < 18446744073709551616) (hl : ∀ x ∈ s.log, x.cell < 18446744073709551616 ∧ x.value < 18446744073709551616) (j : Nat) : ∀ x ∈ backs s j, x.1 < 18446744073709551616 ∧ x.2 < 18446744073709551616 := by
  have key : ∀ (L : List Undo) (ws : List (Nat × Nat)), (∀ x ∈ L, x.cell < 18446744073709551616 ∧ x.value < 18446744073709551616) → (∀ x ∈ ws, x.1 < 18446744073709551616 ∧ x.2 < 18446744073709551616) → ∀ x ∈ L.foldl undo1 ws, x.1 < 18446744073709551616 ∧ x.2 < 18446744073709551616 := by
    intro L
    induction L with
    | nil => intro ws _ h2; exact h2
    | cons u L ih =>
      intro ws h1 h2
      refine ih _ (fun x hx => h1 x (by simp [hx])) ?_
      intro x hx
      unfold undo1 at hx
      split at hx
      · rcases mem_wput _ _ _ _ hx with e | e
        · rw [e]; exact h1 u (by simp)
        · exact h2 x e
      · exact h2 x (mem_wdel _ _ _ hx)
  exact key _ _ (fun x hx => hl x (List.mem_of_mem_drop (List.mem_reverse.1 hx))) hw
/-- The cells of a note. -/
theorem note_row {w : World} {base : Nat} {p : Option Addr} {ln cap : Nat} {log : List Undo} (hrow : w.ownsRow base 318 3 (.slice p ln cap) ln (log.flatMap encUndo)) (hln : log.length = ln) {k : Nat} {u : Undo} (hk : log[k]? = some u) :
    ∃ g, p = some ⟨g, 0, none⟩ ∧ w.cell? ⟨g, k * 3, none⟩ = some (.int .u64 (u.cell : Int)) ∧ w.cell? ⟨g, k * 3 + 1, none⟩ = some (.int .u64 (u.value : Int)) ∧ w.cell? ⟨g, k * 3 + 2, none⟩ = some (.bool u.was) := by
  have hl := (List.getElem?_eq_some_iff.1 hk).1
  obtain ⟨-, -, hn, hs⟩ := ownsRow_cap hrow
  obtain ⟨a, ha⟩ : ∃ a, p = some a := by
    cases p with
    | none => have := (hn rfl).1; omega
    | some a => exact ⟨a, rfl⟩
  obtain ⟨g, rfl⟩ := hs a ha
  subst ha
  have key : ∀ j, j < 3 → w.cell? ⟨g, k * 3 + j, none⟩ = (encUndo u)[j]? := fun j hj => by
    rw [hrow.cellAt (k * 3 + j) (by omega)]
    have : ∀ (l : List Undo) (k : Nat), l[k]? = some u → (l.flatMap encUndo)[k * 3 + j]? = (encUndo u)[j]? := by
      intro l
      induction l with
      | nil => intro k h; simp at h
      | cons y l ih =>
        intro k h
        have hy : (encUndo y).length = 3 := rfl
        cases k with
        | zero =>
          simp only [List.getElem?_cons_zero, Option.some.injEq] at h
          subst h
          rw [List.flatMap_cons, List.getElem?_append_left (by omega)]
          simp
        | succ k =>
          simp only [List.getElem?_cons_succ] at h
          rw [List.flatMap_cons, List.getElem?_append_right (by omega), ← ih k h]
          congr 1
          omega
    exact this _ _ hk
  exact ⟨g, rfl, key 0 (by omega), key 1 (by omega), key 2 (by omega)⟩
set_option maxHeartbeats 1000000 in
/-- Back. -/
theorem sback_ok {W : World} {ps : Nat} {s : Sets} {B : List Nat} {w : World} (h : SetsAt W ps s B w) {mark : Nat} (h1 : 1 ≤ mark) (h2 : mark ≤ s.marks.length) (hn : s.marks.getD (mark - 1) 0 ≤ s.log.length) (hfew : (s.back mark).writes.length ≤ 500) (hlog : s.log.length < 1000000000) :
    Calls Tryz.prog 177 #[.pointer (some ⟨ps, 0, none⟩), .int .i64 (mark : Int)] w (SetsPost W ps B w 0 (s.back mark)) := by
  have HF := Lib.hid (sfind_ok h h1 h2)
  obtain ⟨rv, lv, mv, ba, bw, ea, ew, ca, cw, rfl, h⟩ := h
  have hbk : s.back mark = ⟨s.reads, backs s (s.marks.getD (mark - 1) 0), s.log.take (s.marks.getD (mark - 1) 0), s.marks.take (mark - 1)⟩ := rfl
  rw [hbk] at hfew ⊢
  obtain ⟨n, hnn⟩ : ∃ n, s.marks.getD (mark - 1) 0 = n := ⟨_, rfl⟩
  rw [hnn] at hn hfew HF ⊢
  have hfewM := h.fewM
  obtain ⟨p, cap, hmv⟩ := ownsRow_shape h.marks
  obtain ⟨lp, lcap, hlv⟩ := ownsRow_shape h.log
  have hrow := h.marks
  have hrowl := h.log
  rw [hmv] at hrow
  rw [hlv] at hrowl
  obtain ⟨hc1, hc2, -, -⟩ := ownsRow_cap hrow
  obtain ⟨hd1, hd2, -, -⟩ := ownsRow_cap hrowl
  have hcut := ownsRow_cut hrow (k := mark - 1) (by omega)
  rw [take_flat encNat 1 (fun _ => rfl)] at hcut
  have hcutl := ownsRow_cut hrowl (k := n) hn
  rw [take_flat encUndo 3 (fun _ => rfl)] at hcutl
  have hend := fun (w' : World) (l' m' : Value) (ew' : List Ent) (cw' : Nat) => sets_turn (w' := w') (l' := l') (m' := m') (ws' := backs s n) (ew' := ew') (cw' := cw') (log' := s.log.take n) (marks' := s.marks.take (mark - 1)) h
  have hle : (s.marks.take (mark - 1)).length = mark - 1 := by rw [List.length_take]; omega
  have hll : (s.log.take n).length = n := by rw [List.length_take]; omega
  obtain ⟨k, rfl⟩ : ∃ k, mark = k + 1 := ⟨mark - 1, by omega⟩
  simp only [Nat.add_sub_cancel] at hend hcut hle ⊢
  obtain ⟨len, hlen⟩ : ∃ len, s.marks.length = len := ⟨_, rfl⟩
  rw [hlen] at hmv h2 hfewM hc1
  obtain ⟨ln, hln⟩ : ∃ ln, s.log.length = ln := ⟨_, rfl⟩
  rw [hln] at hlv hn hlog hd1
  rw [hln] at hrowl
  have HEND := Lib.hid hend; have HCUT := Lib.hid hcut; have HCUTL := Lib.hid hcutl; have HH := Lib.hid h; have HLE := Lib.hid hle; have HLL := Lib.hid hll; have HLN := Lib.hid hln; have HROWL := Lib.hid hrowl; have HFEW := Lib.hid hfew
  have HMAIN := Lib.hid h.main
  have hnd := h.nodup
  simp only [List.nodup_cons, List.mem_cons, List.mem_append, not_or] at hnd
  have NW := Lib.hid hnd.1.2.1
  have NL := Lib.hid (show ∀ b, (Value.slice lp ln lcap).ownBlock = some b → ¬ b = bw from fun b hb e => hnd.2.2.1.2.1 (by rw [hlv, ← e]; simpa using hb))
  obtain ⟨p0, p1, p2, p3, p4, f0, f1, f2, f3, f4⟩ := five h.main
  subst hmv hlv
  have e1 : ((k + 1 : Nat) : Int) - 1 = (k : Int) := by omega
  have hcx : k ≤ cap := by omega
  have hmx : cap ≤ 9223372036854775807 := by unfold maxLen at hc2; omega
  have hlx : n ≤ lcap := by omega
  have hly : lcap ≤ 9223372036854775807 := by unfold maxLen at hd2; omega
  clear h hrow hrowl hcut hcutl hend hle hll hlen hln hc1 hc2 hd1 hd2 h1 hnd hfew hbk hnn
  go_enter Tryz.func177, Tryz.ntmps177
  go_wp2_with (go_at_call 191; refine HF.out.mono ?_; rintro e w' ⟨rfl, rfl⟩)
  have HB0 := Lib.hid (backs_len s)
  go_loopg [7] ln (fun g v wr => ∃ j : Nat, n ≤ j ∧ j ≤ ln ∧ v = .int .i64 ((j : Int) - 1) ∧ j ≤ g ∧ ∃ ew' cw', MapAt wr bw .u64 ew' cw' ∧ WMap (backs s j) ew' cw' ∧ Kept (fun b => b = bw) w wr)
  case atStart =>
    refine ⟨ln, hn, Nat.le_refl _, rfl, Nat.le_refl _, ew, cw, HH.out.wr, ?_, Kept.refl _ _⟩
    have := HB0.out
    rw [HLN.out] at this
    rw [this]
    exact HH.out.wm
  case round =>
    obtain ⟨j, hnj, hjl, rfl, hjg, ew', cw', hm, hwm, hk⟩ := hrel
    have q3 := HMAIN.out.kept hk NW.out
    obtain ⟨p0, p1, p2, p3, p4, f0, f1, f2, f3, f4⟩ := five q3
    by_cases hj : j = n
    · subst hj
      have g1 : decide ((j : Int) ≤ (j : Int) - 1) = false := by simp; omega
      have HM := Lib.hid hm; have HWM := Lib.hid hwm; have HK := Lib.hid hk; have HQ := Lib.hid q3
      clear hm hwm hk q3 hjl hjg
      go_wp2
      go_ret
      have hh := HH.out
      have hnd := hh.nodup
      simp only [List.nodup_cons, List.mem_cons, List.mem_append, not_or] at hnd
      obtain ⟨⟨n1, n2, n3, n4, n5⟩, -, ⟨n10, n11, n12⟩, -⟩ := hnd
      have o1 := slice_own p k cap len cap
      have o2 := slice_own lp j lcap ln lcap
      have hkk := (((HK.out.mono (T := fun b => b = ps ∨ b = bw) fun b _ e => .inr e).setCell (p := ⟨ps, 3, none⟩) (fun _ => .inl rfl) (.slice lp j lcap)).setCell (p := ⟨ps, 4, none⟩) (fun _ => .inl rfl) (.slice p k cap))
      have hks := (((Kept.refl (fun b => b = ps) wr).setCell (p := ⟨ps, 3, none⟩) (fun _ => rfl) (.slice lp j lcap)).setCell (p := ⟨ps, 4, none⟩) (fun _ => rfl) (.slice p k cap))
      obtain ⟨B', r1, r2, r3⟩ := HEND.out _ (.slice lp j lcap) (.slice p k cap) ew' cw' (hkk.mono fun b _ e => by rcases e with e | e; exact .inl e; exact .inr (.inl e)) ((HQ.out.set 3 _).set 4 _) (by
          rw [HLL.out]
          exact ownsRow_kept HCUTL.out hkk fun b hb e => by
            rw [o2] at hb
            rcases e with e | e
            · exact n4 (by rw [← e]; simpa using hb)
            · exact n11 (by rw [← e]; simpa using hb)) (by
          rw [HLE.out]
          exact ownsRow_kept HCUT.out hkk fun b hb e => by
            rw [o1] at hb
            rcases e with e | e
            · exact n5 (by rw [← e]; simpa using hb)
            · exact n12 (by rw [← e]; simpa using hb)) (HM.out.kept hks (fun e => n2 e.symm)) HWM.out (backs_fit s hh.fitW hh.fitL j) (fun x hx => hh.fitL x (List.mem_of_mem_take hx)) HFEW.out (by have := HLE.out; omega) (.inl o2) (.inl o1) (.inl o2)
      exact ⟨.nilIface, [], B', rfl, .none, r1, r3, r2, by simp, by simp⟩
    · obtain ⟨i, rfl⟩ : ∃ i, j = i + 1 := ⟨j - 1, by omega⟩
      have e2 : ((i + 1 : Nat) : Int) - 1 = (i : Int) := by omega
      rw [e2]
      obtain ⟨u, hu⟩ : ∃ u, s.log[i]? = some u := ⟨s.log[i]'(by have := HLN.out; omega), List.getElem?_eq_getElem _⟩
      obtain ⟨g, rfl, q0, q1, q2⟩ := note_row (ownsRow_kept HROWL.out hk NL.out) HLN.out hu
      have g1 : decide ((n : Int) ≤ (i : Int)) = true := by simp; omega
      have HM := Lib.hid hm; have HWM := Lib.hid hwm; have HK := Lib.hid hk; have HQ := Lib.hid q3
      have HU := Lib.hid hu
      obtain ⟨uc, huc⟩ : ∃ uc, u.cell = uc := ⟨_, rfl⟩
      obtain ⟨uv, huv⟩ : ∃ uv, u.value = uv := ⟨_, rfl⟩
      rw [huc] at q0
      rw [huv] at q1
      have HUC := Lib.hid huc; have HUV := Lib.hid huv
      clear hm hwm hk q3 hu huc huv
      cases hb : u.was
      · rw [hb] at q2
        have HBB := Lib.hid hb
        clear hb
        go_wp2
        have c5 : Cells (wr.alloc (.cells #[.int .u64 (uc : Int), .int .u64 (uv : Int), .bool false] 318)) wr.heap.size [.int .u64 (uc : Int), .int .u64 (uv : Int), .bool false] 318 := Cells.new wr [.int .u64 (uc : Int), .int .u64 (uv : Int), .bool false] 318
        have q5 := HQ.out.alloc (.cells #[.int .u64 (uc : Int), .int .u64 (uv : Int), .bool false] 318)
        have hm5 := HM.out.alloc (.cells #[.int .u64 (uc : Int), .int .u64 (uv : Int), .bool false] 318)
        have hk5 := HK.out.alloc (.cells #[.int .u64 (uc : Int), .int .u64 (uv : Int), .bool false] 318)
        obtain ⟨bx, hbx⟩ : ∃ bx, wr.heap.size = bx := ⟨_, rfl⟩
        rw [hbx] at c5 ⊢
        generalize wr.alloc (.cells #[.int .u64 (uc : Int), .int .u64 (uv : Int), .bool false] 318) = wx at *
        clear hbx p0 p1 p2 p3 p4 f0 f1 f2 f3 f4 q0 q1 q2
        obtain ⟨p0, p1, p2, p3, p4, f0, f1, f2, f3, f4⟩ := five q5
        have q0 := c5.cell 0
        have q1 := c5.cell 1
        have q2 := c5.cell 2
        have HM5 := Lib.hid hm5; have HK5 := Lib.hid hk5
        clear c5 q5 hm5 hk5
        go_still_tail 6, (by kernel_rfl)
        go_wp2_with (at_delete; refine wpList_delete_at _ rfl _ _ 256 25 rfl 25 .u64 Tryz.underlying256 Tryz.underlying25 bw ew' cw' rfl HM5.out (uc : Int) rfl ?_; intro w1 hm1 hk1; have HM1 := Lib.hid hm1; have HK1 := Lib.hid (HK5.out.drew.trans hk1); clear hm1 hk1)
        go_roundg i
        case rel =>
          refine ⟨i, by omega, by omega, rfl, Nat.le_refl _, _, _, HM1.out, ?_, HK1.out⟩
          rw [backs_step s HU.out]
          unfold undo1
          rw [HBB.out, HUC.out]
          exact HWM.out.del uc
        case measure => omega
      · rw [hb] at q2
        have HBB := Lib.hid hb
        clear hb
        go_wp2
        have c5 : Cells (wr.alloc (.cells #[.int .u64 (uc : Int), .int .u64 (uv : Int), .bool true] 318)) wr.heap.size [.int .u64 (uc : Int), .int .u64 (uv : Int), .bool true] 318 := Cells.new wr [.int .u64 (uc : Int), .int .u64 (uv : Int), .bool true] 318
        have q5 := HQ.out.alloc (.cells #[.int .u64 (uc : Int), .int .u64 (uv : Int), .bool true] 318)
        have hm5 := HM.out.alloc (.cells #[.int .u64 (uc : Int), .int .u64 (uv : Int), .bool true] 318)
        have hk5 := HK.out.alloc (.cells #[.int .u64 (uc : Int), .int .u64 (uv : Int), .bool true] 318)
        obtain ⟨bx, hbx⟩ : ∃ bx, wr.heap.size = bx := ⟨_, rfl⟩
        rw [hbx] at c5 ⊢
        generalize wr.alloc (.cells #[.int .u64 (uc : Int), .int .u64 (uv : Int), .bool true] 318) = wx at *
        clear hbx p0 p1 p2 p3 p4 f0 f1 f2 f3 f4 q0 q1 q2
        obtain ⟨p0, p1, p2, p3, p4, f0, f1, f2, f3, f4⟩ := five q5
        have q0 := c5.cell 0
        have q1 := c5.cell 1
        have q2 := c5.cell 2
        have HM5 := Lib.hid hm5; have HK5 := Lib.hid hk5
        clear c5 q5 hm5 hk5
        go_still_tail 8, (by kernel_rfl)
        go_wp2_with (at_mapUpdate; refine wpList_mapUpdate_at _ rfl _ _ _ 256 rfl 25 25 .u64 Tryz.underlying256 Tryz.underlying25 bw ew' cw' rfl HM5.out (uc : Int) (.int .u64 (uv : Int)) rfl rfl ?_; intro w1 hm1 hk1; have HM1 := Lib.hid hm1; have HK1 := Lib.hid (HK5.out.drew.trans hk1); clear hm1 hk1)
        go_roundg i
        case rel =>
          refine ⟨i, by omega, by omega, rfl, Nat.le_refl _, _, _, HM1.out, ?_, HK1.out⟩
          rw [backs_step s HU.out]
          unfold undo1
          rw [HBB.out, HUC.out, HUV.out]
          exact HWM.out.put uc uv
        case measure => omega
end Go.Proofs.YtkpdacfiglpgeaaGreatDoor
