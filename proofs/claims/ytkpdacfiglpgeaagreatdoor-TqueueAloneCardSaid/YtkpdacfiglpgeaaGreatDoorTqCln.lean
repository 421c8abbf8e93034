/- TqCln: TqAsk0, TqCln. -/
import Derived.Test.YtkpdacfiglpgeaaGreatDoorTqMore

/- Layer 29's laws: calls that came in; what ask holds. -/
namespace Go.Proofs.YtkpdacfiglpgeaaGreatDoor
open Go.RowKit Bl Th
set_option maxRecDepth 10000

def encAct (a : ActQ) : List Value := [.int .i64 a.kind, .int .u64 (a.x : Int), .bool a.other]
/-- A slice of calls lies in a block that is held, or in one that was there in W. -/
structure ActsIn (W w : World) (v : Value) (Q : List Nat) (l : List ActQ) : Prop where
  shape : ∃ p cap, v = .slice p l.length cap ∧ (l ≠ [] → ∃ g o, p = some ⟨g, o, none⟩ ∧ ∀ (k : Nat) m, l[k]? = some m → m.x < 18446744073709551616 ∧ ∀ j, j < 3 → (g ∈ Q ∧ w.cell? ⟨g, o + k * 3 + j, none⟩ = (encAct m)[j]?) ∨ (g < W.heap.size ∧ W.cell? ⟨g, o + k * 3 + j, none⟩ = (encAct m)[j]?))
  few : l.length ≤ 1000
theorem ActsIn.heldBy {W w w' : World} {v : Value} {Q R : List Nat} {l : List ActQ} (h : ActsIn W w v Q l) (k : HeldBy R w w') (hs : ∀ b ∈ Q, b ∈ R) : ActsIn W w' v Q l := by
  obtain ⟨p, cap, hv, hp⟩ := h.shape
  refine ⟨⟨p, cap, hv, fun hn => ?_⟩, h.few⟩
  obtain ⟨g, o, hg, hc⟩ := hp hn
  refine ⟨g, o, hg, fun i m hi => ⟨(hc i m hi).1, fun j hj => ?_⟩⟩
  rcases (hc i m hi).2 j hj with ⟨hm, q⟩ | q
  · exact .inl ⟨hm, (k.cell (a := ⟨g, o + i * 3 + j, none⟩) (hs g hm)).trans q⟩
  · exact .inr q
theorem ActsIn.at {W w : World} {p : Option Addr} {n cap : Nat} {Q : List Nat} {l : List ActQ} (h : ActsIn W w (.slice p n cap) Q l) (hb : Below W.heap.size W w) {k : Nat} {m : ActQ} (hk : l[k]? = some m) :
    ∃ g o, p = some ⟨g, o, none⟩ ∧ w.cell? ⟨g, o + k * 3, none⟩ = some (.int .i64 m.kind) ∧ w.cell? ⟨g, o + k * 3 + 1, none⟩ = some (.int .u64 (m.x : Int)) ∧ w.cell? ⟨g, o + k * 3 + 2, none⟩ = some (.bool m.other) ∧ m.x < 18446744073709551616 := by
  obtain ⟨p', cap', hv, hp⟩ := h.shape
  simp only [Value.slice.injEq] at hv
  obtain ⟨rfl, -, -⟩ := hv
  obtain ⟨g, o, hg, hc⟩ := hp (fun e => by simp [e] at hk)
  have key : ∀ j, j < 3 → w.cell? ⟨g, o + k * 3 + j, none⟩ = (encAct m)[j]? := by
    intro j hj
    rcases (hc k m hk).2 j hj with ⟨_, q⟩ | ⟨h1, q⟩
    · exact q
    · exact (hb.cell (p := ⟨g, o + k * 3 + j, none⟩) h1).trans q
  exact ⟨g, o, hg, key 0 (by omega), key 1 (by omega), key 2 (by omega), (hc k m hk).1⟩
/-- Words that are to be appended. -/
def SomeAt (w : World) (v : Value) (x : List Nat) : Prop := ∃ p cap, v = .slice p x.length cap ∧ (x ≠ [] → ∃ g, p = some ⟨g, 0, none⟩ ∧ CellsIn w g x)
theorem SomeAt.nil (w : World) : SomeAt w (.slice none 0 0) [] := ⟨none, 0, rfl, fun h => absurd rfl h⟩
theorem SomeAt.row {w : World} {base : Nat} {v : Value} {x : List Nat} (h : w.ownsRow base 25 1 v x.length (encU x)) : SomeAt w v x := by
  obtain ⟨p, cap, rfl⟩ := ownsRow_shape h
  refine ⟨p, cap, rfl, fun hn => ?_⟩
  rcases h.2 with ⟨-, h0⟩ | ⟨g, c, cur, hv, -, -⟩
  · exact absurd (List.length_eq_zero_iff.1 (by simpa [encU] using h0)) hn
  · simp only [Value.slice.injEq] at hv
    refine ⟨g, hv.1, fun k y hk => ?_⟩
    have hl := (List.getElem?_eq_some_iff.1 hk).1
    obtain ⟨rfl, -⟩ := hv
    rw [h.cellAt k (by omega)]
    simp [encU, List.getElem?_map, hk]
theorem SomeAt.one (w : World) (x : Nat) : SomeAt (w.alloc (.cells #[.int .u64 (x : Int)] 25)) (.slice (some ⟨w.heap.size, 0, none⟩) 1 1) [x] := ⟨_, _, rfl, fun _ => ⟨_, rfl, fun k y hk => by
  cases k with
  | zero =>
    simp only [List.getElem?_cons_zero, Option.some.injEq] at hk
    subst hk
    exact (Cells.new w [.int .u64 (x : Int)] 25).cell 0
  | succ k => simp at hk⟩⟩
/-- 'append(told, some...)'. -/
theorem wpList_append_words {w : World} {ops : Array Oper} {rest : List Oper} {o : Oper} {a : Act} {Q : Exit → Act → World → Prop} (hgd : o.guard = none) (s x : Operand)
    (ho : o.op = .call { callee := .builtin .append, args := #[s, x], argTypes := #[26, 26] }) {base : Nat} {v : Value} {n : Nat} {xs : List Value} (hs : a.eval s = v) (hown : w.ownsRow base 25 1 v n xs)
    {y : Value} {news : List Nat} (hx : a.eval x = y) (hy : SomeAt w y news) (hn : n + news.length ≤ 1000000) (hbase : base ≤ w.heap.size)
    (h : ∀ v' w', w'.ownsRow base 25 1 v' (n + news.length) (xs ++ encU news) → w.grownBy w' v.ownBlock → (v'.ownBlock = v.ownBlock ∨ v'.ownBlock = some w.heap.size) → (∃ p c, v' = .slice p (n + news.length) c) → wpList Tryz.prog ops Q rest (a.put o.dst v') w') :
    wpList Tryz.prog ops Q (o :: rest) a w := by
  obtain ⟨i0, hi0, hz0, hz1, hz2⟩ := info_parts u64info
  obtain ⟨pt, cap, rfl, hc⟩ := hy
  cases news with
  | nil =>
    have hrun : (Builtin.append_ #[26, 26] o.type #[v, .slice pt 0 cap]).run Tryz.prog w = .ok v w := by
      rcases hown.2 with ⟨rfl, rfl⟩ | ⟨g, c2, cur, rfl, -, -, hle, -⟩
      · cases pt <;> simp [Builtin.append_, run_underlying Tryz.underlying26, sizeOf, typeInfo, hi0, Builtin.lenOf, Builtin.firstCells, loadCells, loadCellsFrom]
      · cases pt <;> simp [Builtin.append_, run_underlying Tryz.underlying26, sizeOf, typeInfo, hi0, Builtin.lenOf, Builtin.firstCells, loadCells, loadCellsFrom, storeCells, hle]
    refine wpList_plain hgd fun K hK => ?_
    unfold Oper.wp execOp
    simp only [ho, resolve, invoke, builtin, Sem.run_bind, Sem.run_pure, Result.andThen_ok, List.map_toArray, List.map_cons, List.map_nil, hs, hx, List.length_nil, hrun]
    refine hK _ _ (h v w (by simpa [encU] using hown) ⟨rfl, rfl, rfl, Nat.le_refl _, fun _ _ _ => rfl⟩ (.inl rfl) ?_)
    exact ownsRow_shape (by simpa using hown)
  | cons z l =>
    obtain ⟨g, rfl, hg⟩ := hc (by simp)
    refine wpList_append_own_at w hgd s x _ ho base 25 i0 _ 1 8 Tryz.underlying26 hi0 hz0 hz1 hz2 rfl (by omega) v n xs hs hown ⟨g, 0, none⟩ (z :: l).length cap (encU (z :: l)) hx (by simp [encU]) (fun j u hu => ?_) (fun u hu => ?_) (by unfold maxLen; omega) (by omega) hbase ?_
    · rw [show (⟨g, 0, none⟩ : Addr).add j = ⟨g, j, none⟩ by unfold Addr.add; split <;> simp_all]
      simp only [encU, List.getElem?_map, Option.map_eq_some_iff] at hu
      obtain ⟨q, hq, rfl⟩ := hu
      exact hg j q hq
    · simp only [encU, List.mem_map] at hu
      obtain ⟨q, -, rfl⟩ := hu
      rfl
    · intro v' w' h1 h2 _ h4
      exact h v' w' h1 h2 h4 (ownsRow_shape h1)
end Go.Proofs.YtkpdacfiglpgeaaGreatDoor

/- Layer 29's laws: what calls leave of a transaction's log. -/
namespace Go.Proofs.YtkpdacfiglpgeaaGreatDoor
open Go.RowKit Bl Th

/-- Neither marks nor notes. -/
def Cln (t : Tx) : Prop := t.sets.log = [] ∧ t.sets.marks = []
theorem Cln.of {t t' : Tx} (h : Cln t) (k : t'.sets.log = t.sets.log ∧ t'.sets.marks = t.sets.marks) : Cln t' := ⟨k.1.trans h.1, k.2.trans h.2⟩
theorem Cln.write {t : Tx} (h : Cln t) (cell x : Nat) : Cln (tWrite t cell x).2 := ⟨((tWrite_same t cell x).2.2 h.2).trans h.1, (tWrite_same t cell x).1.trans h.2⟩
theorem qPut_cln {r : Ring} {x : Nat} {t : Tx} (h : Cln t) (c : CS) : Cln (exec (qPut r x t) c).1.2 := by
  have h1 := h.of (qState_log r t c)
  unfold qPut
  simp only [exec_bind]
  unfold qPutIn
  split
  · split
    · exact h1
    · split
      · exact (h1.write _ _).write _ _
      · exact h1.write _ _
  · exact h1
theorem qTake_cln {r : Ring} {t : Tx} (h : Cln t) (c : CS) : Cln (exec (qTake r t) c).1.2.2 := ⟨((qTake_log r t c).2.2 h.2).trans h.1, (qTake_log r t c).2.1.trans h.2⟩
theorem qTry_cln {r : Ring} {t : Tx} (h : Cln t) (c : CS) : Cln (exec (qTry r t) c).1.2.2 := by
  have h1 := h.of (qLen_log r t c)
  unfold qTry
  simp only [exec_bind]
  split
  · simp only [exec_bind, exec]
    exact qTake_cln h1 _
  · exact h1
theorem qDrain_cln {r : Ring} {t : Tx} (h : Cln t) (c : CS) : Cln (exec (qDrain r t) c).1.2.2 := by
  have h1 := h.of (qAll_log r t c)
  unfold qDrain
  simp only [exec_bind]
  split
  · simp only [exec_bind]
    split
    · exact (h1.of (qState_log r _ _)).write _ _
    · exact h1.of (qState_log r _ _)
  · exact h1
theorem qMove_cln {r o : Ring} {t : Tx} (h : Cln t) (c : CS) : Cln (exec (qMove r o t) c).1.2 := by
  have h1 := qTake_cln (r := r) h c
  unfold qMove
  simp only [exec_bind]
  split
  · exact qPut_cln h1 _
  · exact h1
end Go.Proofs.YtkpdacfiglpgeaaGreatDoor
