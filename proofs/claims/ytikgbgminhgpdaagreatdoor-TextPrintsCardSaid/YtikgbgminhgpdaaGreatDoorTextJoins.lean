/- Layer 10 (text): TextJoins. -/
import Derived.Test.YtikgbgminhgpdaaGreatDoorTextAgain
import Derived.Test.YtikgbgminhgpdaaGreatDoorTxtLines
namespace Go.Proofs.YtikgbgminhgpdaaGreatDoor
open Go.RowKit Tx
set_option maxRecDepth 10000

theorem StsR.app {B : Nat} {w : World} : ∀ {l1 l2 : List St} {c1 c2 : List (List Value)}, StsR B w l1 c1 → StsR B w l2 c2 → StsR B w (l1 ++ l2) (c1 ++ c2)
  | [], l2, c1, c2, h1, h2 => by
    unfold StsR at h1
    subst h1
    simpa using h2
  | s :: l1, l2, c1, c2, h1, h2 => by
    unfold StsR at h1
    obtain ⟨c, cs', rfl, q1, q2⟩ := h1
    rw [List.cons_append, List.cons_append]
    unfold StsR
    exact ⟨c, cs' ++ c2, rfl, q1, StsR.app q2 h2⟩
theorem SlR.of_row {B B' : Nat} {w : World} {l : List St} {cs : List (List Value)} {v : Value} (h : StsR B w l cs) (hr : w.ownsRow B' 45 9 v l.length cs.flatten) : SlR w.heap.size w l v :=
  ⟨cs, StsR.kept (Kept.refl (fun _ => False) w) (fun _ _ h2 => ⟨id, h2⟩) l cs h, RowIn.read (A := fun _ => True) (fun _ _ q => q) ⟨row_kept hr (Nat.zero_le _) (Kept.refl (fun _ => False) w) (fun _ _ _ => id), fun _ _ => trivial⟩⟩
/-- A guarded operation that is wanted. -/
theorem wpList_want {P : Program} {ops : Array Oper} {Q : Exit → Act → World → Prop} {a : Act} {w : World} {o : Oper} {rest : List Oper} (hw : Region.wanted o (yielded ops a.tmps) = true) (h : o.wp P a w (wpList P ops Q rest) Q) : wpList P ops Q (o :: rest) a w := by
  unfold wpList
  rw [if_pos hw]
  exact .inl h
theorem blk_err : ∀ (f : Nat), (∀ (ls : List (List Bs)) (k : Nat), blk f ls = .error (some k) → k ≤ ls.length) ∧ (∀ (h : Sh) (r0 : List (List Bs)) (k : Nat), blks f h r0 = .error (some k) → k ≤ r0.length)
  | 0 => ⟨fun _ _ h => by simp [blk] at h, fun _ _ _ h => by simp [blks] at h⟩
  | f + 1 => by
    obtain ⟨ih1, ih2⟩ := blk_err f
    refine ⟨fun ls k h => ?_, fun h r0 k hb => ?_⟩
    · unfold blk at h
      split at h
      · cases h
      · rename_i l r1 hn
        have hlt := next_lt hn
        split at h
        · cases h
        · split at h
          · cases h
          · split at h
            · cases h; omega
            · split at h
              · rename_i x hbs
                cases h
                have := ih2 _ _ _ hbs
                omega
              · rename_i s r' hbs
                have q1 := blks_rest _ hbs
                split at h
                · rename_i x hb2
                  cases h
                  have := ih1 _ _ hb2
                  omega
                · cases h
    · unfold blks at hb
      split at hb
      · cases hb
      · split at hb
        · rename_i x hb1
          cases hb
          exact ih1 _ _ hb1
        · rename_i b e1 r1 hb1
          have q1 := blk_rest _ hb1
          split at hb
          · split at hb
            · rename_i x hb2
              cases hb
              have := ih1 _ _ hb2
              omega
            · rename_i b2 e2 r2 hb2
              have q2 := blk_rest _ hb2
              split at hb
              · cases hb
              · cases e2 <;> simp [place] at hb <;> omega
          · split at hb
            · cases hb
            · cases e1 <;> simp [place] at hb <;> omega
theorem read_err {ls : List (List Bs)} {k : Nat} (h : readAll ls = .error (some k)) : k ≤ ls.length := by
  unfold readAll at h
  split at h
  · rename_i x hb
    cases h
    exact (blk_err _).1 _ _ hb
  · rename_i p e r hb
    have := blk_rest _ hb
    split at h
    · cases h
    · cases e <;> simp [place] at h <;> omega
theorem lines_len (s : Bs) : (lines s).length ≤ s.length + 1 := by
  have h : ∀ l : List Bs, (dropEnd l).length ≤ l.length := by
    intro l
    induction l with
    | nil => exact Nat.le_refl _
    | cons a r ih =>
      cases r with
      | nil =>
        unfold dropEnd
        split <;> simp
      | cons b r =>
        unfold dropEnd
        simpa using ih
  exact Nat.le_trans (h _) (split_len 10 s).1
theorem StsR.one {B : Nat} {w : World} : ∀ {l : List St} {cs : List (List Value)}, StsR B w l cs → cs.flatten.length = l.length * 9 ∧ ∀ u ∈ cs.flatten, u.oneCell' = true
  | [], cs, h => by
    unfold StsR at h
    subst h
    exact ⟨rfl, fun u hu => by cases hu⟩
  | s :: l, cs, h => by
    unfold StsR at h
    obtain ⟨c, cs', rfl, q1, q2⟩ := h
    obtain ⟨i1, i2⟩ := StsR.one q2
    have hl := q1.len
    refine ⟨by simp [hl, i1]; omega, fun u hu => ?_⟩
    rw [List.flatten_cons] at hu
    rcases List.mem_append.1 hu with hu | hu
    · cases s with
      | mk h b e =>
        unfold StR at q1
        obtain ⟨z, bv, ev, cb, ce, -, rfl, -, ⟨p1, c1, rfl, -⟩, -, ⟨p2, c2, rfl, -⟩⟩ := q1
        simp only [stL, List.mem_cons, List.not_mem_nil, or_false] at hu
        rcases hu with rfl | rfl | rfl | rfl | rfl | rfl | rfl | rfl | rfl <;> rfl
    · exact i2 u hu
/-- A row of statements, put behind a row of the call's own. -/
theorem wp_append_sts {w : World} {o : Oper} {a : Act} {K : Act → World → Prop} {Q : Exit → Act → World → Prop} (s x : Operand)
    (ho : o.op = .call { callee := .builtin .append, args := #[s, x], argTypes := #[22, 22] }) {base : Nat} {v : Value} {n : Nat} {xs : List Value} (hs : a.eval s = v) (hown : w.ownsRow base 45 9 v n xs)
    {B : Nat} {l : List St} {cs : List (List Value)} {y : Value} (hx : a.eval x = y) (hl : StsR B w l cs) (hr : RowR B w y l.length cs.flatten) (hn : n + l.length ≤ 1000000) (hbase : base ≤ w.heap.size)
    (h : ∀ v' w', w'.ownsRow base 45 9 v' (n + l.length) (xs ++ cs.flatten) → w.grownBy w' v.ownBlock → (v'.ownBlock = v.ownBlock ∨ v'.ownBlock = some w.heap.size) → (∃ p c, v' = .slice p (n + l.length) c) → K (a.put o.dst v') w') : o.wp Tryz.prog a w K Q := by
  obtain ⟨i0, hi0, hi1⟩ := Option.map_eq_some_iff.1 stmtInfo
  simp only [Prod.mk.injEq] at hi1
  obtain ⟨hz0, hz1, hz2⟩ := hi1
  obtain ⟨pt, cap, rfl, hr⟩ := hr
  obtain ⟨hlen, hone⟩ := hl.one
  cases l with
  | nil =>
    unfold StsR at hl
    subst hl
    have hrun : (Builtin.append_ #[22, 22] o.type #[v, .slice pt 0 cap]).run Tryz.prog w = .ok v w := by
      rcases hown.2 with ⟨rfl, rfl⟩ | ⟨g, c2, cur, rfl, -, -, hle, -⟩
      · cases pt <;> simp [Builtin.append_, run_underlying Tryz.underlying22, sizeOf, typeInfo, hi0, Builtin.lenOf, Builtin.firstCells, loadCells, loadCellsFrom]
      · cases pt <;> simp [Builtin.append_, run_underlying Tryz.underlying22, sizeOf, typeInfo, hi0, Builtin.lenOf, Builtin.firstCells, loadCells, loadCellsFrom, storeCells, hle]
    unfold Oper.wp execOp
    simp only [ho, resolve, invoke, builtin, Sem.run_bind, Sem.run_pure, Result.andThen_ok, List.map_toArray, List.map_cons, List.map_nil, hs, hx, List.length_nil, hrun]
    refine h v w (by simpa using hown) ⟨rfl, rfl, rfl, Nat.le_refl _, fun _ _ _ => rfl⟩ (.inl rfl) ?_
    rcases hown.2 with ⟨rfl, rfl⟩ | ⟨g, c2, cur, rfl, -⟩
    · exact ⟨_, _, rfl⟩
    · exact ⟨_, _, rfl⟩
  | cons s0 l0 =>
    rcases hr with hr | ⟨g, off, rfl, hg1, hg2, hcell⟩
    · cases hr
    · refine wp_append_lies w s x 22 ho base 45 i0 _ 9 104 Tryz.underlying22 hi0 hz0 hz1 hz2 rfl (by omega) v n xs hs hown ⟨g, off, none⟩ (s0 :: l0).length cap cs.flatten hx hlen (fun j u hu => ?_) hone (by simp) (by unfold maxLen; omega) (by omega) hbase w.heap.size rfl ?_
      · have := hcell j u hu
        rwa [show (⟨g, off, none⟩ : Addr).add j = ⟨g, off + j, none⟩ by unfold Addr.add; split <;> simp_all]
      · intro g' cap' w' h1 h2 h3 h4
        refine h _ w' h1 h2 ?_ ⟨_, _, rfl⟩
        rcases h3 with h3 | h3
        · exact .inl h3.symm
        · exact .inr (by rw [h3]; rfl)
theorem tl_join {s t : Bs} {p : List St} (h : readAll (tl s) = .ok p) : readAll (tl (s ++ 10 :: t)) = match readAll (tl t) with
    | .error x => .error x
    | .ok q => .ok (p ++ q) := by
  have h1 : readAll (tl (s ++ [10])) = .ok p := by
    rcases readAll_sq (show sq (tl (s ++ [10])) = sq (tl s) from lines_nl s) with ⟨x, y, -, h2⟩ | ⟨q, h1, h2⟩
    · rw [h] at h2
      cases h2
    · rw [h] at h2
      cases h2
      exact h1
  have h2 := readAll_app (B := tl t) h1
  refine Eq.trans ?_ (h2.trans ?_)
  · unfold tl
    rw [lines_two, List.map_append]
  · cases readAll (tl t) <;> rfl
end Go.Proofs.YtikgbgminhgpdaaGreatDoor
