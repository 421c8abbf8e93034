/- Layer 10 (text): empty lines are of no weight; two texts, one behind the other. No program stands here. -/
import Derived.Test.YtikgbgminhgpdaaGreatDoorTextJoin
import Derived.Test.YtikgbgminhgpdaaGreatDoorTextSplit
namespace Go.Proofs.YtikgbgminhgpdaaGreatDoor.Tx

def sq (ls : List (List Bs)) : List (List Bs) := ls.filter (fun l => !l.isEmpty)
theorem next_sq : ∀ (ls : List (List Bs)), match next ls with
    | none => sq ls = []
    | some (l, r) => sq ls = l :: sq r
  | [] => rfl
  | [] :: r => by
    have := next_sq r
    have e : sq ([] :: r) = sq r := by simp [sq]
    rw [show next ([] :: r) = next r from rfl]
    rw [e]
    exact this
  | (w :: l) :: r => by
    show sq ((w :: l) :: r) = (w :: l) :: sq r
    simp [sq]
/-- The same, but for empty lines, and where an error lies. -/
inductive RelB : Except Bad (List St × Fin × List (List Bs)) → Except Bad (List St × Fin × List (List Bs)) → Prop
  | bad (x y : Bad) : RelB (.error x) (.error y)
  | good (p : List St) (e : Fin) (r r' : List (List Bs)) : sq r = sq r' → RelB (.ok (p, e, r)) (.ok (p, e, r'))
inductive RelS : Except Bad (St × List (List Bs)) → Except Bad (St × List (List Bs)) → Prop
  | bad (x y : Bad) : RelS (.error x) (.error y)
  | good (s : St) (r r' : List (List Bs)) : sq r = sq r' → RelS (.ok (s, r)) (.ok (s, r'))
theorem els_lt {A r : List (List Bs)} {b : List St} (h : Blk A = .ok (b, .els, r)) : r.length < A.length := by
  cases hx : next A with
  | none =>
    rw [Blk_eq, hx] at h
    simp only [Except.ok.injEq, Prod.mk.injEq] at h
    cases h.2.1
  | some x =>
    obtain ⟨l, r0⟩ := x
    have := next_lt hx
    have := taken hx h
    omega
theorem rel_all : ∀ (n : Nat) (A B : List (List Bs)), A.length < n → sq A = sq B → RelB (Blk A) (Blk B) ∧ ∀ h, RelS (Blks h A) (Blks h B)
  | 0, _, _, hn, _ => by omega
  | n + 1, A, B, hn, hs => by
    have blkP : RelB (Blk A) (Blk B) := by
      have a := next_sq A
      have b := next_sq B
      rw [Blk_eq A, Blk_eq B]
      cases hx : next A with
      | none =>
        rw [hx] at a
        simp only at a
        cases hy : next B with
        | none => exact .good _ _ _ _ rfl
        | some y =>
          obtain ⟨l', r'⟩ := y
          rw [hy] at b
          simp only at b
          rw [← hs, a] at b
          cases b
      | some x =>
        obtain ⟨l, r⟩ := x
        have hl := next_lt hx
        rw [hx] at a
        simp only at a
        cases hy : next B with
        | none =>
          rw [hy] at b
          simp only at b
          rw [hs, b] at a
          cases a
        | some y =>
          obtain ⟨l', r'⟩ := y
          rw [hy] at b
          simp only at b
          rw [a, b] at hs
          obtain ⟨rfl, hs'⟩ := List.cons.inj hs
          simp only
          by_cases c1 : l = [[125]]
          · rw [if_pos c1, if_pos c1]; exact .good _ _ _ _ hs'
          · rw [if_neg c1, if_neg c1]
            by_cases c2 : l = [[125], [101, 108, 115, 101], [123]]
            · rw [if_pos c2, if_pos c2]; exact .good _ _ _ _ hs'
            · rw [if_neg c2, if_neg c2]
              cases hst : stmt l with
              | none => exact .bad _ _
              | some h =>
                simp only
                have h1 := (rel_all n r r' (by omega) hs').2 h
                generalize hX : Blks h r = X at h1
                generalize Blks h r' = Y at h1
                cases h1 with
                | bad x y => exact .bad _ _
                | good s r1 r1' q =>
                  have k1 : r1.length ≤ r.length := blks_rest _ hX
                  have h2 := (rel_all n r1 r1' (by omega) q).1
                  simp only
                  generalize Blk r1 = X2 at h2
                  generalize Blk r1' = Y2 at h2
                  cases h2 with
                  | bad x y => exact .bad _ _
                  | good p e r2 r2' q2 => exact .good _ _ _ _ q2
    refine ⟨blkP, fun h => ?_⟩
    rw [Blks_eq h A, Blks_eq h B]
    by_cases c0 : opens h.kind = false
    · rw [if_pos c0, if_pos c0]; exact .good _ _ _ hs
    · rw [if_neg c0, if_neg c0]
      generalize hX : Blk A = X at blkP
      generalize Blk B = Y at blkP
      cases blkP with
      | bad x y => exact .bad _ _
      | good b e r1 r1' q =>
        simp only
        by_cases c1 : e = .els ∧ (h.kind = 11 ∨ h.kind = 14)
        · rw [if_pos c1, if_pos c1]
          obtain ⟨rfl, -⟩ := c1
          have k1 := els_lt hX
          have h2 := (rel_all n r1 r1' (by omega) q).1
          generalize Blk r1 = X2 at h2
          generalize Blk r1' = Y2 at h2
          cases h2 with
          | bad x y => exact .bad _ _
          | good p e r2 r2' q2 =>
            simp only
            by_cases c2 : e = .block
            · rw [if_pos c2, if_pos c2]; exact .good _ _ _ q2
            · rw [if_neg c2, if_neg c2]; exact .bad _ _
        · rw [if_neg c1, if_neg c1]
          by_cases c2 : e = .block
          · rw [if_pos c2, if_pos c2]; exact .good _ _ _ q
          · rw [if_neg c2, if_neg c2]; exact .bad _ _
/-- Empty lines change nothing of what is read. -/
theorem readAll_sq {A B : List (List Bs)} (h : sq A = sq B) : (∃ x y, readAll A = .error x ∧ readAll B = .error y) ∨ ∃ p, readAll A = .ok p ∧ readAll B = .ok p := by
  rw [readAll_Blk, readAll_Blk]
  have h1 := (rel_all (A.length + 1) A B (by omega) h).1
  generalize Blk A = X at h1
  generalize Blk B = Y at h1
  cases h1 with
  | bad x y => exact .inl ⟨_, _, rfl, rfl⟩
  | good p e r r' q =>
    simp only
    by_cases c : e = .text
    · rw [if_pos c, if_pos c]; exact .inr ⟨p, rfl, rfl⟩
    · rw [if_neg c, if_neg c]; exact .inl ⟨_, _, rfl, rfl⟩

/-! Two texts. -/
theorem readAll_app {A B : List (List Bs)} {p : List St} (h : readAll A = .ok p) : readAll (A ++ B) = match readAll B with
    | .error x => .error x
    | .ok q => .ok (p ++ q) := by
  rw [readAll_Blk] at h ⊢
  cases hA : Blk A with
  | error x => rw [hA] at h; cases h
  | ok x =>
    obtain ⟨p', e, r⟩ := x
    rw [hA] at h
    simp only at h
    by_cases c : e = .text
    · rw [if_pos c] at h
      cases h
      rw [((app_all _ A B (Nat.le_refl _)).1 p e r hA).2 c, readAll_Blk]
      cases hB : Blk B with
      | error x => rfl
      | ok y =>
        obtain ⟨q, e', r'⟩ := y
        simp only
        by_cases c' : e' = .text
        · rw [if_pos c', if_pos c']
        · rw [if_neg c', if_neg c']
    · rw [if_neg c] at h
      cases h
theorem split_two (c : UInt8) : ∀ (s t : Bs), split c (s ++ c :: t) = split c s ++ split c t
  | [], t => by simp [split]
  | x :: s, t => by
    have ih := split_two c s t
    by_cases h : x = c
    · simp only [List.cons_append, split, if_pos h, ih]
    · obtain ⟨p, r, hp⟩ := List.exists_cons_of_ne_nil (split_ne c s)
      simp only [List.cons_append, split, if_neg h, ih, hp]
theorem dropEnd_app : ∀ (l m : List Bs), m ≠ [] → dropEnd (l ++ m) = l ++ dropEnd m
  | [], _, _ => rfl
  | p :: l, m, h => by
    have ih := dropEnd_app l m h
    obtain ⟨q, r, hq⟩ : ∃ q r, l ++ m = q :: r := List.exists_cons_of_ne_nil (by simp [h])
    rw [List.cons_append, List.cons_append, ← ih, hq]
    rfl
theorem lines_two (s t : Bs) : lines (s ++ 10 :: t) = lines (s ++ [10]) ++ lines t := by
  unfold lines
  have e : split 10 (s ++ [10]) = split 10 s ++ [[]] := split_two 10 s []
  rw [split_two, e, dropEnd_app _ _ (split_ne 10 t), dropEnd_app _ _ (by simp)]
  simp [dropEnd]
theorem lines_nl (s : Bs) : sq ((lines (s ++ [10])).map words) = sq ((lines s).map words) := by
  have e : split 10 (s ++ [10]) = split 10 s ++ [[]] := split_two 10 s []
  unfold lines
  rw [e, dropEnd_app _ _ (by simp), show dropEnd [([] : Bs)] = [] from rfl, List.append_nil]
  obtain ⟨pre, last, h⟩ : ∃ pre last, split 10 s = pre ++ [last] := ⟨_, _, (List.dropLast_concat_getLast (split_ne 10 s)).symm⟩
  rw [h, dropEnd_last]
  by_cases hl : last = []
  · rw [if_pos hl, hl]
    simp [sq, words, split]
  · rw [if_neg hl]
end Go.Proofs.YtikgbgminhgpdaaGreatDoor.Tx
