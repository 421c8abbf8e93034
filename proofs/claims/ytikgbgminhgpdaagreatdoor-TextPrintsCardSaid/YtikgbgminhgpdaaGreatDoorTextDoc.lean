/- Layers 9, 10: how many statements there are, and the document's going over them. No program stands here. -/
import Derived.Test.YtikgbgminhgpdaaGreatDoorTextPrint
namespace Go.Proofs.YtikgbgminhgpdaaGreatDoor.Tx
open Go.Lib (itoa decDigits)

/-! Weights. -/
def cut (d n : Nat) : Nat := if 30 < d then 1000 else min n 1000
mutual
def wtS : Nat → St → Nat
  | d, .mk _ b e => 1 + cut (d + 1) (wtSum (d + 1) b) + cut (d + 1) (wtSum (d + 1) e)
def wtSum : Nat → List St → Nat
  | _, [] => 0
  | d, s :: l => wtS d s + wtSum d l
end
/-- What weight answers. -/
def wtL (d : Nat) (l : List St) : Nat := cut d (wtSum d l)
theorem cut_le (d n : Nat) : cut d n ≤ 1000 := by
  unfold cut
  split <;> omega
theorem cut_few {d n k : Nat} (h : cut d n ≤ k) (hk : k < 1000) : cut d n = n := by
  unfold cut at h ⊢
  split at h
  · omega
  · rename_i hd
    rw [if_neg hd]
    omega
theorem wtSum_drop (d : Nat) : ∀ (l : List St) (k : Nat) (s : St), l[k]? = some s → wtSum d (l.drop k) = wtS d s + wtSum d (l.drop (k + 1))
  | [], k, s, h => by simp at h
  | x :: l, 0, s, h => by
    simp only [List.getElem?_cons_zero, Option.some.injEq] at h
    subst h
    simp [wtSum]
  | x :: l, k + 1, s, h => by
    simpa using wtSum_drop d l k s (by simpa using h)
theorem wtS_pos (d : Nat) (s : St) : 1 ≤ wtS d s := by
  cases s
  unfold wtS
  omega

/-! The document's going over. -/
mutual
def flatS : Nat → St → List (St × Nat)
  | d, .mk h b e => (.mk h b e, d) :: (flatL (d + 1) b ++ flatL (d + 1) e)
def flatL : Nat → List St → List (St × Nat)
  | _, [] => []
  | d, s :: l => flatS d s ++ flatL d l
end
theorem flatL_drop (d : Nat) : ∀ (l : List St) (k : Nat) (s : St), l[k]? = some s → flatL d (l.drop k) = flatS d s ++ flatL d (l.drop (k + 1))
  | [], k, s, h => by simp at h
  | x :: l, 0, s, h => by
    simp only [List.getElem?_cons_zero, Option.some.injEq] at h
    subst h
    simp [flatL]
  | x :: l, k + 1, s, h => by
    simpa using flatL_drop d l k s (by simpa using h)
/-- One of them, n gone over ahead. -/
def judge1 (x : St × Nat) (n : Nat) : Option (Int × Nat) :=
  match x with
  | (.mk h b e, d) => if 100 ≤ n then some (8, n + 1) else if 8 < d then some (10, n + 1) else if oneR h b.isEmpty e.isEmpty = false then some (9, n + 1) else none
def judge : List (St × Nat) → Nat → Option (Int × Nat)
  | [], _ => none
  | x :: l, n => match judge1 x n with
    | some y => some y
    | none => judge l (n + 1)
mutual
theorem judgeS : ∀ (s : St) (d n : Nat) (rest : List (St × Nat)), judge (flatS d s ++ rest) n = match walkS s d n with
    | .error x => some x
    | .ok m => judge rest m
  | .mk h b e, d, n, rest => by
    unfold flatS walkS
    rw [List.cons_append, show ∀ (x : St × Nat) l, judge (x :: l) n = match judge1 x n with
      | some y => some y
      | none => judge l (n + 1) from fun _ _ => by conv => lhs; unfold judge]
    simp only [judge1]
    by_cases h1 : 100 ≤ n
    · have h1' : 100 < n + 1 := by omega
      simp only [if_pos h1, if_pos h1']
    · have h1' : ¬ 100 < n + 1 := by omega
      simp only [if_neg h1, if_neg h1']
      by_cases h2 : 8 < d
      · simp only [if_pos h2]
      · simp only [if_neg h2]
        by_cases h3 : oneR h b.isEmpty e.isEmpty = false
        · simp only [if_pos h3]
        · simp only [if_neg h3]
          rw [List.append_assoc, judgeL b (d + 1) (n + 1)]
          cases walkL b (d + 1) (n + 1) with
          | error x => rfl
          | ok m => exact judgeL e (d + 1) m rest
theorem judgeL : ∀ (l : List St) (d n : Nat) (rest : List (St × Nat)), judge (flatL d l ++ rest) n = match walkL l d n with
    | .error x => some x
    | .ok m => judge rest m
  | [], d, n, rest => by
    unfold flatL walkL
    rfl
  | s :: l, d, n, rest => by
    unfold flatL walkL
    rw [List.append_assoc, judgeS s d n]
    cases walkS s d n with
    | error x => rfl
    | ok m => exact judgeL l d m rest
end
/-- The document's judgement is prog's. -/
theorem judged (l : List St) : judge (flatL 1 l) 0 = match walkL l 1 0 with
    | .error x => some x
    | .ok _ => none := by
  have := judgeL l 1 0 []
  rw [List.append_nil] at this
  rw [this]
  cases walkL l 1 0 <;> rfl
theorem judge_at : ∀ (l : List (St × Nat)) (n k : Nat), (∀ j, j < k → ∃ x, l[j]? = some x ∧ judge1 x (n + j) = none) → judge l n = judge (l.drop k) (n + k)
  | l, n, 0, _ => by simp
  | [], n, k + 1, h => by
    obtain ⟨x, hx, _⟩ := h 0 (by omega)
    simp at hx
  | y :: l, n, k + 1, h => by
    obtain ⟨x, hx, h1⟩ := h 0 (by omega)
    simp only [List.getElem?_cons_zero, Option.some.injEq] at hx
    subst hx
    rw [show judge (y :: l) n = judge l (n + 1) by
      conv => lhs; unfold judge
      rw [Nat.add_zero] at h1
      rw [h1]]
    rw [judge_at l (n + 1) k (fun j hj => by
      obtain ⟨x, hx, h2⟩ := h (j + 1) (by omega)
      exact ⟨x, by simpa using hx, by rw [show n + 1 + j = n + (j + 1) by omega]; exact h2⟩)]
    simp [Nat.add_comm, Nat.add_left_comm]
end Go.Proofs.YtikgbgminhgpdaaGreatDoor.Tx
