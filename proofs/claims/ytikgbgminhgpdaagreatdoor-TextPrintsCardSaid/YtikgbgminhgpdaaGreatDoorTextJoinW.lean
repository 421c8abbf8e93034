/- Layer 10 (text): words joined by blanks. No program stands here. -/
import Derived.Test.YtikgbgminhgpdaaGreatDoorTextWords
import Derived.Lib.Join
namespace Go.Proofs.YtikgbgminhgpdaaGreatDoor.Tx
open Go.Lib (join)

/-- Words as they stand in a line. -/
def Clean (l : List Bs) : Prop := ∀ p ∈ l, p ≠ [] ∧ (32 : UInt8) ∉ p
theorem split_no (c : UInt8) : ∀ (l : Bs) p, p ∈ split c l → c ∉ p
  | [], p, h => by simp [split] at h; simp [h]
  | x :: l, p, h => by
    have ih := split_no c l
    unfold split at h
    split at h
    · rcases List.mem_cons.1 h with rfl | h
      · simp
      · exact ih p h
    · rename_i hx
      split at h
      · simp at h
        rw [h]
        simpa using fun e => hx e.symm
      · rename_i q r hq
        rw [hq] at ih
        rcases List.mem_cons.1 h with rfl | h
        · simp only [List.mem_cons, not_or]
          exact ⟨fun e => hx e.symm, ih q (by simp)⟩
        · exact ih p (by simp [h])
theorem words_clean (s : Bs) : Clean (words s) := fun p hp => by
  obtain ⟨h1, h2⟩ := List.mem_filter.1 hp
  exact ⟨by simpa using h2, split_no 32 s p h1⟩
theorem join_cons2 (p q : Bs) (r : List Bs) (sep : Bs) : join (p :: q :: r) sep = p ++ sep ++ join (q :: r) sep := by
  unfold join
  simp [List.intercalate, List.intersperse]
theorem split_app (c : UInt8) : ∀ (p s : Bs), c ∉ p → split c (p ++ c :: s) = p :: split c s
  | [], s, _ => by simp [split]
  | x :: p, s, h => by
    simp only [List.mem_cons, not_or] at h
    have := split_app c p s h.2
    simp only [List.cons_append, split, if_neg (fun e => h.1 (Eq.symm e)), this]
theorem split_one (c : UInt8) : ∀ (p : Bs), c ∉ p → split c p = [p]
  | [], _ => rfl
  | x :: p, h => by
    simp only [List.mem_cons, not_or] at h
    simp only [split, if_neg (fun e => h.1 (Eq.symm e)), split_one c p h.2]
theorem split_join (c : UInt8) : ∀ (l : List Bs), l ≠ [] → (∀ p ∈ l, c ∉ p) → split c (join l [c]) = l
  | [], h, _ => absurd rfl h
  | [p], _, h => by
    have : join [p] [c] = p := by simp [join, List.intercalate]
    rw [this]
    exact split_one c p (h p (by simp))
  | p :: q :: r, _, h => by
    rw [join_cons2, List.append_assoc, List.singleton_append, split_app c p _ (h p (by simp)), split_join c (q :: r) (by simp) (fun x hx => h x (List.mem_cons_of_mem _ hx))]
theorem words_join {l : List Bs} (h0 : l ≠ []) (h : Clean l) : words (join l [32]) = l := by
  unfold words
  rw [split_join 32 l h0 (fun p hp => (h p hp).2), List.filter_eq_self]
  intro p hp
  have := (h p hp).1
  cases p with
  | nil => exact absurd rfl this
  | cons a b => rfl
theorem join_is {l : List Bs} (h0 : l ≠ []) (h : Clean l) {s : Bs} (hj : join l [32] = s) : l = words s := by rw [← hj, words_join h0 h]
theorem join_len (M : Nat) : ∀ (l : List Bs), (∀ p ∈ l, p.length ≤ M) → (join l [32]).length ≤ l.length * (M + 1)
  | [], _ => by simp [join, List.intercalate]
  | [p], h => by
    have : join [p] [32] = p := by simp [join, List.intercalate]
    rw [this]
    have := h p (by simp)
    simp
    omega
  | p :: q :: r, h => by
    have ih := join_len M (q :: r) (fun x hx => h x (List.mem_cons_of_mem _ hx))
    have := h p (by simp)
    rw [join_cons2]
    simp only [List.length_append, List.length_cons, List.length_nil] at ih ⊢
    rw [Nat.succ_mul (r.length + 1)]
    omega
theorem next_mem : ∀ {ls : List (List Bs)} {l : List Bs} {r : List (List Bs)}, next ls = some (l, r) → l ∈ ls ∧ l ≠ []
  | [], _, _, h => by cases h
  | [] :: r', l, r, h => by
    have := next_mem (ls := r') h
    exact ⟨List.mem_cons_of_mem _ this.1, this.2⟩
  | (w :: l') :: r', l, r, h => by
    simp only [next, Option.some.injEq, Prod.mk.injEq] at h
    obtain ⟨rfl, rfl⟩ := h
    simp
end Go.Proofs.YtikgbgminhgpdaaGreatDoor.Tx
