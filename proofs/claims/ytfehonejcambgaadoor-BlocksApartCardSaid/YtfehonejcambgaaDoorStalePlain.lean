/- BlocksStale in plain words: one block that is given out and freed again and again. No program stands here. -/
import Derived.Test.YtfehonejcambgaaDoorLivePlain
namespace Go.Proofs.YtfehonejcambgaaDoor.Bl

/-- Ahead of round i. -/
def stBefore (n : Nat) (ws : List Nat) : Nat → BS
  | 0 => ⟨ws, 3, [], []⟩
  | i + 1 => ⟨ws, 4 + n, [(3, ⟨n, i + 1, false⟩)], [(n, [3])]⟩
/-- In round i, behind Alloc. -/
def stIn (n : Nat) (ws : List Nat) (i : Nat) : BS := ⟨ws, 4 + n, [(3, ⟨n, i, true⟩)], if i = 0 then [] else [(n, [])]⟩

theorem st_alloc (n i : Nat) (ws : List Nat) (h1 : 1 ≤ n) (h8 : n ≤ 8) (hl : ws.length = 100) :
    alloc (stBefore n ws i) n = .ok (i * 4294967296 + 3, stIn n (zeros (ws.set 3 (headOf ⟨n, i, true⟩)) 4 n) i) := by
  have hc : (1 : Int) ≤ (n : Int) ∧ (n : Int) ≤ 64 := by omega
  unfold alloc
  rw [if_pos hc, Int.toNat_natCast]
  cases i with
  | zero =>
    have h2 : ¬ ws.length < 3 + n + 1 := by omega
    simp only [stBefore, take, aget, if_neg h2, aput, if_true, refOf, stIn]
    simp only [Nat.zero_mul, Nat.zero_add, Except.ok.injEq, Prod.mk.injEq, true_and, BS.mk.injEq, and_true]
    omega
  | succ i =>
    simp [stBefore, take, aget, aput, refOf, stIn]
theorem ref_mod (i : Nat) : (i * 4294967296 + 3) % 4294967296 = 3 := by omega
theorem ref_div (i : Nat) : (i * 4294967296 + 3) / 4294967296 = i := by omega
theorem st_free (n i ref : Nat) (ws : List Nat) (hi : i < 100) (e1 : ref % 4294967296 = 3) (e2 : ref / 4294967296 = i) :
    free (stIn n ws i) ref = some (stBefore n (ws.set 3 (headOf ⟨n, i + 1, false⟩)) (i + 1)) := by
  have e3 : i + 1 < 4294967295 := by omega
  unfold free find
  rw [e1, e2]
  simp only [stIn, aget, if_true, and_self, aput, e3, stBefore]
  cases i with
  | zero => simp [aget, aput]
  | succ i => simp [aget, aput]
theorem st_stale (n i j ref : Nat) (ws : List Nat) (hj : j < i) (e1 : ref % 4294967296 = 3) (e2 : ref / 4294967296 = j) : find (stIn n ws i) ref = none := by
  have e3 : ¬ i = j := by omega
  unfold find
  rw [e1, e2]
  simp [stIn, aget, e3]
theorem zeros_getD (ws : List Nat) (p : Nat) : ∀ (n k : Nat), p ≤ k → k < p + n → (zeros ws p n).getD k 0 = 0
  | 0, k, h1, h2 => by omega
  | n + 1, k, h1, h2 => by
    unfold zeros
    by_cases h : k = p + n
    · subst h
      simp only [List.getD_eq_getElem?_getD, List.getElem?_set_self']
      cases (zeros ws p n)[p + n]? <;> rfl
    · have := zeros_getD ws p n k h1 (by omega)
      simp only [List.getD_eq_getElem?_getD] at this ⊢
      rw [List.getElem?_set_ne (by omega)]
      exact this
theorem st_word (n i ref : Nat) (ws : List Nat) (h1 : 1 ≤ n) (e1 : ref % 4294967296 = 3) (e2 : ref / 4294967296 = i) : word (stIn n ws i) ref 0 = .ok 4 := by
  have h2 : (0 : Int) ≤ 0 ∧ (0 : Int) < (n : Int) := by omega
  unfold word find
  rw [e1, e2]
  simp only [stIn, aget, if_true, and_self, if_pos h2]
  rfl
theorem st_used (n i : Nat) (ws : List Nat) : usedBy (stBefore n ws (i + 1)).bl = 0 := by simp [usedBy, stBefore]
end Go.Proofs.YtfehonejcambgaaDoor.Bl
