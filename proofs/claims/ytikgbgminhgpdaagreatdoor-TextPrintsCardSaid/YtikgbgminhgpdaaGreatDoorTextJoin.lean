/- Layer 10 (text): two texts, one behind the other; empty lines. No program stands here. -/
import Derived.Test.YtikgbgminhgpdaaGreatDoorTextFuel
namespace Go.Proofs.YtikgbgminhgpdaaGreatDoor.Tx

theorem next_app : ∀ {A : List (List Bs)} {l : List Bs} {r : List (List Bs)} (B : List (List Bs)), next A = some (l, r) → next (A ++ B) = some (l, r ++ B)
  | [], _, _, _, h => by cases h
  | [] :: r', l, r, B, h => next_app (A := r') B h
  | (w :: l') :: r', l, r, B, h => by
    simp only [next, Option.some.injEq, Prod.mk.injEq] at h
    obtain ⟨rfl, rfl⟩ := h
    rfl
theorem next_none : ∀ {A : List (List Bs)} (B : List (List Bs)), next A = none → next (A ++ B) = next B
  | [], _, _ => rfl
  | [] :: r', B, h => next_none (A := r') B h
  | (w :: l') :: r', B, h => by cases h
theorem Blk_none {A B : List (List Bs)} (h : next A = none) : Blk (A ++ B) = Blk B := by
  rw [Blk_eq, next_none B h, ← Blk_eq]
/-- What is left is behind the first line that was taken. -/
theorem taken {A r0 r : List (List Bs)} {l : List Bs} {p : List St} {e : Fin} (hx : next A = some (l, r0)) (h : Blk A = .ok (p, e, r)) : r.length ≤ r0.length := by
  rw [Blk_eq, hx] at h
  simp only at h
  by_cases c1 : l = [[125]]
  · rw [if_pos c1] at h
    simp only [Except.ok.injEq, Prod.mk.injEq] at h
    rw [← h.2.2]
    omega
  · rw [if_neg c1] at h
    by_cases c2 : l = [[125], [101, 108, 115, 101], [123]]
    · rw [if_pos c2] at h
      simp only [Except.ok.injEq, Prod.mk.injEq] at h
      rw [← h.2.2]
      omega
    · rw [if_neg c2] at h
      cases hs : stmt l with
      | none => rw [hs] at h; cases h
      | some sh =>
        rw [hs] at h
        simp only at h
        cases h1 : Blks sh r0 with
        | error x => rw [h1] at h; cases h
        | ok x =>
          obtain ⟨s, r1⟩ := x
          rw [h1] at h
          simp only at h
          have k1 : r1.length ≤ r0.length := blks_rest _ h1
          cases h2 : Blk r1 with
          | error x => rw [h2] at h; cases h
          | ok x =>
            obtain ⟨p2, e2, r2⟩ := x
            rw [h2] at h
            have k2 : r2.length ≤ r1.length := blk_rest _ h2
            simp only [Except.ok.injEq, Prod.mk.injEq] at h
            rw [← h.2.2]
            omega
theorem app_all : ∀ (n : Nat) (A B : List (List Bs)), A.length ≤ n →
    (∀ p e r, Blk A = .ok (p, e, r) → (e ≠ .text → Blk (A ++ B) = .ok (p, e, r ++ B)) ∧ (e = .text → Blk (A ++ B) = match Blk B with
      | .error x => .error x
      | .ok (q, e', r') => .ok (p ++ q, e', r'))) ∧
    (∀ h s r, Blks h A = .ok (s, r) → Blks h (A ++ B) = .ok (s, r ++ B))
  | 0, A, B, hn => by
    obtain rfl : A = [] := List.eq_nil_of_length_eq_zero (by omega)
    refine ⟨fun p e r h => ?_, fun h s r hb => ?_⟩
    · rw [Blk_eq] at h
      simp only [next, Except.ok.injEq, Prod.mk.injEq] at h
      obtain ⟨rfl, rfl, rfl⟩ := h
      refine ⟨fun q => absurd rfl q, fun _ => ?_⟩
      rw [List.nil_append]
      cases Blk B with
      | error x => rfl
      | ok x => rfl
    · rw [Blks_eq] at hb ⊢
      by_cases c0 : opens h.kind = false
      · rw [if_pos c0] at hb ⊢
        simp only [Except.ok.injEq, Prod.mk.injEq] at hb
        obtain ⟨rfl, rfl⟩ := hb
        rfl
      · rw [if_neg c0, Blk_eq] at hb
        simp [next, place] at hb
  | n + 1, A, B, hn => by
    have blkP : ∀ p e r, Blk A = .ok (p, e, r) → (e ≠ .text → Blk (A ++ B) = .ok (p, e, r ++ B)) ∧ (e = .text → Blk (A ++ B) = match Blk B with
        | .error x => .error x
        | .ok (q, e', r') => .ok (p ++ q, e', r')) := by
      intro p e r h
      cases hx : next A with
      | none =>
        rw [Blk_eq, hx] at h
        simp only [Except.ok.injEq, Prod.mk.injEq] at h
        obtain ⟨rfl, rfl, rfl⟩ := h
        refine ⟨fun q => absurd rfl q, fun _ => ?_⟩
        rw [Blk_none hx]
        cases Blk B with
        | error x => rfl
        | ok x => rfl
      | some x =>
        obtain ⟨l, r0⟩ := x
        have h0 := next_lt hx
        have hx2 := next_app B hx
        rw [Blk_eq, hx] at h
        simp only at h
        rw [Blk_eq (A ++ B), hx2]
        simp only
        by_cases c1 : l = [[125]]
        · rw [if_pos c1] at h ⊢
          simp only [Except.ok.injEq, Prod.mk.injEq] at h
          obtain ⟨rfl, rfl, rfl⟩ := h
          exact ⟨fun _ => rfl, fun q => by cases q⟩
        · rw [if_neg c1] at h ⊢
          by_cases c2 : l = [[125], [101, 108, 115, 101], [123]]
          · rw [if_pos c2] at h ⊢
            simp only [Except.ok.injEq, Prod.mk.injEq] at h
            obtain ⟨rfl, rfl, rfl⟩ := h
            exact ⟨fun _ => rfl, fun q => by cases q⟩
          · rw [if_neg c2] at h ⊢
            cases hs : stmt l with
            | none => rw [hs] at h; cases h
            | some sh =>
              rw [hs] at h
              simp only at h ⊢
              cases h1 : Blks sh r0 with
              | error x => rw [h1] at h; cases h
              | ok x =>
                obtain ⟨s, r1⟩ := x
                rw [h1] at h
                simp only at h
                rw [((app_all n r0 B (by omega)).2 sh s r1 h1)]
                simp only
                have k1 : r1.length ≤ r0.length := blks_rest _ h1
                cases h2 : Blk r1 with
                | error x => rw [h2] at h; cases h
                | ok x =>
                  obtain ⟨p2, e2, r2⟩ := x
                  rw [h2] at h
                  simp only [Except.ok.injEq, Prod.mk.injEq] at h
                  obtain ⟨rfl, rfl, rfl⟩ := h
                  obtain ⟨a1, a2⟩ := (app_all n r1 B (by omega)).1 p2 e2 r2 h2
                  refine ⟨fun q => ?_, fun q => ?_⟩
                  · rw [a1 q]
                  · rw [a2 q]
                    cases Blk B with
                    | error x => rfl
                    | ok x => rfl
    refine ⟨blkP, fun h s r hb => ?_⟩
    rw [Blks_eq] at hb ⊢
    by_cases c0 : opens h.kind = false
    · rw [if_pos c0] at hb ⊢
      simp only [Except.ok.injEq, Prod.mk.injEq] at hb
      obtain ⟨rfl, rfl⟩ := hb
      rfl
    · rw [if_neg c0] at hb ⊢
      cases h1 : Blk A with
      | error x => rw [h1] at hb; cases hb
      | ok x =>
        obtain ⟨b, e1, r1⟩ := x
        rw [h1] at hb
        simp only at hb
        have k1 : r1.length ≤ A.length := blk_rest _ h1
        by_cases c1 : e1 = .els ∧ (h.kind = 11 ∨ h.kind = 14)
        · rw [if_pos c1] at hb
          rw [(blkP b e1 r1 h1).1 (by rw [c1.1]; exact fun q => by cases q)]
          simp only
          rw [if_pos c1]
          -- the second block begins behind a line that was taken
          have k2 : r1.length < A.length := by
            rcases Nat.lt_or_ge r1.length A.length with q | q
            · exact q
            · exfalso
              cases hx : next A with
              | none =>
                rw [Blk_eq, hx] at h1
                simp only [Except.ok.injEq, Prod.mk.injEq] at h1
                rw [← h1.2.1] at c1
                cases c1.1
              | some x =>
                obtain ⟨l, r0⟩ := x
                have := next_lt hx
                have := taken hx h1
                omega
          cases h2 : Blk r1 with
          | error x => rw [h2] at hb; cases hb
          | ok x =>
            obtain ⟨b2, e2, r2⟩ := x
            rw [h2] at hb
            simp only at hb
            by_cases c2 : e2 = .block
            · rw [if_pos c2] at hb
              simp only [Except.ok.injEq, Prod.mk.injEq] at hb
              obtain ⟨rfl, rfl⟩ := hb
              rw [((app_all n r1 B (by omega)).1 b2 e2 r2 h2).1 (by rw [c2]; exact fun q => by cases q)]
              simp only
              rw [if_pos c2]
            · rw [if_neg c2] at hb
              cases hb
        · rw [if_neg c1] at hb
          by_cases c2 : e1 = .block
          · rw [if_pos c2] at hb
            simp only [Except.ok.injEq, Prod.mk.injEq] at hb
            obtain ⟨rfl, rfl⟩ := hb
            rw [(blkP b e1 r1 h1).1 (by rw [c2]; exact fun q => by cases q)]
            simp only
            rw [if_neg c1, if_pos c2]
          · rw [if_neg c2] at hb
            cases hb
end Go.Proofs.YtikgbgminhgpdaaGreatDoor.Tx
