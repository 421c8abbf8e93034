/- Layer 10 (text): reading does not depend on its fuel; two texts, one behind the other; empty lines. No program stands here. -/
import Derived.Test.YtikgbgminhgpdaaGreatDoorTextPlain
namespace Go.Proofs.YtikgbgminhgpdaaGreatDoor.Tx

theorem next_lt : ∀ {ls : List (List Bs)} {l : List Bs} {r : List (List Bs)}, next ls = some (l, r) → r.length < ls.length
  | [], _, _, h => by cases h
  | [] :: r', l, r, h => by
    have := next_lt (ls := r') h
    simp only [List.length_cons]
    omega
  | (w :: l') :: r', l, r, h => by
    simp only [next, Option.some.injEq, Prod.mk.injEq] at h
    rw [← h.2]
    simp
mutual
theorem blk_rest : ∀ (f : Nat) {ls : List (List Bs)} {p : List St} {e : Fin} {r : List (List Bs)}, blk f ls = .ok (p, e, r) → r.length ≤ ls.length
  | 0, _, _, _, _, h => by simp [blk] at h
  | f + 1, ls, p, e, r, h => by
    unfold blk at h
    split at h
    · simp only [Except.ok.injEq, Prod.mk.injEq] at h
      rw [← h.2.2]
      simp
    · rename_i l r0 hn
      have h0 := next_lt hn
      split at h
      · simp only [Except.ok.injEq, Prod.mk.injEq] at h
        rw [← h.2.2]
        omega
      · split at h
        · simp only [Except.ok.injEq, Prod.mk.injEq] at h
          rw [← h.2.2]
          omega
        · split at h
          · cases h
          · split at h
            · cases h
            · rename_i s r1 hs
              have h1 := blks_rest f hs
              split at h
              · cases h
              · rename_i p2 e2 r2 h2
                have h3 := blk_rest f h2
                simp only [Except.ok.injEq, Prod.mk.injEq] at h
                rw [← h.2.2]
                omega
theorem blks_rest : ∀ (f : Nat) {h0 : Sh} {r0 : List (List Bs)} {s : St} {r : List (List Bs)}, blks f h0 r0 = .ok (s, r) → r.length ≤ r0.length
  | 0, _, _, _, _, h => by simp [blks] at h
  | f + 1, h0, r0, s, r, h => by
    unfold blks at h
    split at h
    · simp only [Except.ok.injEq, Prod.mk.injEq] at h
      rw [← h.2]
      omega
    · split at h
      · cases h
      · rename_i b e1 r1 h1
        have k1 := blk_rest f h1
        split at h
        · split at h
          · cases h
          · rename_i b2 e2 r2 h2
            have k2 := blk_rest f h2
            split at h
            · simp only [Except.ok.injEq, Prod.mk.injEq] at h
              rw [← h.2]
              omega
            · cases h
        · split at h
          · simp only [Except.ok.injEq, Prod.mk.injEq] at h
            rw [← h.2]
            omega
          · cases h
end
/-- More fuel changes nothing. -/
theorem blk_more : ∀ (f : Nat), (∀ (g : Nat) (ls : List (List Bs)), 2 * ls.length + 1 ≤ f → f ≤ g → blk g ls = blk f ls) ∧ (∀ (g : Nat) (h : Sh) (r : List (List Bs)), 2 * r.length + 2 ≤ f → f ≤ g → blks g h r = blks f h r)
  | 0 => ⟨fun _ _ h => by omega, fun _ _ _ h => by omega⟩
  | f + 1 => by
    obtain ⟨ih1, ih2⟩ := blk_more f
    refine ⟨fun g ls hf hg => ?_, fun g h r hf hg => ?_⟩
    · obtain ⟨g, rfl⟩ : ∃ g', g = g' + 1 := ⟨g - 1, by omega⟩
      unfold blk
      split
      · rfl
      · rename_i l r hn
        have h0 := next_lt hn
        split
        · rfl
        · split
          · rfl
          · split
            · rfl
            · rename_i h hs
              rw [ih2 g h r (by omega) (by omega)]
              split
              · rfl
              · rename_i s r1 h1
                have h2 := blks_rest f h1
                rw [ih1 g r1 (by omega) (by omega)]
    · obtain ⟨g, rfl⟩ : ∃ g', g = g' + 1 := ⟨g - 1, by omega⟩
      unfold blks
      split
      · rfl
      · rw [ih1 g r (by omega) (by omega)]
        split
        · rfl
        · rename_i b e1 r1 h1
          have h2 := blk_rest f h1
          rw [ih1 g r1 (by omega) (by omega)]
/-- Reading lines. -/
def Blk (ls : List (List Bs)) : Except Bad (List St × Fin × List (List Bs)) := blk (2 * ls.length + 1) ls
def Blks (h : Sh) (r : List (List Bs)) : Except Bad (St × List (List Bs)) := blks (2 * r.length + 2) h r
theorem blk_Blk {f : Nat} {ls : List (List Bs)} (h : 2 * ls.length + 1 ≤ f) : blk f ls = Blk ls := (blk_more _).1 f ls (Nat.le_refl _) h
theorem blks_Blks {f : Nat} {h : Sh} {r : List (List Bs)} (hf : 2 * r.length + 2 ≤ f) : blks f h r = Blks h r := (blk_more _).2 f h r (Nat.le_refl _) hf
theorem readAll_Blk (ls : List (List Bs)) : readAll ls = match Blk ls with
    | .error e => .error e
    | .ok (p, e, r) => if e = .text then .ok p else .error (place e r) := by
  unfold readAll
  rw [blk_Blk (by omega)]
  cases Blk ls <;> rfl
theorem Blk_eq (ls : List (List Bs)) : Blk ls = match next ls with
    | none => .ok ([], .text, [])
    | some (l, r) =>
      if l = [[125]] then .ok ([], .block, r)
      else if l = [[125], [101, 108, 115, 101], [123]] then .ok ([], .els, r)
      else match stmt l with
        | none => .error (some r.length)
        | some h => match Blks h r with
          | .error e => .error e
          | .ok (s, r') => match Blk r' with
            | .error e => .error e
            | .ok (p, e, r'') => .ok (s :: p, e, r'') := by
  conv => lhs; unfold Blk; unfold blk
  cases hn : next ls with
  | none => rfl
  | some x =>
    obtain ⟨l, r⟩ := x
    have h0 := next_lt hn
    simp only
    by_cases c1 : l = [[125]]
    · rw [if_pos c1, if_pos c1]
    · rw [if_neg c1, if_neg c1]
      by_cases c2 : l = [[125], [101, 108, 115, 101], [123]]
      · rw [if_pos c2, if_pos c2]
      · rw [if_neg c2, if_neg c2]
        cases hs : stmt l with
        | none => rfl
        | some h =>
          simp only
          rw [blks_Blks (by omega)]
          cases h1 : Blks h r with
          | error e => rfl
          | ok x =>
            obtain ⟨s, r1⟩ := x
            have h2 : r1.length ≤ r.length := blks_rest _ h1
            simp only
            rw [blk_Blk (by omega)]
            cases Blk r1 <;> rfl
theorem Blks_eq (h : Sh) (r : List (List Bs)) : Blks h r = if opens h.kind = false then .ok (.mk h [] [], r)
    else match Blk r with
      | .error e => .error e
      | .ok (b, e1, r1) =>
        if e1 = .els ∧ (h.kind = 11 ∨ h.kind = 14) then
          match Blk r1 with
          | .error e => .error e
          | .ok (b2, e2, r2) => if e2 = .block then .ok (.mk h b b2, r2) else .error (place e2 r2)
        else if e1 = .block then .ok (.mk h b [], r1) else .error (place e1 r1) := by
  conv => lhs; unfold Blks; unfold blks
  by_cases c0 : opens h.kind = false
  · rw [if_pos c0, if_pos c0]
  · rw [if_neg c0, if_neg c0, blk_Blk (by omega)]
    cases h1 : Blk r with
    | error e => rfl
    | ok x =>
      obtain ⟨b, e1, r1⟩ := x
      have h2 : r1.length ≤ r.length := blk_rest _ h1
      simp only
      by_cases c1 : e1 = .els ∧ (h.kind = 11 ∨ h.kind = 14)
      · rw [if_pos c1, if_pos c1, blk_Blk (by omega)]
        cases Blk r1 <;> rfl
      · rw [if_neg c1, if_neg c1]
end Go.Proofs.YtikgbgminhgpdaaGreatDoor.Tx
