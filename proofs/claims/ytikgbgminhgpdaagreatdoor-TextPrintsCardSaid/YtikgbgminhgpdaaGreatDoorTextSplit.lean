/- Layer 10 (text): what strings.Split cuts at line ends are the lines. No program stands here. -/
import Derived.Test.YtikgbgminhgpdaaGreatDoorTextWords
import Derived.Lib.SplitLaws
namespace Go.Proofs.YtikgbgminhgpdaaGreatDoor.Tx

theorem splitK_one (c : UInt8) : ∀ s : Bs, Lib.splitK [c] 0 (Lib.count s [c]) s = split c s
  | [] => by
    have : Lib.count ([] : Bs) [c] = 0 := by rw [Lib.count_one]; rfl
    rw [this]
    rfl
  | b :: l => by
    have ih := splitK_one c l
    by_cases hb : b = c
    · subst hb
      have hc : Lib.count (b :: l) [b] = Lib.count l [b] + 1 := by rw [Lib.count_cons_eq]; omega
      have hi : Lib.index (b :: l) [b] = 0 := by unfold Lib.index; rw [if_pos (by simp [List.isPrefixOf])]
      rw [hc]
      unfold Lib.splitK
      rw [hi]
      simp only [split, if_true]
      rw [← ih]
      rfl
    · have hc : Lib.count (b :: l) [c] = Lib.count l [c] := Lib.count_cons_ne b c l hb
      rw [hc]
      have hp : ([c] : Bs).isPrefixOf (b :: l) = false := by
        have : (c == b) = false := by
          cases h : c == b with
          | false => rfl
          | true => exact absurd (beq_iff_eq.1 h).symm hb
        simp [List.isPrefixOf, this]
      have hs : split c (b :: l) = match split c l with
          | [] => [[b]]
          | p :: r => (b :: p) :: r := by
        conv => lhs; unfold split
        rw [if_neg hb]
        rfl
      rw [hs, ← ih]
      cases hk : Lib.count l [c] with
      | zero => rfl
      | succ k =>
        have hge := Lib.index_ge l [c]
        have hne : Lib.index l [c] ≠ -1 := fun e => by
          have := Lib.count_miss e
          omega
        have hi : Lib.index (b :: l) [c] = Lib.index l [c] + 1 := by
          conv => lhs; unfold Lib.index
          rw [if_neg (by rw [hp]; simp), if_neg (by simpa using hne)]
        obtain ⟨i, hii⟩ : ∃ i : Nat, Lib.index l [c] = i := ⟨(Lib.index l [c]).toNat, by omega⟩
        unfold Lib.splitK
        rw [hi, hii]
        have q1 : ¬ (((i : Int) + 1) == -1) = true := fun e => by have := beq_iff_eq.1 e; omega
        have q2 : ¬ ((i : Int) == -1) = true := fun e => by have := beq_iff_eq.1 e; omega
        rw [if_neg q1, if_neg q2]
        have e1 : ((i : Int) + 1).toNat = i + 1 := by omega
        have e2 : ((i : Int)).toNat = i := by omega
        rw [e1, e2]
        simp
/-- strings.Split at a line's end. -/
theorem split_pieces (s : ByteArray) : (Lib.splitB ⟨#[10]⟩ 0 (Lib.countB s ⟨#[10]⟩) s).map (·.data.toList) = split 10 s.data.toList := by
  rw [Lib.splitB_data, ← splitK_one]
theorem dropEnd_last : ∀ (l : List Bs) (p : Bs), dropEnd (l ++ [p]) = if p = [] then l else l ++ [p]
  | [], p => by cases p <;> simp [dropEnd]
  | [q], p => by cases p <;> simp [dropEnd]
  | q :: x :: r, p => by
    have ih := dropEnd_last (x :: r) p
    show q :: dropEnd ((x :: r) ++ [p]) = _
    rw [ih]
    cases p <;> simp
end Go.Proofs.YtikgbgminhgpdaaGreatDoor.Tx
