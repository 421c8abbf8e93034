/- Layer 10 (text): what a text told with other blanks and empty lines is read as. No program stands here. -/
import Derived.Test.YtikgbgminhgpdaaGreatDoorTextBlank
import Derived.Test.YtikgbgminhgpdaaGreatDoorTextJoinW
namespace Go.Proofs.YtikgbgminhgpdaaGreatDoor.Tx

theorem words_two (a b : Bs) : words (a ++ 32 :: b) = words a ++ words b := by
  unfold words
  rw [split_two, List.filter_append]
theorem words_nil : words [] = [] := rfl
theorem words_blank (b : Bs) : words (32 :: b) = words b := by
  have := words_two [] b
  simpa [words_nil] using this
theorem words_one {w : Bs} (h0 : w ≠ []) (h : (32 : UInt8) ∉ w) : words w = [w] := by
  unfold words
  rw [split_one 32 w h]
  cases w with
  | nil => exact absurd rfl h0
  | cons x l => rfl
/-- The blanks ahead of a word. -/
def blanks (n : Nat) : Bs := if n % 3 = 0 then [32] else if n % 3 = 1 then [32, 32] else [32, 32, 32]
theorem words_more (l w : Bs) (n : Nat) (h0 : w ≠ []) (h : (32 : UInt8) ∉ w) : words (l ++ blanks n ++ w) = words l ++ [w] := by
  unfold blanks
  split
  · rw [List.append_assoc, List.singleton_append, words_two, words_one h0 h]
  · split
    · rw [List.append_assoc, show ([32, 32] : Bs) ++ w = 32 :: (32 :: w) from rfl, words_two, words_blank, words_one h0 h]
    · rw [List.append_assoc, show ([32, 32, 32] : Bs) ++ w = 32 :: (32 :: (32 :: w)) from rfl, words_two, words_blank, words_blank, words_one h0 h]
theorem mem_blanks {n : Nat} {x : UInt8} (h : x ∈ blanks n) : x = 32 := by
  unfold blanks at h
  split at h
  · simpa using h
  · split at h <;> simpa using h
theorem len_blanks (n : Nat) : (blanks n).length ≤ 3 := by
  unfold blanks
  split
  · simp
  · split <;> simp
theorem lines_end (a x : Bs) (ha : a = [] ∨ ∃ b, a = b ++ [10]) : lines (a ++ x) = lines a ++ lines x := by
  rcases ha with rfl | ⟨b, rfl⟩
  · rfl
  · rw [List.append_assoc, List.singleton_append, lines_two]
theorem lines_line {p : Bs} (h : (10 : UInt8) ∉ p) : lines (p ++ [10]) = [p] := by
  unfold lines
  rw [split_app 10 p [] h, show split 10 [] = [([] : Bs)] from rfl]
  rfl
/-- What is put behind a text for one line more. -/
def bpiece (i : Nat) (l : Bs) : Bs := (if i % 2 = 0 then [] else [10]) ++ l ++ [32, 10]
theorem bpiece_end (i : Nat) (a l : Bs) : a ++ bpiece i l = [] ∨ ∃ b, a ++ bpiece i l = b ++ [10] := by
  refine .inr ⟨a ++ ((if i % 2 = 0 then [] else [10]) ++ l ++ [32]), ?_⟩
  unfold bpiece
  simp
theorem bpiece_sq {a l line : Bs} {i : Nat} (ha : a = [] ∨ ∃ b, a = b ++ [10]) (hl : (10 : UInt8) ∉ l) (hw : words l = words line) : sq ((lines (a ++ bpiece i l)).map words) = sq ((lines a).map words) ++ sq [words line] := by
  have h2 : (10 : UInt8) ∉ l ++ [32] := by simp [hl]
  have e : lines (l ++ [32, 10]) = [l ++ [32]] := by
    have := lines_line h2
    rwa [List.append_assoc] at this
  have hq : words (l ++ [32]) = words line := by
    rw [words_two, words_nil, List.append_nil, hw]
  rw [lines_end _ _ ha]
  unfold bpiece
  split
  · rw [List.nil_append, e]
    simp [sq, hq]
  · rw [List.append_assoc, List.singleton_append]
    have : lines (10 :: (l ++ [32, 10])) = [] :: lines (l ++ [32, 10]) := by
      have := lines_two [] (l ++ [32, 10])
      simpa [lines, dropEnd, split] using this
    rw [this, e]
    simp [sq, hq, words_nil]
theorem lines_ten {s p : Bs} (h : p ∈ lines s) : (10 : UInt8) ∉ p := by
  have hd : ∀ (l : List Bs) p, p ∈ dropEnd l → p ∈ l := by
    intro l
    induction l with
    | nil => intro p h; exact h
    | cons a r ih =>
      intro p h
      cases r with
      | nil =>
        unfold dropEnd at h
        split at h
        · cases h
        · exact h
      | cons b r =>
        unfold dropEnd at h
        rcases List.mem_cons.1 h with rfl | h
        · exact List.mem_cons_self
        · exact List.mem_cons_of_mem _ (ih _ h)
  exact split_no 10 s p (hd _ _ h)
theorem mem_split (c : UInt8) : ∀ (l : Bs) (p : Bs), p ∈ split c l → ∀ x ∈ p, x ∈ l
  | [], p, h, x, hx => by
    simp only [split, List.mem_singleton] at h
    subst h
    exact hx
  | y :: l, p, h, x, hx => by
    have ih := mem_split c l
    by_cases e : y = c
    · simp only [split, if_pos e] at h
      rcases List.mem_cons.1 h with rfl | h
      · cases hx
      · exact List.mem_cons_of_mem _ (ih p h x hx)
    · obtain ⟨q, r, hq⟩ := List.exists_cons_of_ne_nil (split_ne c l)
      simp only [split, if_neg e, hq] at h
      rcases List.mem_cons.1 h with rfl | h
      · rcases List.mem_cons.1 hx with rfl | hx
        · exact List.mem_cons_self
        · exact List.mem_cons_of_mem _ (ih q (by rw [hq]; exact List.mem_cons_self) x hx)
      · exact List.mem_cons_of_mem _ (ih p (by rw [hq]; exact List.mem_cons_of_mem _ h) x hx)
theorem words_mem {l w : Bs} (h : w ∈ words l) : w ≠ [] ∧ (32 : UInt8) ∉ w ∧ ∀ x ∈ w, x ∈ l := by
  unfold words at h
  obtain ⟨h1, h2⟩ := List.mem_filter.1 h
  exact ⟨fun e => (by rw [e] at h2; cases h2), split_no 32 l w h1, mem_split 32 l w h1⟩
/-- A line put together anew, up to the k-th word. -/
def reline (i : Nat) : List Bs → Nat → Bs → Bs
  | [], _, acc => acc
  | w :: l, k, acc => reline i l (k + 1) (acc ++ blanks (i + k) ++ w)
theorem relined {i : Nat} {line : Bs} (h10 : (10 : UInt8) ∉ line) : ∀ (l : List Bs) (k : Nat) (acc : Bs), (∀ w ∈ l, w ∈ words line) → (10 : UInt8) ∉ acc → (10 : UInt8) ∉ reline i l k acc ∧ words (reline i l k acc) = words acc ++ l
  | [], k, acc, _, ha => by
    unfold reline
    exact ⟨ha, by simp⟩
  | w :: l, k, acc, hm, ha => by
    unfold reline
    obtain ⟨h0, h32, hin⟩ := words_mem (hm w List.mem_cons_self)
    have := relined (i := i) h10 l (k + 1) (acc ++ blanks (i + k) ++ w) (fun x hx => hm x (List.mem_cons_of_mem _ hx)) (by
      intro hx
      rcases List.mem_append.1 hx with hx | hx
      · rcases List.mem_append.1 hx with hx | hx
        · exact ha hx
        · exact absurd (mem_blanks hx) (by decide)
      · exact h10 (hin _ hx))
    refine ⟨this.1, ?_⟩
    rw [this.2, words_more _ _ _ h0 h32, List.append_assoc, List.singleton_append]
/-- A text put together anew. -/
def retext : List Bs → Nat → Bs → Bs
  | [], _, acc => acc
  | p :: l, i, acc => retext l (i + 1) (acc ++ bpiece i (reline i (words p) 0 []))
theorem retexted : ∀ (l : List Bs) (i : Nat) (acc : Bs), (∀ p ∈ l, (10 : UInt8) ∉ p) → (acc = [] ∨ ∃ b, acc = b ++ [10]) → sq ((lines (retext l i acc)).map words) = sq ((lines acc).map words) ++ sq (l.map words)
  | [], i, acc, _, _ => by
    unfold retext
    simp [sq]
  | p :: l, i, acc, hm, ha => by
    unfold retext
    have hp := relined (i := i) (hm p List.mem_cons_self) (words p) 0 [] (fun _ h => h) (by simp)
    rw [retexted l (i + 1) _ (fun q hq => hm q (List.mem_cons_of_mem _ hq)) (bpiece_end i acc _), bpiece_sq (line := p) ha hp.1 (hp.2.trans (by rw [words_nil, List.nil_append]))]
    rw [List.append_assoc]
    congr 1
    rw [List.map_cons]
    unfold sq
    rw [← List.filter_append]
    rfl
/-- The text of TextBlanks is read as the given one. -/
theorem blanked (s : Bs) : sq ((lines (retext (lines s) 0 [])).map words) = sq ((lines s).map words) := by
  rw [retexted (lines s) 0 [] (fun p hp => lines_ten hp) (.inl rfl)]
  simp [lines, split, dropEnd, sq]
end Go.Proofs.YtikgbgminhgpdaaGreatDoor.Tx
