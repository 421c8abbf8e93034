/- Layer 10 (text): what strings.FieldsFunc cuts at blanks are the words. No program stands here. -/
import Derived.Test.YtikgbgminhgpdaaGreatDoorTextPlain
import Derived.Lib.FieldsP
import Derived.Lib.TrimU
import Derived.Laws.RangeAny
namespace Go.Proofs.YtikgbgminhgpdaaGreatDoor.Tx
open Go.Lib

/-- A line's words, read byte by byte; st: the word that is open. -/
def wf : Bs → Option Bs → List Bs
  | [], none => []
  | [], some a => [a]
  | x :: l, none => if x = 32 then wf l none else wf l (some [x])
  | x :: l, some a => if x = 32 then a :: wf l none else wf l (some (a ++ [x]))
theorem split_ne (c : UInt8) : ∀ l, split c l ≠ []
  | [] => by simp [split]
  | x :: l => by
    unfold split
    split
    · simp
    · split <;> simp
theorem wf_split : ∀ (l : Bs), wf l none = words l ∧ ∀ a p r, a ≠ [] → split 32 l = p :: r → wf l (some a) = (a ++ p) :: r.filter (fun p => !p.isEmpty)
  | [] => by
    refine ⟨rfl, ?_⟩
    intro a p r _ h
    simp only [split, List.cons.injEq] at h
    obtain ⟨rfl, rfl⟩ := h
    simp [wf]
  | x :: l => by
    obtain ⟨h1, h2⟩ := wf_split l
    by_cases hx : x = 32
    · refine ⟨?_, ?_⟩
      · simp only [wf, hx, if_true, words, split]
        rw [List.filter_cons_of_neg (by simp)]
        exact h1
      · intro a p r ha h
        simp only [split, hx, if_true, List.cons.injEq] at h
        obtain ⟨rfl, rfl⟩ := h
        simp only [wf, hx, if_true, List.append_nil, h1, words]
    · obtain ⟨p0, r0, hp⟩ : ∃ p0 r0, split 32 l = p0 :: r0 := List.exists_cons_of_ne_nil (split_ne 32 l)
      refine ⟨?_, ?_⟩
      · have := h2 [x] p0 r0 (by simp) hp
        simp only [wf, hx, if_false, this, words, split, hp]
        rw [List.filter_cons_of_pos (by simp)]
        rfl
      · intro a p r ha h
        simp only [split, hx, if_false, hp, List.cons.injEq] at h
        obtain ⟨rfl, rfl⟩ := h
        have := h2 (a ++ [x]) p0 r0 (by simp) hp
        simp only [wf, hx, if_false, this, List.append_assoc, List.singleton_append]
theorem wf_words (l : Bs) : wf l none = words l := (wf_split l).1
theorem wf_run : ∀ (m l : Bs) (st : Option Bs), m ≠ [] → (∀ x ∈ m, x ≠ 32) → wf (m ++ l) st = wf l (some (st.getD [] ++ m))
  | [], _, _, h, _ => absurd rfl h
  | [x], l, st, _, h => by
    have hx : x ≠ 32 := h x (by simp)
    cases st <;> simp [wf, hx]
  | x :: y :: m, l, st, _, h => by
    have hx : x ≠ 32 := h x (by simp)
    have ih := fun st => wf_run (y :: m) l st (by simp) (fun z hz => h z (List.mem_cons_of_mem _ hz))
    cases st with
    | none =>
      show wf (x :: (y :: m ++ l)) none = _
      rw [wf, if_neg hx, ih]
      rfl
    | some a =>
      show wf (x :: (y :: m ++ l)) (some a) = _
      rw [wf, if_neg hx, ih]
      simp
theorem decodeN_run (n b0 b1 b2 b3 : Nat) (hn : 1 ≤ n) (h0 : 128 ≤ b0) : 128 ≤ (decodeN n b0 b1 b2 b3).1 ∧ (decodeN n b0 b1 b2 b3).2 ≤ n ∧ (1 < (decodeN n b0 b1 b2 b3).2 → b1 ≠ 32) ∧ (2 < (decodeN n b0 b1 b2 b3).2 → b2 ≠ 32) ∧ (3 < (decodeN n b0 b1 b2 b3).2 → b3 ≠ 32) ∧ (decodeN n b0 b1 b2 b3).2 ≤ 4 := by
  unfold decodeN
  repeat' split
  all_goals (simp only; refine ⟨?_, ?_, ?_, ?_, ?_, ?_⟩ <;> intros <;> omega)
theorem get_list (s : ByteArray) (i : Nat) (h : i < s.size) : s.data.toList[i]? = some (s.get! i) := by
  have : s.get! i = s[i]'h := by
    show s.get! (i + 0) = _
    exact Go.get_at s i h
  rw [this, List.getElem?_eq_getElem (by simpa using h)]
  rfl
/-- A rune other than a blank: its bytes are no blanks. -/
theorem decode_run (s : ByteArray) (pos : Nat) (h : pos < s.size) (h32 : (Utf8.decode s pos).1 ≠ 32) :
    1 ≤ (Utf8.decode s pos).2 ∧ pos + (Utf8.decode s pos).2 ≤ s.size ∧ ∀ i, i < (Utf8.decode s pos).2 → ∀ x, s.data.toList[pos + i]? = some x → x ≠ 32 := by
  have hw := width_pos s pos
  refine ⟨hw, ?_⟩
  have hg := get_list s pos h
  by_cases ha : (s.get! pos).toNat < 128
  · have hd : Utf8.decode s pos = ((s.get! pos).toNat, 1) := by
      have e : s.get! pos = s[pos]'h := by show s.get! (pos + 0) = _; exact Go.get_at s pos h
      rw [e] at ha ⊢
      exact decode_ascii s pos h ha
    rw [hd] at h32 ⊢
    refine ⟨h, ?_⟩
    intro i hi x hx
    simp only at hi
    obtain rfl : i = 0 := by omega
    rw [Nat.add_zero, hg] at hx
    cases hx
    intro e
    rw [e] at h32
    exact h32 rfl
  · rw [decode_at] at h32 ⊢
    obtain ⟨_, r2, r3, r4, r5, r6⟩ := decodeN_run (s.size - pos) (s.get! pos).toNat (s.get! (pos + 1)).toNat (s.get! (pos + 2)).toNat (s.get! (pos + 3)).toNat (by omega) (by omega)
    refine ⟨by omega, ?_⟩
    intro i hi x hx e
    subst e
    have hlt : pos + i < s.size := by omega
    have := get_list s (pos + i) hlt
    rw [this] at hx
    have hx := congrArg UInt8.toNat (Option.some.inj hx)
    rw [show (32 : UInt8).toNat = 32 from rfl] at hx
    rcases (by omega : i = 0 ∨ i = 1 ∨ i = 2 ∨ i = 3) with rfl | rfl | rfl | rfl
    · rw [Nat.add_zero] at hx; omega
    · exact r3 hi hx
    · exact r4 hi hx
    · exact r5 hi hx
theorem decode_blank (s : ByteArray) (pos : Nat) (h : pos < s.size) (h32 : (Utf8.decode s pos).1 = 32) : s.data.toList[pos]? = some 32 ∧ (Utf8.decode s pos).2 = 1 := by
  by_cases ha : (s.get! pos).toNat < 128
  · have hd : Utf8.decode s pos = ((s.get! pos).toNat, 1) := by
      have e : s.get! pos = s[pos]'h := by show s.get! (pos + 0) = _; exact Go.get_at s pos h
      rw [e] at ha ⊢
      exact decode_ascii s pos h ha
    rw [hd] at h32 ⊢
    refine ⟨?_, rfl⟩
    rw [get_list s pos h]
    exact congrArg some (UInt8.toNat_inj.1 h32)
  · exfalso
    rw [decode_at] at h32
    have := (decodeN_run (s.size - pos) (s.get! pos).toNat (s.get! (pos + 1)).toNat (s.get! (pos + 2)).toNat (s.get! (pos + 3)).toNat (by omega) (by omega)).1
    omega
def isBlank (x : Nat) : Bool := x == 32
theorem spans_words (s : ByteArray) : ∀ (f pos : Nat) (st : Option Nat) (acc : List (Nat × Nat)), s.size ≤ pos + f → pos ≤ s.size → (∀ a, st = some a → a < pos) →
    ((closeSpans s (spansFromP isBlank s f pos st acc)).map fun x => (s.extract x.1 x.2).data.toList) = (acc.map fun x => (s.extract x.1 x.2).data.toList) ++ wf (s.data.toList.drop pos) (st.map fun a => (s.extract a pos).data.toList) := by
  intro f
  induction f with
  | zero =>
    intro pos st acc h1 h2 h3
    have hd : s.data.toList.drop pos = [] := List.drop_eq_nil_of_le (by simp; show s.size ≤ pos; omega)
    obtain rfl : pos = s.size := by omega
    rw [hd]
    cases st with
    | none => simp [spansFromP, closeSpans, wf]
    | some a => simp [spansFromP, closeSpans, wf]
  | succ f ih =>
    intro pos st acc h1 h2 h3
    by_cases hp : pos < s.size
    · unfold spansFromP
      rw [if_pos hp]
      by_cases hb : (Utf8.decode s pos).1 = 32
      · obtain ⟨g1, g2⟩ := decode_blank s pos hp hb
        have hq : isBlank (Utf8.decode s pos).1 = true := by simp [isBlank, hb]
        have hd : s.data.toList.drop pos = 32 :: s.data.toList.drop (pos + 1) := by
          obtain ⟨hl, e⟩ := List.getElem?_eq_some_iff.1 g1
          rw [List.drop_eq_getElem_cons hl, e]
        rw [hq, hd, g2]
        cases st with
        | none =>
          simp only [if_true]
          rw [ih (pos + 1) none acc (by omega) (by omega) (fun a q => by cases q)]
          simp [wf]
        | some a =>
          simp only [if_true]
          rw [ih (pos + 1) none _ (by omega) (by omega) (fun a q => by cases q)]
          simp [wf]
      · obtain ⟨g1, g2, g3⟩ := decode_run s pos hp hb
        have hq : isBlank (Utf8.decode s pos).1 = false := by simp [isBlank, hb]
        rw [hq]
        generalize (Utf8.decode s pos).2 = k at g1 g2 g3 ⊢
        have hd : s.data.toList.drop pos = (s.data.toList.drop pos).take k ++ s.data.toList.drop (pos + k) := by
          rw [← List.drop_drop, List.take_append_drop]
        have hx : ∀ a, a ≤ pos → (s.extract a (pos + k)).data.toList = (s.extract a pos).data.toList ++ (s.data.toList.drop pos).take k := by
          intro a ha
          simp only [ByteArray.data_extract, Array.toList_extract, List.extract_eq_take_drop]
          rw [show pos + k - a = (pos - a) + k by omega, List.take_add, List.drop_drop, show a + (pos - a) = pos by omega]
        have hm : ∀ x ∈ (s.data.toList.drop pos).take k, x ≠ 32 := by
          intro x hx
          obtain ⟨i, hi, e⟩ := List.getElem_of_mem hx
          rw [List.length_take, List.length_drop] at hi
          rw [List.getElem_take, List.getElem_drop] at e
          exact g3 i (by omega) x (by rw [← e]; exact List.getElem?_eq_getElem _)
        have hn : (s.data.toList.drop pos).take k ≠ [] := by
          intro q
          have := congrArg List.length q
          rw [List.length_take, List.length_drop] at this
          have e : s.data.toList.length = s.size := by simp
          rw [e] at this
          simp at this
          omega
        cases st with
        | none =>
          simp only [Bool.false_eq_true, if_false]
          rw [ih (pos + k) (some pos) acc (by omega) (by omega) (fun a q => by cases q; omega), hd, wf_run _ _ _ hn hm]
          simp only [Option.map_some, Option.map_none, Option.getD_none, List.nil_append]
          rw [hx pos (Nat.le_refl _)]
          simp
        | some a =>
          simp only [Bool.false_eq_true, if_false]
          have := h3 a rfl
          rw [ih (pos + k) (some a) acc (by omega) (by omega) (fun b q => by cases q; omega), hd, wf_run _ _ _ hn hm]
          simp only [Option.map_some, Option.getD_some]
          rw [hx a (by omega)]
    · rw [spansFromP_end isBlank s (f + 1) pos st acc hp]
      have hd : s.data.toList.drop pos = [] := List.drop_eq_nil_of_le (by simp; show s.size ≤ pos; omega)
      obtain rfl : pos = s.size := by omega
      rw [hd]
      cases st with
      | none => simp [closeSpans, wf]
      | some a => simp [closeSpans, wf]
theorem fields_words (s : ByteArray) : (goFieldsP isBlank s).map (·.data.toList) = words s.data.toList := by
  have := spans_words s s.size 0 none [] (by omega) (by omega) (fun a q => by cases q)
  unfold goFieldsP spansOfP
  rw [List.map_map]
  simp only [List.map_nil, List.nil_append, Option.map_none, List.drop_zero] at this
  rw [← wf_words, ← this]
  rfl
end Go.Proofs.YtikgbgminhgpdaaGreatDoor.Tx
