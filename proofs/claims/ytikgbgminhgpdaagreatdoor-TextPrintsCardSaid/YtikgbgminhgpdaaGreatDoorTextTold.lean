/- Layer 10 (text): what is told is read as it was. No program stands here. -/
import Derived.Test.YtikgbgminhgpdaaGreatDoorTextPrint
import Derived.Test.YtikgbgminhgpdaaGreatDoorTextJoin
import Derived.Test.YtikgbgminhgpdaaGreatDoorTextSplit
namespace Go.Proofs.YtikgbgminhgpdaaGreatDoor.Tx
open Go.Lib (itoa decDigits)

theorem fill_c {z : Int} (h1 : 0 ≤ z) (h2 : z ≤ 999) (s : Sh) : fill1 99 (itoa z) s = some { s with coll := z } := by
  have := congrArg (Option.map fun z => ({ s with coll := z } : Sh)) (plain_itoa h1 h2)
  rw [Option.map_map] at this
  exact this
theorem fill_a {a : Int × Int} (h : argR a true = true) (s : Sh) : fill1 97 (argT a) s = some { s with a := a } := by
  unfold fill1
  rw [if_neg (by decide), if_pos rfl, arg_itoa h]
  rfl
theorem fill_b {a : Int × Int} (h : argR a true = true) (s : Sh) : fill1 98 (argT a) s = some { s with b := a } := by
  unfold fill1
  rw [if_neg (by decide), if_neg (by decide), if_pos rfl, arg_itoa h]
  rfl
theorem fill_n {a : Int × Int} (h0 : a.1 = 0) (h1 : 0 ≤ a.2) (h2 : a.2 ≤ 5) (s : Sh) : fill1 110 (argT a) s = some { s with a := (s.a.1, a.2) } := by
  have := congrArg (Option.map fun z => ({ s with a := (s.a.1, z) } : Sh)) (plain_itoa (z := a.2) h1 (by omega))
  rw [Option.map_map] at this
  unfold fill1 argT
  rw [if_neg (by decide), if_neg (by decide), if_neg (by decide), if_pos rfl, if_pos h0]
  exact this
theorem fill_r {z : Int} (h1 : 1 ≤ z) (h2 : z ≤ 8) (s : Sh) : fill1 114 (114 :: itoa z) s = some { s with reg := z } := by
  unfold fill1
  rw [if_neg (by decide), if_neg (by decide), if_neg (by decide), if_neg (by decide), if_pos rfl, (register_itoa h1 h2).1]
  show some { s with reg := ((z.toNat : Nat) : Int) } = _
  rw [Int.toNat_of_nonneg (by omega)]
theorem fill_o (s : Sh) : fill1 123 [123] s = some s := by
  unfold fill1
  rw [if_neg (by decide), if_neg (by decide), if_neg (by decide), if_neg (by decide), if_neg (by decide), if_pos rfl]
theorem kind_cases {k : Nat} (h1 : 1 ≤ k) (h2 : k ≤ 16) : k = 1 ∨ k = 2 ∨ k = 3 ∨ k = 4 ∨ k = 5 ∨ k = 6 ∨ k = 7 ∨ k = 8 ∨ k = 9 ∨ k = 10 ∨ k = 11 ∨ k = 12 ∨ k = 13 ∨ k = 14 ∨ k = 15 ∨ k = 16 := by omega
/-- What a right statement's parts are. -/
theorem oneR_parts {s : Sh} {nb ne : Bool} (h : oneR s nb ne = true) : 1 ≤ s.kind ∧ s.kind ≤ 16 ∧ collR s = true ∧ argR s.a (hasA s.kind) = true ∧ argR s.b (hasB s.kind) = true ∧ loopR s = true ∧ regR s = true ∧ (opens s.kind || nb) = true ∧ (hasElse s.kind || ne) = true := by
  unfold oneR at h
  simp only [Bool.and_eq_true, decide_eq_true_eq] at h
  obtain ⟨⟨⟨⟨⟨⟨⟨⟨h1, h2⟩, h3⟩, h4⟩, h5⟩, h6⟩, h7⟩, h8⟩, h9⟩ := h
  exact ⟨h1, h2, h3, h4, h5, h6, h7, h8, h9⟩
theorem coll_in {s : Sh} (h : collR s = true) (hk : hasColl s.kind = true) : 0 ≤ s.coll ∧ s.coll ≤ 999 := by
  unfold collR at h
  rw [if_pos hk] at h
  simp only [Bool.and_eq_true, decide_eq_true_eq] at h
  omega
theorem coll_out {s : Sh} (h : collR s = true) (hk : hasColl s.kind = false) : s.coll = 0 := by
  unfold collR at h
  rw [if_neg (by rw [hk]; decide)] at h
  simpa using h
theorem reg_in {s : Sh} (h : regR s = true) (hk : hasReg s.kind = true) : 1 ≤ s.reg ∧ s.reg ≤ 8 := by
  unfold regR at h
  rw [if_pos hk] at h
  simpa using h
theorem reg_out {s : Sh} (h : regR s = true) (hk : hasReg s.kind = false) : s.reg = 0 := by
  unfold regR at h
  rw [if_neg (by rw [hk]; decide)] at h
  simpa using h
theorem arg_out {a : Int × Int} (h : argR a false = true) : a = (0, 0) := by
  unfold argR at h
  rw [if_neg (by decide)] at h
  simp only [Bool.and_eq_true, decide_eq_true_eq] at h
  exact Prod.ext h.1 h.2
set_option maxHeartbeats 1000000 in
theorem stmt_line {s : Sh} {nb ne : Bool} (h : oneR s nb ne = true) : stmt (lineW s) = some s := by
  obtain ⟨h1, h2, h3, h4, h5, h6, h7, -, -⟩ := oneR_parts h
  clear h
  obtain ⟨k, c, r, a, b⟩ := s
  simp only at h1 h2 h3 h4 h5 h6 h7
  have C := coll_in h3; have C0 := coll_out h3; have R := reg_in h7; have R0 := reg_out h7
  clear h3 h7
  simp only at C C0 R R0
  rcases kind_cases h1 h2 with rfl | rfl | rfl | rfl | rfl | rfl | rfl | rfl | rfl | rfl | rfl | rfl | rfl | rfl | rfl | rfl
  · rw [show hasA 1 = true from rfl] at h4; obtain rfl := arg_out h5
    show fill [99, 97, 114] [itoa c, argT a, 114 :: itoa r] (.zero 1) = _
    simp only [fill, fill_c (C rfl).1 (C rfl).2, fill_a h4, fill_r (R rfl).1 (R rfl).2, Sh.zero]
  · rw [show hasA 2 = true from rfl] at h4; rw [show hasB 2 = true from rfl] at h5; obtain rfl := R0 rfl
    show fill [99, 97, 98] [itoa c, argT a, argT b] (.zero 2) = _
    simp only [fill, fill_c (C rfl).1 (C rfl).2, fill_a h4, fill_b h5, Sh.zero]
  · rw [show hasA 3 = true from rfl] at h4; obtain rfl := arg_out h5; obtain rfl := R0 rfl
    show fill [99, 97] [itoa c, argT a] (.zero 3) = _
    simp only [fill, fill_c (C rfl).1 (C rfl).2, fill_a h4, Sh.zero]
  · rw [show hasA 4 = true from rfl] at h4; obtain rfl := arg_out h5
    show fill [99, 97, 114] [itoa c, argT a, 114 :: itoa r] (.zero 4) = _
    simp only [fill, fill_c (C rfl).1 (C rfl).2, fill_a h4, fill_r (R rfl).1 (R rfl).2, Sh.zero]
  · obtain rfl := arg_out h4; obtain rfl := arg_out h5
    show fill [99, 114] [itoa c, 114 :: itoa r] (.zero 5) = _
    simp only [fill, fill_c (C rfl).1 (C rfl).2, fill_r (R rfl).1 (R rfl).2, Sh.zero]
  · rw [show hasA 6 = true from rfl] at h4; obtain rfl := arg_out h5
    show fill [99, 97, 114] [itoa c, argT a, 114 :: itoa r] (.zero 6) = _
    simp only [fill, fill_c (C rfl).1 (C rfl).2, fill_a h4, fill_r (R rfl).1 (R rfl).2, Sh.zero]
  · rw [show hasA 7 = true from rfl] at h4; rw [show hasB 7 = true from rfl] at h5
    show fill [99, 97, 98, 114] [itoa c, argT a, argT b, 114 :: itoa r] (.zero 7) = _
    simp only [fill, fill_c (C rfl).1 (C rfl).2, fill_a h4, fill_b h5, fill_r (R rfl).1 (R rfl).2, Sh.zero]
  · obtain rfl := arg_out h4; obtain rfl := arg_out h5; obtain rfl := R0 rfl
    show fill [99] [itoa c] (.zero 8) = _
    simp only [fill, fill_c (C rfl).1 (C rfl).2, Sh.zero]
  · rw [show hasA 9 = true from rfl] at h4; obtain rfl := arg_out h5; obtain rfl := C0 rfl
    show fill [114, 97] [114 :: itoa r, argT a] (.zero 9) = _
    simp only [fill, fill_a h4, fill_r (R rfl).1 (R rfl).2, Sh.zero]
  · rw [show hasA 10 = true from rfl] at h4; rw [show hasB 10 = true from rfl] at h5; obtain rfl := C0 rfl
    show fill [114, 97, 98] [114 :: itoa r, argT a, argT b] (.zero 10) = _
    simp only [fill, fill_a h4, fill_b h5, fill_r (R rfl).1 (R rfl).2, Sh.zero]
  · rw [show hasA 11 = true from rfl] at h4; rw [show hasB 11 = true from rfl] at h5; obtain rfl := C0 rfl; obtain rfl := R0 rfl
    show fill [97, 98, 123] [argT a, argT b, [123]] (.zero 11) = _
    simp only [fill, fill_a h4, fill_b h5, fill_o, Sh.zero]
  · obtain rfl := arg_out h5; obtain rfl := C0 rfl; obtain rfl := R0 rfl
    obtain ⟨q0, q1, q2⟩ : a.1 = 0 ∧ 0 ≤ a.2 ∧ a.2 ≤ 5 := by
      unfold loopR at h6
      simp at h6
      exact ⟨h6.1.1, h6.1.2, h6.2⟩
    show fill [110, 123] [argT a, [123]] (.zero 12) = _
    simp only [fill, fill_n q0 q1 q2, fill_o, Sh.zero]
    rw [← q0]
  · obtain rfl := arg_out h4; obtain rfl := arg_out h5; obtain rfl := C0 rfl; obtain rfl := R0 rfl
    show fill [123] [[123]] (.zero 13) = _
    simp only [fill, fill_o, Sh.zero]
  · obtain rfl := arg_out h4; obtain rfl := arg_out h5; obtain rfl := C0 rfl; obtain rfl := R0 rfl
    show fill [123] [[123]] (.zero 14) = _
    simp only [fill, fill_o, Sh.zero]
  · obtain rfl := arg_out h4; obtain rfl := arg_out h5; obtain rfl := C0 rfl; obtain rfl := R0 rfl
    rfl
  · obtain rfl := arg_out h4; obtain rfl := arg_out h5; obtain rfl := C0 rfl; obtain rfl := R0 rfl
    rfl

/-! Its words are words. -/
/-- A word: not empty, without blanks and lines' ends. -/
def Fine (p : Bs) : Prop := p ≠ [] ∧ (32 : UInt8) ∉ p ∧ (10 : UInt8) ∉ p
theorem fine_digits {l : Bs} (h0 : l ≠ []) (h : l.all digit = true) : Fine l := by
  rw [List.all_eq_true] at h
  exact ⟨h0, fun q => (digit_ne (h _ q)).1 rfl, fun q => (digit_ne (h _ q)).2.1 rfl⟩
theorem fine_itoa {z : Int} (h1 : -999 ≤ z) (h2 : z ≤ 999) : Fine (itoa z) := by
  by_cases h : 0 ≤ z
  · obtain ⟨n, rfl⟩ : ∃ n : Nat, z = (n : Int) := ⟨z.toNat, by omega⟩
    rw [itoa_nat]
    exact fine_digits (dec_ok (by omega)).2.2.1 (dec_ok (by omega)).2.1
  · obtain ⟨n, rfl⟩ : ∃ n : Nat, z = -(n : Int) := ⟨(-z).toNat, by omega⟩
    rw [itoa_minus (by omega)]
    have := fine_digits (dec_ok (n := n) (by omega)).2.2.1 (dec_ok (by omega)).2.1
    exact ⟨by simp, by simpa using this.2.1, by simpa using this.2.2⟩
theorem Fine.cons {c : UInt8} {p : Bs} (h1 : c ≠ 32) (h2 : c ≠ 10) (h : Fine p) : Fine (c :: p) := by
  refine ⟨by simp, ?_, ?_⟩
  · simp only [List.mem_cons, not_or]; exact ⟨fun e => h1 e.symm, h.2.1⟩
  · simp only [List.mem_cons, not_or]; exact ⟨fun e => h2 e.symm, h.2.2⟩
theorem Fine.app {p q : Bs} (h : Fine p) (h2 : Fine q) : Fine (p ++ q) := by
  refine ⟨by simp [h.1], ?_, ?_⟩
  · simp only [List.mem_append, not_or]; exact ⟨h.2.1, h2.2.1⟩
  · simp only [List.mem_append, not_or]; exact ⟨h.2.2, h2.2.2⟩
theorem arg_bounds {a : Int × Int} {t : Bool} (h : argR a t = true) : 0 ≤ a.1 ∧ a.1 ≤ 8 ∧ -999 ≤ a.2 ∧ a.2 ≤ 999 := by
  cases t with
  | false => rw [arg_out h]; decide
  | true =>
    unfold argR at h
    simp only [if_true, Bool.and_eq_true, decide_eq_true_eq] at h
    exact ⟨h.1.1.1, h.1.1.2, h.1.2, h.2⟩
theorem fine_arg {a : Int × Int} {t : Bool} (h : argR a t = true) : Fine (argT a) := by
  obtain ⟨h1, h2, h3, h4⟩ := arg_bounds h
  unfold argT
  split
  · exact fine_itoa h3 h4
  · refine Fine.cons (by decide) (by decide) ?_
    split
    · exact (fine_itoa (by omega) (by omega)).app (Fine.cons (by decide) (by decide) (fine_itoa h3 h4))
    · split
      · exact (fine_itoa (by omega) (by omega)).app (fine_itoa h3 h4)
      · show Fine (itoa a.1 ++ []); rw [List.append_nil]; exact fine_itoa (by omega) (by omega)
theorem fine_line {s : Sh} {nb ne : Bool} (h : oneR s nb ne = true) : ∀ p ∈ lineW s, Fine p := by
  obtain ⟨h1, h2, h3, h4, h5, h6, h7, -, -⟩ := oneR_parts h
  intro p hp
  unfold lineW at hp
  rcases List.mem_cons.1 hp with rfl | hp
  · have : ∀ k : _root_.Fin 17, 1 ≤ k.1 → (!(wordB k.1).isEmpty && !(wordB k.1).contains 32 && !(wordB k.1).contains 10) = true := by decide +kernel
    have := this ⟨s.kind, by omega⟩ h1
    simp only [Bool.and_eq_true, Bool.not_eq_true', List.isEmpty_eq_false_iff, List.contains_eq_mem, decide_eq_false_iff_not] at this
    exact ⟨this.1.1, this.1.2, this.2⟩
  · obtain ⟨c, hc, rfl⟩ := List.mem_map.1 hp
    have hreg : 0 ≤ s.reg ∧ s.reg ≤ 8 := by
      cases hk : hasReg s.kind with
      | true => have := reg_in h7 hk; omega
      | false => have := reg_out h7 hk; omega
    have hcoll : 0 ≤ s.coll ∧ s.coll ≤ 999 := by
      cases hk : hasColl s.kind with
      | true => exact coll_in h3 hk
      | false => have := coll_out h3 hk; omega
    unfold piece
    split
    · exact fine_itoa (by omega) (by omega)
    · split
      · exact fine_arg h4
      · split
        · exact fine_arg h4
        · split
          · exact fine_arg h5
          · split
            · exact Fine.cons (by decide) (by decide) (fine_itoa (by omega) (by omega))
            · exact ⟨by decide, by decide, by decide⟩
theorem line_ne (s : Sh) : lineW s ≠ [] := by simp [lineW]
theorem line_words {s : Sh} {nb ne : Bool} (h : oneR s nb ne = true) : words (lineT s) = lineW s :=
  words_join (line_ne s) fun p hp => ⟨(fine_line h p hp).1, (fine_line h p hp).2.1⟩
theorem join_no {c : UInt8} (hc : c ≠ 32) : ∀ (l : List Bs), (∀ p ∈ l, c ∉ p) → c ∉ Go.Lib.join l [32]
  | [], _ => by simp [Go.Lib.join, List.intercalate]
  | [p], h => by
    have : Go.Lib.join [p] [32] = p := by simp [Go.Lib.join, List.intercalate]
    rw [this]
    exact h p (by simp)
  | p :: q :: r, h => by
    rw [join_cons2]
    have := join_no hc (q :: r) (fun x hx => h x (List.mem_cons_of_mem _ hx))
    simp only [List.mem_append, List.mem_singleton, not_or]
    exact ⟨⟨h p (by simp), hc⟩, this⟩
theorem line_no {s : Sh} {nb ne : Bool} (h : oneR s nb ne = true) : (10 : UInt8) ∉ lineT s := join_no (by decide) _ fun p hp => (fine_line h p hp).2.2

/-! Lines. -/
theorem dropEnd_cons (p : Bs) {l : List Bs} (h : l ≠ []) : dropEnd (p :: l) = p :: dropEnd l := by
  obtain ⟨q, r, rfl⟩ := List.exists_cons_of_ne_nil h
  rfl
theorem lines_cons {x : Bs} (h : (10 : UInt8) ∉ x) (t : Bs) : lines (x ++ 10 :: t) = x :: lines t := by
  unfold lines
  rw [split_app 10 x t h, dropEnd_cons _ (split_ne 10 t)]
theorem words_blank (s : Bs) : words (32 :: s) = words s := by simp [words, split]
/-- Only blanks. -/
def Blank (ah : Bs) : Prop := ∀ x ∈ ah, x = 32
theorem words_ahead : ∀ (ah s : Bs), Blank ah → words (ah ++ s) = words s
  | [], _, _ => rfl
  | x :: ah, s, h => by
    have hx : x = 32 := h x (by simp)
    rw [hx, List.cons_append, words_blank, words_ahead ah s (fun y hy => h y (List.mem_cons_of_mem _ hy))]
theorem blank_no {ah : Bs} (h : Blank ah) : (10 : UInt8) ∉ ah := fun q => absurd (h _ q) (by decide)
theorem Blank.more {ah : Bs} (h : Blank ah) : Blank (ah ++ [32, 32]) := fun x hx => by
  rcases List.mem_append.1 hx with q | q
  · exact h x q
  · simpa using q
def wl (s : Bs) : List (List Bs) := (lines s).map words
theorem wl_line {ah x : Bs} (ha : Blank ah) (hx : (10 : UInt8) ∉ x) (t : Bs) : wl (ah ++ (x ++ 10 :: t)) = words x :: wl t := by
  have : ah ++ (x ++ 10 :: t) = (ah ++ x) ++ 10 :: t := by simp
  unfold wl
  rw [this, lines_cons (by simp only [List.mem_append, not_or]; exact ⟨blank_no ha, hx⟩) t, List.map_cons, words_ahead ah x ha]
theorem else_words : words elseT = elseW := by decide +kernel
theorem end_words : words [125] = [[125]] := by decide +kernel
theorem wl_end {ah : Bs} (ha : Blank ah) (t : Bs) : wl (ah ++ 125 :: 10 :: t) = [[125]] :: wl t := by
  have := wl_line (x := [125]) ha (by decide) t
  rw [end_words] at this
  exact this
mutual
theorem tellS_lines : ∀ (s : St) (ah t : Bs), goodS s = true → Blank ah → wl (tellS s ah ++ t) = tellWS s ++ wl t
  | .mk h b e, ah, t, hg, ha => by
    unfold goodS at hg
    simp only [Bool.and_eq_true] at hg
    obtain ⟨⟨h1, h2⟩, h3⟩ := hg
    unfold tellS tellWS
    by_cases ho : opens h.kind = false
    · rw [if_pos ho, if_pos ho]
      simp only [List.append_assoc, List.cons_append, List.nil_append]
      rw [wl_line ha (line_no h1), line_words h1]
    · rw [if_neg ho, if_neg ho]
      cases hE : e.isEmpty with
      | true =>
        simp only [if_true, List.append_assoc, List.cons_append, List.nil_append]
        rw [wl_line ha (line_no h1), line_words h1, tellL_lines b _ _ h2 ha.more, wl_end ha]
      | false =>
        simp only [Bool.false_eq_true, if_false, List.append_assoc, List.cons_append, List.nil_append]
        rw [wl_line ha (line_no h1), line_words h1, tellL_lines b _ _ h2 ha.more, wl_line ha (by decide), else_words, tellL_lines e _ _ h3 ha.more, wl_end ha]
theorem tellL_lines : ∀ (l : List St) (ah t : Bs), goodL l = true → Blank ah → wl (tellL l ah ++ t) = tellWL l ++ wl t
  | [], ah, t, _, _ => by unfold tellL tellWL; rfl
  | s :: l, ah, t, hg, ha => by
    unfold goodL at hg
    simp only [Bool.and_eq_true] at hg
    unfold tellL tellWL
    rw [List.append_assoc, tellS_lines s ah _ hg.1 ha, tellL_lines l ah t hg.2 ha, List.append_assoc]
end

/-! Reading it. -/
theorem next_cons {l : List Bs} (h : l ≠ []) (r : List (List Bs)) : next (l :: r) = some (l, r) := by
  obtain ⟨a, b, rfl⟩ := List.exists_cons_of_ne_nil h
  rfl
theorem Blk_end (r : List (List Bs)) : Blk ([[125]] :: r) = .ok ([], .block, r) := by
  rw [Blk_eq, next_cons (by simp)]
  exact if_pos rfl
theorem Blk_else (r : List (List Bs)) : Blk (elseW :: r) = .ok ([], .els, r) := by
  rw [Blk_eq, next_cons (by simp [elseW])]
  simp only
  rw [if_neg (by decide)]
  exact if_pos rfl
theorem line_not {s : Sh} {nb ne : Bool} (h : oneR s nb ne = true) : lineW s ≠ [[125]] ∧ lineW s ≠ [[125], [101, 108, 115, 101], [123]] := by
  have h0 := stmt_line h
  constructor
  · intro e
    rw [e] at h0
    exact absurd h0 (by simp [stmt, show kindOf [125] = 0 from by decide])
  · intro e
    rw [e] at h0
    exact absurd h0 (by simp [stmt, show kindOf [125] = 0 from by decide])
def shOf : St → Sh
  | .mk h _ _ => h
def tailS : St → List (List Bs)
  | .mk h b e => if opens h.kind = false then [] else tellWL b ++ (if e.isEmpty then [] else elseW :: tellWL e) ++ [[[125]]]
theorem tellWS_eq (h : Sh) (b e : List St) : tellWS (.mk h b e) = lineW h :: tailS (.mk h b e) := by
  conv => lhs; unfold tellWS
  unfold tailS
  rfl
mutual
theorem read_S : ∀ (s : St), goodS s = true → ∀ B, Blks (shOf s) (tailS s ++ B) = .ok (s, B)
  | .mk h b e, hg, B => by
    rw [show tailS (.mk h b e) = if opens h.kind = false then [] else tellWL b ++ (if e.isEmpty then [] else elseW :: tellWL e) ++ [[[125]]] from rfl, show shOf (.mk h b e) = h from rfl]
    unfold goodS at hg
    simp only [Bool.and_eq_true] at hg
    obtain ⟨⟨h1, h2⟩, h3⟩ := hg
    obtain ⟨-, -, -, -, -, -, -, h8, h9⟩ := oneR_parts h1
    rw [Blks_eq]
    by_cases ho : opens h.kind = false
    · rw [if_pos ho, if_pos ho]
      have hb : b = [] := by rw [ho] at h8; simpa using h8
      have hel : hasElse h.kind = false := by
        unfold opens at ho
        unfold hasElse
        simp only [Bool.or_eq_false_iff] at ho ⊢
        exact ⟨ho.1.1.1, ho.2⟩
      have he : e = [] := by rw [hel] at h9; simpa using h9
      rw [hb, he]
      rfl
    · rw [if_neg ho, if_neg ho]
      cases hE : e.isEmpty with
      | true =>
        have he : e = [] := by simpa using hE
        simp only [if_true, List.append_nil, List.append_assoc, List.singleton_append]
        rw [read_L b h2, Blk_end]
        simp only [List.append_nil]
        rw [if_neg (by intro q; cases q.1)]
        simp only [if_true, he]
      | false =>
        simp only [Bool.false_eq_true, if_false, List.append_assoc, List.cons_append]
        rw [read_L b h2, Blk_else]
        simp only [List.append_nil]
        have hk : h.kind = 11 ∨ h.kind = 14 := by
          rw [hE] at h9
          simpa [hasElse] using h9
        rw [if_pos ⟨trivial, hk⟩, read_L e h3, List.nil_append, Blk_end]
        simp
theorem read_L : ∀ (l : List St), goodL l = true → ∀ B, Blk (tellWL l ++ B) = match Blk B with
    | .error x => .error x
    | .ok (q, e, r) => .ok (l ++ q, e, r)
  | [], _, B => by
    unfold tellWL
    rw [List.nil_append]
    cases Blk B with
    | error x => rfl
    | ok x => rfl
  | .mk h b e :: l, hg, B => by
    unfold goodL at hg
    simp only [Bool.and_eq_true] at hg
    have hg1 := hg.1
    unfold goodS at hg1
    simp only [Bool.and_eq_true] at hg1
    have h1 := hg1.1.1
    unfold tellWL
    rw [tellWS_eq, Blk_eq]
    simp only [List.cons_append, List.append_assoc]
    rw [next_cons (line_ne h)]
    simp only
    rw [if_neg (line_not h1).1, if_neg (line_not h1).2, stmt_line h1]
    simp only
    rw [show Blks h = Blks (shOf (.mk h b e)) from rfl, read_S (.mk h b e) hg.1]
    simp only
    rw [read_L l hg.2 B]
    cases Blk B with
    | error x => rfl
    | ok x => rfl
end
/-- What is told is read as it was. -/
theorem read_told {p : List St} (h : goodL p = true) : readAll (wl (tellL p [])) = .ok p := by
  have h1 := tellL_lines p [] [] h (fun x hx => by cases hx)
  have h2 := read_L p h []
  rw [List.append_nil] at h1 h2
  rw [readAll_Blk, h1, show wl [] = [] from rfl, List.append_nil, h2, Blk_eq]
  simp [next]
end Go.Proofs.YtikgbgminhgpdaaGreatDoor.Tx
