/- Layer 10 (text): kindOf, form, plain, register, number, arg. -/
import Derived.Test.YtikgbgminhgpdaaGreatDoorTxtBase
import Derived.Test.YtikgbgminhgpdaaGreatDoorTextPlain
import Derived.Test.YtikgbgminhgpdaaGreatDoorShelf
import Derived.WalkKit
import Derived.Shelf.Strings.SlTrimAscii
import Derived.Lib.AtoiErrMem
namespace Go.Proofs.YtikgbgminhgpdaaGreatDoor
open Go.RowKit Tx
set_option maxRecDepth 10000

/-- A list of bytes as a string. -/
def strV (l : Bs) : Value := .string ⟨l.toArray⟩
theorem u8_ne {a b : UInt8} (h : a ≠ b) : a.toNat ≠ b.toNat := fun e => h (UInt8.toNat_inj.1 e)
theorem register_two (a b : UInt8) : register [a, b] = if a = 114 ∧ 49 ≤ b ∧ b ≤ 56 then some (b.toNat - 48) else none := by
  by_cases h : a = 114
  · subst h
    simp [register]
  · rw [if_neg (fun q => h q.1)]
    unfold register
    split
    · rename_i d heq
      simp only [List.cons.injEq] at heq
      exact absurd heq.1 h
    · rfl
theorem register_len {l : Bs} (h : l.length ≠ 2) : register l = none := by
  unfold register
  split
  · exact absurd rfl h
  · rfl
theorem register_ok (s : ByteArray) (w : World) : Calls Tryz.prog 76 #[.string s] w fun e w' => e = .returned (.tuple #[.int .i64 (((register s.data.toList).getD 0 : Nat) : Int), .bool (register s.data.toList).isSome]) ∧ w = w' := by
  by_cases h2 : s.size = 2
  · obtain ⟨a, b, hs⟩ : ∃ a b, s = ⟨#[a, b]⟩ := by
      obtain ⟨⟨l⟩⟩ := s
      match l, h2 with
      | [a, b], _ => exact ⟨a, b, rfl⟩
    have hr : register s.data.toList = if a = 114 ∧ 49 ≤ b ∧ b ≤ 56 then some (b.toNat - 48) else none := by rw [hs]; exact register_two a b
    have e0 : (s[0]'(by omega)) = a := by subst hs; rfl
    have e1 : (s[1]'(by omega)) = b := by subst hs; rfl
    rw [hr]
    clear hs hr
    by_cases ha : a = 114
    · subst ha
      have l1 : (49 : UInt8) ≤ b ↔ 49 ≤ b.toNat := UInt8.le_iff_toNat_le
      have l2 : b ≤ (56 : UInt8) ↔ b.toNat ≤ 56 := UInt8.le_iff_toNat_le
      by_cases hb : b.toNat < 49
      · have g1 : decide ((b.toNat : Int) < 49) = true := by simp; omega
        rw [if_neg (fun q => by have := l1.1 q.2.1; omega)]
        clear l1 l2
        go_enter Tryz.func76, Tryz.ntmps76
        go_wp2
        go_ret2
        exact ⟨rfl, rfl⟩
      · have g1 : decide ((b.toNat : Int) < 49) = false := by simp; omega
        by_cases hb2 : 56 < b.toNat
        · have g2 : decide ((56 : Int) < (b.toNat : Int)) = true := by simp; omega
          rw [if_neg (fun q => by have := l2.1 q.2.2; omega)]
          clear l1 l2
          go_enter Tryz.func76, Tryz.ntmps76
          go_wp2
          go_ret2
          exact ⟨rfl, rfl⟩
        · have g2 : decide ((56 : Int) < (b.toNat : Int)) = false := by simp; omega
          rw [if_pos ⟨rfl, l1.2 (by omega), l2.2 (by omega)⟩]
          have g3 : IntKind.u8.wrap ((b.toNat : Int) - 48) = ((b.toNat - 48 : Nat) : Int) := by
            show ((b.toNat : Int) - 48) % 256 = _
            omega
          clear l1 l2
          go_enter Tryz.func76, Tryz.ntmps76
          go_wp2
          go_ret2
          exact ⟨rfl, rfl⟩
    · have g1 : ((a.toNat : Int) != 114) = true := by
        have := u8_ne ha
        have e : (114 : UInt8).toNat = 114 := rfl
        simp
        omega
      rw [if_neg (fun q => ha q.1)]
      go_enter Tryz.func76, Tryz.ntmps76
      go_wp2
      go_ret2
      exact ⟨rfl, rfl⟩
  · rw [register_len (l := s.data.toList) (by simpa using h2)]
    have g1 : ((s.size : Int) != 2) = true := by simp; omega
    have g2 : (s.size != 2) = true := by simp [h2]
    go_enter Tryz.func76, Tryz.ntmps76
    go_wp2
    go_ret2
    exact ⟨rfl, rfl⟩

/-! plain. -/
def digs : Bs := [48, 49, 50, 51, 52, 53, 54, 55, 56, 57]
theorem digs_digit (x : UInt8) : digs.contains x = digit x := by
  have h : ∀ n : Fin 256, digs.contains (UInt8.ofNat n.1) = digit (UInt8.ofNat n.1) := by decide +kernel
  have := h ⟨x.toNat, x.toNat_lt⟩
  simpa using this
theorem trim_all {l : Bs} : Lib.trimS l digs = [] ↔ l.all digit = true := by
  unfold Lib.trimS Lib.trimLeftS Lib.trimRightS
  have e : (fun x => digs.contains x) = digit := funext digs_digit
  rw [e]
  have key : ∀ (m : Bs), (m.dropWhile digit = [] ↔ m.all digit = true) := by
    intro m
    induction m with
    | nil => simp
    | cons a m ih =>
      rw [List.dropWhile_cons]
      cases h : digit a with
      | true => simp [ih, h]
      | false => simp [h]
  rw [key, List.all_reverse, List.all_eq_true, List.all_eq_true]
  constructor
  · intro h x hx
    by_cases hd : digit x = true
    · exact hd
    · exfalso
      have hk : ¬ l.reverse.dropWhile digit = [] := fun q => by
        have := (key l.reverse).1 q
        rw [List.all_reverse, List.all_eq_true] at this
        exact hd (this x hx)
      obtain ⟨y, r, hy⟩ := List.exists_cons_of_ne_nil hk
      have h1 := h y (by rw [hy]; exact List.mem_cons_self ..)
      have h2 : digit y = false := by
        have := List.head?_dropWhile_not digit l.reverse
        rw [hy] at this
        simpa using this
      rw [h1] at h2
      cases h2
  · intro h x hx
    exact h x (List.mem_reverse.1 ((List.dropWhile_sublist digit).subset hx))
theorem decFrom_digits : ∀ (l : Bs) (n : Nat), l.all digit = true → Lib.decFrom n l = some (valFrom l n)
  | [], _, _ => rfl
  | x :: l, n, h => by
    simp only [List.all_cons, Bool.and_eq_true] at h
    have hx : Lib.digitVal x = some (x.toNat - 48) := by
      unfold Lib.digitVal
      have h1 := h.1
      unfold digit at h1
      simp only [Bool.and_eq_true, decide_eq_true_eq] at h1
      have l1 : (48 : UInt8) ≤ x ↔ 48 ≤ x.toNat := UInt8.le_iff_toNat_le
      have l2 : x ≤ (57 : UInt8) ↔ x.toNat ≤ 57 := UInt8.le_iff_toNat_le
      rw [if_pos ⟨l1.1 h1.1, l2.1 h1.2⟩]
    unfold Lib.decFrom valFrom
    rw [hx]
    simp only
    rw [decFrom_digits l _ h.2, Nat.mul_comm]
theorem atoi_digits {l : Bs} (h0 : l ≠ []) (h : l.all digit = true) : Lib.atoi l = some ((valFrom l 0 : Nat) : Int) := by
  obtain ⟨x, r, rfl⟩ := List.exists_cons_of_ne_nil h0
  have hx : digit x = true := by simp only [List.all_cons, Bool.and_eq_true] at h; exact h.1
  unfold Lib.atoi
  have h1 : (x == 45) = false := by
    cases e : x == 45 with
    | false => rfl
    | true => rw [beq_iff_eq.1 e] at hx; exact absurd hx (by decide)
  have h2 : (x == 43) = false := by
    cases e : x == 43 with
    | false => rfl
    | true => rw [beq_iff_eq.1 e] at hx; exact absurd hx (by decide)
  simp only [h1, h2, Bool.false_eq_true, if_false]
  unfold Lib.decNat
  simp only [List.isEmpty_cons, Bool.false_eq_true, if_false]
  rw [decFrom_digits _ _ h]
  rfl
theorem plain_ok (s : ByteArray) (w : World) (hs : s.size ≤ 9223372036854775807) : Calls Tryz.prog 74 #[.string s] w fun e w' => e = .returned (.tuple #[.int .i64 (((plain s.data.toList).getD 0 : Nat) : Int), .bool (plain s.data.toList).isSome]) ∧ Below w.heap.size w w' := by
  obtain ⟨l, hl⟩ : ∃ l, s.data.toList = l := ⟨_, rfl⟩
  have hz : s.size = l.length := by rw [← hl]; simp
  rw [hl]
  by_cases h0 : l = []
  · obtain rfl : s = ⟨#[]⟩ := by
      obtain ⟨⟨m⟩⟩ := s
      simp only at hl
      subst hl
      subst h0
      rfl
    have hp : plain l = none := by unfold plain; rw [if_pos (.inl h0)]
    rw [hp]
    clear hs hl hz h0 hp
    go_enter Tryz.func74, Tryz.ntmps74
    go_wp2
    go_ret2
    exact ⟨rfl, Below.refl _ _⟩
  · have HTR : ∀ w, Calls Tryz.prog 84 #[.string s, .string ⟨#[48, 49, 50, 51, 52, 53, 54, 55, 56, 57]⟩] w fun e w' => e = .returned (.string ⟨(Lib.trimS l digs).toArray⟩) ∧ Below w.heap.size w w' := fun w => by
      have := Any.strings_Trim_laid Tryz.lays160 (by kernel_rfl) s ⟨#[48, 49, 50, 51, 52, 53, 54, 55, 56, 57]⟩ w hs (by decide) (ascii_of_all (by decide))
      rw [hl] at this
      exact this
    have HTR := Lib.hid HTR
    have hA : s.toList = l := (ByteArray.toList_eq s).trans hl
    have hE : l.isEmpty = false := by cases l with
      | nil => exact absurd rfl h0
      | cons a b => rfl
    by_cases h4 : 4 < l.length
    · have g4 : decide ((4 : Int) < (l.length : Int)) = true := by simp; omega
      have hp : plain l = none := by unfold plain; rw [if_pos (.inr (.inl h4))]
      rw [hp]
      have g5 : (4 : Int) < (l.length : Int) := by omega
      clear hl hp
      go_enter Tryz.func74, Tryz.ntmps74
      go_wp2_with (first | (go_at_call 84; refine (HTR.out _).mono ?_; rintro e w1 ⟨rfl, hb1⟩))
      go_ret2
      exact ⟨rfl, Below.refl _ _⟩
    · have g4 : decide ((4 : Int) < (l.length : Int)) = false := by simp; omega
      have g5 : ¬ (4 : Int) < (l.length : Int) := by omega
      have g5' : (l.length : Int) ≤ 4 := by omega
      by_cases ha : l.all digit = true
      · have hT : Lib.trimS l digs = [] := trim_all.2 ha
        obtain ⟨x, r, hxr⟩ := List.exists_cons_of_ne_nil h0
        have hk0 : 0 < s.size := by rw [hz, hxr]; simp
        have e0 : (s[0]'hk0) = x := by
          have : s.data.toList[0]? = some x := by rw [hl, hxr]; rfl
          rw [List.getElem?_eq_some_iff] at this
          obtain ⟨hk, e⟩ := this
          exact (show s.data[0]'(by simpa using hk) = x by simpa using e)
        have HAT := Lib.hid (fun w => Tryz.strconv_Atoi s ((valFrom l 0 : Nat) : Int) (by omega) (by rw [hl]; exact atoi_digits h0 ha) w)
        by_cases h1 : 1 < l.length
        · have g1 : decide ((1 : Int) < (l.length : Int)) = true := by simp; omega
          have g1' : (1 : Int) < (l.length : Int) := by omega
          by_cases hx : x = 48
          · have gx : ((x.toNat : Int) == 48) = true := by rw [hx]; rfl
            have hp : plain l = none := by
              unfold plain
              rw [if_pos (.inr (.inr (.inr ⟨h1, by rw [hxr, hx]; rfl⟩)))]
            rw [hp]
            clear hl hp hxr
            go_enter Tryz.func74, Tryz.ntmps74
            go_wp2_with (first | (go_at_call 84; refine (HTR.out _).mono ?_; rintro e w1 ⟨rfl, hb1⟩) | (go_at_call 85; refine (HAT.out _).mono ?_; rintro e w2 ⟨rfl, t2, rfl⟩))
            go_ret2
            exact ⟨rfl, hb1⟩
          · have gx : ((x.toNat : Int) == 48) = false := by
              have := u8_ne hx
              have e : (48 : UInt8).toNat = 48 := rfl
              simp
              omega
            have hp : plain l = some (valFrom l 0) := by
              unfold plain
              rw [if_neg]
              rintro (q | q | q | q)
              · exact h0 q
              · exact h4 q
              · rw [ha] at q; cases q
              · rw [hxr] at q; exact hx (by simpa using q.2)
            rw [hp]
            clear hl hp hxr
            go_enter Tryz.func74, Tryz.ntmps74
            go_wp2_with (first | (go_at_call 84; refine (HTR.out _).mono ?_; rintro e w1 ⟨rfl, hb1⟩) | (go_at_call 85; refine (HAT.out _).mono ?_; rintro e w2 ⟨rfl, t2, rfl⟩))
            go_ret2
            exact ⟨rfl, hb1.trans ((Lib.bytesWorld_below _ _ _).mono hb1.size)⟩
        · have g1 : decide ((1 : Int) < (l.length : Int)) = false := by simp; omega
          have g1' : (l.length : Int) ≤ 1 := by omega
          have hp : plain l = some (valFrom l 0) := by
            unfold plain
            rw [if_neg]
            rintro (q | q | q | q)
            · exact h0 q
            · exact h4 q
            · rw [ha] at q; cases q
            · exact h1 q.1
          rw [hp]
          clear hl hp hxr
          go_enter Tryz.func74, Tryz.ntmps74
          go_wp2_with (first | (go_at_call 84; refine (HTR.out _).mono ?_; rintro e w1 ⟨rfl, hb1⟩) | (go_at_call 85; refine (HAT.out _).mono ?_; rintro e w2 ⟨rfl, t2, rfl⟩))
          go_ret2
          exact ⟨rfl, hb1.trans ((Lib.bytesWorld_below _ _ _).mono hb1.size)⟩
      · have hT : ¬ Lib.trimS l digs = [] := fun q => ha (trim_all.1 q)
        have hp : plain l = none := by
          unfold plain
          rw [if_pos (.inr (.inr (.inl (by simpa using ha))))]
        rw [hp]
        clear hl hp
        go_enter Tryz.func74, Tryz.ntmps74
        go_wp2_with (first | (go_at_call 84; refine (HTR.out _).mono ?_; rintro e w1 ⟨rfl, hb1⟩) | (go_at_call 85; refine (HAT.out _).mono ?_; rintro e w2 ⟨rfl, t2, rfl⟩))
        go_ret2
        exact ⟨rfl, hb1⟩

/-! number. -/
theorem hasPrefix_minus (l : Bs) : Lib.hasPrefix l [45] = match l with
    | 45 :: _ => true
    | _ => false := by
  cases l with
  | nil => rfl
  | cons a l =>
    by_cases h : a = 45
    · subst h
      simp [Lib.hasPrefix, List.isPrefixOf]
    · have h2 : (45 == a) = false := by simp; exact fun e => h e.symm
      simp only [Lib.hasPrefix, List.isPrefixOf, h2, Bool.false_and]
      split
      · rename_i heq
        simp only [List.cons.injEq] at heq
        exact absurd heq.1 h
      · rfl
theorem number_minus (t : Bs) : number (45 :: t) = match plain t with
    | some n => if 0 < n then some (-(n : Int)) else none
    | none => none := rfl
theorem number_else {l : Bs} (h : Lib.hasPrefix l [45] = false) : number l = (plain l).map fun n => (n : Int) := by
  rw [hasPrefix_minus] at h
  unfold number
  split
  · simp at h
  · rfl
theorem plain_lt {l : Bs} {n : Nat} (h : plain l = some n) : n < 10000 := by
  unfold plain at h
  split at h
  · cases h
  · rename_i hc
    simp only [not_or] at hc
    have hl := hc.2.1
    have hd : l.all digit = true := by have := hc.2.2.1; simpa using this
    simp only [Option.some.injEq] at h
    rw [← h]
    have dl : ∀ x : UInt8, digit x = true → x.toNat ≤ 57 := fun x hx => by
      unfold digit at hx
      simp only [Bool.and_eq_true, decide_eq_true_eq] at hx
      exact UInt8.le_iff_toNat_le.1 hx.2
    match l, hl, hd with
    | [], _, _ => simp [valFrom]
    | [a], _, hd =>
      simp only [List.all_cons, List.all_nil, Bool.and_true] at hd
      have := dl a hd
      simp only [valFrom]; omega
    | [a, b], _, hd =>
      simp only [List.all_cons, List.all_nil, Bool.and_true, Bool.and_eq_true] at hd
      have := dl a hd.1; have := dl b hd.2
      simp only [valFrom]; omega
    | [a, b, c], _, hd =>
      simp only [List.all_cons, List.all_nil, Bool.and_true, Bool.and_eq_true] at hd
      have := dl a hd.1; have := dl b hd.2.1; have := dl c hd.2.2
      simp only [valFrom]; omega
    | [a, b, c, d], _, hd =>
      simp only [List.all_cons, List.all_nil, Bool.and_true, Bool.and_eq_true] at hd
      have := dl a hd.1; have := dl b hd.2.1; have := dl c hd.2.2.1; have := dl d hd.2.2.2
      simp only [valFrom]; omega
    | a :: b :: c :: d :: e :: r, hl, _ => simp at hl
theorem number_ok (s : ByteArray) (w : World) (hs : s.size ≤ 9223372036854775807) : Calls Tryz.prog 86 #[.string s] w fun e w' => e = .returned (.tuple #[.int .i64 ((number s.data.toList).getD 0), .bool (number s.data.toList).isSome]) ∧ Below w.heap.size w w' := by
  obtain ⟨l, hl⟩ : ∃ l, s.data.toList = l := ⟨_, rfl⟩
  have hz : s.size = l.length := by rw [← hl]; simp
  have hcp := Tryz.strings_CutPrefix s ⟨#[45]⟩ w
  rw [hl] at hcp ⊢
  cases hm : Lib.hasPrefix l [45] with
  | true =>
    obtain ⟨t, rfl⟩ : ∃ t, l = 45 :: t := by
      rw [hasPrefix_minus] at hm
      split at hm
      · rename_i r; exact ⟨r, rfl⟩
      · cases hm
    have ht : Lib.trimPrefix (45 :: t) [45] = t := by
      unfold Lib.trimPrefix
      rw [hm]
      rfl
    have hcp' : Calls Tryz.prog 103 #[.string s, .string ⟨#[45]⟩] w fun e w' => e = .returned (.tuple #[.string ⟨t.toArray⟩, .bool true]) ∧ w' = w := by
      have h2 : (⟨#[45]⟩ : ByteArray).data.toList = [45] := rfl
      rw [h2, ht, hm] at hcp
      exact hcp
    have hpl := plain_ok ⟨t.toArray⟩ w (by show t.toArray.size ≤ _; simp only [List.size_toArray]; simp only [List.length_cons] at hz; omega)
    have h3 : (⟨t.toArray⟩ : ByteArray).data.toList = t := rfl
    rw [h3] at hpl
    rw [number_minus]
    have HCP := Lib.hid hcp'; have HPL := Lib.hid hpl
    cases hp : plain t with
    | none =>
      rw [hp] at HPL
      clear hcp hcp' hpl hl hz hm ht hp
      go_enter Tryz.func86, Tryz.ntmps86
      go_wp2_with (first | (go_at_call 103; refine HCP.out.mono ?_; rintro e w' ⟨rfl, rfl⟩) | (go_at_call 74; refine HPL.out.mono ?_; rintro e w2 ⟨rfl, hb⟩))
      go_ret2
      exact ⟨rfl, hb⟩
    | some n =>
      rw [hp] at HPL
      have hn := plain_lt hp
      have g1 : IntKind.i64.wrap (-(n : Int)) = -(n : Int) := IntWalk.i64_in _ (by omega)
      by_cases h0 : 0 < n
      · have g2 : decide ((0 : Int) < (n : Int)) = true := by simp; omega
        have g3 : decide (0 < n) = true := by simp; omega
        simp only [if_pos h0]
        clear hcp hcp' hpl hl hz hm ht hp
        go_enter Tryz.func86, Tryz.ntmps86
        go_wp2_with (first | (go_at_call 103; refine HCP.out.mono ?_; rintro e w' ⟨rfl, rfl⟩) | (go_at_call 74; refine HPL.out.mono ?_; rintro e w2 ⟨rfl, hb⟩))
        go_ret2
        exact ⟨rfl, hb⟩
      · obtain rfl : n = 0 := by omega
        simp only [if_neg h0]
        clear hcp hcp' hpl hl hz hm ht hp
        go_enter Tryz.func86, Tryz.ntmps86
        go_wp2_with (first | (go_at_call 103; refine HCP.out.mono ?_; rintro e w' ⟨rfl, rfl⟩) | (go_at_call 74; refine HPL.out.mono ?_; rintro e w2 ⟨rfl, hb⟩))
        go_ret2
        exact ⟨rfl, hb⟩
  | false =>
    have ht : Lib.trimPrefix l [45] = l := by
      unfold Lib.trimPrefix
      rw [hm]
      rfl
    have hcp' : Calls Tryz.prog 103 #[.string s, .string ⟨#[45]⟩] w fun e w' => e = .returned (.tuple #[.string s, .bool false]) ∧ w' = w := by
      have h2 : (⟨#[45]⟩ : ByteArray).data.toList = [45] := rfl
      rw [h2, ht, hm] at hcp
      have h4 : (⟨l.toArray⟩ : ByteArray) = s := by rw [← hl]
      rw [h4] at hcp
      exact hcp
    have hpl := plain_ok s w hs
    rw [hl] at hpl
    rw [number_else hm]
    have HCP := Lib.hid hcp'; have HPL := Lib.hid hpl
    have e1 : ((plain l).map fun n => (n : Int)).getD 0 = (((plain l).getD 0 : Nat) : Int) := by cases plain l <;> rfl
    have e2 : ((plain l).map fun n => (n : Int)).isSome = (plain l).isSome := by cases plain l <;> rfl
    rw [e1, e2]
    clear hcp hcp' hpl hl hz hm ht e1 e2
    go_enter Tryz.func86, Tryz.ntmps86
    go_wp2_with (first | (go_at_call 103; refine HCP.out.mono ?_; rintro e w' ⟨rfl, rfl⟩) | (go_at_call 74; refine HPL.out.mono ?_; rintro e w2 ⟨rfl, hb⟩))
    go_ret2
    exact ⟨rfl, hb⟩

/-! arg. -/
theorem arg_num {l : Bs} (h : l.length < 2 ∨ l.head? ≠ some 114) : arg l = (number l).map fun n => (0, n) := by
  unfold arg
  split
  · rename_i d r
    rcases h with q | q
    · simp only [List.length_cons] at q
      omega
    · simp at q
  · rfl
theorem two_of {l : Bs} (h1 : 2 ≤ l.length) (h2 : l.head? = some 114) : ∃ d r, l = 114 :: d :: r := by
  match l, h1, h2 with
  | x :: d :: r, _, h2 => exact ⟨d, r, by simp at h2; rw [h2]⟩
theorem at_of {s : ByteArray} {l : Bs} (hl : s.data.toList = l) {i : Nat} {x : UInt8} (hx : l[i]? = some x) (hi : i < s.size) : (s[i]'hi) = x := by
  have : s.data.toList[i]? = some x := by rw [hl]; exact hx
  rw [List.getElem?_eq_some_iff] at this
  obtain ⟨hk, e⟩ := this
  exact (show s.data[i]'(by simpa using hk) = x by simpa using e)
theorem two_cells {w : World} {b : Nat} {t : TypeId} {x y : Value} (h : Cells w b [x, y] t) : w.cell? ⟨b, 0, none⟩ = some x ∧ w.cell? ⟨b, 1, none⟩ = some y ∧ w.frozen? ⟨b, 0, none⟩ = false ∧ w.frozen? ⟨b, 1, none⟩ = false := ⟨h.cell 0, h.cell 1, h.free 0, h.free 1⟩
set_option maxHeartbeats 1000000 in
theorem arg_ok (s : ByteArray) (w : World) (hs : s.size ≤ 9223372036854775807) : Calls Tryz.prog 75 #[.string s] w fun e w' => e = .returned (.tuple #[.agg #[.int .i64 ((arg s.data.toList).getD (0, 0)).1, .int .i64 ((arg s.data.toList).getD (0, 0)).2], .bool (arg s.data.toList).isSome]) ∧ Below w.heap.size w w' := by
  obtain ⟨l, hl⟩ : ∃ l, s.data.toList = l := ⟨_, rfl⟩
  have hz : s.size = l.length := by rw [← hl]; simp
  have B0 := (Below.refl w.heap.size w).alloc (Nat.le_refl _) (.cells #[.int .i64 0, .int .i64 0] 43)
  have C0 := Cells.new w [.int .i64 0, .int .i64 0] 43
  obtain ⟨rb, hrb⟩ : ∃ rb, w.heap.size = rb := ⟨_, rfl⟩
  obtain ⟨w0, hw0⟩ : ∃ w0, w.alloc (.cells #[.int .i64 0, .int .i64 0] 43) = w0 := ⟨_, rfl⟩
  rw [hw0, hrb] at B0
  rw [hw0, hrb] at C0
  have HC := Lib.hid (fun (w' : World) (hb : Below w0.heap.size w0 w') => C0.kept (Kept.of_below hb) (fun q => by have := C0.lt; omega))
  have HBB := Lib.hid (fun (w' : World) (hb : Below w0.heap.size w0 w') (a b : Value) => (show Below w.heap.size w ((w'.setCell ⟨rb, 0, none⟩ a).setCell ⟨rb, 1, none⟩ b) from by
    rw [hrb]
    have hz1 := B0.size
    refine (B0.trans (hb.mono (Nat.le_of_lt C0.lt))).trans (Kept.below (((Kept.refl (fun k => k = rb) w').setCell (p := ⟨rb, 0, none⟩) (fun _ => rfl) a).setCell (p := ⟨rb, 1, none⟩) (fun _ => rfl) b) (by have := C0.lt; have := hb.size; omega) (fun k hk e => by omega))))
  clear B0 C0
  rw [hl]
  by_cases hc : l.length < 2 ∨ l.head? ≠ some 114
  · have hn := number_ok s w0 hs
    rw [hl] at hn
    have HN := Lib.hid hn
    have e1 : (arg l).getD (0, 0) = (0, (number l).getD 0) := by rw [arg_num hc]; cases number l <;> rfl
    have e2 : (arg l).isSome = (number l).isSome := by rw [arg_num hc]; cases number l <;> rfl
    rw [e1, e2]
    generalize (number l).getD 0 = nv at HN ⊢
    generalize (number l).isSome = ok at HN ⊢
    have HZZ := Lib.hid hz
    clear e1 e2 hn hs
    by_cases h2 : l.length < 2
    · have g1 : decide ((s.size : Int) < 2) = true := by simp; omega
      have g1' : (s.size : Int) < 2 := by omega
      clear hz hc hl
      go_enter Tryz.func75, Tryz.ntmps75
      go_wp2_with fail
      refine HN.out.mono ?_
      rintro e w1 ⟨rfl, hb⟩
      obtain ⟨z0, z1, f0, f1⟩ := two_cells (HC.out w1 hb)
      go_wp2
      refine bodyPost_ret (v := .tuple #[.agg #[.int .i64 0, .int .i64 nv], .bool ok]) (by simp [results, Tryz.results75, go_sem, z0, z1]) rfl ?_
      exact ⟨rfl, HBB.out w1 hb _ _⟩
    · have g1 : decide ((s.size : Int) < 2) = false := by simp; omega
      have g1' : ¬ (s.size : Int) < 2 := by omega
      have hi0 : 0 < s.size := by omega
      obtain ⟨x, hx⟩ : ∃ x, l[0]? = some x := ⟨l[0]'(by omega), List.getElem?_eq_getElem _⟩
      have e0 := at_of hl hx hi0
      have hx4 : x ≠ 114 := fun e => by
        rcases hc with q | q
        · exact h2 q
        · exact q (by rw [List.head?_eq_getElem?, hx, e])
      have g2 : ((x.toNat : Int) != 114) = true := by
        have := u8_ne hx4
        have e : (114 : UInt8).toNat = 114 := rfl
        simp
        omega
      clear hz hc hl hx hx4
      go_enter Tryz.func75, Tryz.ntmps75
      go_wp2_with fail
      refine HN.out.mono ?_
      rintro e w1 ⟨rfl, hb⟩
      obtain ⟨z0, z1, f0, f1⟩ := two_cells (HC.out w1 hb)
      go_wp2
      refine bodyPost_ret (v := .tuple #[.agg #[.int .i64 0, .int .i64 nv], .bool ok]) (by simp [results, Tryz.results75, go_sem, z0, z1]) rfl ?_
      exact ⟨rfl, HBB.out w1 hb _ _⟩
  · simp only [not_or, Nat.not_lt, Decidable.not_not] at hc
    obtain ⟨d, r, rfl⟩ := two_of hc.1 hc.2
    have h2 : 2 ≤ s.size := by rw [hz]; exact hc.1
    have hi0 : 0 < s.size := by omega
    have e0 := at_of hl (i := 0) rfl hi0
    have g1 : decide ((s.size : Int) < 2) = false := by simp; omega
    have g1' : ¬ (s.size : Int) < 2 := by omega
    have hx2 : (s.extract 0 2).data.toList = [114, d] := by simp [ByteArray.data_extract, hl]
    have hrg := register_ok (s.extract 0 2) w0
    rw [hx2] at hrg
    have HRG := Lib.hid hrg
    have HR0 := Lib.hid (Below.refl w0.heap.size w0)
    cases hr : register [114, d] with
    | none =>
      have ea : arg (114 :: d :: r) = none := by simp only [arg, hr]
      rw [ea]
      rw [hr] at HRG
      by_cases h3 : s.size = 2
      · have g3 : ((s.size : Int) == 2) = true := by simp; omega
        have g3' : (s.size == 2) = true := by simp [h3]
        clear hz hc hl hx2 hrg hr ea
        go_enter Tryz.func75, Tryz.ntmps75
        go_wp2_with fail
        refine HRG.out.mono ?_
        rintro e w' ⟨rfl, rfl⟩
        obtain ⟨z0, z1, f0, f1⟩ := two_cells (HC.out w0 HR0.out)
        go_wp2
        refine bodyPost_ret (v := .tuple #[.agg #[.int .i64 0, .int .i64 0], .bool false]) (by simp [results, Tryz.results75, go_sem, z0, z1]) rfl ?_
        exact ⟨rfl, HBB.out w0 HR0.out _ _⟩
      · have g3 : ((s.size : Int) == 2) = false := by simp; omega
        have g3' : (s.size == 2) = false := by simp [h3]
        clear hz hc hl hx2 hrg hr ea
        go_enter Tryz.func75, Tryz.ntmps75
        go_wp2_with fail
        refine HRG.out.mono ?_
        rintro e w' ⟨rfl, rfl⟩
        obtain ⟨z0, z1, f0, f1⟩ := two_cells (HC.out w0 HR0.out)
        go_wp2
        refine bodyPost_ret (v := .tuple #[.agg #[.int .i64 0, .int .i64 0], .bool false]) (by simp [results, Tryz.results75, go_sem, z0, z1]) rfl ?_
        exact ⟨rfl, HBB.out w0 HR0.out _ _⟩
    | some rg =>
      rw [hr] at HRG
      cases r with
      | nil =>
        have ea : arg [114, d] = some ((rg : Int), 0) := by simp only [arg, hr]
        rw [ea]
        have h3 : s.size = 2 := by rw [hz]; rfl
        have g3 : ((s.size : Int) == 2) = true := by simp; omega
        have g3' : (s.size == 2) = true := by simp [h3]
        clear hz hc hl hx2 hrg hr ea
        go_enter Tryz.func75, Tryz.ntmps75
        go_wp2_with fail
        refine HRG.out.mono ?_
        rintro e w' ⟨rfl, rfl⟩
        obtain ⟨z0, z1, f0, f1⟩ := two_cells (HC.out w0 HR0.out)
        go_wp2
        refine bodyPost_ret (v := .tuple #[.agg #[.int .i64 (rg : Int), .int .i64 0], .bool true]) (by simp [results, Tryz.results75, go_sem, z0, z1]) rfl ?_
        exact ⟨rfl, HBB.out w0 HR0.out _ _⟩
      | cons c t =>
        have h3 : 3 ≤ s.size := by rw [hz]; simp only [List.length_cons]; omega
        have g3 : ((s.size : Int) == 2) = false := by simp; omega
        have g3' : (s.size == 2) = false := by simp; omega
        have hx3 : (s.extract 3 s.size).data.toList = t := by simp [ByteArray.data_extract, hl, hz]
        have hpl := plain_ok (s.extract 3 s.size) w0 (by rw [ByteArray.size_extract]; omega)
        rw [hx3] at hpl
        have HPL := Lib.hid hpl
        have hi2 : 2 < s.size := by omega
        have e2 := at_of hl (i := 2) rfl hi2
        cases hp : plain t with
        | none =>
          have ea : arg (114 :: d :: c :: t) = none := by simp only [arg, hr, hp]
          rw [ea]
          rw [hp] at HPL
          clear hz hc hl hx2 hx3 hrg hpl hr hp ea
          go_enter Tryz.func75, Tryz.ntmps75
          go_wp2_with fail
          refine HRG.out.mono ?_
          rintro e w' ⟨rfl, rfl⟩
          go_wp2_with fail
          refine HPL.out.mono ?_
          rintro e w1 ⟨rfl, hb⟩
          obtain ⟨z0, z1, f0, f1⟩ := two_cells (HC.out w1 hb)
          go_wp2
          refine bodyPost_ret (v := .tuple #[.agg #[.int .i64 0, .int .i64 0], .bool false]) (by simp [results, Tryz.results75, go_sem, z0, z1]) rfl ?_
          exact ⟨rfl, HBB.out w1 hb _ _⟩
        | some n =>
          have hn := plain_lt hp
          rw [hp] at HPL
          by_cases hn0 : n = 0
          · subst hn0
            have ea : arg (114 :: d :: c :: t) = none := by simp only [arg, hr, hp, if_true]
            rw [ea]
            clear hz hc hl hx2 hx3 hrg hpl hr hp ea
            go_enter Tryz.func75, Tryz.ntmps75
            go_wp2_with fail
            refine HRG.out.mono ?_
            rintro e w' ⟨rfl, rfl⟩
            go_wp2_with fail
            refine HPL.out.mono ?_
            rintro e w1 ⟨rfl, hb⟩
            obtain ⟨z0, z1, f0, f1⟩ := two_cells (HC.out w1 hb)
            go_wp2
            refine bodyPost_ret (v := .tuple #[.agg #[.int .i64 0, .int .i64 0], .bool false]) (by simp [results, Tryz.results75, go_sem, z0, z1]) rfl ?_
            exact ⟨rfl, HBB.out w1 hb _ _⟩
          · have gn : ((n : Int) == 0) = false := by simp; omega
            have gn' : (n == 0) = false := by simp [hn0]
            by_cases h45 : c = 45
            · have gc : ((c.toNat : Int) == 45) = true := by rw [h45]; rfl
              have ea : arg (114 :: d :: c :: t) = some ((rg : Int), -(n : Int)) := by simp only [arg, hr, hp, if_neg hn0, if_pos h45]
              have gw : IntKind.i64.wrap (-(n : Int)) = -(n : Int) := IntWalk.i64_in _ (by omega)
              rw [ea]
              clear h45
              clear hz hc hl hx2 hx3 hrg hpl hr hp ea
              go_enter Tryz.func75, Tryz.ntmps75
              go_wp2_with fail
              refine HRG.out.mono ?_
              rintro e w' ⟨rfl, rfl⟩
              go_wp2_with fail
              refine HPL.out.mono ?_
              rintro e w1 ⟨rfl, hb⟩
              obtain ⟨z0, z1, f0, f1⟩ := two_cells (HC.out w1 hb)
              go_wp2
              refine bodyPost_ret (v := .tuple #[.agg #[.int .i64 (rg : Int), .int .i64 (-(n : Int))], .bool true]) (by simp [results, Tryz.results75, go_sem, z0, z1]) rfl ?_
              exact ⟨rfl, HBB.out w1 hb _ _⟩
            · have gc : ((c.toNat : Int) == 45) = false := by
                have := u8_ne h45
                have e : (45 : UInt8).toNat = 45 := rfl
                simp
                omega
              by_cases h43 : c = 43
              · have gd : ((c.toNat : Int) != 43) = false := by rw [h43]; rfl
                have ea : arg (114 :: d :: c :: t) = some ((rg : Int), (n : Int)) := by simp only [arg, hr, hp, if_neg hn0, if_neg h45, if_pos h43]
                rw [ea]
                clear h45 h43
                clear hz hc hl hx2 hx3 hrg hpl hr hp ea
                go_enter Tryz.func75, Tryz.ntmps75
                go_wp2_with fail
                refine HRG.out.mono ?_
                rintro e w' ⟨rfl, rfl⟩
                go_wp2_with fail
                refine HPL.out.mono ?_
                rintro e w1 ⟨rfl, hb⟩
                obtain ⟨z0, z1, f0, f1⟩ := two_cells (HC.out w1 hb)
                go_wp2
                refine bodyPost_ret (v := .tuple #[.agg #[.int .i64 (rg : Int), .int .i64 (n : Int)], .bool true]) (by simp [results, Tryz.results75, go_sem, z0, z1]) rfl ?_
                exact ⟨rfl, HBB.out w1 hb _ _⟩
              · have gd : ((c.toNat : Int) != 43) = true := by
                  have := u8_ne h43
                  have e : (43 : UInt8).toNat = 43 := rfl
                  simp
                  omega
                have ea : arg (114 :: d :: c :: t) = none := by simp only [arg, hr, hp, if_neg hn0, if_neg h45, if_neg h43]
                rw [ea]
                clear h45 h43
                clear hz hc hl hx2 hx3 hrg hpl hr hp ea
                go_enter Tryz.func75, Tryz.ntmps75
                go_wp2_with fail
                refine HRG.out.mono ?_
                rintro e w' ⟨rfl, rfl⟩
                go_wp2_with fail
                refine HPL.out.mono ?_
                rintro e w1 ⟨rfl, hb⟩
                obtain ⟨z0, z1, f0, f1⟩ := two_cells (HC.out w1 hb)
                go_wp2
                refine bodyPost_ret (v := .tuple #[.agg #[.int .i64 0, .int .i64 0], .bool false]) (by simp [results, Tryz.results75, go_sem, z0, z1]) rfl ?_
                exact ⟨rfl, HBB.out w1 hb _ _⟩
end Go.Proofs.YtikgbgminhgpdaaGreatDoor
