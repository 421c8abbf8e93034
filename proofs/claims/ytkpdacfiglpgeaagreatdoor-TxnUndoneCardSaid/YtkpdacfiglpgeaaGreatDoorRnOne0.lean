/- RnOne0: RnMod, StQ, AnyK, RnAt, RnOne0. -/
import Derived.Test.YtkpdacfiglpgeaaGreatDoorHold
import Derived.Test.YtkpdacfiglpgeaaGreatDoorRnGoes
import Derived.Test.YtkpdacfiglpgeaaGreatDoorStRead
import Derived.Test.YtkpdacfiglpgeaaGreatDoorCtx2
import Derived.OrdersHeld
import Derived.Deep.RegionHeld3
import Derived.Test.YtkpdacfiglpgeaaGreatDoorTxnOr
import Derived.Test.YtkpdacfiglpgeaaGreatDoorTqUse2
import Derived.Deep.MidRow

/- Layer 14's laws: numbers modulo another one. -/
namespace Go.Proofs.YtkpdacfiglpgeaaGreatDoor
open Go.RowKit Bl Th
set_option maxRecDepth 10000

theorem modI (a : Int) {m : Int} (hm : 1 ≤ m) : (a.tmod m + m).tmod m = a % m := by
  have h1 : -m < a.tmod m := Int.lt_tmod_of_pos a (by omega)
  rw [Int.tmod_eq_emod_of_nonneg (by omega), Int.tmod_def]
  rw [show a - m * a.tdiv m + m = a + m * (1 - a.tdiv m) by rw [Int.mul_sub]; omega]
  exact Int.add_mul_emod_self_left _ _ _
theorem mod_ok (a m : Int) (h1 : 1 ≤ m) (h2 : m ≤ 1000000) (w : World) : Calls Tryz.prog 13 #[.int .i64 a, .int .i64 m] w fun e w' => e = .returned (.int .i64 (a % m)) ∧ w = w' := by
  have hne : ¬ m = 0 := by omega
  have g0 : (m == 0) = false := by simpa using hne
  have b1 : -m < a.tmod m := Int.lt_tmod_of_pos a (by omega)
  have b2 : a.tmod m < m := Int.tmod_lt_of_pos a (by omega)
  have b3 : 0 ≤ a % m := Int.emod_nonneg _ (by omega)
  have b4 : a % m < m := Int.emod_lt_of_pos _ (by omega)
  have w1 : IntKind.i64.wrap (a.tmod m) = a.tmod m := IntWalk.i64_in _ (by omega)
  have w2 : IntKind.i64.wrap (a.tmod m + m) = a.tmod m + m := IntWalk.i64_in _ (by omega)
  have w3 : (a.tmod m + m).tmod m = a % m := modI a h1
  have w4 : IntKind.i64.wrap (a % m) = a % m := IntWalk.i64_in _ (by omega)
  obtain ⟨r, hr⟩ : ∃ r, a % m = r := ⟨_, rfl⟩
  rw [hr] at w3 w4 ⊢
  clear hr b3 b4
  go_enter Tryz.func13, Tryz.ntmps13
  go_wp2
  go_ret
  exact ⟨rfl, rfl⟩
theorem w64_wrap (x : Int) : IntKind.i64.wrap x = w64 x := by
  have e : IntKind.i64.wrap x = if 9223372036854775808 ≤ x % 18446744073709551616 then x % 18446744073709551616 - 18446744073709551616 else x % 18446744073709551616 := by
    simp [IntKind.wrap, IntKind.signed, IntKind.bits]
  rw [e]
  unfold w64 toI toU
  split <;> split <;> omega

end Go.Proofs.YtkpdacfiglpgeaaGreatDoor

/- Statements that lie in blocks of a list. -/
namespace Go.Proofs.YtkpdacfiglpgeaaGreatDoor
open Go.RowKit Tx
set_option maxRecDepth 10000

def RowQ (Q : List Nat) (w : World) (v : Value) (n : Nat) (xs : List Value) : Prop :=
  ∃ pt cap, v = .slice pt n cap ∧ (n = 0 ∨ ∃ g off, pt = some ⟨g, off, none⟩ ∧ g ∈ Q ∧ ∀ j x, xs[j]? = some x → w.cell? ⟨g, off + j, none⟩ = some x)
mutual
def StQ (Q : List Nat) (w : World) : St → List Value → Prop
  | .mk h b e, c => ∃ z bv ev cb ce, z.toNat = h.kind ∧ c = stL z h bv ev ∧ StsQ Q w b cb ∧ RowQ Q w bv b.length cb.flatten ∧ StsQ Q w e ce ∧ RowQ Q w ev e.length ce.flatten
def StsQ (Q : List Nat) (w : World) : List St → List (List Value) → Prop
  | [], cs => cs = []
  | s :: l, cs => ∃ c cs', cs = c :: cs' ∧ StQ Q w s c ∧ StsQ Q w l cs'
end
/-- A list of statements that lies in some blocks. -/
def SlQ (Q : List Nat) (w : World) (l : List St) (v : Value) : Prop := ∃ cs, StsQ Q w l cs ∧ RowQ Q w v l.length cs.flatten
theorem RowQ.heldBy {Q R : List Nat} {w w' : World} {v : Value} {n : Nat} {xs : List Value} (h : RowQ Q w v n xs) (k : HeldBy R w w') (hs : ∀ b ∈ Q, b ∈ R) : RowQ Q w' v n xs := by
  obtain ⟨pt, cap, rfl, h⟩ := h
  refine ⟨pt, cap, rfl, ?_⟩
  rcases h with h | ⟨g, off, rfl, h1, h2⟩
  · exact .inl h
  · exact .inr ⟨g, off, rfl, h1, fun j x hx => (k.cell (a := ⟨g, off + j, none⟩) (hs g h1)).trans (h2 j x hx)⟩
theorem RowQ.more {Q Q' : List Nat} {w : World} {v : Value} {n : Nat} {xs : List Value} (h : RowQ Q w v n xs) (hs : ∀ b ∈ Q, b ∈ Q') : RowQ Q' w v n xs := by
  obtain ⟨pt, cap, rfl, h⟩ := h
  refine ⟨pt, cap, rfl, ?_⟩
  rcases h with h | ⟨g, off, rfl, h1, h2⟩
  · exact .inl h
  · exact .inr ⟨g, off, rfl, hs g h1, h2⟩
mutual
theorem StQ.heldBy {Q R : List Nat} {w w' : World} (k : HeldBy R w w') (hs : ∀ b ∈ Q, b ∈ R) : ∀ (s : St) (c : List Value), StQ Q w s c → StQ Q w' s c
  | .mk h b e, c, hc => by
    unfold StQ at hc ⊢
    obtain ⟨z, bv, ev, cb, ce, h0, h1, h2, h3, h4, h5⟩ := hc
    exact ⟨z, bv, ev, cb, ce, h0, h1, StsQ.heldBy k hs b cb h2, h3.heldBy k hs, StsQ.heldBy k hs e ce h4, h5.heldBy k hs⟩
theorem StsQ.heldBy {Q R : List Nat} {w w' : World} (k : HeldBy R w w') (hs : ∀ b ∈ Q, b ∈ R) : ∀ (l : List St) (cs : List (List Value)), StsQ Q w l cs → StsQ Q w' l cs
  | [], cs, hc => by unfold StsQ at hc ⊢; exact hc
  | s :: l, cs, hc => by
    unfold StsQ at hc ⊢
    obtain ⟨c, cs', h1, h2, h3⟩ := hc
    exact ⟨c, cs', h1, StQ.heldBy k hs s c h2, StsQ.heldBy k hs l cs' h3⟩
end
mutual
theorem StQ.more {Q Q' : List Nat} {w : World} (hs : ∀ b ∈ Q, b ∈ Q') : ∀ (s : St) (c : List Value), StQ Q w s c → StQ Q' w s c
  | .mk h b e, c, hc => by
    unfold StQ at hc ⊢
    obtain ⟨z, bv, ev, cb, ce, h0, h1, h2, h3, h4, h5⟩ := hc
    exact ⟨z, bv, ev, cb, ce, h0, h1, StsQ.more hs b cb h2, h3.more hs, StsQ.more hs e ce h4, h5.more hs⟩
theorem StsQ.more {Q Q' : List Nat} {w : World} (hs : ∀ b ∈ Q, b ∈ Q') : ∀ (l : List St) (cs : List (List Value)), StsQ Q w l cs → StsQ Q' w l cs
  | [], cs, hc => by unfold StsQ at hc ⊢; exact hc
  | s :: l, cs, hc => by
    unfold StsQ at hc ⊢
    obtain ⟨c, cs', h1, h2, h3⟩ := hc
    exact ⟨c, cs', h1, StQ.more hs s c h2, StsQ.more hs l cs' h3⟩
end
theorem SlQ.heldBy {Q R : List Nat} {w w' : World} {l : List St} {v : Value} (h : SlQ Q w l v) (k : HeldBy R w w') (hs : ∀ b ∈ Q, b ∈ R) : SlQ Q w' l v := by
  obtain ⟨cs, h1, h2⟩ := h
  exact ⟨cs, StsQ.heldBy k hs l cs h1, h2.heldBy k hs⟩
theorem SlQ.more {Q Q' : List Nat} {w : World} {l : List St} {v : Value} (h : SlQ Q w l v) (hs : ∀ b ∈ Q, b ∈ Q') : SlQ Q' w l v := by
  obtain ⟨cs, h1, h2⟩ := h
  exact ⟨cs, StsQ.more hs l cs h1, h2.more hs⟩
theorem StQ.len {Q : List Nat} {w : World} {s : St} {c : List Value} (h : StQ Q w s c) : c.length = 9 := by
  cases s with
  | mk h0 b e =>
    unfold StQ at h
    obtain ⟨z, bv, ev, cb, ce, _, rfl, _⟩ := h
    rfl
theorem StsQ.get {Q : List Nat} {w : World} : ∀ {l : List St} {cs : List (List Value)} {i : Nat} {s : St}, StsQ Q w l cs → l[i]? = some s → ∃ c, StQ Q w s c ∧ ∀ j, j < 9 → cs.flatten[9 * i + j]? = c[j]?
  | [], _, i, _, _, hi => by simp at hi
  | s0 :: l, cs, i, s, h, hi => by
    unfold StsQ at h
    obtain ⟨c, cs', rfl, h1, h2⟩ := h
    cases i with
    | zero =>
      simp only [List.getElem?_cons_zero, Option.some.injEq] at hi
      subst hi
      refine ⟨c, h1, fun j hj => ?_⟩
      rw [List.flatten_cons, Nat.mul_zero, Nat.zero_add, List.getElem?_append_left (by rw [h1.len]; exact hj)]
    | succ i =>
      obtain ⟨c', q1, q2⟩ := StsQ.get h2 (i := i) (s := s) (by simpa using hi)
      refine ⟨c', q1, fun j hj => ?_⟩
      rw [List.flatten_cons, List.getElem?_append_right (by rw [h1.len]; omega), h1.len, show 9 * (i + 1) + j - 9 = 9 * i + j by omega]
      exact q2 j hj
theorem SlQ.shape {Q : List Nat} {w : World} {l : List St} {v : Value} (hl : SlQ Q w l v) : ∃ pt cap, v = .slice pt l.length cap := by
  obtain ⟨cs, h1, pt, cap, rfl, h2⟩ := hl
  exact ⟨pt, cap, rfl⟩
theorem SlQ.nil (Q : List Nat) (w : World) : SlQ Q w [] (.slice none 0 0) := ⟨[], by unfold StsQ; rfl, none, 0, rfl, .inl rfl⟩
/-- The i-th statement. -/
theorem SlQ.get {Q : List Nat} {w : World} {l : List St} {v : Value} {i : Nat} {h : Sh} {b e : List St} (hl : SlQ Q w l v) (hi : l[i]? = some (.mk h b e)) :
    ∃ g off cap z bv ev, v = .slice (some ⟨g, off, none⟩) l.length cap ∧ g ∈ Q ∧ z.toNat = h.kind ∧ (∀ j x, (stL z h bv ev)[j]? = some x → w.cell? ⟨g, off + i * 9 + j, none⟩ = some x) ∧ SlQ Q w b bv ∧ SlQ Q w e ev := by
  obtain ⟨cs, h1, pt, cap, rfl, h2⟩ := hl
  have hlt : i < l.length := (List.getElem?_eq_some_iff.1 hi).1
  rcases h2 with h2 | ⟨g, off, rfl, h3, h5⟩
  · omega
  · obtain ⟨c, hc, hq⟩ := h1.get hi
    unfold StQ at hc
    obtain ⟨z, bv, ev, cb, ce, k0, rfl, k2, k3, k4, k5⟩ := hc
    refine ⟨g, off, cap, z, bv, ev, rfl, h3, k0, fun j x hx => ?_, ⟨cb, k2, k3⟩, ⟨ce, k4, k5⟩⟩
    have hj : j < 9 := (List.getElem?_eq_some_iff.1 hx).1
    have := h5 (9 * i + j) x ((hq j hj).trans hx)
    rw [← Nat.add_assoc, Nat.mul_comm 9 i] at this
    exact this
/-- Statements that can be read lie in some blocks. -/
theorem RowR.listed {B : Nat} {w : World} {v : Value} {n : Nat} {xs : List Value} (h : RowR B w v n xs) : ∃ Q : List Nat, RowQ Q w v n xs ∧ ∀ g ∈ Q, g < B ∧ g < w.heap.size := by
  obtain ⟨pt, cap, rfl, h⟩ := h
  rcases h with h | ⟨g, off, rfl, h1, h2, h3⟩
  · exact ⟨[], ⟨pt, cap, rfl, .inl h⟩, by simp⟩
  · exact ⟨[g], ⟨_, cap, rfl, .inr ⟨g, off, rfl, by simp, h3⟩⟩, by simp; exact ⟨h1, h2⟩⟩
mutual
theorem StR.listed {B : Nat} {w : World} : ∀ (s : St) (c : List Value), StR B w s c → ∃ Q : List Nat, StQ Q w s c ∧ ∀ g ∈ Q, g < B ∧ g < w.heap.size
  | .mk h b e, c, hc => by
    unfold StR at hc
    obtain ⟨z, bv, ev, cb, ce, h0, h1, h2, h3, h4, h5⟩ := hc
    obtain ⟨Q1, a1, a2⟩ := StsR.listed b cb h2
    obtain ⟨Q2, b1, b2⟩ := h3.listed
    obtain ⟨Q3, c1, c2⟩ := StsR.listed e ce h4
    obtain ⟨Q4, d1, d2⟩ := h5.listed
    refine ⟨Q1 ++ (Q2 ++ (Q3 ++ Q4)), ?_, fun g hg => ?_⟩
    · unfold StQ
      exact ⟨z, bv, ev, cb, ce, h0, h1, StsQ.more (fun b hb => by simp [hb]) b cb a1, b1.more (fun b hb => by simp [hb]), StsQ.more (fun b hb => by simp [hb]) e ce c1, d1.more (fun b hb => by simp [hb])⟩
    · simp only [List.mem_append] at hg
      rcases hg with q | q | q | q
      · exact a2 g q
      · exact b2 g q
      · exact c2 g q
      · exact d2 g q
theorem StsR.listed {B : Nat} {w : World} : ∀ (l : List St) (cs : List (List Value)), StsR B w l cs → ∃ Q : List Nat, StsQ Q w l cs ∧ ∀ g ∈ Q, g < B ∧ g < w.heap.size
  | [], cs, hc => by
    unfold StsR at hc
    exact ⟨[], by unfold StsQ; exact hc, by simp⟩
  | s :: l, cs, hc => by
    unfold StsR at hc
    obtain ⟨c, cs', h1, h2, h3⟩ := hc
    obtain ⟨Q1, a1, a2⟩ := StR.listed s c h2
    obtain ⟨Q2, b1, b2⟩ := StsR.listed l cs' h3
    refine ⟨Q1 ++ Q2, ?_, fun g hg => ?_⟩
    · unfold StsQ
      exact ⟨c, cs', h1, StQ.more (fun b hb => by simp [hb]) s c a1, StsQ.more (fun b hb => by simp [hb]) l cs' b1⟩
    · rcases List.mem_append.1 hg with q | q
      · exact a2 g q
      · exact b2 g q
end
theorem SlR.listed {B : Nat} {w : World} {l : List St} {v : Value} (h : SlR B w l v) : ∃ Q : List Nat, SlQ Q w l v ∧ ∀ g ∈ Q, g < B ∧ g < w.heap.size := by
  obtain ⟨cs, h1, h2⟩ := h
  obtain ⟨Q1, a1, a2⟩ := StsR.listed l cs h1
  obtain ⟨Q2, b1, b2⟩ := h2.listed
  refine ⟨Q1 ++ Q2, ⟨cs, StsQ.more (fun b hb => by simp [hb]) l cs a1, b1.more (fun b hb => by simp [hb])⟩, fun g hg => ?_⟩
  rcases List.mem_append.1 hg with q | q
  · exact a2 g q
  · exact b2 g q
end Go.Proofs.YtkpdacfiglpgeaaGreatDoor

/- A region that draws its order, in which some operations come late: what is loaded ahead of them need hold only till then. No program stands here. -/
namespace Go.Proofs.YtkpdacfiglpgeaaGreatDoor
open Go

section
variable {P : Program} {ops : Array Oper} {Q : Exit → Act → World → Prop} {md : Region.Mode} {S : World → Prop} {D : Nat → Bool}

/-- Whatever order is picked from here on, and S holds behind every operation that is not late. -/
def wpAnyK (P : Program) (md : Region.Mode) (ops : Array Oper) (Q : Exit → Act → World → Prop) (S : World → Prop) (D : Nat → Bool) : Nat → Array Bool → Act → World → Prop
  | 0, listed, a, w => Region.ready md ops listed = [] ∧ Q .normal a w
  | fuel + 1, listed, a, w =>
    (Region.ready md ops listed = [] → Q .normal a w) ∧
    ∀ i ∈ Region.ready md ops listed, wpOp P ops Q i (fun a' w' => (D i = false → S w') ∧ wpAnyK P md ops Q S D fuel (listed.setIfInBounds i true) a' w') a w
theorem wpAny_of_k : ∀ (fuel : Nat) (listed : Array Bool) (a : Act) (w : World), wpAnyK P md ops Q S D fuel listed a w → wpAny P md ops Q fuel listed a w
  | 0, _, _, _, h => h
  | fuel + 1, _, _, _, h => ⟨h.1, fun i hi => wpOp_mono (fun a' w' h' => wpAny_of_k fuel _ a' w' h'.2) (h.2 i hi)⟩
/-- Every late operation that has not come up waits for number i. -/
def lateWait (md : Region.Mode) (ops : Array Oper) (D : Nat → Bool) (listed : Array Bool) (i : Nat) : Bool :=
  (List.range ops.size).all fun j => !D j || listed.getD j true || ((ops[j]?).map (·.after.any fun e => Region.binds md e && e.on == i)).getD true
theorem lateWait_spec {i : Nat} {listed : Array Bool} (h : lateWait md ops D listed i = true) : ∀ (j : Nat) oj, ops[j]? = some oj → D j = true → listed.getD j true = false → ∃ e ∈ oj.after, Region.binds md e = true ∧ e.on = i := by
  intro j oj hj hD hl
  have hlt : j < ops.size := by
    rcases Nat.lt_or_ge j ops.size with q | q
    · exact q
    · rw [Array.getElem?_eq_none q] at hj; cases hj
  have h1 := List.all_eq_true.1 h j (List.mem_range.2 hlt)
  rw [hj, hD, hl] at h1
  simp only [Bool.not_true, Bool.false_or, Option.map_some, Option.getD_some] at h1
  obtain ⟨e, he, hq⟩ := Array.any_eq_true'.1 h1
  simp only [Bool.and_eq_true, beq_iff_eq] at hq
  exact ⟨e, he, hq⟩
theorem wpAnyK_first {S0 : World → Prop} {i : Nat} {oi : Oper} {v : Value} (hi : ops[i]? = some oi) (hsel : ∀ (j : Nat) (o : Oper) cs b, ops[j]? = some o → o.op ≠ .select cs b)
    (hQ : ∀ c a w, Q (.panic c) (a.put oi.dst v) w → Q (.panic c) a w) :
    ∀ (fuel : Nat) (listed : Array Bool) (a : Act) (w : World),
      (∀ j oj, ops[j]? = some oj → j ≠ i → listed.getD j true = false → (∀ e ∈ oj.after, Region.binds md e = true → e.on ≠ i) → oi.apart ops oj = true) →
      (∀ (j : Nat) oj w', ops[j]? = some oj → listed.getD j true = false → (∀ e ∈ oj.after, Region.binds md e = true → e.on ≠ i) → (D j = false → S w') → S0 w' ∧ (D i = false → S w')) →
      i ∈ Region.ready md ops listed → YieldsIf P ops S0 oi v a → S0 w → (D i = false → S w) →
      wpAnyK P md ops Q S D fuel (listed.setIfInBounds i true) (a.put oi.dst v) w → wpAnyK P md ops Q S D (fuel + 1) listed a w := by
  intro fuel
  induction fuel with
  | zero =>
    intro listed a w _ _ hr hy hS hSi H
    refine ⟨fun h => (by rw [h] at hr; cases hr), fun j hj => ?_⟩
    by_cases hji : j = i
    · subst hji; exact hy.wpOp hi hS ⟨hSi, H⟩
    · have := ready_mono hj hji
      rw [H.1] at this
      cases this
  | succ fuel ih =>
    intro listed a w hfree hlate hr hy hS hSi H
    refine ⟨fun h => (by rw [h] at hr; cases hr), fun j hj => ?_⟩
    by_cases hji : j = i
    · subst hji; exact hy.wpOp hi hS ⟨hSi, H⟩
    · have h1 := H.2 j (ready_mono hj hji)
      obtain ⟨hjun, oj, hoj, hall⟩ := mem_ready.1 hj
      have hnot : ∀ e ∈ oj.after, Region.binds md e = true → e.on ≠ i := fun e he hb heq => by
        have h1 := hall e he hb
        have h0 := (mem_ready.1 hr).1
        rw [heq] at h1
        rcases Nat.lt_or_ge i listed.size with h' | h'
        · simp [h'] at h0 h1; rw [h0] at h1; cases h1
        · simp [Array.getElem?_eq_none h'] at h1
      have h2 := wpOp_putIf hoj (hfree j oj hoj hji hjun hnot) (fun cs b => hsel i oi cs b hi) (fun cs b => hsel j oj cs b hoj) hQ hy h1
      have grow : ∀ k : Nat, (listed.setIfInBounds j true).getD k true = false → listed.getD k true = false := fun k hun => by
        by_cases hjk : j = k
        · subst hjk; exact hjun
        · rw [getD_set_ne true hjk] at hun; exact hun
      refine wpOp_mono (fun a' w' h3 => ⟨h3.2.1, ?_⟩) h2
      obtain ⟨s1, s2⟩ := hlate j oj w' hoj hjun hnot h3.2.1
      refine ih (listed.setIfInBounds j true) a' w' (fun k ok hk hki hun hno => hfree k ok hk hki (grow k hun) hno) (fun k ok w'' hk hun hno hs => hlate k ok w'' hk (grow k hun) hno hs) (ready_mono hr (Ne.symm hji)) h3.1 s1 s2 ?_
      rw [Array.setIfInBounds_comm _ _ hji]
      exact h3.2.2
/-- Take number i first: it yields v in every world that meets S, and what comes late waits for it. -/
theorem wpAnyK_take {i : Nat} {oi : Oper} {v : Value} {fuel : Nat} {listed : Array Bool} {a : Act} {w : World} (hi : ops[i]? = some oi)
    (hs : Region.noSelect ops = true) (hf : Region.free md ops listed i = true) (hr : (Region.ready md ops listed).contains i = true) (hl : lateWait md ops D listed i = true)
    (hQ : ∀ c a w, Q (.panic c) (a.put oi.dst v) w → Q (.panic c) a w) (hy : YieldsIf P ops S oi v a) (hS : S w)
    (h : wpAnyK P md ops Q S D fuel (listed.setIfInBounds i true) (a.put oi.dst v) w) : wpAnyK P md ops Q S D (fuel + 1) listed a w :=
  wpAnyK_first (S0 := S) hi (Region.noSelect_spec hs) hQ fuel listed a w (Region.free_spec hi hf) (fun j oj w' hj hun hno hw => by
    have : S w' := by
      cases e : D j with
      | false => exact hw e
      | true =>
        obtain ⟨x, hx, hb, hon⟩ := lateWait_spec hl j oj hj e hun
        exact absurd hon (hno x hx hb)
    exact ⟨this, fun _ => this⟩) (by simpa using hr) hy hS (fun _ => hS) h
/-- Take number i first, that is late: it yields v in every world. -/
theorem wpAnyK_pure {i : Nat} {oi : Oper} {v : Value} {fuel : Nat} {listed : Array Bool} {a : Act} {w : World} (hi : ops[i]? = some oi) (hD : D i = true)
    (hs : Region.noSelect ops = true) (hf : Region.free md ops listed i = true) (hr : (Region.ready md ops listed).contains i = true)
    (hQ : ∀ c a w, Q (.panic c) (a.put oi.dst v) w → Q (.panic c) a w) (hy : YieldsIf P ops (fun _ => True) oi v a)
    (h : wpAnyK P md ops Q S D fuel (listed.setIfInBounds i true) (a.put oi.dst v) w) : wpAnyK P md ops Q S D (fuel + 1) listed a w :=
  wpAnyK_first (S0 := fun _ => True) hi (Region.noSelect_spec hs) hQ fuel listed a w (Region.free_spec hi hf) (fun _ _ _ _ _ _ _ => ⟨trivial, fun q => by rw [hD] at q; cases q⟩) (by simpa using hr) hy trivial (fun q => by rw [hD] at q; cases q) h
/-- Whichever of those that may come up comes up. -/
theorem wpAnyK_all {rs : List Nat} {fuel : Nat} {listed : Array Bool} {a : Act} {w : World} (hr : Region.ready md ops listed = rs) (hne : rs ≠ [])
    (h : ∀ i ∈ rs, wpOp P ops Q i (fun a' w' => (D i = false → S w') ∧ wpAnyK P md ops Q S D fuel (listed.setIfInBounds i true) a' w') a w) : wpAnyK P md ops Q S D (fuel + 1) listed a w :=
  ⟨fun h0 => absurd (hr ▸ h0) hne, hr ▸ h⟩
/-- One of those. -/
theorem wpOp_go {i : Nat} {o : Oper} {a : Act} {w : World} {K : Act → World → Prop} (ho : ops[i]? = some o) (h : if Region.wanted o (yielded ops a.tmps) = true then Oper.wp P o a w K Q else K (a.put o.dst undef) w) : wpOp P ops Q i K a w := by
  unfold wpOp
  rw [ho]
  simp only
  split at h
  · rename_i q
    rw [if_pos q]
    exact .inl h
  · rename_i q
    rw [if_neg q]
    exact h
theorem wpAnyK_done {listed : Array Bool} {a : Act} {w : World} (hr : Region.ready md ops listed = []) (h : Q .normal a w) :
    ∀ fuel, wpAnyK P md ops Q S D fuel listed a w
  | 0 => ⟨hr, h⟩
  | _ + 1 => ⟨fun _ => h, by rw [hr]; simp⟩
/-- The beginning. -/
theorem wp_region_k {id : Nat} {a : Act} {w : World} (hm : P.follows .mixedOrders = true)
    (h : wpAnyK P .any ops Q S D ops.size (Array.replicate ops.size false) a w.drew) : (Code.region id ops true).wp P Q a w :=
  wp_region_any hm (wpAny_of_k _ _ _ _ h)
end
end Go.Proofs.YtkpdacfiglpgeaaGreatDoor

/- Layer 14's laws: a runner in memory; arguments. -/
namespace Go.Proofs.YtkpdacfiglpgeaaGreatDoor
open Go.RowKit Bl Th
set_option maxRecDepth 10000

/-! Numbers that can be read. -/
def IntsAt (w : World) (v : Value) (l : List Int) : Prop := ∃ p cap, v = .slice p l.length cap ∧ (l ≠ [] → ∃ g, p = some ⟨g, 0, none⟩ ∧ ∀ (k : Nat) (y : Int), l[k]? = some y → w.cell? ⟨g, k, none⟩ = some (.int .i64 y))
theorem IntsAt.heldBy {w w' : World} {v : Value} {l : List Int} {R : List Nat} (h : IntsAt w v l) (k : HeldBy R w w') (hv : ∀ b ∈ v.ownBlock.toList, b ∈ R) : IntsAt w' v l := by
  obtain ⟨p, c, rfl, h⟩ := h
  refine ⟨p, c, rfl, fun hn => ?_⟩
  obtain ⟨g, rfl, hc⟩ := h hn
  exact ⟨g, rfl, fun j y hy => (k.cell (a := ⟨g, j, none⟩) (hv g (by simp [Value.ownBlock]))).trans (hc j y hy)⟩
theorem IntsAt.none (w : World) : IntsAt w (.slice none 0 0) [] := ⟨Option.none, 0, rfl, fun h => absurd rfl h⟩

theorem IntsAt.one (w : World) (x : Int) : IntsAt (w.alloc (.cells #[.int .i64 x] 3)) (.slice (some ⟨w.heap.size, 0, Option.none⟩) 1 1) [x] := by
  refine ⟨_, 1, rfl, fun _ => ⟨w.heap.size, rfl, fun k y hy => ?_⟩⟩
  have h := Cells.new w [.int .i64 x] 3
  rw [h.cell k]
  cases k with
  | zero => simp only [List.getElem?_cons_zero, Option.some.injEq] at hy ⊢; rw [hy]
  | succ k => simp at hy
theorem rnIntInfo : (Tryz.prog.info? 3).map (fun i => (i.zero, i.size, i.bytes)) = some (some (.int .i64 0), 1, 8) := by kernel_rfl
def regsV (l : List Int) : List Value := l.map (.int .i64)
theorem IntsAt.row {w : World} {base : Nat} {v : Value} {l : List Int} (h : w.ownsRow base 3 1 v l.length (regsV l)) : IntsAt w v l := by
  obtain ⟨p, cap, rfl⟩ := ownsRow_shape h
  refine ⟨p, cap, rfl, fun hn => ?_⟩
  rcases h.2 with ⟨-, h0⟩ | ⟨g, c, cur, hv, -⟩
  · exact absurd (List.length_eq_zero_iff.1 h0) hn
  · simp only [Value.slice.injEq] at hv
    obtain ⟨rfl, -, rfl⟩ := hv
    refine ⟨g, rfl, fun k y hy => ?_⟩
    have hk := (List.getElem?_eq_some_iff.1 hy).1
    rw [h.cellAt k (by simpa using hk)]
    simp [regsV, hy]
theorem row_none (w : World) {base : Nat} (h : base ≤ w.heap.size) : (w.alloc (.cells #[] 3)).ownsRow base 3 1 (.slice (some ⟨w.heap.size, 0, Option.none⟩) 0 0) 0 (regsV []) :=
  ⟨rfl, .inr ⟨w.heap.size, 0, #[], rfl, h, heap_alloc_new w _, Nat.le_refl _, Nat.zero_le _, rfl, rfl⟩⟩
theorem grown_below {B : Nat} {w wa w4 : World} {own : Option Nat} (h : Below B w wa) (hB : B ≤ w.heap.size) (hg : wa.grownBy w4 own) (ho : ∀ g, own = some g → B ≤ g) : Below B w w4 :=
  h.trans ((Kept.of_grown hg).below (Nat.le_trans hB h.size) fun g hl e => by have := ho g e.symm; omega)
/-- 'append(l, some...)' of ints. -/
theorem run_append_int {w : World} (ty : TypeId) {base : Nat} {v : Value} {n : Nat} {xs : List Int} (hown : w.ownsRow base 3 1 v n (regsV xs)) {y : Value} {news : List Int} (hy : IntsAt w y news) (hn : n + news.length ≤ 1000000) (hbase : base ≤ w.heap.size) :
    ∃ v' w', (Builtin.append_ #[53, 53] ty #[v, y]).run Tryz.prog w = .ok v' w' ∧ w'.ownsRow base 3 1 v' (n + news.length) (regsV (xs ++ news)) ∧ w.grownBy w' v.ownBlock ∧ (v'.ownBlock = v.ownBlock ∨ v'.ownBlock = some w.heap.size) := by
  obtain ⟨i0, hi0, hz0, hz1, hz2⟩ := info_parts rnIntInfo
  obtain ⟨pt, cap, rfl, hc⟩ := hy
  cases news with
  | nil =>
    have hrun : (Builtin.append_ #[53, 53] ty #[v, .slice pt 0 cap]).run Tryz.prog w = .ok v w := by
      rcases hown.2 with ⟨rfl, rfl⟩ | ⟨g, c2, cur, rfl, -, -, hle, -⟩
      · cases pt <;> simp [Builtin.append_, run_underlying Tryz.underlying53, sizeOf, typeInfo, hi0, Builtin.lenOf, Builtin.firstCells, loadCells, loadCellsFrom]
      · cases pt <;> simp [Builtin.append_, run_underlying Tryz.underlying53, sizeOf, typeInfo, hi0, Builtin.lenOf, Builtin.firstCells, loadCells, loadCellsFrom, storeCells, hle]
    exact ⟨v, w, hrun, by simpa using hown, ⟨rfl, rfl, rfl, Nat.le_refl _, fun _ _ _ => rfl⟩, .inl rfl⟩
  | cons z l =>
    obtain ⟨g, rfl, hg⟩ := hc (by simp)
    obtain ⟨v', w', hr, h2, h3, -, h5⟩ := run_append_own_at (P := Tryz.prog) w base 53 ty 3 i0 _ 1 8 Tryz.underlying53 hi0 hz0 hz1 hz2 rfl (by omega) v n (regsV xs) hown ⟨g, 0, Option.none⟩ (z :: l).length cap (regsV (z :: l)) (by simp [regsV]) (fun j u hu => by
      rw [show (⟨g, 0, Option.none⟩ : Addr).add j = ⟨g, 0 + j, Option.none⟩ by unfold Addr.add; split <;> simp_all]
      simp only [regsV, List.getElem?_map, Option.map_eq_some_iff] at hu
      obtain ⟨q, hq, rfl⟩ := hu
      rw [Nat.zero_add]
      exact hg j q hq) (fun u hu => by
      simp only [regsV, List.mem_map] at hu
      obtain ⟨q, -, rfl⟩ := hu
      rfl) (by unfold maxLen; omega) (by omega) hbase
    exact ⟨v', w', hr, by rw [show regsV (xs ++ z :: l) = regsV xs ++ regsV (z :: l) by simp [regsV]]; exact h2, h3, h5⟩
theorem step_append_int {w : World} {ops : Array Oper} {o : Oper} {a : Act} {K : Act → World → Prop} {Q : Exit → Act → World → Prop} {E : Prop} (hgd : o.guard = Option.none) (s x : Operand)
    (ho : o.op = .call { callee := .builtin .append, args := #[s, x], argTypes := #[53, 53] }) {base : Nat} {v : Value} {n : Nat} {xs : List Int} (hs : a.eval s = v) (hown : w.ownsRow base 3 1 v n (regsV xs))
    {y : Value} {news : List Int} (hx : a.eval x = y) (hy : IntsAt w y news) (hn : n + news.length ≤ 1000000) (hbase : base ≤ w.heap.size) {m : Nat} (hm : n + news.length = m) {l : List Int} (hl : xs ++ news = l)
    (h : ∀ p c w', w'.ownsRow base 3 1 (.slice p m c) m (regsV l) → w.grownBy w' v.ownBlock → ((Value.slice p m c).ownBlock = v.ownBlock ∨ (Value.slice p m c).ownBlock = some w.heap.size) → K (a.put o.dst (.slice p m c)) w') :
    if Region.wanted o (yielded ops a.tmps) = true then Oper.wp Tryz.prog o a w K Q else E := by
  subst hm hl
  obtain ⟨v', w', hrun, h1, h2, h3⟩ := run_append_int o.type hown hy hn hbase
  have hw : Region.wanted o (yielded ops a.tmps) = true := by simp [Region.wanted, hgd]
  rw [if_pos hw]
  unfold Oper.wp execOp
  simp only [ho, resolve, invoke, builtin, Sem.run_bind, Sem.run_pure, Result.andThen_ok, List.map_toArray, List.map_cons, List.map_nil, hs, hx, hrun]
  obtain ⟨p, c, rfl⟩ := ownsRow_shape h1
  exact h p c w' h1 h2 h3

/-! A runner. -/
def rnV (px : Nat) (cv : Value) (regs : List Int) (lv : Value) : List Value := .pointer (some ⟨px, 0, Option.none⟩) :: cv :: (regsV regs ++ [lv])
/-- What a runner keeps; lv0, told0: what was told ahead. -/
def RnIn (W : World) (pr px : Nat) (cv lv0 : Value) (told0 : List Int) (r : Rn) (X : List Nat) (w : World) : Prop :=
  ∃ lv, r.regs.length = 9 ∧ W.heap.size ≤ pr ∧ Cells w pr (rnV px cv r.regs lv) 113 ∧
    ((lv = lv0 ∧ r.told = told0 ∧ X = [pr]) ∨ (X = pr :: lv.ownBlock.toList ∧ IntsAt w lv r.told ∧ ∀ b ∈ lv.ownBlock.toList, b ≠ pr ∧ W.heap.size ≤ b))
def rnAux (W : World) (pr px : Nat) (cv lv0 : Value) (told0 : List Int) : Aux Rn where
  at' r X w := RnIn W pr px cv lv0 told0 r X w
  loc := by
    rintro s Q w w' ⟨lv, h1, h2, h3, h4⟩ k
    rcases h4 with ⟨rfl, h5, rfl⟩ | ⟨rfl, h5, h6⟩
    · exact ⟨_, h1, h2, h3.heldBy k (by simp), .inl ⟨rfl, h5, rfl⟩⟩
    · exact ⟨lv, h1, h2, h3.heldBy k (by simp), .inr ⟨rfl, h5.heldBy k (fun b hb => List.mem_cons_of_mem _ hb), h6⟩⟩
theorem nine {l : List Int} (h : l.length = 9) : ∃ a b c d e f g i j, l = [a, b, c, d, e, f, g, i, j] := by
  match l, h with
  | [a, b, c, d, e, f, g, i, j], _ => exact ⟨a, b, c, d, e, f, g, i, j, rfl⟩
/-- A register's cell. -/
theorem rn_reg {w : World} {pr px : Nat} {cv lv : Value} {regs : List Int} (h : Cells w pr (rnV px cv regs lv) 113) (hr : regs.length = 9) {k : Nat} (hk : k < 9) : w.cell? ⟨pr, 2 + k, none⟩ = some (.int .i64 (regs.getD k 0)) := by
  rw [h.cell (2 + k)]
  unfold rnV regsV
  rw [show 2 + k = k + 1 + 1 by omega, List.getElem?_cons_succ, List.getElem?_cons_succ, List.getElem?_append_left (by simp; omega), List.getElem?_map, List.getElem?_eq_getElem (by omega)]
  simp [List.getD_eq_getElem?_getD, List.getElem?_eq_getElem (show k < regs.length by omega)]
theorem rn_two {w : World} {pr px : Nat} {cv lv : Value} {regs : List Int} (h : Cells w pr (rnV px cv regs lv) 113) : w.cell? ⟨pr, 0, none⟩ = some (.pointer (some ⟨px, 0, none⟩)) ∧ w.cell? ⟨pr, 1, none⟩ = some cv := ⟨h.cell 0, h.cell 1⟩
theorem rn_told {w : World} {pr px : Nat} {cv lv : Value} {regs : List Int} (h : Cells w pr (rnV px cv regs lv) 113) (hr : regs.length = 9) : w.cell? ⟨pr, 11, none⟩ = some lv := by
  obtain ⟨a, b, c, d, e, f, g, i, j, rfl⟩ := nine hr
  exact h.cell 11
set_option maxHeartbeats 1000000 in
theorem arg_ok {w : World} {pr px : Nat} {cv lv : Value} {r : Rn} (h : Cells w pr (rnV px cv r.regs lv) 113) (hr : r.regs.length = 9) (a : Int × Int) :
    Calls Tryz.prog 114 #[.pointer (some ⟨pr, 0, none⟩), .agg #[.int .i64 a.1, .int .i64 a.2]] w fun e w' => e = .returned (.int .i64 (argN r a)) ∧ Below w.heap.size w w' := by
  obtain ⟨x, n⟩ := a
  have HB := Lib.hid ((Below.refl w.heap.size w).alloc (Nat.le_refl _) (.cells #[.int .i64 x, .int .i64 n] 48))
  have hlt := h.lt
  simp only
  by_cases hx : 1 ≤ x ∧ x ≤ 8
  · obtain ⟨k, rfl⟩ := Int.eq_ofNat_of_zero_le (show 0 ≤ x by omega)
    have e : argN r ((k : Int), n) = w64 (r.regs.getD k 0 + n) := by
      unfold argN
      rw [if_pos hx]
      rfl
    rw [e]
    have hk := rn_reg h hr (k := k) (by omega)
    obtain ⟨v, hv⟩ : ∃ v, r.regs.getD k 0 = v := ⟨_, rfl⟩
    rw [hv] at hk ⊢
    have g1 : decide ((k : Int) < 1) = false := by simp; omega
    have g2 : decide (8 < (k : Int)) = false := by simp; omega
    have g1' : ¬ ((k : Int) < 1) := by omega
    have g2' : ¬ (8 < (k : Int)) := by omega
    have g3 : (k : Int) < 9 := by omega
    have hk9 : k < 9 := by omega
    have w1 := w64_wrap (v + n)
    have hk' : (w.alloc (.cells #[.int .i64 (k : Int), .int .i64 n] 48)).cell? ⟨pr, 2 + k, none⟩ = some (.int .i64 v) := (World.cell?_alloc_lt _ _ ⟨pr, 2 + k, none⟩ hlt).trans hk
    clear h hr hx e hv hlt
    go_enter Tryz.func114, Tryz.ntmps114
    go_wp2
    go_quiet (fail)
    go_wp2
    go_ret
    exact ⟨rfl, below_drewN HB.out _⟩
  · have e : argN r (x, n) = n := by
      unfold argN
      rw [if_neg hx]
    rw [e]
    by_cases h1 : x < 1
    · have g1 : decide (x < 1) = true := by simp; omega
      clear h hr e hx hlt
      go_enter Tryz.func114, Tryz.ntmps114
      go_wp2
      go_ret
      exact ⟨rfl, HB.out⟩
    · have g1 : decide (x < 1) = false := by simp; omega
      have g2' : 8 < x := by omega
      have g2 : decide (8 < x) = true := by simp; omega
      clear h hr e hx hlt
      go_enter Tryz.func114, Tryz.ntmps114
      go_wp2
      go_ret
      exact ⟨rfl, HB.out⟩
end Go.Proofs.YtkpdacfiglpgeaaGreatDoor

/- Layer 14's laws: where a runner's statements begin and end. -/
namespace Go.Proofs.YtkpdacfiglpgeaaGreatDoor
open Go.RowKit Bl Th Tx
set_option maxRecDepth 10000

theorem PartAt.fin {σ : Type} {W : World} {R T1 X1 E B0 : List Nat} {pa pb pc pt px : Nat} {A : Aux σ} {s1 : σ} {t1 : Th.Tx} {c c1 : CS} {w0 w1 : World} {p : Tree (Nat × (σ × Th.Tx))} {n : Nat} {v : Value} (h : PartAt W (E ++ R) T1 X1 pa pb pc pt px A s1 t1 c1 w1) (hx : exec p c = ((n, s1, t1), c1)) (he : Err w1 v n E) (hh : HeldBy R w0 w1) (hB : ∀ b ∈ E ++ (T1 ++ X1), b ∈ B0 ∨ w0.heap.size ≤ b) :
    ObPost W R pa pb pc (PartIn W pt A) B0 w0 p c (fun _ v => v) (.returned v) w1 :=
  ⟨n, (s1, t1), c1, v, E, T1 ++ X1, hx, rfl, he, ⟨T1, X1, rfl, h.st⟩, h.ctx.less fun b hb => by
    simp only [List.mem_append] at hb ⊢
    rcases hb with q | (q | q) | q <;> simp [q], hh, hB, fun b hb hm => h.apart b hm (by simp [hb])⟩
/-- Where a runner's statements begin. -/
structure RnAt (W : World) (R T X Q : List Nat) (pa pb pc pt px pr gc n cap : Nat) (cells : List Nat) (lv0 : Value) (told0 : List Int) (r : Rn) (t : Th.Tx) (c : CS) (w : World) : Prop where
  part : PartAt W R T X pa pb pc pt px (rnAux W pr px (.slice (some ⟨gc, 0, none⟩) n cap) lv0 told0) r t c w
  h0 : IntsAt w lv0 told0
  in0 : ∀ b ∈ lv0.ownBlock.toList, b ∈ R
  arr : CellsIn w gc cells
  inG : gc ∈ R
  len : cells.length = n
  pos : 1 ≤ n
  few : n ≤ 400
  small : ∀ x ∈ cells, x < 18446744073709551616
  ok : RnS cells t.sets
  inQ : ∀ b ∈ Q, b ∈ R
def RnPost (W : World) (R T X : List Nat) (pa pb pc pt px pr gc n cap : Nat) (lv0 : Value) (told0 : List Int) (p : Tree (Nat × (Rn × Th.Tx))) (c : CS) (w : World) (e : Ending) (w' : World) : Prop :=
  ObPost W R pa pb pc (PartIn W pt (rnAux W pr px (.slice (some ⟨gc, 0, none⟩) n cap) lv0 told0)) (T ++ X) w p c (fun _ v => v) e w'
/-- Whatever a cell holds. -/
def rOr (w : World) (a : Addr) : Value := (w.cell? a).getD .nilIface
theorem rOr_of {w : World} {a : Addr} {v : Value} (h : w.cell? a = some v) : w.cell? a = some (rOr w a) := by
  unfold rOr
  rw [h]
  rfl
theorem rOr_set {w : World} {a b : Addr} (h : w.cell? a = some (rOr w a)) (v : Value) : (w.setCell b v).cell? a = some (rOr (w.setCell b v) a) := by
  by_cases e : b = a
  · subst e
    exact rOr_of (World.cell?_setCell_same _ _ _ h)
  · exact rOr_of ((World.cell?_setCell_other _ _ _ _ e).trans h)
theorem sreg_keep {w : World} {pr br k : Nat} {x0 x2 x3 x4 x5 x6 : Value} (h : w.cell? ⟨br, 0, none⟩ = some x0 ∧ w.cell? ⟨br + 1, 2, none⟩ = some x2 ∧ w.cell? ⟨br + 1, 3, none⟩ = some x3 ∧ w.cell? ⟨br + 1, 4, none⟩ = some x4 ∧ w.cell? ⟨br + 1, 5, none⟩ = some x5 ∧ w.cell? ⟨br + 1, 6, none⟩ = some x6 ∧ w.cell? ⟨pr, 2 + k, none⟩ = some (rOr w ⟨pr, 2 + k, none⟩) ∧ w.frozen? ⟨pr, 2 + k, none⟩ = false) (hn : pr < br) (v : Value) :
    (w.setCell ⟨pr, 2 + k, none⟩ v).cell? ⟨br, 0, none⟩ = some x0 ∧ (w.setCell ⟨pr, 2 + k, none⟩ v).cell? ⟨br + 1, 2, none⟩ = some x2 ∧ (w.setCell ⟨pr, 2 + k, none⟩ v).cell? ⟨br + 1, 3, none⟩ = some x3 ∧ (w.setCell ⟨pr, 2 + k, none⟩ v).cell? ⟨br + 1, 4, none⟩ = some x4 ∧ (w.setCell ⟨pr, 2 + k, none⟩ v).cell? ⟨br + 1, 5, none⟩ = some x5 ∧ (w.setCell ⟨pr, 2 + k, none⟩ v).cell? ⟨br + 1, 6, none⟩ = some x6 ∧ (w.setCell ⟨pr, 2 + k, none⟩ v).cell? ⟨pr, 2 + k, none⟩ = some (rOr (w.setCell ⟨pr, 2 + k, none⟩ v) ⟨pr, 2 + k, none⟩) ∧ (w.setCell ⟨pr, 2 + k, none⟩ v).frozen? ⟨pr, 2 + k, none⟩ = false := by
  obtain ⟨h0, h2, h3, h4, h5, h6, h7, h8⟩ := h
  have f : ∀ (b o : Nat) (x : Value), b ≠ pr → w.cell? ⟨b, o, none⟩ = some x → (w.setCell ⟨pr, 2 + k, none⟩ v).cell? ⟨b, o, none⟩ = some x := fun b o x hb hx => (World.cell?_setCell_far _ _ _ _ (fun e => hb e.symm)).trans hx
  exact ⟨f _ _ _ (by omega) h0, f _ _ _ (by omega) h2, f _ _ _ (by omega) h3, f _ _ _ (by omega) h4, f _ _ _ (by omega) h5, f _ _ _ (by omega) h6, rOr_set h7 _, (World.frozen?_setCell _ _ _ _).trans h8⟩
theorem Kept.setCells {S : Nat → Prop} {b : Nat} (hb : S b) : ∀ (vs : List Value) (o : Nat) {w w' : World}, Kept S w w' → Kept S w (w'.setCells b o vs)
  | [], _, _, _, h => h
  | v :: vs, o, _, _, h => Kept.setCells hb vs (o + 1) (h.setCell (p := ⟨b, o, none⟩) (fun _ => hb) v)
theorem Below.setCells {B b : Nat} (hb : B ≤ b) : ∀ (vs : List Value) (o : Nat) {w w' : World}, Below B w w' → Below B w (w'.setCells b o vs)
  | [], _, _, _, h => h
  | v :: vs, o, _, _, h => Below.setCells hb vs (o + 1) (Below.setCell (p := ⟨b, o, none⟩) h hb v)
theorem frozen_setCells (b : Nat) (x : Addr) : ∀ (vs : List Value) (o : Nat) (w : World), (w.setCells b o vs).frozen? x = w.frozen? x
  | [], _, _ => rfl
  | v :: vs, o, w => (frozen_setCells b x vs (o + 1) (w.setCell ⟨b, o, none⟩ v)).trans (World.frozen?_setCell _ _ _ _)
theorem far_setCells {b : Nat} {x : Addr} (hx : x.block ≠ b) (vs : List Value) (o : Nat) (w : World) : (w.setCells b o vs).cell? x = w.cell? x :=
  World.cell?_setCells_out b vs o w x (fun e => absurd e hx)
theorem rOr_some {w : World} {a : Addr} (h : (w.cell? a).isSome = true) : w.cell? a = some (rOr w a) := by
  obtain ⟨v, hv⟩ := Option.isSome_iff_exists.1 h
  exact rOr_of hv
theorem c3_cells {w : World} {br pg pq pr : Nat} {x0 lv : Value} {L V : List Value} (h : w.cell? ⟨br, 0, none⟩ = some x0 ∧ w.rangeAt pg 0 L ∧ w.cell? ⟨pq, 0, none⟩ = some lv ∧ w.there pr 2 9 ∧ w.frozen? ⟨pr, 11, none⟩ = false ∧ w.cell? ⟨pr, 11, none⟩ = some (rOr w ⟨pr, 11, none⟩)) (hn : br ≠ pr ∧ pg ≠ pr ∧ pq ≠ pr) (o : Nat) :
    (w.setCells pr o V).cell? ⟨br, 0, none⟩ = some x0 ∧ (w.setCells pr o V).rangeAt pg 0 L ∧ (w.setCells pr o V).cell? ⟨pq, 0, none⟩ = some lv ∧ (w.setCells pr o V).there pr 2 9 ∧ (w.setCells pr o V).frozen? ⟨pr, 11, none⟩ = false ∧ (w.setCells pr o V).cell? ⟨pr, 11, none⟩ = some (rOr (w.setCells pr o V) ⟨pr, 11, none⟩) := by
  obtain ⟨h0, h1, h2, h3, h4, h5⟩ := h
  have k : Kept (fun b => b = pr) w (w.setCells pr o V) := Kept.setCells (S := fun b => b = pr) rfl V o (Kept.refl _ _)
  have f : ∀ (b i : Nat) (v : Value), b ≠ pr → w.cell? ⟨b, i, none⟩ = some v → (w.setCells pr o V).cell? ⟨b, i, none⟩ = some v := fun b i v hb hv => (World.cell?_of_block (w := w) (a := ⟨b, i, none⟩) (k.block b (World.block_lt_of_cell? _ _ hv) hb)).trans hv
  exact ⟨f _ _ _ hn.1 h0, fun j v hj => f _ _ _ hn.2.1 (h1 j v hj), f _ _ _ hn.2.2 h2, World.there_setCells h3 pr o V, (frozen_setCells pr _ V o w).trans h4, rOr_some (World.isSome_setCells pr V o w _ (by rw [h5]; rfl))⟩
theorem Cells.nineSet {w : World} {pr px : Nat} {cv lv : Value} {r1 r2 : List Int} (h : Cells w pr (rnV px cv r1 lv) 113) (h1 : r1.length = 9) (h2 : r2.length = 9) : Cells (w.setCells pr 2 (regsV r2)) pr (rnV px cv r2 lv) 113 := by
  obtain ⟨a0, a1, a2, a3, a4, a5, a6, a7, a8, rfl⟩ := nine h2
  obtain ⟨b0, b1, b2, b3, b4, b5, b6, b7, b8, rfl⟩ := nine h1
  exact ((((((((h.set 2 (.int .i64 a0)).set 3 (.int .i64 a1)).set 4 (.int .i64 a2)).set 5 (.int .i64 a3)).set 6 (.int .i64 a4)).set 7 (.int .i64 a5)).set 8 (.int .i64 a6)).set 9 (.int .i64 a7)).set 10 (.int .i64 a8)
theorem regsInfo {regs : List Int} (h : regs.length = 9) : (Tryz.prog.info? 111).map (·.size) = some (regsV regs).length ∧ (regsV regs).length = 9 ∧ ∀ v ∈ regsV regs, v.oneCell' = true := by
  have e : (regsV regs).length = 9 := by simpa [regsV] using h
  refine ⟨by rw [e]; kernel_rfl, e, fun v hv => ?_⟩
  simp only [regsV, List.mem_map] at hv
  obtain ⟨x, -, rfl⟩ := hv
  rfl
section
variable {W : World} {R T X Q : List Nat} {pa pb pc pt px pr gc n cap : Nat} {cells : List Nat} {lv0 : Value} {told0 : List Int} {r : Rn} {t : Th.Tx} {c : CS} {w : World}
theorem RnAt.heldR (h : RnAt W R T X Q pa pb pc pt px pr gc n cap cells lv0 told0 r t c w) : ∀ b ∈ R, b < w.heap.size := fun b hb => h.part.ctx.heldR b (by simp [hb])
/-- Only new things came; some of them are held. -/
theorem RnAt.came (h : RnAt W R T X Q pa pb pc pt px pr gc n cap cells lv0 told0 r t c w) {w' : World} (hb : Below w.heap.size w w') (N : List Nat) (hN : ∀ b ∈ N, w.heap.size ≤ b ∧ b < w'.heap.size) : RnAt W (N ++ R) T X Q pa pb pc pt px pr gc n cap cells lv0 told0 r t c w' := by
  have hk := HeldBy.of_below (R := R) hb h.heldR
  have h1 := h.part.under hb
  refine ⟨⟨(h.part.ctx.came hb N hN).less fun b hb => ?_, h1.st, fun b hb hm => ?_, h1.tn, by simp [h1.inX], h1.log⟩, h.h0.heldBy hk h.in0, fun b hb => by simp [h.in0 b hb], h.arr.heldBy hk h.inG, by simp [h.inG], h.len, h.pos, h.few, h.small, h.ok, fun b hb => by simp [h.inQ b hb]⟩
  · simp only [List.mem_append] at hb ⊢
    rcases hb with (q | q) | q | q <;> simp [q]
  · rcases List.mem_append.1 hm with q | q
    · have := (hN b q).1
      have := h.part.ctx.heldR b (by simp only [List.mem_append] at hb ⊢; exact .inl hb)
      omega
    · exact h1.apart b hb q
theorem RnAt.under (h : RnAt W R T X Q pa pb pc pt px pr gc n cap cells lv0 told0 r t c w) {w' : World} (hb : Below w.heap.size w w') : RnAt W R T X Q pa pb pc pt px pr gc n cap cells lv0 told0 r t c w' := h.came hb [] (by simp)
/-- Behind a statement. -/
theorem RnAt.next (h : RnAt W R T X Q pa pb pc pt px pr gc n cap cells lv0 told0 r t c w) {w1 : World} {T1 X1 E : List Nat} {r1 : Rn} {t1 : Th.Tx} {c1 : CS} (hst : PartSt W pt (rnAux W pr px (.slice (some ⟨gc, 0, none⟩) n cap) lv0 told0) T1 X1 (r1, t1) w1) (hc : Ctx W (E ++ ((T1 ++ X1) ++ R)) pa pb pc c1 w1) (hh : HeldBy R w w1) (hB : ∀ b ∈ E ++ (T1 ++ X1), b ∈ T ++ X ∨ w.heap.size ≤ b) (hEB : ∀ b ∈ E, b ∉ T1 ++ X1) (hl : t1.sets.log.length < 1000000000) (hok : RnS cells t1.sets) :
    RnAt W (E ++ R) T1 X1 Q pa pb pc pt px pr gc n cap cells lv0 told0 r1 t1 c1 w1 :=
  ⟨h.part.next hst hc hh hB hEB hl, h.h0.heldBy hh h.in0, fun b hb => by simp [h.in0 b hb], h.arr.heldBy hh h.inG, by simp [h.inG], h.len, h.pos, h.few, h.small, hok, fun b hb => by simp [h.inQ b hb]⟩
theorem RnAt.less {E : List Nat} (h : RnAt W (E ++ R) T X Q pa pb pc pt px pr gc n cap cells lv0 told0 r t c w) (hp : px ∈ R) (h0 : ∀ b ∈ lv0.ownBlock.toList, b ∈ R) (hg : gc ∈ R) (hQ : ∀ b ∈ Q, b ∈ R) : RnAt W R T X Q pa pb pc pt px pr gc n cap cells lv0 told0 r t c w :=
  ⟨h.part.less hp, h.h0, h0, h.arr, hg, h.len, h.pos, h.few, h.small, h.ok, hQ⟩
/-- The runner's own cells, and what it has told. -/
theorem RnAt.own (h : RnAt W R T X Q pa pb pc pt px pr gc n cap cells lv0 told0 r t c w) : ∃ lv, r.regs.length = 9 ∧ W.heap.size ≤ pr ∧ Cells w pr (rnV px (.slice (some ⟨gc, 0, none⟩) n cap) r.regs lv) 113 ∧ IntsAt w lv r.told ∧ pr ∈ X ∧ (∀ b ∈ X, b = pr ∨ b ∈ lv.ownBlock.toList) := by
  obtain ⟨lv, h1, h2, h3, ⟨rfl, h5, rfl⟩ | ⟨rfl, h5, h6⟩⟩ := h.part.st.st
  · have e : r.told = told0 := h5
    exact ⟨_, h1, h2, h3, by rw [e]; exact h.h0, by simp, by simp⟩
  · exact ⟨lv, h1, h2, h3, h5, by simp, fun b hb => by simpa using hb⟩
/-- The same among fewer held blocks, from an earlier world on, under a tree that comes to the same. -/
theorem RnPost.up {N : List Nat} {p p' : Tree (Nat × (Rn × Th.Tx))} {w2 w' : World} {e : Ending} (h : RnPost W (N ++ R) T X pa pb pc pt px pr gc n cap lv0 told0 p c w2 e w') (hx : exec p' c = exec p c) (hh : HeldBy R w w2) : RnPost W R T X pa pb pc pt px pr gc n cap lv0 told0 p' c w e w' := by
  obtain ⟨m, x, c1, v, E, B', h1, h2, h3, h4, h5, h6, h7, h8⟩ := h
  exact ⟨m, x, c1, v, E, B', hx.trans h1, h2, h3, h4, h5.less (fun b hb => by
    simp only [List.mem_append] at hb ⊢
    rcases hb with q | q | q <;> simp [q]), hh.trans (h6.less fun b hb => by simp [hb]), fun b hb => (h7 b hb).imp_right (Nat.le_trans hh.1), h8⟩
theorem RnPost.shape {p : Tree (Nat × (Rn × Th.Tx))} {w' : World} {e : Ending} (h : RnPost W R T X pa pb pc pt px pr gc n cap lv0 told0 p c w e w') : ∃ v, e = .returned v ∧ (v = .nilIface ∨ ∃ tt xx, v = .iface tt xx) := by
  obtain ⟨m, x, c1, v, E, B', h1, h2, h3, h4, h5, h6, h7, h8⟩ := h
  exact ⟨v, h2, h3.shape⟩
/-- Behind a mark. -/
theorem RnAt.marked (h : RnAt W R T X Q pa pb pc pt px pr gc n cap cells lv0 told0 r t c w) (hm : t.sets.marks.length < 20) {T' : List Nat} {wk : World} (hp : PartAt W R T' X pa pb pc pt px (rnAux W pr px (.slice (some ⟨gc, 0, none⟩) n cap) lv0 told0) r (t.on t.sets.mark.2.2) c wk) (hh : HeldBy R w wk) : RnAt W R T' X Q pa pb pc pt px pr gc n cap cells lv0 told0 r (t.on t.sets.mark.2.2) c wk :=
  ⟨hp, h.h0.heldBy hh h.in0, h.in0, h.arr.heldBy hh h.inG, h.inG, h.len, h.pos, h.few, h.small, (mark_ok h.ok hm).2.2.1, h.inQ⟩
theorem kp_part {k u : Nat} {P : Rn → Th.Tx → Tree (Nat × (Rn × Th.Tx))} (hk : RnS cells t.sets) (hc : cells.length ≤ 500) (hl : t.sets.log.length + k < 1000000000) (hm : t.sets.marks.length < 20) (g : Kp cells k t.sets.mark.2.2 (exec (P r (t.on t.sets.mark.2.2)) c).1.2.2.sets) : PartOk u t (exec (P r (t.on t.sets.mark.2.2)) c).1 := by
  obtain ⟨m1, m2, m3, m4, m5, -⟩ := mark_ok hk hm
  have e1 := g.marks.trans m4
  have e2 := g.log (by rw [m4]; simp)
  have e3 := g.few
  rw [m5] at e2 e3
  exact ⟨e1, e2, fun _ => Nat.le_trans (back_kp hk hm g).1.ok.few hc, by omega⟩
/-- The runner's own cells change. -/
theorem RnAt.touch (h : RnAt W R T X Q pa pb pc pt px pr gc n cap cells lv0 told0 r t c w) {w' : World} {r' : Rn} {X' : List Nat} (hk : Kept (fun b => b = pr) w w') (hin : RnIn W pr px (.slice (some ⟨gc, 0, none⟩) n cap) lv0 told0 r' X' w') (hX : ∀ b ∈ X', (b ∈ X ∨ w.heap.size ≤ b) ∧ b < w'.heap.size) : RnAt W R T X' Q pa pb pc pt px pr gc n cap cells lv0 told0 r' t c w' ∧ HeldBy R w w' := by
  obtain ⟨lv, hr9, hpW, hCp, hlv, hpX, hXb⟩ := h.own
  have hpr : pr ∉ R := h.part.apart pr (by simp [hpX])
  have hprT : pr ∉ T := fun hm => h.part.st.apart pr hm hpX
  have hh : HeldBy R w w' := ⟨hk.size, fun b hb => hk.block b (h.heldR b hb) (fun e => hpr (e ▸ hb))⟩
  have hT : HeldBy T w w' := ⟨hk.size, fun b hb => hk.block b (h.part.ctx.heldR b (by simp [hb])) (fun e => hprT (e ▸ hb))⟩
  have hTX : ∀ b ∈ T, b ∉ X' := fun b hb hm => by
    rcases (hX b hm).1 with q | q
    · exact h.part.st.apart b hb q
    · have := h.part.ctx.heldR b (by simp [hb])
      omega
  refine ⟨⟨⟨h.part.ctx.step (hk.mono fun b _ e => by simp [e, hpX]) (h.part.ctx.below.trans (hk.below h.part.ctx.below.size fun b hb e => by omega)) fun b hb => ?_, ⟨h.part.st.tx.heldBy hT (fun _ h => h), hin, hTX⟩, fun b hb hm => ?_, h.part.tn.heldBy hh h.part.inX, h.part.inX, h.part.log⟩, h.h0.heldBy hh h.in0, h.in0, h.arr.heldBy hh h.inG, h.inG, h.len, h.pos, h.few, h.small, h.ok, h.inQ⟩, hh⟩
  · have hz := hk.size
    rcases List.mem_append.1 hb with q | q
    · rcases List.mem_append.1 q with q | q
      · exact ⟨.inl (by simp [q]), Nat.lt_of_lt_of_le (h.part.ctx.heldR b (by simp [q])) hz⟩
      · refine ⟨?_, (hX b q).2⟩
        rcases (hX b q).1 with q2 | q2
        · exact .inl (by simp [q2])
        · exact .inr q2
    · exact ⟨.inl (by simp [q]), Nat.lt_of_lt_of_le (h.heldR b q) hz⟩
  · rcases List.mem_append.1 hb with q | q
    · exact h.part.apart b (by simp [q]) hm
    · rcases (hX b q).1 with q2 | q2
      · exact h.part.apart b (by simp [q2]) hm
      · have := h.heldR b hm
        omega
theorem rnV_set {px k : Nat} {cv lv : Value} {regs : List Int} (hr : regs.length = 9) (hk : k < 9) (v : Int) : (rnV px cv regs lv).set (2 + k) (.int .i64 v) = rnV px cv (regs.set k v) lv := by
  unfold rnV regsV
  rw [show 2 + k = k + 1 + 1 by omega, List.set_cons_succ, List.set_cons_succ, List.set_append_left _ _ (by simp; omega), List.map_set]
theorem rnV_told {px : Nat} {cv lv : Value} {regs : List Int} (hr : regs.length = 9) (v : Value) : (rnV px cv regs lv).set 11 v = rnV px cv regs v := by
  obtain ⟨a, b, c, d, e, f, g, i, j, rfl⟩ := nine hr
  rfl
/-- A register is set. -/
theorem RnAt.setReg (h : RnAt W R T X Q pa pb pc pt px pr gc n cap cells lv0 told0 r t c w) {k : Nat} (hk : k < 9) (v : Int) : RnAt W R T X Q pa pb pc pt px pr gc n cap cells lv0 told0 { r with regs := r.regs.set k v } t c (w.setCell ⟨pr, 2 + k, none⟩ (.int .i64 v)) ∧ HeldBy R w (w.setCell ⟨pr, 2 + k, none⟩ (.int .i64 v)) := by
  have kk := (Kept.refl (fun b => b = pr) w).setCell (p := ⟨pr, 2 + k, none⟩) (fun _ => rfl) (.int .i64 v)
  obtain ⟨lv, hr9, hpW, hCp, h4⟩ := h.part.st.st
  have hlt : ∀ b ∈ X, b < w.heap.size := fun b hb => h.part.ctx.heldR b (by simp [hb])
  refine h.touch kk ⟨lv, by simpa using hr9, hpW, ?_, ?_⟩ (fun b hb => ⟨.inl hb, Nat.lt_of_lt_of_le (hlt b hb) kk.size⟩)
  · have := hCp.set (2 + k) (.int .i64 v)
    rw [rnV_set hr9 hk] at this
    exact this
  · rcases h4 with ⟨h5, h6, h7⟩ | ⟨h5, h6, h7⟩
    · exact .inl ⟨h5, h6, h7⟩
    · refine .inr ⟨h5, h6.heldBy (R := lv.ownBlock.toList) ⟨kk.size, fun b hb => kk.block b (hlt b (by rw [h5]; exact List.mem_cons_of_mem _ hb)) (h7 b hb).1⟩ (fun _ h => h), h7⟩
/-- The end. -/
theorem RnAt.ret {N T' X' : List Nat} {r' : Rn} {t' : Th.Tx} {c' : CS} {w2 : World} {p : Tree (Nat × (Rn × Th.Tx))} (h : RnAt W (N ++ R) T' X' Q pa pb pc pt px pr gc n cap cells lv0 told0 r' t' c' w2) (hx : exec p c = ((0, r', t'), c')) (hp : px ∈ R) (hh : HeldBy R w w2) (hB : ∀ b ∈ T' ++ X', b ∈ T ++ X ∨ w.heap.size ≤ b) : RnPost W R T X pa pb pc pt px pr gc n cap lv0 told0 p c w (.returned .nilIface) w2 :=
  PartAt.fin (E := []) (show PartAt W ([] ++ R) T' X' pa pb pc pt px _ r' t' c' w2 from h.part.less hp) hx .none hh (by simpa using hB)
/-- Behind a write. -/
theorem RnAt.wrote (h : RnAt W R T X Q pa pb pc pt px pr gc n cap cells lv0 told0 r t c w) {m : Nat} {t' : Th.Tx} {v : Value} {E B' : List Nat} {w' : World} (he : Err w' v m E) (ht : TxAt W pt t' B' w') (hk : Kept (fun b => b ∈ T) w w') (hB : ∀ b ∈ B', b ∈ T ∨ w.heap.size ≤ b) (hE : ∀ b ∈ E, w.heap.size ≤ b) (hEB : ∀ b ∈ E, b ∉ B') (hl : t'.sets.log.length < 1000000000) (hok : RnS cells t'.sets) :
    RnAt W (E ++ R) B' X Q pa pb pc pt px pr gc n cap cells lv0 told0 r t' c w' ∧ HeldBy R w w' := by
  have hz := hk.size
  have hltX : ∀ b ∈ X, b < w.heap.size := fun b hb => h.part.ctx.heldR b (by simp [hb])
  have hX : HeldBy X w w' := ⟨hz, fun b hb => hk.block b (hltX b hb) (fun e => h.part.st.apart b e hb)⟩
  have hR : HeldBy R w w' := ⟨hz, fun b hb => hk.block b (h.heldR b hb) (fun e => h.part.apart b (by simp [e]) hb)⟩
  have hlB := ht.lt
  have hlE := he.lt
  have hBX : ∀ b ∈ B', b ∉ X := fun b hb hm => by
    rcases hB b hb with q | q
    · exact h.part.st.apart b q hm
    · have := hltX b hm; omega
  have hBR : ∀ b ∈ B', b ∉ R := fun b hb hm => by
    rcases hB b hb with q | q
    · exact h.part.apart b (by simp [q]) hm
    · have := h.heldR b hm; omega
  refine ⟨⟨⟨h.part.ctx.step (hk.mono fun b _ e => by simp [e]) (h.part.ctx.below.trans (hk.below h.part.ctx.below.size fun b hb e => by have := h.part.st.tx.new b e; omega)) fun b hb => ?_, ⟨ht, (rnAux W pr px (.slice (some ⟨gc, 0, none⟩) n cap) lv0 told0).loc _ _ _ _ h.part.st.st hX, hBX⟩, fun b hb hm => ?_, h.part.tn.heldBy hR h.part.inX, by simp [h.part.inX], hl⟩, h.h0.heldBy hR h.in0, fun b hb => by simp [h.in0 b hb], h.arr.heldBy hR h.inG, by simp [h.inG], h.len, h.pos, h.few, h.small, hok, fun b hb => by simp [h.inQ b hb]⟩, hR⟩
  · rcases List.mem_append.1 hb with q | q
    · rcases List.mem_append.1 q with q | q
      · refine ⟨?_, hlB b q⟩
        rcases hB b q with z | z
        · exact .inl (by simp [z])
        · exact .inr z
      · exact ⟨.inl (by simp [q]), Nat.lt_of_lt_of_le (hltX b q) hz⟩
    · rcases List.mem_append.1 q with q | q
      · exact ⟨.inr (hE b q), hlE b q⟩
      · exact ⟨.inl (by simp [q]), Nat.lt_of_lt_of_le (h.heldR b q) hz⟩
  · rcases List.mem_append.1 hm with q | q
    · rcases List.mem_append.1 hb with z | z
      · exact hEB b q z
      · have := hltX b z; have := hE b q; omega
    · rcases List.mem_append.1 hb with z | z
      · exact hBR b z q
      · exact h.part.apart b (by simp [z]) q
/-- Behind a read. -/
theorem RnAt.readA (h : RnAt W R T X Q pa pb pc pt px pr gc n cap cells lv0 told0 r t c w) {t' : Th.Tx} {c' : CS} {E B' : List Nat} {w' : World} (ht : TxAt W pt t' B' w') (hc : Ctx W (E ++ (B' ++ (X ++ R))) pa pb pc c' w') (hh : HeldBy (X ++ R) w w') (hB : ∀ b ∈ E ++ B', b ∈ T ∨ w.heap.size ≤ b) (hEB : ∀ b ∈ E, b ∉ B') (hl : t'.sets.log.length < 1000000000) (hok : RnS cells t'.sets) :
    RnAt W (E ++ R) B' X Q pa pb pc pt px pr gc n cap cells lv0 told0 r t' c' w' := by
  have hltX : ∀ b ∈ X, b < w.heap.size := fun b hb => h.part.ctx.heldR b (by simp [hb])
  have hnX : ∀ b ∈ E ++ B', b ∉ X := fun b hb hm => by
    rcases hB b hb with q | q
    · exact h.part.st.apart b q hm
    · have := hltX b hm; omega
  refine h.next ⟨ht, (rnAux W pr px (.slice (some ⟨gc, 0, none⟩) n cap) lv0 told0).loc _ _ _ _ h.part.st.st (hh.less fun b hb => by simp [hb]), fun b hb => hnX b (by simp [hb])⟩ (hc.less fun b hb => ?_) (hh.less fun b hb => by simp [hb]) (fun b hb => ?_) (fun b hb hm => ?_) hl hok
  · simp only [List.mem_append] at hb ⊢
    rcases hb with q | (q | q) | q <;> simp [q]
  · rcases List.mem_append.1 hb with q | q
    · rcases hB b (by simp [q]) with z | z
      · exact .inl (by simp [z])
      · exact .inr z
    · rcases List.mem_append.1 q with q | q
      · rcases hB b (by simp [q]) with z | z
        · exact .inl (by simp [z])
        · exact .inr z
      · exact .inl (by simp [q])
  · rcases List.mem_append.1 hm with q | q
    · exact hEB b hb q
    · exact hnX b (by simp [hb]) q
/-- The end, with an error or none. -/
theorem RnAt.fin {N T' X' E : List Nat} {r' : Rn} {t' : Th.Tx} {c' : CS} {w2 : World} {m : Nat} {v : Value} {p : Tree (Nat × (Rn × Th.Tx))} (h : RnAt W (E ++ (N ++ R)) T' X' Q pa pb pc pt px pr gc n cap cells lv0 told0 r' t' c' w2) (hx : exec p c = ((m, r', t'), c')) (he : Err w2 v m E) (hh : HeldBy R w w2) (hB : ∀ b ∈ E ++ (T' ++ X'), b ∈ T ++ X ∨ w.heap.size ≤ b) : RnPost W R T X pa pb pc pt px pr gc n cap lv0 told0 p c w (.returned v) w2 :=
  ⟨m, (r', t'), c', v, E, T' ++ X', hx, rfl, he, ⟨T', X', rfl, h.part.st⟩, h.part.ctx.less fun b hb => by
    simp only [List.mem_append] at hb ⊢
    rcases hb with q | (q | q) | q <;> simp [q], hh, hB, fun b hb hm => h.part.apart b hm (by simp [hb])⟩
/-- A number is told. -/
theorem RnAt.tell (h : RnAt W R T X Q pa pb pc pt px pr gc n cap cells lv0 told0 r t c w) {w' : World} {lv2 : Value} {told2 : List Int} (hk : Kept (fun b => b = pr) w w') (hc : Cells w' pr (rnV px (.slice (some ⟨gc, 0, none⟩) n cap) r.regs lv2) 113) (hi : IntsAt w' lv2 told2) (hn : ∀ b ∈ lv2.ownBlock.toList, w.heap.size ≤ b ∧ b < w'.heap.size) :
    RnAt W R T (pr :: lv2.ownBlock.toList) Q pa pb pc pt px pr gc n cap cells lv0 told0 ⟨r.regs, told2⟩ t c w' ∧ HeldBy R w w' := by
  obtain ⟨lv, hr9, hpW, hCp, hlv, hpX, hXb⟩ := h.own
  have hpl : pr < w.heap.size := h.part.ctx.heldR pr (by simp [hpX])
  have hW := h.part.ctx.below.size
  refine h.touch hk ⟨lv2, hr9, hpW, hc, .inr ⟨rfl, hi, fun b hb => by have := hn b hb; omega⟩⟩ (fun b hb => ?_)
  rcases List.mem_cons.1 hb with q | q
  · exact ⟨.inl (by rw [q]; exact hpX), by have := hk.size; omega⟩
  · exact ⟨.inr (hn b q).1, (hn b q).2⟩
/-- Where one of two begins: what was told is laid aside. -/
theorem RnAt.or_start (h : RnAt W R T X Q pa pb pc pt px pr gc n cap cells lv0 told0 r t c w) {lv : Value} (hc : w.cell? ⟨pr, 11, none⟩ = some lv) : RnAt W (lv.ownBlock.toList ++ R) T [pr] Q pa pb pc pt px pr gc n cap cells lv r.told r t c w := by
  obtain ⟨lq, h1, h2, h3, h4⟩ := h.part.st.st
  obtain rfl : lq = lv := Option.some.inj ((rn_told h3 h1).symm.trans hc)
  have hpX : pr ∈ X := by
    rcases h4 with ⟨-, -, q⟩ | ⟨q, -, -⟩ <;> rw [q] <;> simp
  have hlX : ∀ b ∈ lq.ownBlock.toList, (b ∈ X ∨ b ∈ R) ∧ b ≠ pr := fun b hb => by
    rcases h4 with ⟨q, -, -⟩ | ⟨q, -, q3⟩
    · rw [q] at hb
      exact ⟨.inr (h.in0 b hb), fun e => h.part.apart pr (by simp [hpX]) (e ▸ h.in0 b hb)⟩
    · exact ⟨.inl (by rw [q]; exact List.mem_cons_of_mem _ hb), (q3 b hb).1⟩
  have hi : IntsAt w lq r.told := by
    rcases h4 with ⟨q, q2, -⟩ | ⟨-, q2, -⟩
    · have e : r.told = told0 := q2
      rw [q, e]; exact h.h0
    · exact q2
  refine ⟨⟨h.part.ctx.less fun b hb => ?_, ⟨h.part.st.tx, ⟨lq, h1, h2, h3, .inl ⟨rfl, rfl, rfl⟩⟩, fun b hb hm => ?_⟩, fun b hb hm => ?_, h.part.tn, by simp [h.part.inX], h.part.log⟩, hi, fun b hb => by simp [hb], h.arr, by simp [h.inG], h.len, h.pos, h.few, h.small, h.ok, fun b hb => by simp [h.inQ b hb]⟩
  · simp only [List.mem_append, List.mem_singleton] at hb ⊢
    rcases hb with (q | q) | q | q
    · simp [q]
    · simp [q, hpX]
    · rcases (hlX b q).1 with z | z <;> simp [z]
    · simp [q]
  · rw [List.mem_singleton] at hm
    exact h.part.st.apart b hb (hm ▸ hpX)
  · rcases List.mem_append.1 hm with q | q
    · rcases List.mem_append.1 hb with z | z
      · rcases (hlX b q).1 with u | u
        · exact h.part.st.apart b z u
        · exact h.part.apart b (by simp [z]) u
      · rw [List.mem_singleton] at z
        exact (hlX b q).2 z
    · rcases List.mem_append.1 hb with z | z
      · exact h.part.apart b (by simp [z]) q
      · rw [List.mem_singleton] at z
        exact h.part.apart pr (by simp [hpX]) (z ▸ q)
/-- Where it ends. -/
theorem RnAt.or_end (h : RnAt W R T X Q pa pb pc pt px pr gc n cap cells lv0 told0 r t c w) {lv : Value} (hc : w.cell? ⟨pr, 11, none⟩ = some lv) {p : Tree (Nat × (Rn × Th.Tx))} {en : Ending} {w' : World} (hp : RnPost W (lv.ownBlock.toList ++ R) T [pr] pa pb pc pt px pr gc n cap lv r.told p c w en w') : RnPost W R T X pa pb pc pt px pr gc n cap lv0 told0 p c w en w' := by
  obtain ⟨lq, h1, h2, h3, h4⟩ := h.part.st.st
  obtain rfl : lq = lv := Option.some.inj ((rn_told h3 h1).symm.trans hc)
  have hpX : pr ∈ X := by
    rcases h4 with ⟨-, -, q⟩ | ⟨q, -, -⟩ <;> rw [q] <;> simp
  obtain ⟨m, ⟨r2, t2⟩, c2, v, E, B', hx, hen, he, ⟨T2, X2, rfl, hst⟩, hcx, hh, hB, hEB⟩ := hp
  have key : ∃ X3, RnIn W pr px (.slice (some ⟨gc, 0, none⟩) n cap) lv0 told0 r2 X3 w' ∧ ∀ b ∈ X3, b ∈ X2 ∨ (b ∈ lq.ownBlock.toList ∧ b ∈ X ∧ b ≠ pr) := by
    obtain ⟨l2, g1, g2, g3, ⟨g4, g5, g6⟩ | ⟨g4, g5, g6⟩⟩ := hst.st
    · rcases h4 with ⟨q, q2, q3⟩ | ⟨q, q2, q3⟩
      · exact ⟨[pr], ⟨l2, g1, g2, g3, .inl ⟨g4.trans q, g5.trans q2, rfl⟩⟩, fun b hb => .inl (by rw [g6]; exact hb)⟩
      · refine ⟨pr :: l2.ownBlock.toList, ⟨l2, g1, g2, g3, .inr ⟨rfl, ?_, ?_⟩⟩, fun b hb => ?_⟩
        · have e : r2.told = r.told := g5
          rw [g4, e]
          exact q2.heldBy hh (fun b hb => by simp [hb])
        · rw [g4]; exact q3
        · rcases List.mem_cons.1 hb with z | z
          · exact .inl (by rw [g6, z]; simp)
          · rw [g4] at z
            exact .inr ⟨z, by rw [q]; exact List.mem_cons_of_mem _ z, (q3 b z).1⟩
    · exact ⟨X2, ⟨l2, g1, g2, g3, .inr ⟨g4, g5, g6⟩⟩, fun b hb => .inl hb⟩
  obtain ⟨X3, hin, hX3⟩ := key
  have hltX : ∀ b ∈ X, b < w.heap.size := fun b hb => h.part.ctx.heldR b (by simp [hb])
  have hno : ∀ b, b ∈ T ++ [pr] ∨ w.heap.size ≤ b → ¬ (b ∈ X ∧ b ≠ pr) := fun b hb hm => by
    rcases hb with q | q
    · rcases List.mem_append.1 q with z | z
      · exact h.part.st.apart b z hm.1
      · rw [List.mem_singleton] at z
        exact hm.2 z
    · have := hltX b hm.1; omega
  have hBX : ∀ b, b ∈ T ++ [pr] ∨ w.heap.size ≤ b → b ∈ T ++ X ∨ w.heap.size ≤ b := fun b hb => by
    rcases hb with q | q
    · rcases List.mem_append.1 q with z | z
      · exact .inl (by simp [z])
      · rw [List.mem_singleton] at z
        exact .inl (by simp [z, hpX])
    · exact .inr q
  refine ⟨m, (r2, t2), c2, v, E, T2 ++ X3, hx, hen, he, ⟨T2, X3, rfl, ⟨hst.tx, hin, fun b hb hm => ?_⟩⟩, hcx.less fun b hb => ?_, hh.less fun b hb => by simp [hb], fun b hb => ?_, fun b hb hm => ?_⟩
  · rcases hX3 b hm with q | ⟨-, q⟩
    · exact hst.apart b hb q
    · exact hno b (hB b (by simp [hb])) q
  · simp only [List.mem_append] at hb ⊢
    rcases hb with q | (q | q) | q
    · simp [q]
    · simp [q]
    · rcases hX3 b q with z | ⟨z, -⟩
      · simp [z]
      · exact .inr (.inr (.inl z))
    · simp [q]
  · rcases List.mem_append.1 hb with q | q
    · exact hBX b (hB b (by simp [q]))
    · rcases List.mem_append.1 q with q | q
      · exact hBX b (hB b (by simp [q]))
      · rcases hX3 b q with z | ⟨-, z, -⟩
        · exact hBX b (hB b (by simp [z]))
        · exact .inl (by simp [z])
  · rcases List.mem_append.1 hm with q | q
    · exact hEB b hb (by simp [q])
    · rcases hX3 b q with z | ⟨-, z⟩
      · exact hEB b hb (by simp [z])
      · exact hno b (hB b (by simp [hb])) z
end
end Go.Proofs.YtkpdacfiglpgeaaGreatDoor
