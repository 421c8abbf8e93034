/- A region that draws its order, gone through piece by piece: pieces that leave the world alone, and between them operations that come alone. No program stands here. -/
import Derived.StillTail
import Derived.Lib.Hide
namespace Go.Proofs.YtikgbgminhgpdaaGreatDoor
open Go Go.RowKit

section
variable {P : Program} {ops : Array Oper} {md : Region.Mode} {w : World}

/-- Each operation behind number n waits for one from n on. -/
def laterB (md : Region.Mode) (ops : Array Oper) (n : Nat) : Bool :=
  (List.range ops.size).all fun t => decide (t ≤ n) || (List.range t).any fun s => decide (n ≤ s) && Region.waitsFor md ops t s
theorem later_waits {n : Nat} {listed : Array Bool} (hs : Region.sinkB md ops n = true) (hc : laterB md ops n = true) (inv : HeadInv md ops n listed) :
    ∀ (d i : Nat), n - i = d → i < n → listed.getD i true = false → ∀ t, n ≤ t → t ∉ Region.ready md ops listed := by
  intro d
  induction d using Nat.strongRecOn with
  | _ d ih =>
    intro i hd hi hun t ht hr
    obtain ⟨_, ot, hot, hall⟩ := mem_ready.1 hr
    have htlt : t < ops.size := (Array.getElem?_eq_some_iff.1 hot).1
    rcases Nat.lt_or_ge n t with htn | htn
    · have h1 := List.all_eq_true.1 hc t (List.mem_range.2 htlt)
      simp only [Bool.or_eq_true, decide_eq_true_eq] at h1
      rcases h1 with h1 | h1
      · omega
      · obtain ⟨s, hsr, hs2⟩ := List.any_eq_true.1 h1
        simp only [Bool.and_eq_true, decide_eq_true_eq] at hs2
        have hst := List.mem_range.1 hsr
        obtain ⟨o', ho', e, he, hb, hon⟩ := Region.waitsFor_spec hs2.2
        have : o' = ot := Option.some.inj (ho'.symm.trans hot)
        subst this
        have h2 := hall e he hb
        rw [hon, getD_both (inv.tail s hs2.1 (by omega))] at h2
        cases h2
    · obtain rfl : t = n := by omega
      have h1 := List.all_eq_true.1 hs i (List.mem_range.2 hi)
      obtain ⟨j, hj, hj2⟩ := List.any_eq_true.1 h1
      simp only [Bool.and_eq_true, decide_eq_true_eq] at hj2
      obtain ⟨oj, hoj, e, he, hb, hon⟩ := Region.waitsFor_spec hj2.2
      have hjle : j ≤ t := by have := List.mem_range.1 hj; omega
      rcases Nat.lt_or_ge j t with hjt | hjt
      · cases hl : listed.getD j false with
        | true =>
          have h2 := inv.closed j oj hoj hl e he hb
          rw [hon, getD_both hun] at h2
          cases h2
        | false =>
          have hjs : j < listed.size := by rw [inv.size]; omega
          exact ih (t - j) (by omega) j rfl hjt (getD_in hjs hl) t (Nat.le_refl _) hr
      · obtain rfl : j = t := by omega
        have : oj = ot := Option.some.inj (hoj.symm.trans hot)
        subst this
        have h2 := hall e he hb
        rw [hon, getD_both hun] at h2
        cases h2
theorem seg_first {n i : Nat} {oi : Oper} {v : Value} {L : Array Bool → Act → Prop} (hi : ops[i]? = some oi) (hsel : ∀ (j : Nat) (o : Oper) cs b, ops[j]? = some o → o.op ≠ .select cs b)
    (hs : Region.sinkB md ops n = true) (hc : laterB md ops n = true) (hin : i < n)
    (hdone : ∀ listed a, L listed a → ∀ j ∈ Region.ready md ops listed, n ≤ j) :
    ∀ (f : Nat) (listed : Array Bool) (a : Act), HeadInv md ops n listed →
      (∀ j oj, ops[j]? = some oj → j ≠ i → listed.getD j true = false → (∀ e ∈ oj.after, Region.binds md e = true → e.on ≠ i) → oi.apart ops oj = true) →
      i ∈ Region.ready md ops listed → YieldsAt P ops w oi v a →
      wpAnyL P md ops w n L f (listed.setIfInBounds i true) (a.put oi.dst v) → wpAnyL P md ops w n L (f + 1) listed a := by
  intro f
  induction f with
  | zero =>
    intro listed a inv _ hr hy H
    have hun := (mem_ready.1 hr).1
    have hlow : ∀ j ∈ Region.ready md ops listed, j < n := fun j hj => Decidable.byContradiction fun q => later_waits hs hc inv _ i rfl hin hun j (by omega) hj
    refine ⟨fun h => (by rw [h] at hr; cases hr), fun j hj => ⟨hlow j hj, ?_⟩⟩
    by_cases hji : j = i
    · subst hji; exact hy.stOp hi H
    · have := hdone _ _ H j (ready_mono hj hji)
      have := hlow j hj
      omega
  | succ f ih =>
    intro listed a inv hfree hr hy H
    have hun := (mem_ready.1 hr).1
    have hlow : ∀ j ∈ Region.ready md ops listed, j < n := fun j hj => Decidable.byContradiction fun q => later_waits hs hc inv _ i rfl hin hun j (by omega) hj
    refine ⟨fun h => (by rw [h] at hr; cases hr), fun j hj => ⟨hlow j hj, ?_⟩⟩
    by_cases hji : j = i
    · subst hji; exact hy.stOp hi H
    · have h1 := (H.2 j (ready_mono hj hji)).2
      obtain ⟨hjun, oj, hoj, hall⟩ := mem_ready.1 hj
      have hnot : ∀ e ∈ oj.after, Region.binds md e = true → e.on ≠ i := fun e he hb heq => by
        have h1 := hall e he hb
        rw [heq, getD_both hun] at h1
        cases h1
      have h2 := stOp_put hoj (hfree j oj hoj hji hjun hnot) (fun cs b => hsel i oi cs b hi) (fun cs b => hsel j oj cs b hoj) hy h1
      refine stOp_mono (fun a' h3 => ih (listed.setIfInBounds j true) a' (inv.set hj (hlow j hj)) (fun k ok hk hki hun2 hno => hfree k ok hk hki ?_ hno) (ready_mono hr (Ne.symm hji)) h3.1 ?_) h2
      · by_cases hjk : j = k
        · subst hjk; exact hjun
        · rw [getD_set_ne true hjk] at hun2; exact hun2
      · rw [Array.setIfInBounds_comm _ _ hji]
        exact h3.2
/-- Numbers k .. n - 1 can be taken in their order. -/
def headB (md : Region.Mode) (ops : Array Oper) (n : Nat) : Nat → Nat → Array Bool → Bool
  | 0, _, listed => (Region.ready md ops listed).all fun j => decide (n ≤ j)
  | f + 1, k, listed => (Region.ready md ops listed).contains k && Region.free md ops listed k && headB md ops n f (k + 1) (listed.setIfInBounds k true)
/-- Those from k on, m of them, are listed. -/
def setN : Nat → Nat → Array Bool → Array Bool
  | 0, _, l => l
  | m + 1, k, l => setN m (k + 1) (l.setIfInBounds k true)
/-- What is listed at the start of a piece: all ahead of k, and no others. -/
def startB (md : Region.Mode) (ops : Array Oper) (k : Nat) (listed : Array Bool) : Bool :=
  decide (listed.size = ops.size ∧ k ≤ ops.size) && (List.range ops.size).all fun j => (listed.getD j false == decide (j < k)) && (!(decide (j < k)) || match ops[j]? with
    | some o => o.after.all fun e => !(Region.binds md e) || decide (e.on < k)
    | none => true)
theorem headInv_of {n k : Nat} {listed : Array Bool} (h : startB md ops k listed = true) (hk : k ≤ n) : HeadInv md ops n listed := by
  unfold startB at h
  simp only [Bool.and_eq_true, decide_eq_true_eq] at h
  obtain ⟨⟨h1, h0⟩, h2⟩ := h
  have hat : ∀ j, j < ops.size → listed.getD j false = decide (j < k) := fun j hj => by
    have := List.all_eq_true.1 h2 j (List.mem_range.2 hj)
    simp only [Bool.and_eq_true, beq_iff_eq] at this
    exact this.1
  have hout : ∀ j, ops.size ≤ j → listed.getD j false = false := fun j hj => by simp [Array.getElem?_eq_none (show listed.size ≤ j by omega)]
  refine ⟨h1, fun j oj hj hl e he hb => ?_, fun t ht ht' => ?_⟩
  · have hlt : j < ops.size := (Array.getElem?_eq_some_iff.1 hj).1
    have h3 := List.all_eq_true.1 h2 j (List.mem_range.2 hlt)
    rw [hat j hlt] at hl
    simp only [Bool.and_eq_true, hl, hj] at h3
    have h4 := h3.2
    simp only [Bool.not_true, Bool.false_or] at h4
    obtain ⟨q, hq, rfl⟩ := Array.getElem_of_mem he
    have h5 := Array.all_eq_true.1 h4 q hq
    rw [hb] at h5
    simp only [Bool.not_true, Bool.false_or, decide_eq_true_eq] at h5
    by_cases hon : oj.after[q].on < ops.size
    · rw [hat _ hon]; simpa using h5
    · omega
  · have h3 := hat t ht'
    rw [decide_eq_false (by omega)] at h3
    exact getD_in (by omega) h3
theorem seg_lex {n : Nat} {Lq : Act → Prop} (hsel : Region.noSelect ops = true) (hs : Region.sinkB md ops n = true) (hc : laterB md ops n = true) :
    ∀ (l : List Oper) (k : Nat) (listed : Array Bool) (a : Act), (∀ j, j < l.length → l[j]? = ops[k + j]?) → k + l.length = n → HeadInv md ops n listed →
    headB md ops n l.length k listed = true → wpStill P ops w Lq l a →
    wpAnyL P md ops w n (fun listed' a' => (∀ j ∈ Region.ready md ops listed', n ≤ j) ∧ Lq a' ∧ listed' = setN l.length k listed) l.length listed a
  | [], k, listed, a, _, _, _, hB, h => ⟨fun j hj => by
      have := List.all_eq_true.1 (show ((Region.ready md ops listed).all fun j => decide (n ≤ j)) = true from hB) j hj
      simpa using this, h, rfl⟩
  | o :: l, k, listed, a, hl, hk, inv, hB, h => by
    have h0 : ops[k]? = some o := by simpa using (hl 0 (by simp)).symm
    simp only [List.length_cons, headB, Bool.and_eq_true] at hB
    obtain ⟨⟨hr, hf⟩, hB'⟩ := hB
    have hkn : k < n := by simp only [List.length_cons] at hk; omega
    have hr' : k ∈ Region.ready md ops listed := by simpa using hr
    have hst : stOp P ops w k (wpStill P ops w Lq l) a := by unfold stOp; simp only [h0]; exact h
    obtain ⟨v, hy, hK⟩ := yieldsAt_of_stOp h0 hst
    exact seg_first h0 (Region.noSelect_spec hsel) hs hc hkn (fun listed' a' hL => hL.1) l.length listed a inv (Region.free_spec h0 hf) hr' hy
      (seg_lex hsel hs hc l (k + 1) _ _ (fun j hj => by have := hl (j + 1) (by simp; omega); simpa [Nat.add_assoc, Nat.add_comm 1 j] using this) (by simp only [List.length_cons] at hk; omega) (inv.set hr' hkn) hB' hK)
/-- A piece of m operations from number k on leaves the world alone. -/
def segB (ops : Array Oper) (k m : Nat) (listed : Array Bool) : Bool :=
  Region.noSelect ops && Region.sinkB .any ops (k + m) && laterB .any ops (k + m) && startB .any ops k listed && headB .any ops (k + m) m k listed && decide (k + m ≤ ops.size)
theorem seg_still {Q : Exit → Act → World → Prop} {a : Act} {listed : Array Bool} {g : Nat} (k m : Nat) (hB : segB ops k m listed = true)
    (h : wpStill P ops w (fun a' => wpAny P .any ops Q g (setN m k listed) a' w) ((ops.toList.drop k).take m) a) : wpAny P .any ops Q (m + g) listed a w := by
  simp only [segB, Bool.and_eq_true, decide_eq_true_eq] at hB
  obtain ⟨⟨⟨⟨⟨hsel, hs⟩, hc⟩, hst⟩, hh⟩, hz⟩ := hB
  have hlen : ((ops.toList.drop k).take m).length = m := by simp; omega
  have H := seg_lex (md := .any) (n := k + m) hsel hs hc ((ops.toList.drop k).take m) k listed a (fun j hj => by
    rw [hlen] at hj
    rw [List.getElem?_take, if_pos hj, List.getElem?_drop]
    simp) (by rw [hlen]) (headInv_of hst (by omega)) (by rw [hlen]; exact hh) h
  have := wpAny_of_head (Q' := Q) (g := g) (fun listed' a' hL => by rw [hL.2.2, hlen]; exact hL.2.1) _ _ _ H
  rw [hlen] at this
  exact this
theorem wp_then {o : Oper} {a : Act} {K : Act → World → Prop} {Q : Exit → Act → World → Prop} (h : o.wp P a w (wpList P ops (Exit.then K Q) []) (Exit.then K Q)) : o.wp P a w K Q := by
  unfold Oper.wp at *
  generalize (execOp a.eval o).run P w = r at *
  cases r with
  | ok n w' =>
    cases n with
    | enter f args =>
      refine Calls.mono h fun e w'' q => ?_
      cases e <;> exact q
    | _ => exact h
  | halt x w' => cases x <;> exact h
/-- An operation that comes alone. -/
theorem seg_one {Q : Exit → Act → World → Prop} {a : Act} {listed : Array Bool} {g : Nat} (k : Nat) {o : Oper} (ho : ops[k]? = some o) (hr : Region.ready .any ops listed = [k])
    (h : ∀ K : Act → World → Prop, Hid (∀ a w, wpAny P .any ops Q g (listed.setIfInBounds k true) a w → K a w) → wpList P ops (Exit.then K Q) [o] a w) : wpAny P .any ops Q (g + 1) listed a w := by
  refine wpAny_all hr (by simp) fun i hi => ?_
  obtain rfl : i = k := by simpa using hi
  have h := h _ (Lib.hid fun _ _ q => q)
  unfold wpOp
  simp only [ho]
  unfold wpList at h
  split
  · rename_i hw
    rw [if_pos hw] at h
    rcases h with h | h
    · exact .inl (wp_then h)
    · exact .inr h
  · rename_i hw
    rw [if_neg hw] at h
    exact h
theorem seg_end {Q : Exit → Act → World → Prop} {a : Act} {listed : Array Bool} (hr : Region.ready .any ops listed = []) (h : Q .normal a w) (g : Nat) : wpAny P .any ops Q g listed a w := wpAny_done hr h g
theorem still_skip {Q : Act → Prop} {a : Act} {o : Oper} {rest : List Oper} (hw : Region.wanted o (yielded ops a.tmps) = false) (h : wpStill P ops w Q rest (a.put o.dst undef)) : wpStill P ops w Q (o :: rest) a := by
  unfold wpStill
  rw [if_neg (by rw [hw]; exact Bool.false_ne_true)]
  exact h
theorem still_want {Q : Act → Prop} {a : Act} {o : Oper} {rest : List Oper} (hw : Region.wanted o (yielded ops a.tmps) = true) (h : ∀ K : Act → Prop, (∀ a, wpStill P ops w Q rest a → K a) → o.still P a w K) : wpStill P ops w Q (o :: rest) a := by
  unfold wpStill
  rw [if_pos hw]
  exact h _ fun _ q => q
/-- A piece that leaves the world alone, of a region that is written out. -/
theorem seg_lit {Q : Exit → Act → World → Prop} {a : Act} {listed : Array Bool} {g : Nat} {l : List Oper} (k m : Nat) (hB : segB l.toArray k m listed = true)
    (h : wpStill P l.toArray w (fun a' => wpAny P .any l.toArray Q g (setN m k listed) a' w) ((l.drop k).take m) a) : wpAny P .any l.toArray Q (m + g) listed a w :=
  seg_still k m hB (by simpa using h)
theorem seg_begin {id : Nat} {Q : Exit → Act → World → Prop} {a : Act} {l : List Oper} {f : Nat} (hm : P.follows .mixedOrders = true) (hf : l.length = f)
    (h : wpAny P .any l.toArray Q f (Array.replicate f false) a w.drew) : (Code.region id l.toArray true).wp P Q a w := by
  subst hf
  refine wp_region_any hm ?_
  simpa using h
end
end Go.Proofs.YtikgbgminhgpdaaGreatDoor
