/- The executor: from nothing; what is not run goes on. -/
import Derived.Test.YtgmdbfackbdnlaaGreatDoorSxEnv
import Derived.Test.YtgmdbfackbdnlaaGreatDoorSxExec
import Derived.Test.YtgmdbfackbdnlaaGreatDoorSxPrim
namespace Go.Proofs.YtgmdbfackbdnlaaGreatDoor
open Go.RowKit Bl Th Go.Sx
set_option maxRecDepth 10000

theorem set_case {α : Type} {t : Tr α} {i j : Nat} {x y : α} (h : (Tr.set 20 t i x).get? j = some y) (hi : i ≤ 1048574) : (j = i ∧ x = y) ∨ t.get? j = some y := by
  rw [Tr.get_set20 _ _ _ _ hi] at h
  split at h
  · rename_i e; exact .inl ⟨e, Option.some.inj h⟩
  · exact .inr h
theorem TrOk.node0 {α : Type} {Q : Nat → α → Prop} {a b : Nat} {l r : Tr α} (hl : TrOk Q l (2 * a) (a + b)) (hr : TrOk Q r (2 * a) (2 * a + b)) : TrOk Q (.node none l r) a b := by
  intro m y hy
  rcases halves m with rfl | ⟨i, rfl⟩ | ⟨i, rfl⟩
  · rw [Tr.get_zero] at hy; cases hy
  · rw [Tr.get_even] at hy
    have := hl i y hy
    rwa [show 2 * a * i + (a + b) = a * (2 * i + 1) + b by rw [Nat.mul_add, Nat.mul_comm 2 a, Nat.mul_assoc]; omega] at this
  · rw [Tr.get_odd] at hy
    have := hr i y hy
    rwa [show 2 * a * i + (2 * a + b) = a * (2 * i + 2) + b by rw [Nat.mul_add, Nat.mul_comm 2 a, Nat.mul_assoc]; omega] at this
section
variable {args : List Value} {m m' : Mem} {v : Value}
theorem pNo_grow {X : ET} (h : pNo X args m = some (v, m')) (_ : m.mode = 1) : m'.mode = m.mode ∧ m'.tl = m.tl := by
  unfold pNo at h
  split at h
  · obtain ⟨_, _, h⟩ := ob_some h
    cases h; exact ⟨rfl, rfl⟩
  · cases h
theorem pIs_grow {X : ET} (h : pIs X args m = some (v, m')) (_ : m.mode = 1) : m'.mode = m.mode ∧ m'.tl = m.tl := by
  unfold pIs at h
  split at h
  · obtain ⟨_, h⟩ := ifo_some h
    obtain ⟨_, _, h⟩ := ob_some h
    cases h; exact ⟨rfl, rfl⟩
  · cases h
theorem pOn_grow (h : pOn args m = some (v, m')) (hm : m.mode = 1) : m'.mode = m.mode ∧ m'.tl = m.tl := by
  unfold pOn at h
  split at h
  · obtain ⟨h1, h⟩ := ifo_some h
    simp only [Bool.and_eq_true] at h1
    have := Nat.eq_of_beq_eq_true h1.1.2
    omega
  · cases h
theorem pBLoad_grow (h : pBLoad args m = some (v, m')) (_ : m.mode = 1) : m'.mode = m.mode ∧ m'.tl = m.tl := by
  unfold pBLoad at h
  split at h
  · obtain ⟨_, _, h⟩ := ob_some h
    obtain ⟨_, h⟩ := ifo_some h
    cases h; exact ⟨rfl, rfl⟩
  · cases h
theorem pBAlloc_grow (h : pBAlloc args m = some (v, m')) (_ : m.mode = 1) : m'.mode = m.mode ∧ m'.tl = m.tl := by
  unfold pBAlloc at h
  split at h
  · obtain ⟨_, _, h⟩ := ob_some h
    obtain ⟨_, h⟩ := ifo_some h
    cases h; exact ⟨rfl, rfl⟩
  · cases h
theorem pBFree_grow (h : pBFree args m = some (v, m')) (_ : m.mode = 1) : m'.mode = m.mode ∧ m'.tl = m.tl := by
  unfold pBFree at h
  split at h
  · obtain ⟨_, _, h⟩ := ob_some h
    obtain ⟨_, h⟩ := ifo_some h
    cases h; exact ⟨rfl, rfl⟩
  · cases h
theorem pBStore_grow (h : pBStore args m = some (v, m')) (_ : m.mode = 1) : m'.mode = m.mode ∧ m'.tl = m.tl := by
  unfold pBStore at h
  split at h
  · obtain ⟨_, _, h⟩ := ob_some h
    obtain ⟨_, h⟩ := ifo_some h
    cases h; exact ⟨rfl, rfl⟩
  · cases h
theorem pBCAS_grow (h : pBCAS args m = some (v, m')) (_ : m.mode = 1) : m'.mode = m.mode ∧ m'.tl = m.tl := by
  unfold pBCAS at h
  split at h
  · obtain ⟨_, _, h⟩ := ob_some h
    obtain ⟨_, h⟩ := ifo_some h
    cases h; exact ⟨rfl, rfl⟩
  · cases h
theorem pLeft_grow (h : pLeft args m = some (v, m')) (_ : m.mode = 1) : m'.mode = m.mode ∧ m'.tl = m.tl := by
  unfold pLeft at h
  split at h
  · obtain ⟨_, h⟩ := ifo_some h
    cases h; exact ⟨rfl, rfl⟩
  · cases h
end
theorem conc0 (E : Env) (w : World) (hg : Handle w ∧ ∀ g, E.tab = some g → TabG g w) : Conc E ⟨w, [], 0, 0, 0, 0, [], ⟨[], 0, [], []⟩, fun _ => True⟩ (fun _ => none) m0 w :=
  ⟨Below.refl _ _, fun _ _ h => (by cases h), fun _ _ h => (by cases h), fun _ _ _ _ _ _ h => (by cases h), ⟨[], fun _ h => h, fun _ _ _ h => (by cases h), .inl ⟨rfl, rfl⟩⟩, fun _ h => (by cases h), fun h => absurd rfl h, fun h => absurd rfl h, fun _ _ _ h => (by cases h), fun _ _ => trivial, hg⟩
theorem start_run {P : Program} {E : Env} (hE : EnvOk P E) (hK : CmpOk P E) (hm : P.follows .mixedOrders = true) (hfn : ∀ f fn, E.fn f = some fn → FnOk fn) (hp : PrimsOk P E) {n : Nat} {F : FuncId} {args : List Value} (h : trueB (callX E n F args m0) = true) {args' : List Value} (hr : RelL (fun _ => none) args args') (w : World) (hg : Handle w ∧ ∀ g, E.tab = some g → TabG g w) :
    Calls P F ⟨args'⟩ w fun e w' => e = .returned (.bool true) ∧ Below w.heap.size w w' := by
  obtain ⟨outs, h1, h2⟩ := trueB_ok h
  refine (callX_ok hE hK hm hfn hp h1 _ (fun q hq => ?_) (conc0 E w hg) hr).mono ?_
  · intro hmode
    rw [(h2 q hq).2] at hmode
    cases hmode
  · rintro e w' ⟨v', rfl, q, hq, ρ', _, _, hv, hc⟩
    rw [(h2 q hq).1] at hv
    rw [rel_bool hv]
    exact ⟨rfl, hc.below⟩
theorem agg_rel {ρ : Ren} {a b : List Value} (h : RelL ρ a b) : Rel ρ (.agg ⟨a⟩) (.agg ⟨b⟩) := .agg a b h.1 h.2
/-! Calls that tell a value without blocks. -/
theorem flat_eqL {ρ : Ren} {f : Value → Bool} (h : ∀ x y, f x = true → Rel ρ x y → y = x) : ∀ (l r : List Value), (List.rec true (fun x _ ih => f x && ih) l : Bool) = true → RelL ρ l r → r = l
  | [], r, _, k => k.nil_inv
  | x :: l, r, hl, k => by
    have hl : (f x && (List.rec true (fun x _ ih => f x && ih) l : Bool)) = true := hl
    rw [Bool.and_eq_true] at hl
    obtain ⟨y, c, rfl, k1, k2⟩ := k.cons_inv
    rw [h x y hl.1 k1, flat_eqL h l c hl.2 k2]
theorem flat_eq {ρ : Ren} : ∀ (d : Nat) (v v' : Value), flat d v = true → Rel ρ v v' → v' = v
  | 0, _, _, h, _ => by cases h
  | d + 1, v, v', h, r => by
    cases r with
    | ptr i o q e => cases h
    | sl i o n c q e hc => cases h
    | slo i o n c q e hz => cases h
    | sle i o a c e => cases h
    | map i q e => cases h
    | func f a b c d' e1 h1 e2 h2 =>
      cases a with
      | cons y a => cases h
      | nil => cases c with
        | cons y c => cases h
        | nil =>
          obtain rfl : b = [] := List.length_eq_zero_iff.1 e1.symm
          obtain rfl : d' = [] := List.length_eq_zero_iff.1 e2.symm
          rfl
    | iface t x y r => rw [flat_eq d x y h r]
    | agg a b e ih => rw [flat_eqL (flat_eq d) a b h ⟨e, ih⟩]
    | tuple a b e ih => rw [flat_eqL (flat_eq d) a b h ⟨e, ih⟩]
    | wrd n e => cases h
    | unk n y e => cases h
    | _ => rfl
noncomputable def valB (V : Value) (r : R (List (Value × Mem))) : Bool := R.rec (fun l => allB (fun q => veq 20 q.1 V && Nat.beq q.2.mode 0) l) (fun _ => false) r
theorem valB_ok {V : Value} {r : R (List (Value × Mem))} (h : valB V r = true) : ∃ l, r = .ok l ∧ ∀ q ∈ l, q.1 = V ∧ q.2.mode = 0 := by
  cases r with
  | no w => cases h
  | ok l =>
    refine ⟨l, rfl, fun q hq => ?_⟩
    have h := allB_ok (show allB (fun q => veq 20 q.1 V && Nat.beq q.2.mode 0) l = true from h) q hq
    rw [Bool.and_eq_true] at h
    exact ⟨veq_eq _ _ _ h.1, Nat.eq_of_beq_eq_true h.2⟩
theorem start_val {P : Program} {E : Env} (hE : EnvOk P E) (hK : CmpOk P E) (hm : P.follows .mixedOrders = true) (hfn : ∀ f fn, E.fn f = some fn → FnOk fn) (hp : PrimsOk P E) {n : Nat} {F : FuncId} {args : List Value} {V : Value} (h : valB V (callX E n F args m0) = true) (hV : flat 20 V = true) {args' : List Value} (hr : RelL (fun _ => none) args args') (w : World) (hg : Handle w ∧ ∀ g, E.tab = some g → TabG g w) :
    Calls P F ⟨args'⟩ w fun e w' => e = .returned V ∧ Below w.heap.size w w' := by
  obtain ⟨outs, h1, h2⟩ := valB_ok h
  refine (callX_ok hE hK hm hfn hp h1 _ (fun q hq => ?_) (conc0 E w hg) hr).mono ?_
  · intro hmode
    rw [(h2 q hq).2] at hmode
    cases hmode
  · rintro e w' ⟨v', rfl, q, hq, ρ', _, _, hv, hc⟩
    rw [(h2 q hq).1] at hv
    rw [flat_eq 20 V v' hV hv]
    exact ⟨rfl, hc.below⟩
end Go.Proofs.YtgmdbfackbdnlaaGreatDoor
