/- Bodies as trees of accesses: what they do by a Ctx, what they do at once, and that a thread that runs alone does that. No program stands here. -/
import Derived.Test.YtgmdbfackbdnlaaGreatDoorThreadPlain
namespace Go.Proofs.YtgmdbfackbdnlaaGreatDoor.Th
open Bl

/-- A tree of accesses. -/
inductive Tree (α : Type) where
  | ret (a : α)
  | acc (op : BS → Ntry × BS) (k : Nat → Ntry → Tree α)
  | left (k : Int → Tree α)

def Tree.bind {α β : Type} : Tree α → (α → Tree β) → Tree β
  | .ret a, f => f a
  | .acc op k, f => .acc op fun n x => (k n x).bind f
  | .left k, f => .left fun n => (k n).bind f

/-- By a Ctx. -/
def exec {α : Type} : Tree α → CS → α × CS
  | .ret a, c => (a, c)
  | .acc op k, c => exec (k (access op c).1 (access op c).2.1) (access op c).2.2
  | .left k, c => exec (k (6000 - (c.next : Int))) c

theorem exec_bind {α β : Type} : ∀ (p : Tree α) (f : α → Tree β) (c : CS), exec (p.bind f) c = exec (f (exec p c).1) (exec p c).2
  | .ret _, _, _ => rfl
  | .acc _ k, f, _ => exec_bind (k _ _) f _
  | .left k, f, _ => exec_bind (k _) f _

/-- At once, from a place of the log on: what it comes to, the blocks behind it, and each entry with the blocks behind it. -/
def direct {α : Type} : Tree α → Nat → BS → α × List (Ntry × BS)
  | .ret a, _, _ => (a, [])
  | .acc op k, i, S => ((direct (k (op S).1.err (op S).1) (i + 1) (op S).2).1, op S :: (direct (k (op S).1.err (op S).1) (i + 1) (op S).2).2)
  | .left k, i, S => direct (k (6000 - (i : Int))) i S
def last (S : BS) (D : List (Ntry × BS)) : BS := (D.getLast?.map (·.2)).getD S
theorem last_nil (S : BS) : last S [] = S := rfl
theorem last_cons (S : BS) (x : Ntry × BS) (D : List (Ntry × BS)) : last S (x :: D) = last x.2 D := by
  unfold last
  cases D with
  | nil => rfl
  | cons y D => simp [List.getLast?_cons]
theorem last_append (S : BS) : ∀ (D E : List (Ntry × BS)), last S (D ++ E) = last (last S D) E
  | [], _ => rfl
  | x :: D, E => by
    rw [List.cons_append, last_cons, last_cons]
    exact last_append x.2 D E
theorem direct_bind {α β : Type} : ∀ (p : Tree α) (f : α → Tree β) (i : Nat) (S : BS), direct (p.bind f) i S = ((direct (f (direct p i S).1) (i + (direct p i S).2.length) (last S (direct p i S).2)).1, (direct p i S).2 ++ (direct (f (direct p i S).1) (i + (direct p i S).2.length) (last S (direct p i S).2)).2)
  | .ret a, f, i, S => by simp [direct, Tree.bind, last_nil]
  | .acc op k, f, i, S => by
    simp only [Tree.bind, direct]
    rw [direct_bind (k _ _) f]
    simp only [last_cons, List.length_cons, List.cons_append]
    rw [show i + 1 + (direct (k (op S).1.err (op S).1) (i + 1) (op S).2).2.length = i + ((direct (k (op S).1.err (op S).1) (i + 1) (op S).2).2.length + 1) by omega]
  | .left k, f, i, S => by
    simp only [Tree.bind, direct]
    exact direct_bind (k _) f i S

/-- When a step is over (11) it comes to its end at once, with something that is as Y says; along the way that it takes at once. -/
def quits {β : Type} (Y : β → Prop) : Tree (Nat × β) → Nat → BS → Prop
  | .ret _, _, _ => True
  | .acc op k, i, S => (op S).1.err ≤ 5 ∧ (∃ b, Y b ∧ k 11 blank = .ret (11, b)) ∧ quits Y (k (op S).1.err (op S).1) (i + 1) (op S).2
  | .left k, i, S => quits Y (k (6000 - (i : Int))) i S
theorem quits_bind {β γ : Type} {Y : β → Prop} {Z : γ → Prop} {f : Nat × β → Tree (Nat × γ)} (h1 : ∀ b, Y b → ∃ c, Z c ∧ f (11, b) = .ret (11, c)) : ∀ (p : Tree (Nat × β)) (i : Nat) (S : BS), quits Y p i S →
    quits Z (f (direct p i S).1) (i + (direct p i S).2.length) (last S (direct p i S).2) → quits Z (p.bind f) i S
  | .ret a, i, S, _, h2 => h2
  | .acc op k, i, S, ⟨ho, ⟨b, hy, e⟩, hk⟩, h2 => by
    obtain ⟨c, hz, e2⟩ := h1 b hy
    refine ⟨ho, ⟨c, hz, by show (k 11 blank).bind f = _; rw [e]; exact e2⟩, quits_bind h1 _ _ _ hk ?_⟩
    simp only [direct, last_cons, List.length_cons] at h2
    rw [Nat.add_assoc, Nat.add_comm 1]
    exact h2
  | .left k, i, S, h, h2 => quits_bind h1 (k _) i S h h2

/-- Behind an access that is done now: what comes is the end, or the step is over. -/
theorem exec_did {β : Type} {Y : β → Prop} (p : Tree (Nat × β)) {c : CS} (hd : c.did = true) (hn : c.next = c.log.length) (S : BS) (h : quits Y p c.next S) :
    ((direct p c.next S).2 = [] ∧ exec p c = ((direct p c.next S).1, c)) ∨ ((direct p c.next S).2 ≠ [] ∧ ∃ b, Y b ∧ exec p c = ((11, b), c)) := by
  induction p with
  | ret a => exact .inl ⟨rfl, rfl⟩
  | acc op k _ =>
    obtain ⟨_, ⟨b, hy, e⟩, _⟩ := h
    refine .inr ⟨by simp [direct], b, hy, ?_⟩
    have : access op c = (11, blank, c) := by
      unfold access
      rw [List.getElem?_eq_none (by omega)]
      simp [hd]
    simp only [exec, this, e]
  | left k ih => exact ih _ h

/-- A step of one alone, whose log is the first j entries of what it does at once. -/
theorem exec_step {β : Type} {Y : β → Prop} (p : Tree (Nat × β)) : ∀ (L : List Ntry) (j : Nat) (S : BS), quits Y p L.length S → j ≤ (direct p L.length S).2.length → L.length + (direct p L.length S).2.length ≤ 6000 →
    (j < (direct p L.length S).2.length ∧ ∃ a, exec p ⟨L ++ ((direct p L.length S).2.take j).map (·.1), L.length, false, last S ((direct p L.length S).2.take j)⟩ = (a, ⟨L ++ ((direct p L.length S).2.take (j + 1)).map (·.1), L.length + (j + 1), true, last S ((direct p L.length S).2.take (j + 1))⟩) ∧ ((j + 1 = (direct p L.length S).2.length ∧ a = (direct p L.length S).1) ∨ (j + 1 < (direct p L.length S).2.length ∧ ∃ b, Y b ∧ a = (11, b)))) ∨
    (j = (direct p L.length S).2.length ∧ exec p ⟨L ++ (direct p L.length S).2.map (·.1), L.length, false, last S (direct p L.length S).2⟩ = ((direct p L.length S).1, ⟨L ++ (direct p L.length S).2.map (·.1), L.length + j, false, last S (direct p L.length S).2⟩)) := by
  induction p with
  | ret a =>
    intro L j S hq hj hl
    simp only [direct, List.length_nil, Nat.le_zero] at hj
    subst hj
    exact .inr ⟨rfl, by simp [direct, exec, last_nil]⟩
  | left k ih =>
    intro L j S hq hj hl
    exact ih _ L j S hq hj hl
  | acc op k ih =>
    intro L j S hq hj hl
    obtain ⟨ho, hb, hq⟩ := hq
    obtain ⟨x, hx⟩ : ∃ x, op S = x := ⟨_, rfl⟩
    simp only [direct, hx, List.length_cons] at hj hl ho hq ⊢
    have ih' := ih x.1.err x.1 (L ++ [x.1])
    have hlen : (L ++ [x.1]).length = L.length + 1 := by simp
    rw [hlen] at ih'
    cases j with
    | zero =>
      left
      refine ⟨by omega, ?_⟩
      have hacc : access op ⟨L, L.length, false, S⟩ = (x.1.err, x.1, ⟨L ++ [x.1], L.length + 1, true, x.2⟩) := by
        unfold access
        simp only [List.getElem?_eq_none (Nat.le_refl _)]
        rw [if_neg (by simp), if_neg (by omega), hx]
      have hd := exec_did (k x.1.err x.1) (c := ⟨L ++ [x.1], L.length + 1, true, x.2⟩) rfl (by simp) x.2 hq
      simp only [List.take_zero, List.map_nil, List.append_nil, last_nil, Nat.zero_add, List.take_succ_cons, List.map_cons, last_cons, exec, hacc]
      rcases hd with ⟨e1, e2⟩ | ⟨e1, b, hy, e2⟩
      · exact ⟨_, e2, .inl ⟨by simp only at e1; rw [e1]; rfl, rfl⟩⟩
      · refine ⟨_, e2, .inr ⟨?_, b, hy, rfl⟩⟩
        have := List.length_pos_iff.2 e1
        simp only at this
        omega
    | succ j =>
      have hacc : ∀ (M : List Ntry) (T : BS), access op ⟨L ++ (x.1 :: M), L.length, false, T⟩ = (x.1.err, x.1, ⟨L ++ (x.1 :: M), L.length + 1, false, T⟩) := by
        intro M T
        unfold access
        simp
      simp only [List.take_succ_cons, List.map_cons, last_cons, exec, hacc]
      rcases ih' j x.2 hq (by omega) (by omega) with ⟨a1, a, a2, a3⟩ | ⟨a1, a2⟩
      · left
        refine ⟨by omega, a, ?_, ?_⟩
        · simp only [List.append_assoc, List.singleton_append] at a2
          rw [a2]
          simp only [Nat.add_assoc, Nat.add_comm 1]
        · rcases a3 with ⟨b1, b2⟩ | ⟨b1, b2⟩
          · exact .inl ⟨by omega, b2⟩
          · exact .inr ⟨by omega, b2⟩
      · right
        refine ⟨by omega, ?_⟩
        simp only [List.append_assoc, List.singleton_append] at a2
        rw [a2]
        simp only [Nat.add_assoc, Nat.add_comm 1]

theorem run_done {σ : Type} (F : Prog σ) (n : Nat) (s : Nat × TS σ × BS) (h : s.2.1.done = true) : run F n s = s := by
  cases n with
  | zero => rfl
  | succ n => unfold run; rw [if_pos h]
/-- Such a tree as a body: what it comes to changes what the body keeps. -/
def treeBody {σ : Type} (P : Nat → Tree (Nat × (σ → σ))) : Prog σ := fun s r c => ((exec (P r) c).1.1, (exec (P r) c).2, (exec (P r) c).1.2 s)

/-- One that runs alone does what the tree does at once. -/
theorem run_alone {σ : Type} {P : Nat → Tree (Nat × (σ → σ))} {J : σ → Prop} {S : BS} (hq : quits (fun f => ∀ s, J s → J (f s)) (P 0) 0 S) {a : Nat × (σ → σ)} {D : List (Ntry × BS)} (hd : direct (P 0) 0 S = (a, D)) (hl : D.length ≤ 6000) (h11 : a.1 ≠ 11) (h12 : a.1 ≠ 12) :
    ∀ (m j e : Nat) (s : σ), J s → j < max 1 D.length → max 1 D.length ≤ j + m →
    ∃ s', J s' ∧ run (treeBody P) m (e, ⟨(D.take j).map (·.1), 0, j, false, 0, s⟩, last S (D.take j)) = (a.1, ⟨D.map (·.1), 0, max 1 D.length, true, a.1, a.2 s'⟩, last S D)
  | 0, j, e, s, hs, hj, hm => by omega
  | m + 1, j, e, s, hs, hj, hm => by
    have hst := exec_step (P 0) [] j S hq
    simp only [List.length_nil, hd, List.nil_append, Nat.zero_add] at hst
    have hun : run (treeBody P) (m + 1) (e, ⟨(D.take j).map (·.1), 0, j, false, 0, s⟩, last S (D.take j)) = run (treeBody P) m (step (treeBody P) ⟨(D.take j).map (·.1), 0, j, false, 0, s⟩ (last S (D.take j))) := by
      conv => lhs; unfold run
      rw [if_neg (by simp)]
    rw [hun]
    have hs1 : ∀ (x : Nat × (σ → σ)) (c : CS), exec (P 0) ⟨(D.take j).map (·.1), 0, false, last S (D.take j)⟩ = (x, c) → step (treeBody P) ⟨(D.take j).map (·.1), 0, j, false, 0, s⟩ (last S (D.take j)) = if x.1 = 11 then (0, ⟨c.log, 0, j + 1, false, 0, x.2 s⟩, c.bs) else if x.1 ≠ 12 then (x.1, ⟨c.log, 0, j + 1, true, x.1, x.2 s⟩, c.bs) else (0, ⟨[], 1, j + 1, false, 0, x.2 s⟩, c.bs) := by
      intro x c hx
      unfold step
      rw [if_neg (by simp)]
      simp only [treeBody, hx, show ¬ (40 ≤ 0 + 1) by omega, if_false, Nat.zero_add]
    rcases hst (by omega) hl with ⟨hlt, a', he, h⟩ | ⟨he0, he⟩
    · rw [hs1 _ _ he]
      rcases h with ⟨h1, rfl⟩ | ⟨h1, b, hb, rfl⟩
      · rw [if_neg h11, if_pos h12]
        refine ⟨s, hs, ?_⟩
        rw [run_done]
        · rw [show j + 1 = D.length from h1, List.take_length, show max 1 D.length = D.length by omega]
        · rfl
      · rw [if_pos rfl]
        exact run_alone hq hd hl h11 h12 m (j + 1) 0 (b s) (hb s hs) (by omega) (by omega)
    · have hz : D.length = 0 := by omega
      rw [List.length_eq_zero_iff] at hz
      subst hz
      simp only [List.length_nil] at he0
      subst he0
      simp only [List.map_nil] at he
      simp only [List.take_nil, List.map_nil, Nat.zero_add] at hs1 ⊢
      rw [hs1 _ _ he, if_neg h11, if_pos h12]
      refine ⟨s, hs, ?_⟩
      rw [run_done]
      · rfl
      · rfl
end Go.Proofs.YtgmdbfackbdnlaaGreatDoor.Th
