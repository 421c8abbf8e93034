/- RefPlain: ActPlain, MetaPlain, SetsPlain, RefPlain, BodyPlain13. -/
import Derived.Test.YtmdganpealbmpaaGreatDoorThreadPlain

/- Bodies as trees of accesses: what they do by a Ctx, what they do at once, and that a thread that runs alone does that. No program stands here. -/
namespace Go.Proofs.YtmdganpealbmpaaGreatDoor.Th
open Bl

/-- A tree of accesses. -/
inductive Tree (α : Type) where
  | ret (a : α)
  | acc (op : BS → Ntry × BS) (k : Nat → Ntry → Tree α)
  | left (k : Int → Tree α)

def Tree.bind {α β : Type} : Tree α → (α → Tree β) → Tree β
  | .ret a, f => f a
  | .acc op k, f => .acc op fun n x => (k n x).bind f
  | .left k, f => .left fun n => (k n).bind f

/-- By a Ctx. -/
def exec {α : Type} : Tree α → CS → α × CS
  | .ret a, c => (a, c)
  | .acc op k, c => exec (k (access op c).1 (access op c).2.1) (access op c).2.2
  | .left k, c => exec (k (6000 - (c.next : Int))) c

theorem exec_bind {α β : Type} : ∀ (p : Tree α) (f : α → Tree β) (c : CS), exec (p.bind f) c = exec (f (exec p c).1) (exec p c).2
  | .ret _, _, _ => rfl
  | .acc _ k, f, _ => exec_bind (k _ _) f _
  | .left k, f, _ => exec_bind (k _) f _

/-- At once, from a place of the log on: what it comes to, the blocks behind it, and each entry with the blocks behind it. -/
def direct {α : Type} : Tree α → Nat → BS → α × List (Ntry × BS)
  | .ret a, _, _ => (a, [])
  | .acc op k, i, S => ((direct (k (op S).1.err (op S).1) (i + 1) (op S).2).1, op S :: (direct (k (op S).1.err (op S).1) (i + 1) (op S).2).2)
  | .left k, i, S => direct (k (6000 - (i : Int))) i S
def last (S : BS) (D : List (Ntry × BS)) : BS := (D.getLast?.map (·.2)).getD S
theorem last_nil (S : BS) : last S [] = S := rfl
theorem last_cons (S : BS) (x : Ntry × BS) (D : List (Ntry × BS)) : last S (x :: D) = last x.2 D := by
  unfold last
  cases D with
  | nil => rfl
  | cons y D => simp [List.getLast?_cons]
theorem last_append (S : BS) : ∀ (D E : List (Ntry × BS)), last S (D ++ E) = last (last S D) E
  | [], _ => rfl
  | x :: D, E => by
    rw [List.cons_append, last_cons, last_cons]
    exact last_append x.2 D E
theorem direct_bind {α β : Type} : ∀ (p : Tree α) (f : α → Tree β) (i : Nat) (S : BS), direct (p.bind f) i S = ((direct (f (direct p i S).1) (i + (direct p i S).2.length) (last S (direct p i S).2)).1, (direct p i S).2 ++ (direct (f (direct p i S).1) (i + (direct p i S).2.length) (last S (direct p i S).2)).2)
  | .ret a, f, i, S => by simp [direct, Tree.bind, last_nil]
  | .acc op k, f, i, S => by
    simp only [Tree.bind, direct]
    rw [direct_bind (k _ _) f]
    simp only [last_cons, List.length_cons, List.cons_append]
    rw [show i + 1 + (direct (k (op S).1.err (op S).1) (i + 1) (op S).2).2.length = i + ((direct (k (op S).1.err (op S).1) (i + 1) (op S).2).2.length + 1) by omega]
  | .left k, f, i, S => by
    simp only [Tree.bind, direct]
    exact direct_bind (k _) f i S

/-- When a step is over (11) it comes to its end at once, with something that is as Y says; along the way that it takes at once. -/
def quits {β : Type} (Y : β → Prop) : Tree (Nat × β) → Nat → BS → Prop
  | .ret _, _, _ => True
  | .acc op k, i, S => (op S).1.err ≤ 5 ∧ (∃ b, Y b ∧ k 11 blank = .ret (11, b)) ∧ quits Y (k (op S).1.err (op S).1) (i + 1) (op S).2
  | .left k, i, S => quits Y (k (6000 - (i : Int))) i S
theorem quits_bind {β γ : Type} {Y : β → Prop} {Z : γ → Prop} {f : Nat × β → Tree (Nat × γ)} (h1 : ∀ b, Y b → ∃ c, Z c ∧ f (11, b) = .ret (11, c)) : ∀ (p : Tree (Nat × β)) (i : Nat) (S : BS), quits Y p i S →
    quits Z (f (direct p i S).1) (i + (direct p i S).2.length) (last S (direct p i S).2) → quits Z (p.bind f) i S
  | .ret a, i, S, _, h2 => h2
  | .acc op k, i, S, ⟨ho, ⟨b, hy, e⟩, hk⟩, h2 => by
    obtain ⟨c, hz, e2⟩ := h1 b hy
    refine ⟨ho, ⟨c, hz, by show (k 11 blank).bind f = _; rw [e]; exact e2⟩, quits_bind h1 _ _ _ hk ?_⟩
    simp only [direct, last_cons, List.length_cons] at h2
    rw [Nat.add_assoc, Nat.add_comm 1]
    exact h2
  | .left k, i, S, h, h2 => quits_bind h1 (k _) i S h h2

/-- Behind an access that is done now: what comes is the end, or the step is over. -/
theorem exec_did {β : Type} {Y : β → Prop} (p : Tree (Nat × β)) {c : CS} (hd : c.did = true) (hn : c.next = c.log.length) (S : BS) (h : quits Y p c.next S) :
    ((direct p c.next S).2 = [] ∧ exec p c = ((direct p c.next S).1, c)) ∨ ((direct p c.next S).2 ≠ [] ∧ ∃ b, Y b ∧ exec p c = ((11, b), c)) := by
  induction p with
  | ret a => exact .inl ⟨rfl, rfl⟩
  | acc op k _ =>
    obtain ⟨_, ⟨b, hy, e⟩, _⟩ := h
    refine .inr ⟨by simp [direct], b, hy, ?_⟩
    have : access op c = (11, blank, c) := by
      unfold access
      rw [List.getElem?_eq_none (by omega)]
      simp [hd]
    simp only [exec, this, e]
  | left k ih => exact ih _ h

/-- A step of one alone, whose log is the first j entries of what it does at once. -/
theorem exec_step {β : Type} {Y : β → Prop} (p : Tree (Nat × β)) : ∀ (L : List Ntry) (j : Nat) (S : BS), quits Y p L.length S → j ≤ (direct p L.length S).2.length → L.length + (direct p L.length S).2.length ≤ 6000 →
    (j < (direct p L.length S).2.length ∧ ∃ a, exec p ⟨L ++ ((direct p L.length S).2.take j).map (·.1), L.length, false, last S ((direct p L.length S).2.take j)⟩ = (a, ⟨L ++ ((direct p L.length S).2.take (j + 1)).map (·.1), L.length + (j + 1), true, last S ((direct p L.length S).2.take (j + 1))⟩) ∧ ((j + 1 = (direct p L.length S).2.length ∧ a = (direct p L.length S).1) ∨ (j + 1 < (direct p L.length S).2.length ∧ ∃ b, Y b ∧ a = (11, b)))) ∨
    (j = (direct p L.length S).2.length ∧ exec p ⟨L ++ (direct p L.length S).2.map (·.1), L.length, false, last S (direct p L.length S).2⟩ = ((direct p L.length S).1, ⟨L ++ (direct p L.length S).2.map (·.1), L.length + j, false, last S (direct p L.length S).2⟩)) := by
  induction p with
  | ret a =>
    intro L j S hq hj hl
    simp only [direct, List.length_nil, Nat.le_zero] at hj
    subst hj
    exact .inr ⟨rfl, by simp [direct, exec, last_nil]⟩
  | left k ih =>
    intro L j S hq hj hl
    exact ih _ L j S hq hj hl
  | acc op k ih =>
    intro L j S hq hj hl
    obtain ⟨ho, hb, hq⟩ := hq
    obtain ⟨x, hx⟩ : ∃ x, op S = x := ⟨_, rfl⟩
    simp only [direct, hx, List.length_cons] at hj hl ho hq ⊢
    have ih' := ih x.1.err x.1 (L ++ [x.1])
    have hlen : (L ++ [x.1]).length = L.length + 1 := by simp
    rw [hlen] at ih'
    cases j with
    | zero =>
      left
      refine ⟨by omega, ?_⟩
      have hacc : access op ⟨L, L.length, false, S⟩ = (x.1.err, x.1, ⟨L ++ [x.1], L.length + 1, true, x.2⟩) := by
        unfold access
        simp only [List.getElem?_eq_none (Nat.le_refl _)]
        rw [if_neg (by simp), if_neg (by omega), hx]
      have hd := exec_did (k x.1.err x.1) (c := ⟨L ++ [x.1], L.length + 1, true, x.2⟩) rfl (by simp) x.2 hq
      simp only [List.take_zero, List.map_nil, List.append_nil, last_nil, Nat.zero_add, List.take_succ_cons, List.map_cons, last_cons, exec, hacc]
      rcases hd with ⟨e1, e2⟩ | ⟨e1, b, hy, e2⟩
      · exact ⟨_, e2, .inl ⟨by simp only at e1; rw [e1]; rfl, rfl⟩⟩
      · refine ⟨_, e2, .inr ⟨?_, b, hy, rfl⟩⟩
        have := List.length_pos_iff.2 e1
        simp only at this
        omega
    | succ j =>
      have hacc : ∀ (M : List Ntry) (T : BS), access op ⟨L ++ (x.1 :: M), L.length, false, T⟩ = (x.1.err, x.1, ⟨L ++ (x.1 :: M), L.length + 1, false, T⟩) := by
        intro M T
        unfold access
        simp
      simp only [List.take_succ_cons, List.map_cons, last_cons, exec, hacc]
      rcases ih' j x.2 hq (by omega) (by omega) with ⟨a1, a, a2, a3⟩ | ⟨a1, a2⟩
      · left
        refine ⟨by omega, a, ?_, ?_⟩
        · simp only [List.append_assoc, List.singleton_append] at a2
          rw [a2]
          simp only [Nat.add_assoc, Nat.add_comm 1]
        · rcases a3 with ⟨b1, b2⟩ | ⟨b1, b2⟩
          · exact .inl ⟨by omega, b2⟩
          · exact .inr ⟨by omega, b2⟩
      · right
        refine ⟨by omega, ?_⟩
        simp only [List.append_assoc, List.singleton_append] at a2
        rw [a2]
        simp only [Nat.add_assoc, Nat.add_comm 1]

theorem run_done {σ : Type} (F : Prog σ) (n : Nat) (s : Nat × TS σ × BS) (h : s.2.1.done = true) : run F n s = s := by
  cases n with
  | zero => rfl
  | succ n => unfold run; rw [if_pos h]
/-- Such a tree as a body: what it comes to changes what the body keeps. -/
def treeBody {σ : Type} (P : Nat → Tree (Nat × (σ → σ))) : Prog σ := fun s r c => ((exec (P r) c).1.1, (exec (P r) c).2, (exec (P r) c).1.2 s)

/-- One that runs alone does what the tree does at once. -/
theorem run_alone {σ : Type} {P : Nat → Tree (Nat × (σ → σ))} {J : σ → Prop} {S : BS} (hq : quits (fun f => ∀ s, J s → J (f s)) (P 0) 0 S) {a : Nat × (σ → σ)} {D : List (Ntry × BS)} (hd : direct (P 0) 0 S = (a, D)) (hl : D.length ≤ 6000) (h11 : a.1 ≠ 11) (h12 : a.1 ≠ 12) :
    ∀ (m j e : Nat) (s : σ), J s → j < max 1 D.length → max 1 D.length ≤ j + m →
    ∃ s', J s' ∧ run (treeBody P) m (e, ⟨(D.take j).map (·.1), 0, j, false, 0, s⟩, last S (D.take j)) = (a.1, ⟨D.map (·.1), 0, max 1 D.length, true, a.1, a.2 s'⟩, last S D)
  | 0, j, e, s, hs, hj, hm => by omega
  | m + 1, j, e, s, hs, hj, hm => by
    have hst := exec_step (P 0) [] j S hq
    simp only [List.length_nil, hd, List.nil_append, Nat.zero_add] at hst
    have hun : run (treeBody P) (m + 1) (e, ⟨(D.take j).map (·.1), 0, j, false, 0, s⟩, last S (D.take j)) = run (treeBody P) m (step (treeBody P) ⟨(D.take j).map (·.1), 0, j, false, 0, s⟩ (last S (D.take j))) := by
      conv => lhs; unfold run
      rw [if_neg (by simp)]
    rw [hun]
    have hs1 : ∀ (x : Nat × (σ → σ)) (c : CS), exec (P 0) ⟨(D.take j).map (·.1), 0, false, last S (D.take j)⟩ = (x, c) → step (treeBody P) ⟨(D.take j).map (·.1), 0, j, false, 0, s⟩ (last S (D.take j)) = if x.1 = 11 then (0, ⟨c.log, 0, j + 1, false, 0, x.2 s⟩, c.bs) else if x.1 ≠ 12 then (x.1, ⟨c.log, 0, j + 1, true, x.1, x.2 s⟩, c.bs) else (0, ⟨[], 1, j + 1, false, 0, x.2 s⟩, c.bs) := by
      intro x c hx
      unfold step
      rw [if_neg (by simp)]
      simp only [treeBody, hx, show ¬ (40 ≤ 0 + 1) by omega, if_false, Nat.zero_add]
    rcases hst (by omega) hl with ⟨hlt, a', he, h⟩ | ⟨he0, he⟩
    · rw [hs1 _ _ he]
      rcases h with ⟨h1, rfl⟩ | ⟨h1, b, hb, rfl⟩
      · rw [if_neg h11, if_pos h12]
        refine ⟨s, hs, ?_⟩
        rw [run_done]
        · rw [show j + 1 = D.length from h1, List.take_length, show max 1 D.length = D.length by omega]
        · rfl
      · rw [if_pos rfl]
        exact run_alone hq hd hl h11 h12 m (j + 1) 0 (b s) (hb s hs) (by omega) (by omega)
    · have hz : D.length = 0 := by omega
      rw [List.length_eq_zero_iff] at hz
      subst hz
      simp only [List.length_nil] at he0
      subst he0
      simp only [List.map_nil] at he
      simp only [List.take_nil, List.map_nil, Nat.zero_add] at hs1 ⊢
      rw [hs1 _ _ he, if_neg h11, if_pos h12]
      refine ⟨s, hs, ?_⟩
      rw [run_done]
      · rfl
      · rfl
end Go.Proofs.YtmdganpealbmpaaGreatDoor.Th

/- Layer 6 (meta), as trees of accesses. No program stands here. -/
namespace Go.Proofs.YtmdganpealbmpaaGreatDoor.Th
open Bl

def ld (ref : Nat) (i : Int) : Tree (Nat × Nat) := .acc (opLoad ref i) fun n x => .ret (n, x.word)
def sto (ref : Nat) (i : Int) (x : Nat) : Tree (Nat × Unit) := .acc (opStore ref i x) fun n _ => .ret (n, ())
def cas (ref : Nat) (i : Int) (old x : Nat) : Tree (Nat × Bool) := .acc (opCAS ref i old x) fun n x => .ret (n, x.done)
def al (n : Int) : Tree (Nat × Nat) := .acc (opAlloc n) fun n x => .ret (n, x.ref)
def fr (ref : Nat) : Tree (Nat × Unit) := .acc (opFree ref) fun n _ => .ret (n, ())

/-- A word as an int. -/
def toI (w : Nat) : Int := if w < 9223372036854775808 then w else (w : Int) - 18446744073709551616
/-- An int as a word. -/
def toU (x : Int) : Nat := (x % 18446744073709551616).toNat
def inc (w : Nat) : Nat := (w + 1) % 18446744073709551616

/-- What a word tells of a cell. -/
structure Mt where
  ver : Int
  own : Int
  chg : Bool
  wait : Bool
  deriving DecidableEq
def Mt.zero : Mt := ⟨0, 0, false, false⟩
def unM (x : Nat) : Mt := ⟨(x / 65536 : Nat), (x / 256 % 256 : Nat), decide (x % 2 = 1), decide (x / 2 % 2 = 1)⟩
def Mt.fits (m : Mt) : Prop := 0 ≤ m.ver ∧ m.ver ≤ 281474976710655 ∧ 0 ≤ m.own ∧ m.own ≤ 255
instance (m : Mt) : Decidable m.fits := by unfold Mt.fits; infer_instance
/-- The error's number, and the word. -/
def packM (m : Mt) : Nat × Nat := if m.fits then (0, 65536 * m.ver.toNat + 256 * m.own.toNat + 2 * m.wait.toNat + m.chg.toNat) else (2, 0)

def mNow (clock : Nat) : Tree (Nat × Int) := (ld clock 0).bind fun r => .ret (r.1, toI r.2)
def mTickN (clock : Nat) : Nat → Tree (Nat × Int)
  | 0 => .ret (12, 0)
  | t + 1 => (ld clock 0).bind fun r => if r.1 = 0 then (cas clock 0 r.2 (inc r.2)).bind fun q => if q.1 = 0 then (if q.2 then .ret (0, toI (inc r.2)) else mTickN clock t) else .ret (q.1, 0) else .ret (r.1, 0)
def mTick (clock : Nat) : Tree (Nat × Int) := mTickN clock 8
def mNewCell (value : Nat) : Tree (Nat × Nat) := (al 2).bind fun r => if r.1 = 0 then (sto r.2 1 value).bind fun q => .ret (q.1, if q.1 = 0 then r.2 else 0) else .ret (r.1, 0)
def mPeek (cell : Nat) : Tree (Nat × Mt) := (ld cell 0).bind fun r => .ret (r.1, if r.1 = 0 then unM r.2 else .zero)
def mReadN (cell : Nat) : Nat → Nat × Nat → Tree (Nat × (Nat × Int))
  | 0, _ => .ret (12, 0, 0)
  | t + 1, r => if r.1 = 0 then (if (unM r.2).chg then .ret (12, 0, 0) else (ld cell 1).bind fun v => if v.1 = 0 then (ld cell 0).bind fun q => if q.1 = 0 ∧ q.2 = r.2 then .ret (0, v.2, (unM r.2).ver) else mReadN cell t q else .ret (v.1, 0, 0)) else .ret (r.1, 0, 0)
def mRead (cell : Nat) : Tree (Nat × (Nat × Int)) := (ld cell 0).bind (mReadN cell 8)
def mTurnIn (cell : Nat) (ver : Int) (m o : Mt) (next : Tree (Nat × Unit)) : Tree (Nat × Unit) :=
  if m.chg = true ∨ m.ver ≠ ver then .ret (12, ()) else if o = m then .ret (0, ()) else if (packM m).1 = 0 then (if (packM o).1 = 0 then
    (cas cell 0 (packM m).2 (packM o).2).bind fun q => if q.1 = 0 then (if q.2 then .ret (0, ()) else next) else .ret (q.1, ()) else .ret ((packM o).1, ())) else .ret ((packM m).1, ())
def mTurnN (cell : Nat) (ver : Int) (to' : Mt → Mt) : Nat → Tree (Nat × Unit)
  | 0 => .ret (12, ())
  | t + 1 => (mPeek cell).bind fun r => if r.1 = 0 then mTurnIn cell ver r.2 (to' r.2) (mTurnN cell ver to' t) else .ret (r.1, ())
def mLock (cell : Nat) (ver own : Int) : Tree (Nat × Unit) := mTurnN cell ver (fun m => { m with own := own, chg := true }) 8
def mAwait (cell : Nat) (ver : Int) : Tree (Nat × Unit) := mTurnN cell ver (fun m => { m with wait := true }) 8
def mLocked (cell : Nat) : Tree (Nat × Mt) := (mPeek cell).bind fun r => .ret (if r.1 = 0 then (if r.2.chg then 0 else 2) else r.1, r.2)
def mPut (cell : Nat) (m : Mt) : Tree (Nat × Unit) := if (packM m).1 = 0 then sto cell 0 (packM m).2 else .ret ((packM m).1, ())
def mCommit (cell value : Nat) (ver : Int) : Tree (Nat × Bool) := (mLocked cell).bind fun r => if r.1 = 0 then (sto cell 1 value).bind fun q => if q.1 = 0 then (mPut cell ⟨ver, 0, false, false⟩).bind fun u => .ret (u.1, if u.1 = 0 then r.2.wait else false) else .ret (q.1, false) else .ret (r.1, false)
def mRelease (cell : Nat) : Tree (Nat × Unit) := (mLocked cell).bind fun r => if r.1 = 0 then mPut cell ⟨r.2.ver, 0, false, r.2.wait⟩ else .ret (r.1, ())
end Go.Proofs.YtmdganpealbmpaaGreatDoor.Th

/- Layer 7 (sets), as plain functions. No program stands here. -/
namespace Go.Proofs.YtmdganpealbmpaaGreatDoor.Th

/-- Cells with what they will have, in order, each once. -/
def wput (k v : Nat) : List (Nat × Nat) → List (Nat × Nat)
  | [] => [(k, v)]
  | x :: l => if k < x.1 then (k, v) :: x :: l else if k = x.1 then (k, v) :: l else x :: wput k v l
def wdel (k : Nat) : List (Nat × Nat) → List (Nat × Nat)
  | [] => []
  | x :: l => if k = x.1 then l else x :: wdel k l
def wget (k : Nat) : List (Nat × Nat) → Option Nat
  | [] => none
  | x :: l => if k = x.1 then some x.2 else wget k l
/-- They are in order. -/
def Sorted : List (Nat × Nat) → Prop
  | [] => True
  | x :: l => (∀ y ∈ l, x.1 < y.1) ∧ Sorted l

structure Undo where
  cell : Nat
  value : Nat
  was : Bool
structure Sets where
  reads : List (Nat × Int)
  writes : List (Nat × Nat)
  log : List Undo
  marks : List Nat
def Sets.empty : Sets := ⟨[], [], [], []⟩

/-- The place of a cell among those that were read. -/
def at? (k : Nat) : List (Nat × Int) → Nat → Option Nat
  | [], _ => none
  | x :: l, i => if k = x.1 then some i else at? k l (i + 1)
/-- The error's number, its place (0: none), and the sets. -/
def Sets.read (s : Sets) (cell : Nat) (ver : Int) : Nat × Sets :=
  match at? cell s.reads 0 with
  | some i => if ((s.reads.map (·.2)).getD i 0) ≠ ver then (12, s) else (0, s)
  | none => if 500 ≤ s.reads.length then (8, s) else (0, { s with reads := s.reads ++ [(cell, ver)] })
def Sets.write (s : Sets) (cell value : Nat) : Nat × Sets :=
  if wget cell s.writes = none ∧ 500 ≤ s.writes.length then (8, s)
  else (0, { s with writes := wput cell value s.writes, log := if s.marks = [] then s.log else s.log ++ [⟨cell, (wget cell s.writes).getD 0, (wget cell s.writes).isSome⟩] })
def Sets.version (s : Sets) (cell : Nat) : Option Int := (at? cell s.reads 0).map fun i => (s.reads.map (·.2)).getD i 0
/-- The error's number, the mark, and the sets. -/
def Sets.mark (s : Sets) : Nat × Nat × Sets :=
  if 20 ≤ s.marks.length then (10, 0, s) else (0, s.marks.length + 1, { s with marks := s.marks ++ [s.log.length] })
def Sets.keep (s : Sets) (mark : Nat) : Sets := { s with marks := s.marks.take (mark - 1), log := if mark = 1 then [] else s.log }
def undo1 (w : List (Nat × Nat)) (u : Undo) : List (Nat × Nat) := if u.was then wput u.cell u.value w else wdel u.cell w
def Sets.back (s : Sets) (mark : Nat) : Sets :=
  { s with writes := (s.log.drop (s.marks.getD (mark - 1) 0)).reverse.foldl undo1 s.writes, log := s.log.take (s.marks.getD (mark - 1) 0), marks := s.marks.take (mark - 1) }
end Go.Proofs.YtmdganpealbmpaaGreatDoor.Th

/- Layer 13 (ref), as trees of accesses. No program stands here. -/
namespace Go.Proofs.YtmdganpealbmpaaGreatDoor.Th
open Bl

structure Tx where
  sets : Sets
  clock : Nat
  owner : Int
  stamp : Int
def tBegin (clock : Nat) (owner : Int) : Tree (Nat × Tx) := (mNow clock).bind fun r => .ret (r.1, ⟨.empty, clock, owner, r.2⟩)
/-- Are cells that were read as they were? -/
def tStill (which : Nat → Bool) : List (Nat × Int) → Tree (Nat × Unit)
  | [] => .ret (0, ())
  | x :: l => if which x.1 then (mPeek x.1).bind fun r => if r.1 = 0 then (if r.2.chg ∨ r.2.ver ≠ x.2 then .ret (12, ()) else tStill which l) else .ret (r.1, ()) else tStill which l
def tCheck (t : Tx) : Tree (Nat × Unit) := tStill (fun _ => true) t.sets.reads
def tRead (t : Tx) (cell : Nat) : Tree (Nat × (Nat × Tx)) :=
  match wget cell t.sets.writes with
  | some v => .ret (0, v, t)
  | none => (mRead cell).bind fun r => if r.1 = 0 then
      (if (t.sets.read cell r.2.2).1 = 0 then
        (if r.2.2 ≤ t.stamp then .ret (0, r.2.1, { t with sets := (t.sets.read cell r.2.2).2 })
         else (mNow t.clock).bind fun q => if q.1 = 0 then (tStill (fun _ => true) (t.sets.read cell r.2.2).2.reads).bind fun u => .ret (u.1, if u.1 = 0 then r.2.1 else 0, if u.1 = 0 then ⟨(t.sets.read cell r.2.2).2, t.clock, t.owner, q.2⟩ else { t with sets := (t.sets.read cell r.2.2).2 })
           else .ret (q.1, 0, { t with sets := (t.sets.read cell r.2.2).2 }))
       else .ret ((t.sets.read cell r.2.2).1, 0, { t with sets := (t.sets.read cell r.2.2).2 }))
      else .ret (r.1, 0, t)
def tWrite (t : Tx) (cell value : Nat) : Nat × Tx := ((t.sets.write cell value).1, { t with sets := (t.sets.write cell value).2 })
def tLock (t : Tx) (cell : Nat) : Tree (Nat × Unit) :=
  match t.sets.version cell with
  | some v => mLock cell v t.owner
  | none => (mPeek cell).bind fun r => if r.1 = 0 then mLock cell r.2.ver t.owner else .ret (r.1, ())
def tRelease (why : Nat) : List (Nat × Nat) → Tree (Nat × Unit)
  | [] => .ret (why, ())
  | x :: l => (mRelease x.1).bind fun r => if r.1 = 0 then tRelease why l else .ret (r.1, ())
def tFail (why : Nat) (l : List (Nat × Nat)) : Tree (Nat × Unit) := if why = 11 then .ret (11, ()) else tRelease why l
/-- All are locked, or those that were are let go. -/
def tLocks (t : Tx) (done : List (Nat × Nat)) : List (Nat × Nat) → Tree (Nat × Unit)
  | [] => .ret (0, ())
  | x :: l => (tLock t x.1).bind fun r => if r.1 = 0 then tLocks t (done ++ [x]) l else tFail r.1 done
def tPuts (stamp : Int) : Bool → List (Nat × Nat) → Tree (Nat × Bool)
  | waits, [] => .ret (0, waits)
  | waits, x :: l => (mCommit x.1 x.2 stamp).bind fun r => if r.1 = 0 then tPuts stamp (waits || r.2) l else .ret (r.1, false)
def tCommit (t : Tx) : Tree (Nat × (Int × Bool × Tx)) :=
  if t.sets.writes = [] then .ret (0, t.stamp, false, t)
  else .left fun left => if left < 40 * t.sets.writes.length + 2 * t.sets.reads.length + 40 then .ret (15, 0, false, t)
  else (tLocks t [] t.sets.writes).bind fun r => if r.1 = 0 then
      (mTick t.clock).bind fun s =>
        (if s.1 = 0 then tStill (fun c => (wget c t.sets.writes).isNone) t.sets.reads else .ret (s.1, ())).bind fun u =>
          if u.1 = 0 then (tPuts s.2 false t.sets.writes).bind fun p => .ret (p.1, if p.1 = 0 then s.2 else 0, p.2, if p.1 = 0 then { t with stamp := s.2 } else t)
          else (tFail u.1 t.sets.writes).bind fun f => .ret (f.1, 0, false, t)
    else .ret (r.1, 0, false, t)
end Go.Proofs.YtmdganpealbmpaaGreatDoor.Th

/- Layer 13's laws: a transaction as a body, as a tree. No program stands here. -/
namespace Go.Proofs.YtmdganpealbmpaaGreatDoor.Th
open Bl

structure Op13 where
  kind : Int
  a : Int
  x : Nat
structure Out13 where
  told : List Nat
  done : Bool
  wrote : Bool
  stamp : Int
/-- The cell of a place. -/
def cellAt (cells : List Nat) (a : Int) : Nat := cells.getD (a % (cells.length : Int)).toNat 0
def bodyOps (cells : List Nat) : List Op13 → Tx → Nat → List Nat → Tree (Nat × (Tx × List Nat))
  | [], t, _, told => .ret (0, t, told)
  | o :: l, t, acc, told =>
    if o.kind = 1 then (tRead t (cellAt cells o.a)).bind fun r => if r.1 = 0 then bodyOps cells l r.2.2 ((acc + r.2.1) % 18446744073709551616) (told ++ [r.2.1]) else .ret (r.1, r.2.2, told)
    else if o.kind = 2 then (if (tWrite t (cellAt cells o.a) ((acc + o.x) % 18446744073709551616)).1 = 0 then bodyOps cells l (tWrite t (cellAt cells o.a) ((acc + o.x) % 18446744073709551616)).2 acc told else .ret ((tWrite t (cellAt cells o.a) ((acc + o.x) % 18446744073709551616)).1, (tWrite t (cellAt cells o.a) ((acc + o.x) % 18446744073709551616)).2, told))
    else if o.kind = 3 then (tCheck t).bind fun r => if r.1 = 0 then bodyOps cells l t acc told else .ret (r.1, t, told)
    else bodyOps cells l t acc told
def bodyEnd (r : Nat × (Tx × List Nat)) : Tree (Nat × (Out13 → Out13)) :=
  if r.1 = 0 then (tCommit r.2.1).bind fun q => .ret (q.1, fun _ => if q.1 = 0 then ⟨r.2.2, true, decide (r.2.1.sets.writes ≠ []), q.2.1⟩ else ⟨r.2.2, false, decide (r.2.1.sets.writes ≠ []), q.2.2.2.stamp⟩)
  else .ret (r.1, fun _ => ⟨r.2.2, false, false, r.2.1.stamp⟩)
def bodyT (l : List Op13) (clock : Nat) (cells : List Nat) (owner : Int) : Tree (Nat × (Out13 → Out13)) :=
  (tBegin clock owner).bind fun b => if b.1 = 0 then (bodyOps cells l b.2 0 []).bind bodyEnd else .ret (b.1, fun _ => ⟨[], false, false, 0⟩)
end Go.Proofs.YtmdganpealbmpaaGreatDoor.Th
