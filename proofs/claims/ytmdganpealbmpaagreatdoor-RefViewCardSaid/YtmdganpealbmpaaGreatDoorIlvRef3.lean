/- IlvRef3: IlvPlain, IlvRef, IlvRef2, IlvRef3. -/
import Derived.Test.YtmdganpealbmpaaGreatDoorRefPlain
import Derived.Test.YtmdganpealbmpaaGreatDoorAlonePlain13

/- Threads that go on in any order: what a tree keeps to, whatever others do between its accesses. No program stands here. -/
namespace Go.Proofs.YtmdganpealbmpaaGreatDoor.Th
open Bl

/-- A tree as it stands at a place of the log: what it asks of the room that is left is known. -/
def skip {α : Type} : Tree α → Nat → Tree α
  | .ret a, _ => .ret a
  | .left k, i => skip (k (6000 - (i : Int))) i
  | .acc op k, _ => .acc op k
/-- What is left of a tree behind entries of the log, from a place on. -/
def res {α : Type} : Tree α → Nat → List Ntry → Option (Tree α)
  | .ret a, _, M => if M = [] then some (.ret a) else none
  | .left k, i, M => res (k (6000 - (i : Int))) i M
  | .acc op k, i, M => match M with
    | [] => some (.acc op k)
    | x :: M => res (k x.err x) (i + 1) M
theorem res_nil {α : Type} (p : Tree α) (i : Nat) : res p i [] = some (skip p i) := by
  induction p with
  | ret a => rfl
  | left k ih => exact ih _
  | acc op k _ => rfl
theorem exec_skip {α : Type} (p : Tree α) (c : CS) : exec p c = exec (skip p c.next) c := by
  induction p with
  | ret a => rfl
  | left k ih => exact ih _
  | acc op k _ => rfl
theorem exec_res {α : Type} (p : Tree α) : ∀ (L M : List Ntry) (q : Tree α) (S : BS), res p L.length M = some q →
    exec p ⟨L ++ M, L.length, false, S⟩ = exec q ⟨L ++ M, L.length + M.length, false, S⟩ := by
  induction p with
  | ret a =>
    intro L M q S h
    unfold res at h
    split at h
    · rename_i e; subst e; cases h; rfl
    · cases h
  | left k ih => intro L M q S h; exact ih _ L M q S h
  | acc op k ih =>
    intro L M q S h
    cases M with
    | nil => cases h; rfl
    | cons x M =>
      have ha : access op ⟨L ++ x :: M, L.length, false, S⟩ = (x.err, x, ⟨L ++ x :: M, L.length + 1, false, S⟩) := by
        unfold access
        simp
      have h' := ih x.err x (L ++ [x]) M q S (by simpa [res] using h)
      simp only [exec, ha]
      simpa [Nat.add_assoc, Nat.add_comm 1] using h'
theorem res_snoc {α : Type} (p : Tree α) : ∀ (i : Nat) (M : List Ntry) (op : BS → Ntry × BS) (k : Nat → Ntry → Tree α) (x : Ntry), res p i M = some (.acc op k) → res p i (M ++ [x]) = some (skip (k x.err x) (i + M.length + 1)) := by
  induction p with
  | ret a =>
    intro i M op k x h
    unfold res at h
    split at h <;> cases h
  | left k ih => intro i M op k' x h; exact ih _ i M op k' x h
  | acc op' k' ih =>
    intro i M op k x h
    cases M with
    | nil => cases h; exact res_nil _ _
    | cons y M =>
      have := ih y.err y (i + 1) M op k x h
      rw [show i + 1 + M.length + 1 = i + (y :: M).length + 1 by simp; omega] at this
      exact this

/-- What others may do, and what it may do itself, to what is so of the blocks; what is so at each time (ok), and as long as it goes on (small). -/
structure Game (G : Type) where
  bs : G → BS
  ok : G → Prop
  small : G → Prop
  rely : G → G → Prop
  gua : G → G → Prop
structure Game.Good {G : Type} (g : Game G) : Prop where
  refl : ∀ s, g.rely s s
  trans : ∀ {s t u}, g.rely s t → g.rely t u → g.rely s u
/-- At most so many accesses are done; E is so of each end because the step is over, Q of the end. -/
def Keeps {G α : Type} (g : Game G) (E : α → G → Prop) : Tree α → Nat → (α → G → Prop) → G → Prop
  | .ret a, _, Q, s => Q a s
  | .left k, m, Q, s => ∀ l : Int, 2600 ≤ l → Keeps g E (k l) m Q s
  | .acc op k, m, Q, s => 0 < m ∧ ∀ s1, g.rely s s1 → g.ok s1 → (∃ a, k 11 blank = .ret a ∧ E a s1) ∧ (g.small s1 → (op (g.bs s1)).1.err ≠ 11 ∧
      ∃ s2, g.bs s2 = (op (g.bs s1)).2 ∧ g.ok s2 ∧ g.gua s1 s2 ∧ Keeps g E (k (op (g.bs s1)).1.err (op (g.bs s1)).1) (m - 1) Q s2)
section
variable {G α β : Type} {g : Game G}
theorem Keeps.more {E : α → G → Prop} : ∀ {p : Tree α} {m n : Nat} {Q : α → G → Prop} {s : G}, Keeps g E p m Q s → m ≤ n → Keeps g E p n Q s
  | .ret _, _, _, _, _, h, _ => h
  | .left k, _, _, _, _, h, hn => fun l hl => Keeps.more (h l hl) hn
  | .acc op k, m, n, Q, s, ⟨hm, h⟩, hn => ⟨Nat.lt_of_lt_of_le hm hn, fun s1 h1 h2 => by
    obtain ⟨he, h⟩ := h s1 h1 h2
    refine ⟨he, fun hs => ?_⟩
    obtain ⟨h11, s2, hb, ho, hg, hk⟩ := h hs
    exact ⟨h11, s2, hb, ho, hg, Keeps.more hk (Nat.sub_le_sub_right hn 1)⟩⟩
theorem Keeps.mono {E : α → G → Prop} {Q Q' : α → G → Prop} (hQ : ∀ a s, Q a s → Q' a s) : ∀ {p : Tree α} {m : Nat} {s : G}, Keeps g E p m Q s → Keeps g E p m Q' s
  | .ret _, _, _, h => hQ _ _ h
  | .left k, _, _, h => fun l hl => Keeps.mono hQ (h l hl)
  | .acc op k, m, s, ⟨hm, h⟩ => ⟨hm, fun s1 h1 h2 => by
    obtain ⟨he, h⟩ := h s1 h1 h2
    refine ⟨he, fun hs => ?_⟩
    obtain ⟨h11, s2, hb, ho, hg, hk⟩ := h hs
    exact ⟨h11, s2, hb, ho, hg, Keeps.mono hQ hk⟩⟩
theorem Keeps.weak {E E' : α → G → Prop} {Q : α → G → Prop} (hE : ∀ a s, E a s → E' a s) : ∀ {p : Tree α} {m : Nat} {s : G}, Keeps g E p m Q s → Keeps g E' p m Q s
  | .ret _, _, _, h => h
  | .left k, _, _, h => fun l hl => Keeps.weak hE (h l hl)
  | .acc op k, m, s, ⟨hm, h⟩ => ⟨hm, fun s1 h1 h2 => by
    obtain ⟨⟨a, ha, he⟩, h⟩ := h s1 h1 h2
    refine ⟨⟨a, ha, hE _ _ he⟩, fun hs => ?_⟩
    obtain ⟨h11, s2, hb, ho, hg, hk⟩ := h hs
    exact ⟨h11, s2, hb, ho, hg, Keeps.weak hE hk⟩⟩
theorem Keeps.bind {E : β → G → Prop} {f : α → Tree β} {Q : β → G → Prop} {n : Nat} : ∀ {p : Tree α} {m : Nat} {s : G}, Keeps g (fun a s => ∃ b, f a = .ret b ∧ E b s) p m (fun a s => Keeps g E (f a) n Q s) s → Keeps g E (p.bind f) (m + n) Q s
  | .ret a, m, s, h => Keeps.more (p := f a) h (Nat.le_add_left _ _)
  | .left k, m, s, h => fun l hl => Keeps.bind (h l hl)
  | .acc op k, m, s, ⟨hm, h⟩ => ⟨Nat.lt_of_lt_of_le hm (Nat.le_add_right _ _), fun s1 h1 h2 => by
    obtain ⟨⟨a, ha, b, hb, he⟩, h⟩ := h s1 h1 h2
    refine ⟨⟨b, ?_, he⟩, fun hs => ?_⟩
    · show (k 11 blank).bind f = _
      rw [ha]; exact hb
    · obtain ⟨h11, s2, hs2, ho, hg, hk⟩ := h hs
      refine ⟨h11, s2, hs2, ho, hg, ?_⟩
      rw [show m + n - 1 = m - 1 + n by omega]
      exact Keeps.bind hk⟩
theorem Keeps.bindM {E : β → G → Prop} {f : α → Tree β} {Q : β → G → Prop} {p : Tree α} {m n k : Nat} {s : G} (h : Keeps g (fun a s => ∃ b, f a = .ret b ∧ E b s) p m (fun a s => Keeps g E (f a) n Q s) s) (hk : m + n ≤ k) : Keeps g E (p.bind f) k Q s := (Keeps.bind h).more hk
theorem Keeps.rely (hg : g.Good) {E : α → G → Prop} {Q : α → G → Prop} {op : BS → Ntry × BS} {k : Nat → Ntry → Tree α} {m : Nat} {s s1 : G} (h : Keeps g E (.acc op k) m Q s) (h1 : g.rely s s1) : Keeps g E (.acc op k) m Q s1 :=
  ⟨h.1, fun s2 h2 => h.2 s2 (hg.trans h1 h2)⟩
theorem Keeps.skip {E : α → G → Prop} {Q : α → G → Prop} : ∀ {p : Tree α} {m : Nat} {s : G} {i : Nat}, Keeps g E p m Q s → i ≤ 3400 → Keeps g E (skip p i) m Q s
  | .ret _, _, _, _, h, _ => h
  | .left k, m, s, i, h, hi => Keeps.skip (p := k (6000 - (i : Int))) (h _ (by omega)) hi
  | .acc op k, m, s, i, h, _ => h
end

/-- What comes of a step. -/
inductive Came (σ G : Type) (E Q : Nat × (σ → σ) → G → Prop) (g : Game G) (P : Nat → Tree (Nat × (σ → σ))) (t t' : TS σ) (m : Nat) (s : G) : Prop
  | on (x : Ntry) (b : Nat × (σ → σ)) (op : BS → Ntry × BS) (k : Nat → Ntry → Tree (Nat × (σ → σ))) (ht : t' = ⟨t.log ++ [x], t.round, t.steps + 1, false, 0, b.2 t.aux⟩) (he : E b s) (h11 : b.1 = 11) (hr : res (P t.round) 0 (t.log ++ [x]) = some (.acc op k)) (hk : Keeps g E (.acc op k) (m - 1) Q s)
  | over (L : List Ntry) (a : Nat × (σ → σ)) (h12 : a.1 ≠ 12) (ht : t' = ⟨L, t.round, t.steps + 1, true, a.1, a.2 t.aux⟩) (hq : Q a s)
  | last (L : List Ntry) (a : Nat × (σ → σ)) (h12 : a.1 = 12) (hr : 40 ≤ t.round + 1) (ht : t' = ⟨L, t.round, t.steps + 1, true, 15, a.2 t.aux⟩) (hq : Q a s)
  | anew (a : Nat × (σ → σ)) (h12 : a.1 = 12) (hr : t.round + 1 < 40) (ht : t' = ⟨[], t.round + 1, t.steps + 1, false, 0, a.2 t.aux⟩) (hq : Q a s)
theorem step_keeps {σ G : Type} {g : Game G} (hg : g.Good) {E Q : Nat × (σ → σ) → G → Prop} (h11 : ∀ a s, E a s → a.1 = 11 ∨ Q a s) (hq11 : ∀ a s, Q a s → a.1 ≠ 11) {P : Nat → Tree (Nat × (σ → σ))} {t : TS σ} {op : BS → Ntry × BS} {k : Nat → Ntry → Tree (Nat × (σ → σ))} {m : Nat} {s : G}
    (hd : t.done = false) (hr : res (P t.round) 0 t.log = some (.acc op k)) (hk : Keeps g E (.acc op k) m Q s) (hm : t.log.length + m ≤ 3400) (hok : g.ok s) (hsm : g.small s) :
    ∃ s2, g.ok s2 ∧ g.gua s s2 ∧ g.bs s2 = (step (treeBody P) t (g.bs s)).2.2 ∧ Came σ G E Q g P t (step (treeBody P) t (g.bs s)).2.1 m s2 := by
  obtain ⟨hm0, h⟩ := hk
  obtain ⟨_, h⟩ := h s (hg.refl s) hok
  obtain ⟨hop, s2, hb2, ho2, hg2, hk2⟩ := h hsm
  obtain ⟨x, hx⟩ : ∃ x, op (g.bs s) = x := ⟨_, rfl⟩
  rw [hx] at hop hb2 hk2
  refine ⟨s2, ho2, hg2, ?_⟩
  have hacc : access op ⟨t.log, t.log.length, false, g.bs s⟩ = (x.1.err, x.1, ⟨t.log ++ [x.1], t.log.length + 1, true, x.2⟩) := by
    unfold access
    rw [List.getElem?_eq_none (Nat.le_refl _)]
    simp only [Bool.false_eq_true, if_false]
    rw [if_neg (by omega), hx]
  have hex : exec (P t.round) ⟨t.log, 0, false, g.bs s⟩ = exec (k x.1.err x.1) ⟨t.log ++ [x.1], t.log.length + 1, true, x.2⟩ := by
    have := exec_res (P t.round) [] t.log _ (g.bs s) hr
    simp only [List.nil_append, List.length_nil, Nat.zero_add] at this
    rw [this]
    simp only [exec, hacc]
  have hex2 := exec_skip (k x.1.err x.1) ⟨t.log ++ [x.1], t.log.length + 1, true, x.2⟩
  have hks := Keeps.skip (i := t.log.length + 1) hk2 (by omega)
  have hrs := res_snoc (P t.round) 0 t.log op k x.1 hr
  simp only [Nat.zero_add] at hrs
  simp only at hex2
  rw [← hex] at hex2
  clear hex
  have hst : ∀ (a : Nat × (σ → σ)) (c : CS), exec (P t.round) ⟨t.log, 0, false, g.bs s⟩ = (a, c) → step (treeBody P) t (g.bs s) = if a.1 = 11 then (0, ⟨c.log, t.round, t.steps + 1, false, 0, a.2 t.aux⟩, c.bs) else if a.1 ≠ 12 then (a.1, ⟨c.log, t.round, t.steps + 1, true, a.1, a.2 t.aux⟩, c.bs) else if 40 ≤ t.round + 1 then (15, ⟨c.log, t.round, t.steps + 1, true, 15, a.2 t.aux⟩, c.bs) else (0, ⟨[], t.round + 1, t.steps + 1, false, 0, a.2 t.aux⟩, c.bs) := by
    intro a c hx
    unfold step
    rw [if_neg (by simp [hd])]
    simp only [treeBody, hx]
  have ends : ∀ a : Nat × (σ → σ), exec (P t.round) ⟨t.log, 0, false, g.bs s⟩ = (a, ⟨t.log ++ [x.1], t.log.length + 1, true, x.2⟩) → Q a s2 → g.bs s2 = (step (treeBody P) t (g.bs s)).2.2 ∧ Came σ G E Q g P t (step (treeBody P) t (g.bs s)).2.1 m s2 := by
    intro a hex hqa
    rw [hst _ _ hex, if_neg (hq11 a s2 hqa)]
    by_cases h12 : a.1 = 12
    · rw [if_neg (fun h => h h12)]
      by_cases h40 : 40 ≤ t.round + 1
      · rw [if_pos h40]
        exact ⟨hb2, .last _ a h12 h40 rfl hqa⟩
      · rw [if_neg h40]
        exact ⟨hb2, .anew a h12 (by omega) rfl hqa⟩
    · rw [if_pos h12]
      exact ⟨hb2, .over _ a h12 rfl hqa⟩
  cases hsk : Th.skip (k x.1.err x.1) (t.log.length + 1) with
  | ret a =>
    rw [hsk] at hex2 hks
    exact ends a hex2 hks
  | left k' =>
    exfalso
    have : ∀ (p : Tree (Nat × (σ → σ))) (i : Nat) k', Th.skip p i ≠ .left k' := fun p => by
      induction p with
      | ret a => intro i k' h; cases h
      | left k ih => intro i k' h; exact ih _ i k' h
      | acc op k _ => intro i k' h; cases h
    exact this _ _ _ hsk
  | acc op' k' =>
    rw [hsk] at hex2 hks hrs
    have hks' := hks
    obtain ⟨_, h'⟩ := hks
    obtain ⟨⟨b, hb, hE⟩, _⟩ := h' s2 (hg.refl s2) ho2
    have hacc' : access op' ⟨t.log ++ [x.1], t.log.length + 1, true, x.2⟩ = (11, blank, ⟨t.log ++ [x.1], t.log.length + 1, true, x.2⟩) := by
      unfold access
      rw [List.getElem?_eq_none (by simp)]
      simp
    simp only [exec, hacc', hb] at hex2
    by_cases hb11 : b.1 = 11
    · rw [hst _ _ hex2, if_pos hb11]
      exact ⟨hb2, .on x.1 b op' k' rfl hE hb11 hrs hks'⟩
    · exact ends b hex2 ((h11 b s2 hE).resolve_left hb11)
end Go.Proofs.YtmdganpealbmpaaGreatDoor.Th

/- Transactions of cells in any order of steps: what is so of the clock and the cells at each time, and what a thread's accesses do to it. No program stands here. -/
namespace Go.Proofs.YtmdganpealbmpaaGreatDoor.Th
open Bl

/-- What came of a stamp: it is not known yet, it is done, nothing. -/
inductive Fate where
  | opn
  | made
  | void
  deriving DecidableEq
/-- The blocks, the clock; of each cell its version, that of its value, and who has locked it; of each stamp what it writes, what came of it, and whose it is. -/
structure Gh where
  S : BS
  clk : Nat
  ver : Nat → Nat
  cur : Nat → Nat
  lk : Nat → Option Nat
  wr : Nat → Nat → Option Nat
  st : Nat → Fate
  own : Nat → Nat
/-- The value of a cell's version. -/
def vAt (ini : Nat → Nat) (g : Gh) (v j : Nat) : Nat := if v = 0 then ini j else (g.wr v j).getD 0
def mwOf (ow : Nat → Nat) (g : Gh) (j : Nat) : Nat := match g.lk j with
  | none => rest (g.ver j)
  | some i => lockd (g.ver j) (ow i)
structure GOk (n : Nat) (ini ow : Nat → Nat) (g : Gh) : Prop where
  sc : Sc n g.S g.clk (mwOf ow g) (fun j => vAt ini g (g.cur j) j)
  le : ∀ j, j < n → g.ver j ≤ g.cur j ∧ g.cur j ≤ g.clk
  un : ∀ j, j < n → g.lk j = none → g.cur j = g.ver j
  put : ∀ j, j < n → g.ver j = 0 ∨ (g.st (g.ver j) = .made ∧ (g.wr (g.ver j) j).isSome = true)
  act : ∀ s j, 1 ≤ s → s ≤ g.clk → g.st s ≠ .void → j < n → (g.wr s j).isSome = true → s ≤ g.ver j ∨ g.lk j = some (g.own s)
/-- What others than i do. -/
structure GR (n i : Nat) (g g' : Gh) : Prop where
  clk : g.clk ≤ g'.clk
  old : ∀ s, s ≤ g.clk → g'.wr s = g.wr s ∧ g'.own s = g.own s
  st : ∀ s, s ≤ g.clk → g.st s ≠ .opn → g'.st s = g.st s
  mine : ∀ s, s ≤ g'.clk → g'.own s = i → s ≤ g.clk ∧ g'.st s = g.st s
  ver : ∀ j, j < n → g.ver j ≤ g'.ver j ∧ g.cur j ≤ g'.cur j
  lk : ∀ j, j < n → (g.lk j = some i ↔ g'.lk j = some i)
  held : ∀ j, j < n → g.lk j = some i → g'.ver j = g.ver j ∧ g'.cur j = g.cur j
/-- What anybody does. -/
structure GV (n : Nat) (g g' : Gh) : Prop where
  clk : g.clk ≤ g'.clk
  old : ∀ s, s ≤ g.clk → g'.wr s = g.wr s ∧ g'.own s = g.own s
  st : ∀ s, s ≤ g.clk → g.st s ≠ .opn → g'.st s = g.st s
  ver : ∀ j, j < n → g.ver j ≤ g'.ver j ∧ g.cur j ≤ g'.cur j
def GG (n i : Nat) (g g' : Gh) : Prop := (∀ k, k ≠ i → GR n k g g') ∧ g'.clk ≤ g.clk + 1
def GSmall (g : Gh) : Prop := g.clk < 281474976700000
def gm (n : Nat) (ini ow : Nat → Nat) (i : Nat) : Game Gh := ⟨Gh.S, GOk n ini ow, GSmall, GR n i, GG n i⟩

section
variable {n : Nat} {ini ow : Nat → Nat} {i : Nat}
theorem GR.refl (g : Gh) : GR n i g g := ⟨Nat.le_refl _, fun _ _ => ⟨rfl, rfl⟩, fun _ _ _ => rfl, fun _ h _ => ⟨h, rfl⟩, fun _ _ => ⟨Nat.le_refl _, Nat.le_refl _⟩, fun _ _ => Iff.rfl, fun _ _ _ => ⟨rfl, rfl⟩⟩
theorem GR.trans {g1 g2 g3 : Gh} (h : GR n i g1 g2) (k : GR n i g2 g3) : GR n i g1 g3 := by
  refine ⟨Nat.le_trans h.clk k.clk, fun s hs => ?_, fun s hs hn => ?_, fun s hs ho => ?_, fun j hj => ?_, fun j hj => (h.lk j hj).trans (k.lk j hj), fun j hj hl => ?_⟩
  · have a := h.old s hs
    have b := k.old s (Nat.le_trans hs h.clk)
    exact ⟨b.1.trans a.1, b.2.trans a.2⟩
  · have a := h.st s hs hn
    exact (k.st s (Nat.le_trans hs h.clk) (by rw [a]; exact hn)).trans a
  · have b := k.mine s hs ho
    have a := h.mine s b.1 (by rw [← (k.old s b.1).2]; exact ho)
    exact ⟨a.1, b.2.trans a.2⟩
  · have a := h.ver j hj
    have b := k.ver j hj
    exact ⟨Nat.le_trans a.1 b.1, Nat.le_trans a.2 b.2⟩
  · have a := h.held j hj hl
    have b := k.held j hj ((h.lk j hj).1 hl)
    exact ⟨b.1.trans a.1, b.2.trans a.2⟩
theorem GR.gv {g g' : Gh} (h : GR n i g g') : GV n g g' := ⟨h.clk, h.old, h.st, h.ver⟩
theorem GV.refl (g : Gh) : GV n g g := (GR.refl (i := 0) g).gv
theorem GV.trans {g1 g2 g3 : Gh} (h : GV n g1 g2) (k : GV n g2 g3) : GV n g1 g3 := by
  refine ⟨Nat.le_trans h.clk k.clk, fun s hs => ?_, fun s hs hn => ?_, fun j hj => ?_⟩
  · have a := h.old s hs
    have b := k.old s (Nat.le_trans hs h.clk)
    exact ⟨b.1.trans a.1, b.2.trans a.2⟩
  · have a := h.st s hs hn
    exact (k.st s (Nat.le_trans hs h.clk) (by rw [a]; exact hn)).trans a
  · have a := h.ver j hj
    have b := k.ver j hj
    exact ⟨Nat.le_trans a.1 b.1, Nat.le_trans a.2 b.2⟩
theorem GG.gv {g g' : Gh} (h : GG n i g g') : GV n g g' := (h.1 (i + 1) (Nat.succ_ne_self i)).gv
theorem GG.refl (g : Gh) : GG n i g g := ⟨fun _ _ => GR.refl g, Nat.le_succ _⟩
theorem gm_good : (gm n ini ow i).Good := ⟨GR.refl, fun h k => GR.trans h k⟩

/-! What a thread does. -/
theorem ch_lock {g : Gh} (hg : GOk n ini ow g) {j : Nat} (hj : j < n) (hl : g.lk j = none) :
    ∃ g', g'.S = { g.S with ws := g.S.ws.set (4 + 3 * j) (lockd (g.ver j) (ow i)) } ∧ GOk n ini ow g' ∧ GG n i g g' ∧ g'.clk = g.clk ∧ g'.ver = g.ver ∧ g'.cur = g.cur ∧ g'.st = g.st ∧ g'.own = g.own ∧ g'.wr = g.wr ∧ ∀ k, g'.lk k = if k = j then some i else g.lk k := by
  refine ⟨{ g with S := { g.S with ws := g.S.ws.set (4 + 3 * j) (lockd (g.ver j) (ow i)) }, lk := fun k => if k = j then some i else g.lk k }, rfl, ⟨?_, hg.le, fun k hk h => ?_, hg.put, fun s k h1 h2 h3 hk h4 => ?_⟩, ⟨fun k hk => ⟨Nat.le_refl _, fun _ _ => ⟨rfl, rfl⟩, fun _ _ _ => rfl, fun _ h _ => ⟨h, rfl⟩, fun _ _ => ⟨Nat.le_refl _, Nat.le_refl _⟩, fun m hm => ?_, fun _ _ _ => ⟨rfl, rfl⟩⟩, Nat.le_succ _⟩, rfl, rfl, rfl, rfl, rfl, rfl, fun k => rfl⟩
  · refine (hg.sc.mword hj _).cast (fun k hk => ?_) (fun k hk => rfl)
    unfold upd mwOf
    by_cases e : k = j
    · subst e; simp
    · simp [e]
  · by_cases e : k = j
    · simp only [e, if_true] at h; cases h
    · simp only [e, if_false] at h
      exact hg.un k hk h
  · rcases hg.act s k h1 h2 h3 hk h4 with a | a
    · exact .inl a
    · by_cases e : k = j
      · rw [e, hl] at a; cases a
      · exact .inr (by simp only [e, if_false]; exact a)
  · by_cases e : m = j
    · subst e
      simp only [if_true, hl, Option.some.injEq]
      exact ⟨fun h => (by cases h), fun h => absurd h.symm hk⟩
    · simp [e]
theorem ch_unlock {g : Gh} (hg : GOk n ini ow g) {j : Nat} (hj : j < n) (hl : g.lk j = some i) (hc : g.cur j = g.ver j) (hs : ∀ s, 1 ≤ s → s ≤ g.clk → g.own s = i → g.st s = .void) :
    ∃ g', g'.S = { g.S with ws := g.S.ws.set (4 + 3 * j) (rest (g.ver j)) } ∧ GOk n ini ow g' ∧ GG n i g g' ∧ g'.clk = g.clk ∧ g'.ver = g.ver ∧ g'.cur = g.cur ∧ g'.st = g.st ∧ g'.own = g.own ∧ g'.wr = g.wr ∧ ∀ k, g'.lk k = if k = j then none else g.lk k := by
  refine ⟨{ g with S := { g.S with ws := g.S.ws.set (4 + 3 * j) (rest (g.ver j)) }, lk := fun k => if k = j then none else g.lk k }, rfl, ⟨?_, hg.le, fun k hk h => ?_, hg.put, fun s k h1 h2 h3 hk h4 => ?_⟩, ⟨fun k hk => ⟨Nat.le_refl _, fun _ _ => ⟨rfl, rfl⟩, fun _ _ _ => rfl, fun _ h _ => ⟨h, rfl⟩, fun _ _ => ⟨Nat.le_refl _, Nat.le_refl _⟩, fun m hm => ?_, fun _ _ _ => ⟨rfl, rfl⟩⟩, Nat.le_succ _⟩, rfl, rfl, rfl, rfl, rfl, rfl, fun k => rfl⟩
  · refine (hg.sc.mword hj _).cast (fun k hk => ?_) (fun k hk => rfl)
    unfold upd mwOf
    by_cases e : k = j
    · subst e; simp
    · simp [e]
  · by_cases e : k = j
    · rw [e]; exact hc
    · simp only [e, if_false] at h
      exact hg.un k hk h
  · rcases hg.act s k h1 h2 h3 hk h4 with a | a
    · exact .inl a
    · by_cases e : k = j
      · rw [e, hl] at a
        exact absurd (hs s h1 h2 (Option.some.inj a).symm) h3
      · exact .inr (by simp only [e, if_false]; exact a)
  · by_cases e : m = j
    · subst e
      simp only [if_true, hl, Option.some.injEq]
      exact ⟨fun h => absurd h.symm hk, fun h => (by cases h)⟩
    · simp [e]
theorem ch_tick {g : Gh} (hg : GOk n ini ow g) (W : Nat → Option Nat) (hW : ∀ j, j < n → (W j).isSome = true → g.lk j = some i) :
    ∃ g', g'.S = { g.S with ws := g.S.ws.set 2 (g.clk + 1) } ∧ GOk n ini ow g' ∧ GG n i g g' ∧ g'.clk = g.clk + 1 ∧ g'.ver = g.ver ∧ g'.cur = g.cur ∧ g'.lk = g.lk ∧ (∀ s, s ≤ g.clk → g'.st s = g.st s ∧ g'.own s = g.own s ∧ g'.wr s = g.wr s) ∧ g'.st (g.clk + 1) = .opn ∧ g'.own (g.clk + 1) = i ∧ g'.wr (g.clk + 1) = W := by
  have ne : ∀ s, s ≤ g.clk → ¬ s = g.clk + 1 := fun s h => by omega
  refine ⟨{ g with S := { g.S with ws := g.S.ws.set 2 (g.clk + 1) }, clk := g.clk + 1, wr := fun s => if s = g.clk + 1 then W else g.wr s, st := fun s => if s = g.clk + 1 then .opn else g.st s, own := fun s => if s = g.clk + 1 then i else g.own s }, rfl, ⟨?_, fun j hj => ?_, hg.un, fun j hj => ?_, fun s k h1 h2 h3 hk h4 => ?_⟩, ⟨fun k hk => ⟨Nat.le_succ _, fun s h => ?_, fun s h _ => ?_, fun s h ho => ?_, fun _ _ => ⟨Nat.le_refl _, Nat.le_refl _⟩, fun m hm => Iff.rfl, fun _ _ _ => ⟨rfl, rfl⟩⟩, Nat.le_refl _⟩, rfl, rfl, rfl, rfl, fun s h => ?_, ?_, ?_, ?_⟩
  · refine (hg.sc.tick _).cast (fun k hk => rfl) (fun k hk => ?_)
    have := ne _ (hg.le k hk).2
    simp only [vAt, this, if_false]
  · have := hg.le j hj
    exact ⟨this.1, Nat.le_succ_of_le this.2⟩
  · have := hg.le j hj
    have := ne (g.ver j) (by omega)
    simp only [this, if_false]
    exact hg.put j hj
  · by_cases e : s = g.clk + 1
    · subst e
      simp only [if_true] at h4 ⊢
      exact .inr (hW k hk h4)
    · simp only [e, if_false] at h3 h4 ⊢
      exact hg.act s k h1 (by simp only at h2; omega) h3 hk h4
  · simp [ne s h]
  · simp [ne s h]
  · by_cases e : s = g.clk + 1
    · simp only [e, if_true] at ho
      exact absurd ho.symm hk
    · simp only at h
      exact ⟨by omega, by simp [e]⟩
  · simp [ne s h]
  · simp
  · simp
  · simp
/-- What came of a stamp of its own. -/
theorem ch_fate {g : Gh} (hg : GOk n ini ow g) {s : Nat} (h1 : g.own s = i) (h2 : g.st s = .opn) (f : Fate) :
    ∃ g', g'.S = g.S ∧ GOk n ini ow g' ∧ GG n i g g' ∧ g'.clk = g.clk ∧ g'.ver = g.ver ∧ g'.cur = g.cur ∧ g'.lk = g.lk ∧ g'.own = g.own ∧ g'.wr = g.wr ∧ ∀ k, g'.st k = if k = s then f else g.st k := by
  refine ⟨{ g with st := fun k => if k = s then f else g.st k }, rfl, ⟨hg.sc, hg.le, hg.un, fun j hj => ?_, fun s' k a1 a2 a3 hk a4 => ?_⟩, ⟨fun k hk => ⟨Nat.le_refl _, fun _ _ => ⟨rfl, rfl⟩, fun m _ hm => ?_, fun m h ho => ⟨h, ?_⟩, fun _ _ => ⟨Nat.le_refl _, Nat.le_refl _⟩, fun m hm => Iff.rfl, fun _ _ _ => ⟨rfl, rfl⟩⟩, Nat.le_succ _⟩, rfl, rfl, rfl, rfl, rfl, rfl, fun k => rfl⟩
  · rcases hg.put j hj with a | a
    · exact .inl a
    · refine .inr ⟨?_, a.2⟩
      have : ¬ g.ver j = s := fun e => by rw [e, h2] at a; cases a.1
      simp only [this, if_false]
      exact a.1
  · refine hg.act s' k a1 a2 (fun e => ?_) hk a4
    by_cases q : s' = s
    · rw [q, h2] at e; cases e
    · simp only [q, if_false] at a3
      exact a3 e
  · have : ¬ m = s := fun e => hm (by rw [e]; exact h2)
    simp [this]
  · have : ¬ m = s := fun e => hk (by rw [← ho, e]; exact h1)
    simp [this]
theorem ch_store {g : Gh} (hg : GOk n ini ow g) {j s x : Nat} (hj : j < n) (hl : g.lk j = some i) (h0 : 1 ≤ s) (hs : s ≤ g.clk) (hv : g.cur j ≤ s) (hx : g.wr s j = some x) :
    ∃ g', g'.S = { g.S with ws := g.S.ws.set (5 + 3 * j) x } ∧ GOk n ini ow g' ∧ GG n i g g' ∧ g'.clk = g.clk ∧ g'.ver = g.ver ∧ g'.lk = g.lk ∧ g'.st = g.st ∧ g'.own = g.own ∧ g'.wr = g.wr ∧ ∀ k, g'.cur k = if k = j then s else g.cur k := by
  refine ⟨{ g with S := { g.S with ws := g.S.ws.set (5 + 3 * j) x }, cur := fun k => if k = j then s else g.cur k }, rfl, ⟨?_, fun k hk => ?_, fun k hk h => ?_, hg.put, hg.act⟩, ⟨fun k hk => ⟨Nat.le_refl _, fun _ _ => ⟨rfl, rfl⟩, fun _ _ _ => rfl, fun _ h _ => ⟨h, rfl⟩, fun m hm => ⟨Nat.le_refl _, ?_⟩, fun m hm => Iff.rfl, fun m hm h => ⟨rfl, ?_⟩⟩, Nat.le_succ _⟩, rfl, rfl, rfl, rfl, rfl, rfl, fun k => rfl⟩
  · refine (hg.sc.value hj _).cast (fun k hk => rfl) (fun k hk => ?_)
    unfold upd vAt
    by_cases e : k = j
    · subst e
      simp only [if_true]
      rw [if_neg (by omega), hx]
      rfl
    · simp [e]
  · have := hg.le k hk
    by_cases e : k = j
    · subst e
      simp only [if_true]
      omega
    · simp only [e, if_false]
      exact this
  · by_cases e : k = j
    · rw [e] at h; simp only at h; rw [hl] at h; cases h
    · simp only [e, if_false]
      exact hg.un k hk h
  · by_cases e : m = j
    · subst e; simp only [if_true]; exact hv
    · simp [e]
  · have : ¬ m = j := fun e => by
      rw [e, hl] at h
      exact hk (Option.some.inj h).symm
    simp [this]
theorem ch_put {g : Gh} (hg : GOk n ini ow g) {j s : Nat} (hj : j < n) (hl : g.lk j = some i) (hs : s ≤ g.clk) (hc : g.cur j = s) (hm : g.st s = .made) (hx : (g.wr s j).isSome = true) (ho : ∀ k, 1 ≤ k → k ≤ g.clk → g.own k = i → g.st k ≠ .void → k ≤ s) :
    ∃ g', g'.S = { g.S with ws := g.S.ws.set (4 + 3 * j) (rest s) } ∧ GOk n ini ow g' ∧ GG n i g g' ∧ g'.clk = g.clk ∧ g'.cur = g.cur ∧ g'.st = g.st ∧ g'.own = g.own ∧ g'.wr = g.wr ∧ (∀ k, g'.ver k = if k = j then s else g.ver k) ∧ ∀ k, g'.lk k = if k = j then none else g.lk k := by
  have hle := hg.le j hj
  refine ⟨{ g with S := { g.S with ws := g.S.ws.set (4 + 3 * j) (rest s) }, ver := fun k => if k = j then s else g.ver k, lk := fun k => if k = j then none else g.lk k }, rfl, ⟨?_, fun k hk => ?_, fun k hk h => ?_, fun k hk => ?_, fun m k h1 h2 h3 hk h4 => ?_⟩, ⟨fun k hk => ⟨Nat.le_refl _, fun _ _ => ⟨rfl, rfl⟩, fun _ _ _ => rfl, fun _ h _ => ⟨h, rfl⟩, fun m hm => ⟨?_, Nat.le_refl _⟩, fun m hm => ?_, fun m hm h => ⟨?_, rfl⟩⟩, Nat.le_succ _⟩, rfl, rfl, rfl, rfl, rfl, fun k => rfl, fun k => rfl⟩
  · refine (hg.sc.mword hj _).cast (fun k hk => ?_) (fun k hk => rfl)
    unfold upd mwOf
    by_cases e : k = j
    · subst e; simp
    · simp [e]
  · have := hg.le k hk
    by_cases e : k = j
    · subst e
      simp only [if_true]
      omega
    · simp only [e, if_false]
      exact this
  · by_cases e : k = j
    · subst e; simp only [if_true]; exact hc
    · simp only [e, if_false] at h ⊢
      exact hg.un k hk h
  · by_cases e : k = j
    · subst e; simp only [if_true]; exact .inr ⟨hm, hx⟩
    · simp only [e, if_false]
      exact hg.put k hk
  · by_cases e : k = j
    · subst e
      simp only [if_true]
      rcases hg.act m k h1 h2 h3 hk h4 with a | a
      · exact .inl (by omega)
      · rw [hl] at a
        exact .inl (ho m h1 h2 (Option.some.inj a).symm h3)
    · simp only [e, if_false]
      exact hg.act m k h1 h2 h3 hk h4
  · by_cases e : m = j
    · subst e; simp only [if_true]; omega
    · simp [e]
  · by_cases e : m = j
    · subst e
      simp only [if_true, hl, Option.some.injEq]
      exact ⟨fun h => absurd h.symm hk, fun h => (by cases h)⟩
    · simp [e]
  · have : ¬ m = j := fun e => by
      rw [e, hl] at h
      exact hk (Option.some.inj h).symm
    simp [this]
end
end Go.Proofs.YtmdganpealbmpaaGreatDoor.Th

/- Transactions of cells in any order of steps: what each call keeps to. No program stands here. -/
namespace Go.Proofs.YtmdganpealbmpaaGreatDoor.Th
open Bl

section
variable {n : Nat} {ini ow : Nat → Nat} {i : Nat} {β γ : Type}
/-- E is so, whatever others do from now on, of each end because the step is over. -/
def Off (n : Nat) (ini ow : Nat → Nat) (i : Nat) (E : Nat × β → Gh → Prop) (s : Gh) : Prop := ∀ x s1, GR n i s s1 → GOk n ini ow s1 → E (11, x) s1
theorem Off.gr {E : Nat × β → Gh → Prop} {s s1 : Gh} (h : Off n ini ow i E s) (v : GR n i s s1) : Off n ini ow i E s1 := fun x s2 h2 ho => h x s2 (v.trans h2) ho
theorem Off.bind {E : Nat × γ → Gh → Prop} {f : Nat × β → Tree (Nat × γ)} {s : Gh} (hf : ∀ x, ∃ y, f (11, x) = .ret (11, y)) (h : Off n ini ow i E s) : Off n ini ow i (fun a s => ∃ b, f a = .ret b ∧ E b s) s := fun x s1 hv ho => by
  obtain ⟨y, hy⟩ := hf x
  exact ⟨_, hy, h y s1 hv ho⟩
/-- It may be a conflict, too. -/
def Off2 (n : Nat) (ini ow : Nat → Nat) (i : Nat) (E : Nat × β → Gh → Prop) (s : Gh) : Prop := ∀ e x s1, (e = 11 ∨ e = 12) → GR n i s s1 → GOk n ini ow s1 → E (e, x) s1
theorem Off2.off {E : Nat × β → Gh → Prop} {s : Gh} (h : Off2 n ini ow i E s) : Off n ini ow i E s := fun x s1 => h 11 x s1 (.inl rfl)
theorem Off2.gr {E : Nat × β → Gh → Prop} {s s1 : Gh} (h : Off2 n ini ow i E s) (v : GR n i s s1) : Off2 n ini ow i E s1 := fun e x s2 he h2 ho => h e x s2 he (v.trans h2) ho
theorem Off2.bind {E : Nat × γ → Gh → Prop} {f : Nat × β → Tree (Nat × γ)} {s : Gh} (hf : ∀ e x, (e = 11 ∨ e = 12) → ∃ y, f (e, x) = .ret (e, y)) (h : Off2 n ini ow i E s) : Off2 n ini ow i (fun a s => ∃ b, f a = .ret b ∧ E b s) s := fun e x s1 he hv ho => by
  obtain ⟨y, hy⟩ := hf e x he
  exact ⟨_, hy, h e y s1 he hv ho⟩
theorem do_keeps {E Q : Nat × β → Gh → Prop} {op : BS → Ntry × BS} {k : Nat → Ntry → Tree (Nat × β)} {s : Gh} {m : Nat} (h11 : ∃ x, k 11 blank = .ret (11, x)) (hE : Off n ini ow i E s)
    (h : ∀ s1, GR n i s s1 → GOk n ini ow s1 → GSmall s1 → ∃ x s2, op s1.S = (x, s2.S) ∧ x.err = 0 ∧ GOk n ini ow s2 ∧ GG n i s1 s2 ∧ Keeps (gm n ini ow i) E (k 0 x) m Q s2) : Keeps (gm n ini ow i) E (.acc op k) (m + 1) Q s := by
  refine ⟨Nat.succ_pos _, fun s1 h1 h2 => ?_⟩
  obtain ⟨x, hx⟩ := h11
  refine ⟨⟨_, hx, hE x s1 h1 h2⟩, fun h3 => ?_⟩
  obtain ⟨y, s2, a1, a2, a3, a4, a5⟩ := h s1 h1 h2 h3
  have e : op ((gm n ini ow i).bs s1) = (y, s2.S) := a1
  rw [e, a2]
  exact ⟨by decide, s2, rfl, a3, a4, a5⟩
/-- A load, behind which others, and what is told of it, may be another one. -/
theorem ldG_keeps {E Q : Nat × Nat → Gh → Prop} {ref k : Nat} {o : Int} {s : Gh} (hw : ∀ s1, GOk n ini ow s1 → word s1.S ref o = .ok k) (hE : Off n ini ow i E s)
    (hQ : ∀ s1, GR n i s s1 → GOk n ini ow s1 → GSmall s1 → ∃ s2, s2.S = s1.S ∧ GOk n ini ow s2 ∧ GG n i s1 s2 ∧ Q (0, s1.S.ws.getD k 0) s2) : Keeps (gm n ini ow i) E (ld ref o) 1 Q s := by
  refine do_keeps (m := 0) ⟨_, rfl⟩ hE fun s1 h1 h2 h3 => ?_
  obtain ⟨s2, a1, a2, a3, a4⟩ := hQ s1 h1 h2 h3
  exact ⟨⟨1, ref, o, s1.S.ws.getD k 0, false, 0⟩, s2, by unfold opLoad; rw [hw s1 h2, a1], rfl, a2, a3, a4⟩
theorem ld_keeps {E Q : Nat × Nat → Gh → Prop} {ref k : Nat} {o : Int} {s : Gh} (hw : ∀ s1, GOk n ini ow s1 → word s1.S ref o = .ok k) (hE : Off n ini ow i E s)
    (hQ : ∀ s1, GR n i s s1 → GOk n ini ow s1 → GSmall s1 → Q (0, s1.S.ws.getD k 0) s1) : Keeps (gm n ini ow i) E (ld ref o) 1 Q s :=
  ldG_keeps hw hE fun s1 h1 h2 h3 => ⟨s1, rfl, h2, GG.refl s1, hQ s1 h1 h2 h3⟩
theorem sto_keeps {E Q : Nat × Unit → Gh → Prop} {ref k x : Nat} {o : Int} {s : Gh} (hw : ∀ s1, GOk n ini ow s1 → word s1.S ref o = .ok k) (hE : Off n ini ow i E s)
    (hQ : ∀ s1, GR n i s s1 → GOk n ini ow s1 → GSmall s1 → ∃ s2, s2.S = { s1.S with ws := s1.S.ws.set k x } ∧ GOk n ini ow s2 ∧ GG n i s1 s2 ∧ Q (0, ()) s2) : Keeps (gm n ini ow i) E (sto ref o x) 1 Q s := by
  refine do_keeps (m := 0) ⟨_, rfl⟩ hE fun s1 h1 h2 h3 => ?_
  obtain ⟨s2, a1, a2, a3, a4⟩ := hQ s1 h1 h2 h3
  exact ⟨⟨2, ref, o, x, false, 0⟩, s2, by unfold opStore; rw [hw s1 h2, a1], rfl, a2, a3, a4⟩
theorem cas_keeps {E Q : Nat × Bool → Gh → Prop} {ref k old x : Nat} {o : Int} {s : Gh} (hw : ∀ s1, GOk n ini ow s1 → word s1.S ref o = .ok k) (hE : Off n ini ow i E s)
    (hQ : ∀ s1, GR n i s s1 → GOk n ini ow s1 → GSmall s1 → (s1.S.ws.getD k 0 = old → ∃ s2, s2.S = { s1.S with ws := s1.S.ws.set k x } ∧ GOk n ini ow s2 ∧ GG n i s1 s2 ∧ Q (0, true) s2) ∧ (s1.S.ws.getD k 0 ≠ old → Q (0, false) s1)) : Keeps (gm n ini ow i) E (cas ref o old x) 1 Q s := by
  refine do_keeps (m := 0) ⟨_, rfl⟩ hE fun s1 h1 h2 h3 => ?_
  obtain ⟨q1, q2⟩ := hQ s1 h1 h2 h3
  by_cases e : s1.S.ws.getD k 0 = old
  · obtain ⟨s2, a1, a2, a3, a4⟩ := q1 e
    exact ⟨⟨3, ref, o, x, true, 0⟩, s2, by unfold opCAS; rw [hw s1 h2, a1]; simp only [e, if_true, decide_true], rfl, a2, a3, a4⟩
  · exact ⟨⟨3, ref, o, x, false, 0⟩, s1, by unfold opCAS; rw [hw s1 h2]; simp only [e, if_false, decide_false], rfl, h2, GG.refl s1, q2 e⟩

/-! Layer 6. -/
theorem small_i {g : Gh} (h : GSmall g) : toI g.clk = (g.clk : Int) := by
  unfold GSmall at h
  unfold toI
  rw [if_pos (by omega)]
theorem mNow_keeps {E Q : Nat × Int → Gh → Prop} {s : Gh} (hE : Off n ini ow i E s) (hQ : ∀ s1, GR n i s s1 → GOk n ini ow s1 → Q (0, (s1.clk : Int)) s1) : Keeps (gm n ini ow i) E (mNow 1) 1 Q s := by
  show Keeps _ E ((ld 1 0).bind fun r => .ret (r.1, toI r.2)) 1 Q s
  refine Keeps.bindM (m := 1) (n := 0) (ld_keeps (fun s1 h => h.sc.w0) (hE.bind fun x => ⟨_, rfl⟩) fun s1 h1 h2 h3 => ?_) (Nat.le_refl _)
  show Q (0, toI (s1.S.ws.getD 2 0)) s1
  rw [h2.sc.now, small_i h3]
  exact hQ s1 h1 h2
def mtOf (ow : Nat → Nat) (g : Gh) (j : Nat) : Mt := match g.lk j with
  | none => ⟨(g.ver j : Int), 0, false, false⟩
  | some i => ⟨(g.ver j : Int), (ow i : Int), true, false⟩
theorem unM_mw (ho : ∀ i, ow i ≤ 255) (g : Gh) (j : Nat) : unM (mwOf ow g j) = mtOf ow g j := by
  unfold mwOf mtOf
  cases g.lk j with
  | none => exact unM_rest _
  | some i => exact unM_lockd _ _ (ho i)
theorem mtOf_ver (g : Gh) (j : Nat) : (mtOf ow g j).ver = (g.ver j : Int) := by
  unfold mtOf
  cases g.lk j <;> rfl
theorem mtOf_chg (g : Gh) (j : Nat) : (mtOf ow g j).chg = (g.lk j).isSome := by
  unfold mtOf
  cases g.lk j <;> rfl
theorem mw_free (ho : ∀ i, ow i ≤ 255) {g g' : Gh} {j : Nat} (h : mwOf ow g' j = mwOf ow g j) (hl : g.lk j = none) : g'.lk j = none ∧ g'.ver j = g.ver j := by
  have e := congrArg unM h
  rw [unM_mw ho, unM_mw ho] at e
  have e1 := congrArg Mt.ver e
  have e2 := congrArg Mt.chg e
  rw [mtOf_ver, mtOf_ver] at e1
  rw [mtOf_chg, mtOf_chg, hl] at e2
  refine ⟨?_, by omega⟩
  cases q : g'.lk j with
  | none => rfl
  | some _ => rw [q] at e2; cases e2
theorem mPeekG_keeps (ho : ∀ i, ow i ≤ 255) {j : Nat} (hj : j < n) {E Q : Nat × Mt → Gh → Prop} {s : Gh} (hE : Off n ini ow i E s) (hQ : ∀ s1, GR n i s s1 → GOk n ini ow s1 → GSmall s1 → ∃ s2, s2.S = s1.S ∧ GOk n ini ow s2 ∧ GG n i s1 s2 ∧ Q (0, mtOf ow s1 j) s2) : Keeps (gm n ini ow i) E (mPeek (3 + 3 * j)) 1 Q s := by
  show Keeps _ E ((ld (3 + 3 * j) 0).bind fun r => .ret (r.1, if r.1 = 0 then unM r.2 else .zero)) 1 Q s
  refine Keeps.bindM (m := 1) (n := 0) (ldG_keeps (fun s1 h => h.sc.wm j hj) (hE.bind fun x => ⟨_, rfl⟩) fun s1 h1 h2 h3 => ?_) (Nat.le_refl _)
  obtain ⟨s2, a1, a2, a3, a4⟩ := hQ s1 h1 h2 h3
  refine ⟨s2, a1, a2, a3, ?_⟩
  show Q (0, if 0 = 0 then unM (s1.S.ws.getD (4 + 3 * j) 0) else .zero) s2
  rw [if_pos rfl, h2.sc.ms j hj, unM_mw ho]
  exact a4
theorem mPeek_keeps (ho : ∀ i, ow i ≤ 255) {j : Nat} (hj : j < n) {E Q : Nat × Mt → Gh → Prop} {s : Gh} (hE : Off n ini ow i E s) (hQ : ∀ s1, GR n i s s1 → GOk n ini ow s1 → GSmall s1 → Q (0, mtOf ow s1 j) s1) : Keeps (gm n ini ow i) E (mPeek (3 + 3 * j)) 1 Q s :=
  mPeekG_keeps ho hj hE fun s1 h1 h2 h3 => ⟨s1, rfl, h2, GG.refl s1, hQ s1 h1 h2 h3⟩
/-- What a read tells. -/
def RdPost (ini : Nat → Nat) (j : Nat) (r : Nat × (Nat × Int)) (s : Gh) : Prop := r = (12, 0, 0) ∨ (r = (0, vAt ini s (s.ver j) j, (s.ver j : Int)) ∧ s.lk j = none)
theorem mReadN_keeps (ho : ∀ i, ow i ≤ 255) {j : Nat} (hj : j < n) {E Q : Nat × (Nat × Int) → Gh → Prop} : ∀ (t : Nat) (sa s : Gh), GR n i sa s → GOk n ini ow sa → GOk n ini ow s → Off2 n ini ow i E s → (∀ r s1, GR n i s s1 → GOk n ini ow s1 → RdPost ini j r s1 → Q r s1) →
    Keeps (gm n ini ow i) E (mReadN (3 + 3 * j) t (0, mwOf ow sa j)) (2 * t) Q s
  | 0, sa, s, _, _, hs, _, hQ => by
    unfold mReadN
    exact hQ _ s (GR.refl s) hs (.inl rfl)
  | t + 1, sa, s, ha, hsa, hs, hE, hQ => by
    unfold mReadN
    simp only [if_true, unM_mw ho, mtOf_chg, mtOf_ver]
    cases hl : sa.lk j with
    | some _ =>
      simp only [Option.isSome_some, if_true]
      exact hQ _ s (GR.refl s) hs (.inl rfl)
    | none =>
      simp only [Option.isSome_none, Bool.false_eq_true, if_false]
      refine Keeps.bindM (m := 1) (n := 1 + 2 * t) (ld_keeps (fun s1 h => h.sc.wv j hj) (hE.off.bind fun x => ⟨_, rfl⟩) fun s1 h1 h2 h3 => ?_) (by omega)
      simp only [if_true]
      refine Keeps.bind (m := 1) (n := 2 * t) (ld_keeps (fun s1 h => h.sc.wm j hj) (fun x sx hv hx => ?_) fun s2 k1 k2 k3 => ?_)
      · simp only [show ¬ (11 = 0 ∧ x = mwOf ow sa j) by simp, if_false]
        cases t with
        | zero => exact ⟨(12, 0, 0), rfl, hE 12 _ sx (.inr rfl) (h1.trans hv) hx⟩
        | succ t => exact ⟨(11, 0, 0), by simp [mReadN], hE 11 _ sx (.inl rfl) (h1.trans hv) hx⟩
      rw [h2.sc.vs j hj, k2.sc.ms j hj]
      by_cases e : mwOf ow s2 j = mwOf ow sa j
      · simp only [e, and_self, if_true]
        obtain ⟨f1, f2⟩ := mw_free ho e hl
        refine hQ _ s2 (h1.trans k1) k2 (.inr ⟨?_, f1⟩)
        have l1 := (ha.trans h1).ver j hj
        have l2 := k1.ver j hj
        have u1 := hsa.un j hj hl
        have u2 := k2.un j hj f1
        have c1 : s1.cur j = sa.ver j := by omega
        rw [f2, c1]
        have w1 := (k1.old (sa.ver j) (by have := (h2.le j hj).2; omega)).1
        unfold vAt
        rw [w1]
      · simp only [e, and_false, if_false]
        exact mReadN_keeps ho hj t s2 s2 (GR.refl s2) k2 k2 (hE.gr (h1.trans k1)) fun r s3 h hk hp => hQ r s3 ((h1.trans k1).trans h) hk hp
theorem mRead_keeps (ho : ∀ i, ow i ≤ 255) {j : Nat} (hj : j < n) {E Q : Nat × (Nat × Int) → Gh → Prop} {s : Gh} (hE : Off2 n ini ow i E s) (hQ : ∀ r s1, GR n i s s1 → GOk n ini ow s1 → RdPost ini j r s1 → Q r s1) : Keeps (gm n ini ow i) E (mRead (3 + 3 * j)) 17 Q s := by
  unfold mRead
  refine Keeps.bindM (m := 1) (n := 16) (ld_keeps (fun s1 h => h.sc.wm j hj) (hE.off.bind fun x => ⟨(0, 0), by simp [mReadN]⟩) fun s1 h1 h2 h3 => ?_) (Nat.le_refl _)
  rw [h2.sc.ms j hj]
  exact mReadN_keeps ho hj 8 s1 s1 (GR.refl s1) h2 h2 (hE.gr h1) fun r s2 h hk hp => hQ r s2 (h1.trans h) hk hp

/-! What was read. -/
def NoneB (g : Gh) (j V T : Nat) : Prop := ∀ s, V < s → s ≤ T → g.st s = .void ∨ g.wr s j = none
def Made (g : Gh) (j V : Nat) : Prop := V = 0 ∨ (g.st V = .made ∧ (g.wr V j).isSome = true)
theorem NoneB.gv {g g' : Gh} {j V T : Nat} (h : NoneB g j V T) (v : GV n g g') (hT : T ≤ g.clk) : NoneB g' j V T := fun s h1 h2 => by
  rcases h s h1 h2 with a | a
  · exact .inl ((v.st s (Nat.le_trans h2 hT) (by rw [a]; decide)).trans a)
  · exact .inr (by rw [(v.old s (Nat.le_trans h2 hT)).1]; exact a)
theorem NoneB.less {g : Gh} {j V T U : Nat} (h : NoneB g j V T) (hU : U ≤ T) : NoneB g j V U := fun s h1 h2 => h s h1 (Nat.le_trans h2 hU)
theorem Made.gv {g g' : Gh} {j V : Nat} (h : Made g j V) (v : GV n g g') (hV : V ≤ g.clk) : Made g' j V := by
  rcases h with a | a
  · exact .inl a
  · exact .inr ⟨(v.st V hV (by rw [a.1]; decide)).trans a.1, by rw [(v.old V hV).1]; exact a.2⟩
theorem made_one {g : Gh} {j V U T : Nat} (h1 : Made g j V) (h2 : Made g j U) (n1 : NoneB g j V T) (n2 : NoneB g j U T) (l1 : V ≤ T) (l2 : U ≤ T) : V = U := by
  have key : ∀ {V U}, Made g j U → NoneB g j V T → U ≤ T → ¬ V < U := fun {V U} hm hn hl hlt => by
    rcases hm with a | a
    · omega
    · rcases hn U hlt hl with b | b
      · rw [a.1] at b; cases b
      · rw [b] at a; cases a.2
  have a := key h2 n1 l2
  have b := key h1 n2 l1
  omega
theorem none_free {g : Gh} (hg : GOk n ini ow g) {j : Nat} (hj : j < n) (hl : g.lk j = none) : NoneB g j (g.ver j) g.clk := fun s h1 h2 => by
  by_cases e : g.st s = .void
  · exact .inl e
  · cases q : g.wr s j with
    | none => exact .inr rfl
    | some x =>
      rcases hg.act s j (by omega) h2 e hj (by rw [q]; rfl) with a | a
      · omega
      · rw [hl] at a; cases a
structure TxI (n i : Nat) (own : Int) (k T : Nat) (t : Tx) (g : Gh) : Prop where
  clock : t.clock = 1
  owner : t.owner = own
  stamp : t.stamp = (T : Int)
  le : T ≤ g.clk
  reads : ∀ x ∈ t.sets.reads, ∃ j V, j < n ∧ x = (3 + 3 * j, ((V : Nat) : Int)) ∧ V ≤ T ∧ Made g j V ∧ NoneB g j V T
  few : t.sets.reads.length ≤ k
  writes : ∀ x ∈ t.sets.writes, ∃ j, j < n ∧ x.1 = 3 + 3 * j
  sorted : Sorted t.sets.writes
  fewW : t.sets.writes.length ≤ k
theorem TxI.gv {own : Int} {k T : Nat} {t : Tx} {g g' : Gh} (h : TxI n i own k T t g) (v : GV n g g') : TxI n i own k T t g' :=
  ⟨h.clock, h.owner, h.stamp, Nat.le_trans h.le v.clk, fun x hx => by
    obtain ⟨j, V, a, b, c, d, e⟩ := h.reads x hx
    exact ⟨j, V, a, b, c, d.gv v (Nat.le_trans c h.le), e.gv v h.le⟩, h.few, h.writes, h.sorted, h.fewW⟩
theorem TxI.more {own : Int} {k m T : Nat} {t : Tx} {g : Gh} (h : TxI n i own k T t g) (hm : k ≤ m) : TxI n i own m T t g := { h with few := Nat.le_trans h.few hm, fewW := Nat.le_trans h.fewW hm }
theorem tStill_keeps (ho : ∀ i, ow i ≤ 255) (which : Nat → Bool) {E Q : Nat × Unit → Gh → Prop} : ∀ (l : List (Nat × Int)) (s : Gh) (T0 : Nat), (∀ x ∈ l, which x.1 = true → ∃ j V, j < n ∧ x = (3 + 3 * j, ((V : Nat) : Int))) → T0 ≤ s.clk → GOk n ini ow s → Off n ini ow i E s →
    (∀ r s1, GR n i s s1 → GOk n ini ow s1 → (r = (12, ()) ∨ (r = (0, ()) ∧ ∀ x ∈ l, which x.1 = true → ∀ j V, j < n → x = (3 + 3 * j, ((V : Nat) : Int)) → NoneB s1 j V T0)) → Q r s1) → Keeps (gm n ini ow i) E (tStill which l) l.length Q s
  | [], s, T0, _, _, hs, _, hQ => hQ _ s (GR.refl s) hs (.inr ⟨rfl, fun x hx => (by cases hx)⟩)
  | x :: l, s, T0, hl, hT, hs, hE, hQ => by
    unfold tStill
    by_cases e : which x.1 = true
    · rw [if_pos e]
      obtain ⟨j, V, hj, rfl⟩ := hl x (List.mem_cons_self ..) e
      refine Keeps.bindM (m := 1) (n := l.length) (mPeek_keeps ho hj (hE.bind fun x => ⟨_, rfl⟩) fun s1 h1 h2 h3 => ?_) (by simp only [List.length_cons]; omega)
      simp only [if_true, mtOf_chg, mtOf_ver]
      by_cases q : (s1.lk j).isSome = true ∨ (s1.ver j : Int) ≠ (V : Int)
      · rw [if_pos q]
        exact hQ _ s1 h1 h2 (.inl rfl)
      · rw [if_neg q]
        have hlk : s1.lk j = none := by
          cases z : s1.lk j with
          | none => rfl
          | some _ => exact absurd (.inl (by rw [z]; rfl)) q
        have hv : s1.ver j = V := by
          by_cases z : (s1.ver j : Int) = (V : Int)
          · omega
          · exact absurd (.inr z) q
        have hN : NoneB s1 j V T0 := by
          rw [← hv]
          exact (none_free h2 hj hlk).less (Nat.le_trans hT h1.clk)
        refine tStill_keeps ho which l s1 T0 (fun y hy => hl y (List.mem_cons_of_mem _ hy)) (Nat.le_trans hT h1.clk) h2 (hE.gr h1) fun r s2 k1 k2 hp => hQ r s2 (h1.trans k1) k2 ?_
        rcases hp with a | ⟨a, b⟩
        · exact .inl a
        · refine .inr ⟨a, fun y hy hw j' V' hj' ey => ?_⟩
          rcases List.mem_cons.1 hy with z | z
          · subst ey
            simp only [Prod.mk.injEq] at z
            obtain rfl : j' = j := by omega
            obtain rfl : V' = V := by omega
            exact hN.gv k1.gv (Nat.le_trans hT h1.clk)
          · exact b y z hw j' V' hj' ey
    · rw [if_neg e]
      refine (tStill_keeps ho which l s T0 (fun y hy => hl y (List.mem_cons_of_mem _ hy)) hT hs hE fun r s2 k1 k2 hp => hQ r s2 k1 k2 ?_).more (by simp)
      rcases hp with a | ⟨a, b⟩
      · exact .inl a
      · refine .inr ⟨a, fun y hy hw j' V' hj' ey => ?_⟩
        rcases List.mem_cons.1 hy with z | z
        · rw [z] at hw; exact absurd hw e
        · exact b y z hw j' V' hj' ey
theorem tBegin_keeps {own : Int} {E Q : Nat × Tx → Gh → Prop} {s : Gh} (hE : Off n ini ow i E s) (hQ : ∀ t s1, GR n i s s1 → GOk n ini ow s1 → TxI n i own 0 s1.clk t s1 → t.sets = .empty → Q (0, t) s1) : Keeps (gm n ini ow i) E (tBegin 1 own) 1 Q s := by
  show Keeps _ E ((mNow 1).bind fun r => .ret (r.1, (⟨.empty, 1, own, r.2⟩ : Tx))) 1 Q s
  refine Keeps.bindM (m := 1) (n := 0) (mNow_keeps (hE.bind fun x => ⟨_, rfl⟩) fun s1 h1 h2 => ?_) (Nat.le_refl _)
  exact hQ _ s1 h1 h2 ⟨rfl, rfl, rfl, Nat.le_refl _, fun _ h => (by cases h), Nat.le_refl _, fun _ h => (by cases h), trivial, Nat.le_refl _⟩ rfl
/-- What a read in a transaction tells. -/
def RdT (n i : Nat) (ini : Nat → Nat) (own : Int) (k T : Nat) (t : Tx) (j : Nat) (r : Nat × (Nat × Tx)) (s : Gh) : Prop :=
  r.1 = 12 ∨ ∃ v t' T', r = (0, v, t') ∧ TxI n i own (k + 1) T' t' s ∧ T ≤ T' ∧ t'.sets.writes = t.sets.writes ∧ (∀ x ∈ t.sets.reads, x ∈ t'.sets.reads) ∧
    (wget (3 + 3 * j) t.sets.writes = some v ∨ (wget (3 + 3 * j) t.sets.writes = none ∧ ∃ V, (3 + 3 * j, ((V : Nat) : Int)) ∈ t'.sets.reads ∧ v = vAt ini s V j))
theorem tRead_keeps (ho : ∀ i, ow i ≤ 255) {own : Int} {k T : Nat} {t : Tx} {j : Nat} (hj : j < n) (hk : k < 400) {E Q : Nat × (Nat × Tx) → Gh → Prop} {s : Gh} (hs : GOk n ini ow s) (ht : TxI n i own k T t s) (hE : Off2 n ini ow i E s)
    (hQ : ∀ r s1, GR n i s s1 → GOk n ini ow s1 → RdT n i ini own k T t j r s1 → Q r s1) : Keeps (gm n ini ow i) E (tRead t (3 + 3 * j)) (19 + k) Q s := by
  unfold tRead
  cases hw : wget (3 + 3 * j) t.sets.writes with
  | some v =>
    refine Keeps.more (m := 0) ?_ (Nat.zero_le _)
    exact hQ _ s (GR.refl s) hs (.inr ⟨v, t, T, rfl, ht.more (by omega), Nat.le_refl _, rfl, fun _ h => h, .inl hw⟩)
  | none =>
    refine Keeps.bindM (m := 17) (n := 2 + k) (mRead_keeps ho hj (hE.bind fun e x he => ⟨(0, t), by rcases he with rfl | rfl <;> rfl⟩) fun r s1 h1 h2 hp => ?_) (by omega)
    rcases hp with rfl | ⟨rfl, hl⟩
    · exact hQ _ s1 h1 h2 (.inl rfl)
    · simp only [if_true]
      have ht1 := ht.gv h1.gv
      obtain ⟨V, hV⟩ : ∃ V, s1.ver j = V := ⟨_, rfl⟩
      have hN := none_free h2 hj hl
      have hM : Made s1 j V := by rw [← hV]; exact h2.put j hj
      have hVc : V ≤ s1.clk := by have := h2.le j hj; omega
      rw [hV] at hN ⊢
      -- the sets behind it
      have hS : (t.sets.read (3 + 3 * j) (V : Int)).1 = 12 ∨ (t.sets.read (3 + 3 * j) (V : Int)).1 = 0 ∧ (t.sets.read (3 + 3 * j) (V : Int)).2.writes = t.sets.writes ∧ (∀ x ∈ t.sets.reads, x ∈ (t.sets.read (3 + 3 * j) (V : Int)).2.reads) ∧ (3 + 3 * j, (V : Int)) ∈ (t.sets.read (3 + 3 * j) (V : Int)).2.reads ∧ (∀ x ∈ (t.sets.read (3 + 3 * j) (V : Int)).2.reads, x ∈ t.sets.reads ∨ x = (3 + 3 * j, (V : Int))) ∧ (t.sets.read (3 + 3 * j) (V : Int)).2.reads.length ≤ k + 1 := by
        have hf := ht.few
        unfold Sets.read
        cases ha : at? (3 + 3 * j) t.sets.reads 0 with
        | some m =>
          simp only
          obtain ⟨x, h1, h2, _⟩ := at_some ha
          simp only [Nat.sub_zero] at h1
          by_cases e : (t.sets.reads.map (·.2)).getD m 0 ≠ (V : Int)
          · rw [if_pos e]; exact .inl rfl
          · rw [if_neg e]
            have e' : x = (V : Int) := by
              rw [← h1]
              exact Decidable.not_not.1 e
            subst e'
            exact .inr ⟨rfl, rfl, fun _ h => h, h2, fun _ h => .inl h, Nat.le_succ_of_le hf⟩
        | none =>
          simp only
          rw [if_neg (by omega)]
          exact .inr ⟨rfl, rfl, fun _ h => List.mem_append_left _ h, by simp, fun x hx => by simpa using hx, by simp; omega⟩
      obtain ⟨rs, hrs⟩ : ∃ rs, t.sets.read (3 + 3 * j) (V : Int) = rs := ⟨_, rfl⟩
      rw [hrs] at hS ⊢
      rcases hS with e12 | ⟨e0, eW, eR, eV, eX, eL⟩
      · rw [if_neg (by rw [e12]; decide)]
        exact hQ _ s1 h1 h2 (.inl e12)
      · rw [if_pos e0]
        have fin : ∀ (T' : Nat) (s2 : Gh), GR n i s1 s2 → T ≤ T' → T' ≤ s2.clk → V ≤ T' → (∀ x ∈ rs.2.reads, ∀ j V, j < n → x = (3 + 3 * j, ((V : Nat) : Int)) → NoneB s2 j V T') → TxI n i own (k + 1) T' ⟨rs.2, t.clock, t.owner, (T' : Int)⟩ s2 := by
          intro T' s2 g1 g2 g3 g4 g5
          refine ⟨ht.clock, ht.owner, rfl, g3, fun x hx => ?_, eL, fun x hx => ht.writes x (by rw [← eW]; exact hx), by simp only [eW]; exact ht.sorted, by simp only [eW]; exact Nat.le_succ_of_le ht.fewW⟩
          rcases eX x hx with a | a
          · obtain ⟨j', V', b1, b2, b3, b4, b5⟩ := ht1.reads x a
            exact ⟨j', V', b1, b2, by omega, b4.gv g1.gv (Nat.le_trans b3 ht1.le), g5 x hx j' V' b1 b2⟩
          · exact ⟨j, V, hj, a, g4, hM.gv g1.gv hVc, g5 x hx j V hj a⟩
        by_cases hst : (V : Int) ≤ t.stamp
        · rw [if_pos hst]
          rw [ht.stamp] at hst
          have hle : V ≤ T := by omega
          have f := fin T s1 (GR.refl s1) (Nat.le_refl _) ht1.le hle (fun x hx j' V' hj' e => by
            rcases eX x hx with a | a
            · obtain ⟨j2, V2, b1, b2, b3, b4, b5⟩ := ht1.reads x a
              rw [e] at b2
              simp only [Prod.mk.injEq] at b2
              obtain rfl : j' = j2 := by omega
              obtain rfl : V' = V2 := by omega
              exact b5
            · rw [e] at a
              simp only [Prod.mk.injEq] at a
              obtain rfl : j' = j := by omega
              obtain rfl : V' = V := by omega
              exact hN.less ht1.le)
          refine hQ _ s1 h1 h2 (.inr ⟨_, { t with sets := rs.2 }, T, rfl, ?_, Nat.le_refl _, eW, eR, .inr ⟨hw, V, eV, rfl⟩⟩)
          rw [← ht.stamp] at f
          exact f
        · rw [if_neg hst, ht.clock]
          rw [ht.stamp] at hst
          have hE1 := hE.off.gr h1
          refine Keeps.bindM (m := 1) (n := k + 1) (mNow_keeps (hE1.bind fun x => ⟨_, rfl⟩) fun s2 g1 g2 => ?_) (by omega)
          simp only [if_true]
          refine Keeps.bindM (m := rs.2.reads.length) (n := 0) (tStill_keeps ho _ rs.2.reads s2 s2.clk (fun x hx _ => ?_) (Nat.le_refl _) g2 ((hE1.gr g1).bind fun x => ⟨_, rfl⟩) fun r s3 k1 k2 hp => ?_) (by omega)
          · rcases eX x hx with a | a
            · obtain ⟨j', V', b1, b2, _⟩ := ht1.reads x a
              exact ⟨j', V', b1, b2⟩
            · exact ⟨j, V, hj, a⟩
          · rcases hp with rfl | ⟨rfl, hp⟩
            · exact hQ _ s3 (h1.trans (g1.trans k1)) k2 (.inl rfl)
            · have f := fin s2.clk s3 (g1.trans k1) (Nat.le_trans ht1.le g1.clk) k1.clk (Nat.le_trans hVc g1.clk) (fun x hx j' V' hj' e => hp x hx rfl j' V' hj' e)
              refine hQ _ s3 (h1.trans (g1.trans k1)) k2 (.inr ⟨vAt ini s1 V j, ⟨rs.2, t.clock, t.owner, (s2.clk : Int)⟩, s2.clk, ?_, f, Nat.le_trans ht1.le g1.clk, eW, eR, .inr ⟨hw, V, eV, ?_⟩⟩)
              · simp only [if_true, ht.clock]
              · unfold vAt
                rw [((g1.trans k1).old V hVc).1]
theorem tWrite_keeps {own : Int} {k T : Nat} {t : Tx} {s : Gh} (h : TxI n i own k T t s) (hk : k < 400) {j : Nat} (hj : j < n) (x : Nat) :
    ∃ t', tWrite t (3 + 3 * j) x = (0, t') ∧ TxI n i own (k + 1) T t' s ∧ t'.sets.writes = wput (3 + 3 * j) x t.sets.writes ∧ t'.sets.reads = t.sets.reads := by
  have hf := h.fewW
  have hl := length_wput (k := 3 + 3 * j) (v := x) t.sets.writes
  have e : (t.sets.write (3 + 3 * j) x) = (0, { t.sets with writes := wput (3 + 3 * j) x t.sets.writes, log := if t.sets.marks = [] then t.sets.log else t.sets.log ++ [⟨3 + 3 * j, (wget (3 + 3 * j) t.sets.writes).getD 0, (wget (3 + 3 * j) t.sets.writes).isSome⟩] }) := by
    unfold Sets.write
    rw [if_neg (by omega)]
  refine ⟨(tWrite t (3 + 3 * j) x).2, ?_, ?_, ?_, ?_⟩
  · unfold tWrite
    rw [e]
  · unfold tWrite
    rw [e]
    refine ⟨h.clock, h.owner, h.stamp, h.le, h.reads, Nat.le_succ_of_le h.few, fun y hy => ?_, sorted_wput h.sorted, Nat.le_trans hl (Nat.succ_le_succ hf)⟩
    rcases mem_wput hy with q | q
    · exact ⟨j, hj, by rw [q]⟩
    · exact h.writes y q
  · unfold tWrite; rw [e]
  · unfold tWrite; rw [e]
theorem tCheck_keeps (ho : ∀ i, ow i ≤ 255) {own : Int} {k T : Nat} {t : Tx} {s : Gh} (hs : GOk n ini ow s) (ht : TxI n i own k T t s) {E Q : Nat × Unit → Gh → Prop} (hE : Off n ini ow i E s)
    (hQ : ∀ r s1, GR n i s s1 → GOk n ini ow s1 → (r = (12, ()) ∨ r = (0, ())) → Q r s1) : Keeps (gm n ini ow i) E (tCheck t) k Q s := by
  unfold tCheck
  refine (tStill_keeps ho _ t.sets.reads s 0 (fun x hx _ => ?_) (Nat.zero_le _) hs hE fun r s1 k1 k2 hp => hQ r s1 k1 k2 ?_).more ht.few
  · obtain ⟨j, V, a, b, _⟩ := ht.reads x hx
    exact ⟨j, V, a, b⟩
  · rcases hp with a | a
    · exact .inl a
    · exact .inr a.1
end
end Go.Proofs.YtmdganpealbmpaaGreatDoor.Th

/- Transactions of cells in any order of steps: what a commit keeps to. No program stands here. -/
namespace Go.Proofs.YtmdganpealbmpaaGreatDoor.Th
open Bl

theorem sorted_append : ∀ {a b : List (Nat × Nat)}, Sorted (a ++ b) → Sorted a ∧ Sorted b ∧ ∀ x ∈ a, ∀ y ∈ b, x.1 < y.1
  | [], b, h => ⟨trivial, h, fun _ hx => (by cases hx)⟩
  | x :: a, b, h => by
    obtain ⟨h1, h2, h3⟩ := sorted_append (a := a) (b := b) h.2
    refine ⟨⟨fun y hy => h.1 y (List.mem_append_left _ hy), h1⟩, h2, fun y hy z hz => ?_⟩
    rcases List.mem_cons.1 hy with e | e
    · rw [e]; exact h.1 z (List.mem_append_right _ hz)
    · exact h3 y e z hz
theorem at_none {k : Nat} : ∀ {l : List (Nat × Int)} {i : Nat}, at? k l i = none → ∀ x ∈ l, x.1 ≠ k
  | [], _, _, x, hx => by cases hx
  | y :: l, i, h, x, hx => by
    unfold at? at h
    split at h
    · cases h
    · rename_i e
      rcases List.mem_cons.1 hx with q | q
      · rw [q]; exact fun z => e z.symm
      · exact at_none h x q

section
variable {n : Nat} {ini ow : Nat → Nat} {i : Nat} {β γ : Type}
/-- E is so, whatever anybody does from now on, of each end because the step is over. -/
def OffV (n : Nat) (ini ow : Nat → Nat) (E : Nat × β → Gh → Prop) (s : Gh) : Prop := ∀ x s1, GV n s s1 → GOk n ini ow s1 → E (11, x) s1
theorem OffV.gv {E : Nat × β → Gh → Prop} {s s1 : Gh} (h : OffV n ini ow E s) (v : GV n s s1) : OffV n ini ow E s1 := fun x s2 h2 ho => h x s2 (v.trans h2) ho
theorem OffV.off {E : Nat × β → Gh → Prop} {s : Gh} (h : OffV n ini ow E s) : Off n ini ow i E s := fun x s1 h1 => h x s1 h1.gv
theorem OffV.bind {E : Nat × γ → Gh → Prop} {f : Nat × β → Tree (Nat × γ)} {s : Gh} (hf : ∀ x, ∃ y, f (11, x) = .ret (11, y)) (h : OffV n ini ow E s) : OffV n ini ow (fun a s => ∃ b, f a = .ret b ∧ E b s) s := fun x s1 hv ho => by
  obtain ⟨y, hy⟩ := hf x
  exact ⟨_, hy, h y s1 hv ho⟩
/-- Nothing of its own stamps stands. -/
def Void (i : Nat) (g : Gh) : Prop := ∀ s, 1 ≤ s → s ≤ g.clk → g.own s = i → g.st s = .void
theorem Void.gr {g g' : Gh} (h : Void i g) (r : GR n i g g') : Void i g' := fun s h1 h2 h3 => by
  obtain ⟨a, b⟩ := r.mine s h2 h3
  rw [b]
  exact h s h1 a (by rw [← (r.old s a).2]; exact h3)
/-- Which cells it has locked. -/
structure HoldI (n i : Nat) (L : Nat → Prop) (g : Gh) : Prop where
  lk : ∀ j, j < n → (g.lk j = some i ↔ L j)
  cur : ∀ j, j < n → L j → g.cur j = g.ver j
theorem HoldI.gr {L : Nat → Prop} {g g' : Gh} (h : HoldI n i L g) (r : GR n i g g') : HoldI n i L g' :=
  ⟨fun j hj => (r.lk j hj).symm.trans (h.lk j hj), fun j hj hl => by
    obtain ⟨a, b⟩ := r.held j hj ((h.lk j hj).2 hl)
    rw [a, b]; exact h.cur j hj hl⟩
theorem HoldI.cast {L M : Nat → Prop} {g : Gh} (h : HoldI n i L g) (e : ∀ j, j < n → (L j ↔ M j)) : HoldI n i M g := ⟨fun j hj => (h.lk j hj).trans (e j hj), fun j hj hl => h.cur j hj ((e j hj).2 hl)⟩
/-- A cell was locked by it. -/
structure LockCh (i j : Nat) (g g' : Gh) : Prop where
  clk : g'.clk = g.clk
  ver : g'.ver = g.ver
  cur : g'.cur = g.cur
  st : g'.st = g.st
  own : g'.own = g.own
  wr : g'.wr = g.wr
  lk : ∀ k, g'.lk k = if k = j then some i else g.lk k
theorem mTurnN_keeps (ho : ∀ i, ow i ≤ 255) {j : Nat} (hj : j < n) {V : Nat} {E Q : Nat × Unit → Gh → Prop} : ∀ (t : Nat) (s : Gh), GOk n ini ow s → Off n ini ow i E s → (∀ s1, GR n i s s1 → GOk n ini ow s1 → Q (12, ()) s1) →
    (∀ s1 s2, GR n i s s1 → GOk n ini ow s1 → GOk n ini ow s2 → GG n i s1 s2 → s1.lk j = none → s1.ver j = V → LockCh i j s1 s2 → Q (0, ()) s2) →
    Keeps (gm n ini ow i) E (mTurnN (3 + 3 * j) (V : Int) (fun m => { m with own := ((ow i : Nat) : Int), chg := true }) t) (2 * t) Q s
  | 0, s, hs, _, h12, _ => h12 s (GR.refl s) hs
  | t + 1, s, hs, hE, h12, h0 => by
    unfold mTurnN
    refine Keeps.bindM (m := 1) (n := 1 + 2 * t) (mPeek_keeps ho hj (hE.bind fun x => ⟨_, rfl⟩) fun s1 h1 h2 h3 => ?_) (by omega)
    simp only [if_true]
    unfold mTurnIn
    by_cases q : (s1.lk j).isSome = true ∨ (s1.ver j : Int) ≠ (V : Int)
    · rw [if_pos (by rw [mtOf_chg, mtOf_ver]; exact q)]
      exact h12 s1 h1 h2
    · have hlk : s1.lk j = none := by
        cases z : s1.lk j with
        | none => rfl
        | some _ => exact absurd (.inl (by rw [z]; rfl)) q
      have hv : s1.ver j = V := by
        by_cases z : (s1.ver j : Int) = (V : Int)
        · omega
        · exact absurd (.inr z) q
      have hm : mtOf ow s1 j = ⟨(V : Int), 0, false, false⟩ := by unfold mtOf; rw [hlk, hv]
      have hVs : V ≤ 281474976710655 := by
        have := h2.le j hj
        unfold GSmall at h3
        omega
      rw [hm]
      simp only [Bool.false_eq_true, ne_eq, not_true, or_self, if_false, Mt.mk.injEq, Bool.true_eq_false, and_false, false_and, pack_rest hVs, pack_lockd hVs (ho i), if_true]
      refine Keeps.bind (m := 1) (n := 2 * t) (cas_keeps (fun s1 h => h.sc.wm j hj) ((hE.gr h1).bind fun x => ⟨_, rfl⟩) fun s2 k1 k2 k3 => ⟨fun e => ?_, fun e => ?_⟩)
      · rw [k2.sc.ms j hj] at e
        have hb : mwOf ow s2 j = mwOf ow s1 j := by
          rw [e]; unfold mwOf; rw [hlk, hv]
        obtain ⟨f1, f2⟩ := mw_free ho hb hlk
        obtain ⟨s3, a1, a2, a3, a4, a5, a6, a7, a8, a9, a10⟩ := ch_lock (i := i) k2 hj f1
        rw [f2, hv] at a1
        refine ⟨s3, a1, a2, a3, ?_⟩
        simp only [if_true]
        exact h0 s2 s3 (h1.trans k1) k2 a2 a3 f1 (f2.trans hv) ⟨a4, a5, a6, a7, a8, a9, a10⟩
      · simp only [if_true, Bool.false_eq_true, if_false]
        exact mTurnN_keeps ho hj t s2 k2 (hE.gr (h1.trans k1)) (fun s3 g1 g2 => h12 s3 ((h1.trans k1).trans g1) g2) (fun s3 s4 g1 g2 => h0 s3 s4 ((h1.trans k1).trans g1) g2)
theorem reads_one {own : Int} {k T : Nat} {t : Tx} {s : Gh} (ht : TxI n i own k T t s) {j V U : Nat} (h1 : (3 + 3 * j, ((V : Nat) : Int)) ∈ t.sets.reads) (h2 : (3 + 3 * j, ((U : Nat) : Int)) ∈ t.sets.reads) : V = U := by
  obtain ⟨j1, V1, a1, a2, a3, a4, a5⟩ := ht.reads _ h1
  obtain ⟨j2, V2, b1, b2, b3, b4, b5⟩ := ht.reads _ h2
  simp only [Prod.mk.injEq] at a2 b2
  obtain rfl : j = j1 := by omega
  obtain rfl : j = j2 := by omega
  obtain rfl : V = V1 := by omega
  obtain rfl : U = V2 := by omega
  exact made_one a4 b4 a5 b5 a3 b3
theorem tLock_keeps (ho : ∀ i, ow i ≤ 255) {k T : Nat} {t : Tx} {j : Nat} (hj : j < n) {E Q : Nat × Unit → Gh → Prop} {s : Gh} (hs : GOk n ini ow s) (ht : TxI n i (ow i : Int) k T t s) (hE : Off n ini ow i E s) (h12 : ∀ s1, GR n i s s1 → GOk n ini ow s1 → Q (12, ()) s1)
    (h0 : ∀ s1 s2, GR n i s s1 → GOk n ini ow s1 → GOk n ini ow s2 → GG n i s1 s2 → s1.lk j = none → (∀ V : Nat, (3 + 3 * j, (V : Int)) ∈ t.sets.reads → s1.ver j = V) → LockCh i j s1 s2 → Q (0, ()) s2) :
    Keeps (gm n ini ow i) E (tLock t (3 + 3 * j)) 17 Q s := by
  unfold tLock Sets.version
  cases ha : at? (3 + 3 * j) t.sets.reads 0 with
  | some m =>
    obtain ⟨x, h1, h2, _⟩ := at_some ha
    simp only [Nat.sub_zero] at h1
    simp only [Option.map_some, h1, ht.owner]
    obtain ⟨j1, V1, a1, a2, _⟩ := ht.reads _ h2
    simp only [Prod.mk.injEq] at a2
    obtain rfl : x = (V1 : Int) := a2.2
    refine (mTurnN_keeps ho hj 8 s hs hE h12 fun s1 s2 g1 g2 g3 g4 g5 g6 g7 => h0 s1 s2 g1 g2 g3 g4 g5 (fun V hV => ?_) g7).more (by omega)
    rw [g6]
    exact reads_one ht h2 hV
  | none =>
    simp only [Option.map_none, ht.owner]
    refine Keeps.bindM (m := 1) (n := 16) (mPeek_keeps ho hj (hE.bind fun x => ⟨_, rfl⟩) fun s1 h1 h2 h3 => ?_) (Nat.le_refl _)
    simp only [if_true, mtOf_ver]
    exact mTurnN_keeps ho hj 8 s1 h2 (hE.gr h1) (fun s2 g1 g2 => h12 s2 (h1.trans g1) g2) (fun s2 s3 g1 g2 g3 g4 g5 g6 g7 => h0 s2 s3 (h1.trans g1) g2 g3 g4 g5 (fun V hV => absurd rfl (at_none ha _ hV)) g7)
/-- It is let go, behind a look by which what came of its stamp is told. -/
theorem mRelease_keeps (ho : ∀ i, ow i ≤ 255) {L : Nat → Prop} {j : Nat} (hj : j < n) (hL : L j) {E Q : Nat × Unit → Gh → Prop} {s : Gh} (hh : HoldI n i L s) (hE : OffV n ini ow E s)
    (hG : ∀ s1, GR n i s s1 → GOk n ini ow s1 → ∃ s2, s2.S = s1.S ∧ GOk n ini ow s2 ∧ GG n i s1 s2 ∧ s2.lk = s1.lk ∧ s2.ver = s1.ver ∧ s2.cur = s1.cur ∧ Void i s2)
    (hQ : ∀ s1, GV n s s1 → GOk n ini ow s1 → Void i s1 → HoldI n i (fun k => L k ∧ k ≠ j) s1 → Q (0, ()) s1) : Keeps (gm n ini ow i) E (mRelease (3 + 3 * j)) 2 Q s := by
  unfold mRelease mLocked
  refine Keeps.bindM (m := 1) (n := 1) (Keeps.bindM (m := 1) (n := 0) (mPeekG_keeps ho hj (Off.bind (fun x => ⟨_, rfl⟩) (Off.bind (fun x => ⟨_, rfl⟩) hE.off)) fun s1 h1 h2 h3 => ?_) (Nat.le_refl _)) (Nat.le_refl _)
  obtain ⟨s2, a1, a2, a3, a4, a5, a6, a7⟩ := hG s1 h1 h2
  have hh1 := hh.gr h1
  have hh2 : HoldI n i L s2 := ⟨fun k hk => by rw [a4]; exact hh1.lk k hk, fun k hk hl => by rw [a5, a6]; exact hh1.cur k hk hl⟩
  have hl1 : s1.lk j = some i := (hh1.lk j hj).2 hL
  refine ⟨s2, a1, a2, a3, ?_⟩
  have hV : s1.ver j ≤ 281474976710655 := by
    have := h2.le j hj
    unfold GSmall at h3
    omega
  show Keeps _ _ (if (if 0 = 0 then (if (mtOf ow s1 j).chg = true then 0 else 2) else 0) = 0 then mPut (3 + 3 * j) ⟨(mtOf ow s1 j).ver, 0, false, (mtOf ow s1 j).wait⟩ else _) 1 Q s2
  have hw : (mtOf ow s1 j).wait = false := by unfold mtOf; rw [hl1]
  rw [mtOf_chg, hl1, mtOf_ver, hw, if_pos (by simp)]
  unfold mPut
  rw [pack_rest hV]
  simp only [if_true]
  refine sto_keeps (fun s1 h => h.sc.wm j hj) (hE.gv (h1.gv.trans a3.gv)).off fun s3 k1 k2 k3 => ?_
  have hh3 := hh2.gr k1
  have hl3 : s3.lk j = some i := (hh3.lk j hj).2 hL
  have hv3 : s3.ver j = s1.ver j := by
    rw [(k1.held j hj ((hh2.lk j hj).2 hL)).1, a5]
  obtain ⟨s4, b1, b2, b3, b4, b5, b6, b7, b8, b9, b10⟩ := ch_unlock k2 hj hl3 (hh3.cur j hj hL) (a7.gr k1)
  rw [hv3] at b1
  refine ⟨s4, b1, b2, b3, hQ s4 (h1.gv.trans (a3.gv.trans (k1.gv.trans b3.gv))) b2 ?_ ⟨fun k hk => ?_, fun k hk hl => ?_⟩⟩
  · intro s x1 x2 x3
    rw [b7]
    exact a7.gr k1 s x1 (by rw [← b4]; exact x2) (by rw [← b8]; exact x3)
  · rw [b10]
    by_cases e : k = j
    · simp [e]
    · simp only [e, if_false, ne_eq, not_false_eq_true, and_true]
      exact hh3.lk k hk
  · rw [b5, b6]
    exact hh3.cur k hk hl.1
def CellsL (l : List (Nat × Nat)) (j : Nat) : Prop := ∃ x ∈ l, x.1 = 3 + 3 * j
theorem cellsL_tail {x : Nat × Nat} {l : List (Nat × Nat)} {j : Nat} (hs : Sorted (x :: l)) (e : x.1 = 3 + 3 * j) (k : Nat) : (CellsL (x :: l) k ∧ k ≠ j) ↔ CellsL l k := by
  constructor
  · rintro ⟨⟨y, hy, ey⟩, hk⟩
    rcases List.mem_cons.1 hy with q | q
    · rw [q, e] at ey; omega
    · exact ⟨y, q, ey⟩
  · rintro ⟨y, hy, ey⟩
    refine ⟨⟨y, List.mem_cons_of_mem _ hy, ey⟩, fun q => ?_⟩
    have := hs.1 y hy
    rw [e, ey, q] at this
    omega
theorem tRelease_keeps (ho : ∀ i, ow i ≤ 255) {E Q : Nat × Unit → Gh → Prop} : ∀ (l : List (Nat × Nat)) (s : Gh), Sorted l → (∀ x ∈ l, ∃ j, j < n ∧ x.1 = 3 + 3 * j) → GOk n ini ow s → HoldI n i (CellsL l) s → OffV n ini ow E s →
    (l = [] → Void i s) → (∀ s1, GR n i s s1 → GOk n ini ow s1 → ∃ s2, s2.S = s1.S ∧ GOk n ini ow s2 ∧ GG n i s1 s2 ∧ s2.lk = s1.lk ∧ s2.ver = s1.ver ∧ s2.cur = s1.cur ∧ Void i s2) →
    (∀ s1, GV n s s1 → GOk n ini ow s1 → Void i s1 → HoldI n i (fun _ => False) s1 → Q (12, ()) s1) → Keeps (gm n ini ow i) E (tRelease 12 l) (2 * l.length) Q s
  | [], s, _, _, hs, hh, _, hv, _, hQ => hQ s (GV.refl s) hs (hv rfl) (hh.cast fun j _ => ⟨fun ⟨_, h, _⟩ => (by cases h), fun h => h.elim⟩)
  | x :: l, s, hso, hl, hs, hh, hE, hv, hG, hQ => by
    obtain ⟨j, hj, e⟩ := hl x (List.mem_cons_self ..)
    unfold tRelease
    rw [e]
    refine Keeps.bindM (m := 2) (n := 2 * l.length) (mRelease_keeps ho hj ⟨x, List.mem_cons_self .., e⟩ hh (hE.bind fun x => ⟨_, rfl⟩) hG fun s1 h1 h2 h3 h4 => ?_) (by simp only [List.length_cons]; omega)
    simp only [if_true]
    refine tRelease_keeps ho l s1 hso.2 (fun y hy => hl y (List.mem_cons_of_mem _ hy)) h2 (h4.cast fun k _ => cellsL_tail hso e k) (hE.gv h1) (fun _ => h3) (fun s2 k1 k2 => ⟨s2, rfl, k2, GG.refl s2, rfl, rfl, rfl, h3.gr k1⟩) fun s2 k1 k2 k3 k4 => hQ s2 (h1.trans k1) k2 k3 k4
/-- The versions of what it has locked are those that it read. -/
def VersI (t : Tx) (L : Nat → Prop) (g : Gh) : Prop := ∀ j, L j → ∀ V : Nat, (3 + 3 * j, (V : Int)) ∈ t.sets.reads → g.ver j = V
theorem tLocks_keeps (ho : ∀ i, ow i ≤ 255) {k T : Nat} {t : Tx} {E Q : Nat × Unit → Gh → Prop} : ∀ (l done : List (Nat × Nat)) (s : Gh), Sorted (done ++ l) → (∀ x ∈ done ++ l, ∃ j, j < n ∧ x.1 = 3 + 3 * j) → GOk n ini ow s → TxI n i (ow i : Int) k T t s → HoldI n i (CellsL done) s → Void i s → VersI t (CellsL done) s → OffV n ini ow E s →
    (∀ s1, GV n s s1 → GOk n ini ow s1 → Void i s1 → HoldI n i (fun _ => False) s1 → Q (12, ()) s1) →
    (∀ s1, GV n s s1 → GOk n ini ow s1 → Void i s1 → HoldI n i (CellsL (done ++ l)) s1 → VersI t (CellsL (done ++ l)) s1 → Q (0, ()) s1) →
    Keeps (gm n ini ow i) E (tLocks t done l) (19 * l.length + 2 * done.length) Q s
  | [], done, s, _, _, hs, _, hh, hv, hve, _, _, h0 => by
    rw [List.append_nil] at h0
    exact h0 s (GV.refl s) hs hv hh hve
  | x :: l, done, s, hso, hl, hs, ht, hh, hv, hve, hE, h12, h0 => by
    obtain ⟨j, hj, e⟩ := hl x (by simp)
    unfold tLocks
    rw [e]
    obtain ⟨s1', s2', s3'⟩ := sorted_append hso
    refine Keeps.bindM (m := 17) (n := 19 * l.length + 2 * done.length + 2) (tLock_keeps ho hj hs ht (hE.off.bind fun x => ⟨(), by simp [tFail]⟩) (fun s1 h1 h2 => ?_) fun s1 s2 h1 h2 h3 h4 h5 h6 h7 => ?_) (by simp only [List.length_cons]; omega)
    · simp only [show ¬ (12 = 0) by decide, if_false, tFail, show ¬ (12 = 11) by decide]
      refine (tRelease_keeps ho done s1 s1' (fun y hy => hl y (List.mem_append_left _ hy)) h2 (hh.gr h1) (hE.gv h1.gv) (fun _ => hv.gr h1) (fun s2 k1 k2 => ⟨s2, rfl, k2, GG.refl s2, rfl, rfl, rfl, (hv.gr h1).gr k1⟩) fun s2 k1 k2 k3 k4 => h12 s2 (h1.gv.trans k1) k2 k3 k4).more (by omega)
    · simp only [if_true]
      have hv1 := hv.gr h1
      have hh1 := hh.gr h1
      have hcell : ∀ k, CellsL (done ++ [x]) k ↔ CellsL done k ∨ k = j := fun k => by
        constructor
        · rintro ⟨y, hy, ey⟩
          rcases List.mem_append.1 hy with q | q
          · exact .inl ⟨y, q, ey⟩
          · rw [List.mem_singleton.1 q, e] at ey
            exact .inr (by omega)
        · rintro (⟨y, hy, ey⟩ | rfl)
          · exact ⟨y, List.mem_append_left _ hy, ey⟩
          · exact ⟨x, by simp, e⟩
      have hV := h1.gv.trans h4.gv
      rw [show done ++ x :: l = (done ++ [x]) ++ l by simp] at hso hl h0
      refine (tLocks_keeps ho l (done ++ [x]) s2 hso hl h3 (ht.gv hV) ⟨fun k hk => ?_, fun k hk hl' => ?_⟩ (fun z x1 x2 x3 => ?_) (fun k hk V hr => ?_) (hE.gv hV) (fun s3 k1 k2 k3 k4 => h12 s3 (hV.trans k1) k2 k3 k4) (fun s3 k1 k2 k3 k4 k5 => h0 s3 (hV.trans k1) k2 k3 k4 k5)).more (by simp; omega)
      · rw [h7.lk, hcell]
        by_cases q : k = j
        · simp [q]
        · simp only [q, if_false, or_false]
          exact hh1.lk k hk
      · rw [h7.cur, h7.ver]
        rcases (hcell k).1 hl' with q | rfl
        · exact hh1.cur k hk q
        · exact h2.un k hj h5
      · rw [h7.st]
        exact hv1 z x1 (by rw [← h7.clk]; exact x2) (by rw [← h7.own]; exact x3)
      · rw [h7.ver]
        rcases (hcell k).1 hk with q | rfl
        · have hkn : k < n := by
            obtain ⟨y, hy, ey⟩ := q
            obtain ⟨k', hk', ek⟩ := hl y (by simp [hy])
            omega
          rw [(h1.held k hkn ((hh.lk k hkn).2 q)).1]
          exact hve k q V hr
        · exact h6 V hr
/-- Behind a tick: the stamp stands, and which cells are still locked. -/
structure PutI (n i sN : Nat) (W : Nat → Option Nat) (L : Nat → Prop) (g : Gh) : Prop where
  pos : 1 ≤ sN
  le : sN ≤ g.clk
  own : g.own sN = i
  wr : g.wr sN = W
  st : g.st sN ≠ .void
  only : ∀ k, 1 ≤ k → k ≤ g.clk → g.own k = i → g.st k ≠ .void → k = sN
  lk : ∀ j, j < n → (g.lk j = some i ↔ L j)
  cur : ∀ j, j < n → L j → g.cur j = g.ver j ∧ g.ver j < sN
theorem PutI.gr {sN : Nat} {W : Nat → Option Nat} {L : Nat → Prop} {g g' : Gh} (h : PutI n i sN W L g) (r : GR n i g g') : PutI n i sN W L g' := by
  have hown : g'.own sN = i := by rw [(r.old sN h.le).2]; exact h.own
  have hle := Nat.le_trans h.le r.clk
  refine ⟨h.pos, hle, hown, by rw [(r.old sN h.le).1]; exact h.wr, by rw [(r.mine sN hle hown).2]; exact h.st, fun k h1 h2 h3 h4 => ?_, fun j hj => (r.lk j hj).symm.trans (h.lk j hj), fun j hj hl => ?_⟩
  · obtain ⟨a, b⟩ := r.mine k h2 h3
    rw [b] at h4
    exact h.only k h1 a (by rw [← (r.old k a).2]; exact h3) h4
  · obtain ⟨a, b⟩ := r.held j hj ((h.lk j hj).2 hl)
    rw [a, b]
    exact h.cur j hj hl
theorem PutI.cast {sN : Nat} {W : Nat → Option Nat} {L M : Nat → Prop} {g : Gh} (h : PutI n i sN W L g) (e : ∀ j, j < n → (L j ↔ M j)) : PutI n i sN W M g :=
  { h with lk := fun j hj => (h.lk j hj).trans (e j hj), cur := fun j hj hl => h.cur j hj ((e j hj).2 hl) }
theorem mTickN_keeps {L : Nat → Prop} {W : Nat → Option Nat} (hW : ∀ j, j < n → (W j).isSome = true → L j) {E Q : Nat × Int → Gh → Prop} : ∀ (t : Nat) (s : Gh), GOk n ini ow s → HoldI n i L s → Void i s → Off n ini ow i E s → (∀ s1, GR n i s s1 → GOk n ini ow s1 → Q (12, 0) s1) →
    (∀ s1 s2, GR n i s s1 → GOk n ini ow s1 → GV n s1 s2 → GOk n ini ow s2 → s2.clk = s1.clk + 1 → s2.st s2.clk = .opn → PutI n i s2.clk W L s2 → Q (0, (s2.clk : Int)) s2) → Keeps (gm n ini ow i) E (mTickN 1 t) (2 * t) Q s
  | 0, s, hs, _, _, _, h12, _ => h12 s (GR.refl s) hs
  | t + 1, s, hs, hh, hv, hE, h12, h0 => by
    unfold mTickN
    refine Keeps.bindM (m := 1) (n := 1 + 2 * t) (ld_keeps (fun s1 h => h.sc.w0) (hE.bind fun x => ⟨_, rfl⟩) fun s1 h1 h2 h3 => ?_) (by omega)
    simp only [if_true]
    rw [h2.sc.now]
    refine Keeps.bind (m := 1) (n := 2 * t) (cas_keeps (fun s1 h => h.sc.w0) ((hE.gr h1).bind fun x => ⟨_, rfl⟩) fun s2 k1 k2 k3 => ⟨fun e => ?_, fun e => ?_⟩)
    · rw [k2.sc.now] at e
      have e2 : inc s1.clk = s2.clk + 1 := by
        unfold inc
        unfold GSmall at k3
        omega
      have hh2 := (hh.gr h1).gr k1
      have hv2 := (hv.gr h1).gr k1
      obtain ⟨s3, a1, a2, a3, a4, a5, a6, a7, a8, a9, a10, a11⟩ := ch_tick k2 W (fun j hj hw => (hh2.lk j hj).2 (hW j hj hw))
      rw [e2]
      refine ⟨s3, a1, a2, a3, ?_⟩
      simp only [if_true]
      have e3 : toI (s2.clk + 1) = ((s2.clk + 1 : Nat) : Int) := by
        unfold toI
        unfold GSmall at k3
        rw [if_pos (by omega)]
      rw [e3, ← a4]
      refine h0 s2 s3 (h1.trans k1) k2 a3.gv a2 a4 (by rw [a4]; exact a9) ⟨by omega, Nat.le_refl _, by rw [a4]; exact a10, by rw [a4]; exact a11, by rw [a4, a9]; decide, fun k x1 x2 x3 x4 => ?_, fun j hj => by rw [a7]; exact hh2.lk j hj, fun j hj hl => ?_⟩
      · by_cases q : k ≤ s2.clk
        · obtain ⟨b1, b2, b3⟩ := a8 k q
          rw [b1] at x4
          exact absurd (hv2 k x1 q (by rw [← b2]; exact x3)) x4
        · omega
      · rw [a5, a6]
        have := k2.le j hj
        exact ⟨hh2.cur j hj hl, by omega⟩
    · simp only [if_true, Bool.false_eq_true, if_false]
      exact mTickN_keeps hW t s2 k2 ((hh.gr h1).gr k1) ((hv.gr h1).gr k1) (hE.gr (h1.trans k1)) (fun s3 g1 g2 => h12 s3 ((h1.trans k1).trans g1) g2) (fun s3 s4 g1 => h0 s3 s4 ((h1.trans k1).trans g1))
theorem mCommit_keeps (ho : ∀ i, ow i ≤ 255) {sN x : Nat} {W : Nat → Option Nat} {L : Nat → Prop} {j : Nat} (hj : j < n) (hL : L j) (hx : W j = some x) {E Q : Nat × Bool → Gh → Prop} {s : Gh} (hp : PutI n i sN W L s) (hE : OffV n ini ow E s)
    (hQ : ∀ w s1, GV n s s1 → GOk n ini ow s1 → PutI n i sN W (fun k => L k ∧ k ≠ j) s1 → s1.st sN = .made → Q (0, w) s1) : Keeps (gm n ini ow i) E (mCommit (3 + 3 * j) x (sN : Int)) 3 Q s := by
  unfold mCommit mLocked
  refine Keeps.bindM (m := 1) (n := 2) (Keeps.bindM (m := 1) (n := 0) (mPeekG_keeps ho hj (Off.bind (fun x => ⟨_, rfl⟩) (Off.bind (fun x => ⟨_, rfl⟩) hE.off)) fun s1 h1 h2 h3 => ?_) (Nat.le_refl _)) (Nat.le_refl _)
  have hp1 := hp.gr h1
  have hl1 : s1.lk j = some i := (hp1.lk j hj).2 hL
  -- the stamp is done from here on
  obtain ⟨s2, a1, a2, a3, hp2, hm2⟩ : ∃ s2, s2.S = s1.S ∧ GOk n ini ow s2 ∧ GG n i s1 s2 ∧ PutI n i sN W L s2 ∧ s2.st sN = .made := by
    cases q : s1.st sN with
    | void => exact absurd q hp1.st
    | made => exact ⟨s1, rfl, h2, GG.refl s1, hp1, q⟩
    | opn =>
      obtain ⟨s2, b1, b2, b3, b4, b5, b6, b7, b8, b9, b10⟩ := ch_fate h2 hp1.own q .made
      have hst : s2.st sN = .made := by rw [b10, if_pos rfl]
      refine ⟨s2, b1, b2, b3, ⟨hp1.pos, by rw [b4]; exact hp1.le, by rw [b8]; exact hp1.own, by rw [b9]; exact hp1.wr, by rw [hst]; decide, fun k x1 x2 x3 x4 => ?_, fun k hk => by rw [b7]; exact hp1.lk k hk, fun k hk hl => by rw [b5, b6]; exact hp1.cur k hk hl⟩, hst⟩
      rw [b4] at x2
      rw [b8] at x3
      by_cases z : k = sN
      · exact z
      · rw [b10, if_neg z] at x4
        exact hp1.only k x1 x2 x3 x4
  refine ⟨s2, a1, a2, a3, ?_⟩
  show Keeps _ _ (if (if 0 = 0 then (if (mtOf ow s1 j).chg = true then 0 else 2) else 0) = 0 then _ else _) 2 Q s2
  rw [mtOf_chg, hl1, if_pos (by simp)]
  have hE2 := hE.gv (h1.gv.trans a3.gv)
  refine Keeps.bindM (m := 1) (n := 1) (sto_keeps (fun s1 h => h.sc.wv j hj) (hE2.off.bind fun x => ⟨_, rfl⟩) fun s3 k1 k2 k3 => ?_) (Nat.le_refl _)
  have hp3 := hp2.gr k1
  have hm3 : s3.st sN = .made := (k1.st sN hp2.le (by rw [hm2]; decide)).trans hm2
  have hc3 := hp3.cur j hj hL
  obtain ⟨s4, b1, b2, b3, b4, b5, b6, b7, b8, b9, b10⟩ := ch_store k2 hj ((hp3.lk j hj).2 hL) hp3.pos hp3.le (by omega) (by rw [hp3.wr]; exact hx)
  refine ⟨s4, b1, b2, b3, ?_⟩
  have hsN : sN ≤ 281474976710655 := by
    have := hp3.le
    unfold GSmall at k3
    omega
  simp only [if_true, mPut, pack_rest hsN]
  -- what is so behind the store
  have h4le : sN ≤ s4.clk := by rw [b4]; exact hp3.le
  have h4own : s4.own sN = i := by rw [b8]; exact hp3.own
  have h4only : ∀ k, 1 ≤ k → k ≤ s4.clk → s4.own k = i → s4.st k ≠ .void → k = sN := fun k x1 x2 x3 x4 => hp3.only k x1 (by rw [← b4]; exact x2) (by rw [← b8]; exact x3) (by rw [← b7]; exact x4)
  refine Keeps.bindM (m := 1) (n := 0) (sto_keeps (fun s1 h => h.sc.wm j hj) ((hE2.gv (k1.gv.trans b3.gv)).off.bind fun x => ⟨_, rfl⟩) fun s5 m1 m2 m3 => ?_) (Nat.le_refl _)
  have h5le := Nat.le_trans h4le m1.clk
  have h5own : s5.own sN = i := by rw [(m1.old sN h4le).2]; exact h4own
  have h5m : s5.st sN = .made := by rw [(m1.mine sN h5le h5own).2, b7]; exact hm3
  have h4lk : ∀ k, k < n → (s4.lk k = some i ↔ L k) := fun k hk => by rw [b6]; exact hp3.lk k hk
  have h5lk : ∀ k, k < n → (s5.lk k = some i ↔ L k) := fun k hk => (m1.lk k hk).symm.trans (h4lk k hk)
  have h5c : s5.cur j = sN := by rw [(m1.held j hj ((h4lk j hj).2 hL)).2, b10, if_pos rfl]
  have h5wr : s5.wr sN = W := by rw [(m1.old sN h4le).1, b9]; exact hp3.wr
  have h5only : ∀ k, 1 ≤ k → k ≤ s5.clk → s5.own k = i → s5.st k ≠ .void → k = sN := fun k x1 x2 x3 x4 => by
    obtain ⟨c1, c2⟩ := m1.mine k x2 x3
    exact h4only k x1 c1 (by rw [← (m1.old k c1).2]; exact x3) (by rw [← c2]; exact x4)
  obtain ⟨s6, c1, c2, c3, c4, c5, c6, c7, c8, c9, c10⟩ := ch_put m2 hj ((h5lk j hj).2 hL) h5le h5c h5m (by rw [h5wr, hx]; rfl) (fun k x1 x2 x3 x4 => Nat.le_of_eq (h5only k x1 x2 x3 x4))
  refine ⟨s6, c1, c2, c3, ?_⟩
  refine hQ _ s6 (h1.gv.trans (a3.gv.trans (k1.gv.trans (b3.gv.trans (m1.gv.trans c3.gv))))) c2 ⟨hp3.pos, by rw [c4]; exact h5le, by rw [c7]; exact h5own, by rw [c8]; exact h5wr, by rw [c6, h5m]; decide, fun k x1 x2 x3 x4 => h5only k x1 (by rw [← c4]; exact x2) (by rw [← c7]; exact x3) (by rw [← c6]; exact x4), fun k hk => ?_, fun k hk hl => ?_⟩ (by rw [c6]; exact h5m)
  · rw [c10]
    by_cases e : k = j
    · simp [e]
    · simp only [e, if_false, ne_eq, not_false_eq_true, and_true]
      exact h5lk k hk
  · have e : ¬ k = j := hl.2
    rw [c5, c9, if_neg e]
    obtain ⟨d1, d2⟩ := m1.held k hk ((h4lk k hk).2 hl.1)
    rw [d1, d2, b10, if_neg e, b5]
    exact hp3.cur k hk hl.1
theorem tPuts_keeps (ho : ∀ i, ow i ≤ 255) {sN : Nat} {W : Nat → Option Nat} {E Q : Nat × Bool → Gh → Prop} : ∀ (l : List (Nat × Nat)) (waits : Bool) (s : Gh), Sorted l → (∀ x ∈ l, ∃ j, j < n ∧ x.1 = 3 + 3 * j ∧ W j = some x.2) → GOk n ini ow s → PutI n i sN W (CellsL l) s → (l = [] → s.st sN = .made) → OffV n ini ow E s →
    (∀ w s1, GV n s s1 → GOk n ini ow s1 → PutI n i sN W (fun _ => False) s1 → s1.st sN = .made → Q (0, w) s1) → Keeps (gm n ini ow i) E (tPuts (sN : Int) waits l) (3 * l.length) Q s
  | [], waits, s, _, _, hs, hp, hm, _, hQ => hQ _ s (GV.refl s) hs (hp.cast fun j _ => ⟨fun ⟨_, h, _⟩ => (by cases h), fun h => h.elim⟩) (hm rfl)
  | x :: l, waits, s, hso, hl, hs, hp, hm, hE, hQ => by
    obtain ⟨j, hj, e, hx⟩ := hl x (List.mem_cons_self ..)
    unfold tPuts
    rw [e]
    refine Keeps.bindM (m := 3) (n := 3 * l.length) (mCommit_keeps ho hj ⟨x, List.mem_cons_self .., e⟩ hx hp (hE.bind fun x => ⟨_, rfl⟩) fun w s1 h1 h2 h3 h4 => ?_) (by simp only [List.length_cons]; omega)
    simp only [if_true]
    exact tPuts_keeps ho l (waits || w) s1 hso.2 (fun y hy => hl y (List.mem_cons_of_mem _ hy)) h2 (h3.cast fun k _ => cellsL_tail hso e k) (fun _ => h4) (hE.gv h1) fun w s2 k1 k2 k3 k4 => hQ w s2 (h1.trans k1) k2 k3 k4
/-- Nothing is locked by it, and nothing stands of its stamps. -/
structure IdleI (n i : Nat) (g : Gh) : Prop where
  void : Void i g
  lk : ∀ j, j < n → g.lk j ≠ some i
theorem IdleI.gr {g g' : Gh} (h : IdleI n i g) (r : GR n i g g') : IdleI n i g' := ⟨h.void.gr r, fun j hj e => h.lk j hj ((r.lk j hj).2 e)⟩
def wOf (t : Tx) (j : Nat) : Option Nat := wget (3 + 3 * j) t.sets.writes
/-- What a commit of something comes to: it failed, and nothing is left; or it is done by a new stamp, and what it read is as it was right ahead of that. -/
inductive ComPost (n i : Nat) (t : Tx) (T : Nat) (r : Nat × (Int × Bool × Tx)) (g : Gh) : Prop
  | no (h : r = (12, 0, false, t)) (hi : IdleI n i g)
  | done (sN : Nat) (w : Bool) (h : r = (0, (sN : Int), w, { t with stamp := (sN : Int) })) (hp : PutI n i sN (wOf t) (fun _ => False) g) (hm : g.st sN = .made) (hT : T < sN) (hr : ∀ x ∈ t.sets.reads, ∃ j V, j < n ∧ x = (3 + 3 * j, ((V : Nat) : Int)) ∧ V < sN ∧ Made g j V ∧ NoneB g j V (sN - 1))
theorem tCommit_keeps (ho : ∀ i, ow i ≤ 255) {k T : Nat} {t : Tx} {E Q : Nat × (Int × Bool × Tx) → Gh → Prop} {s : Gh} (hs : GOk n ini ow s) (ht : TxI n i (ow i : Int) k T t s) (hi : IdleI n i s) (hk : k ≤ 50) (hw : t.sets.writes ≠ []) (hE : OffV n ini ow E s)
    (hQ : ∀ r s1, GV n s s1 → GOk n ini ow s1 → ComPost n i t T r s1 → Q r s1) : Keeps (gm n ini ow i) E (tCommit t) (22 * k + 16 + k) Q s := by
  have hf := ht.few
  have hfw := ht.fewW
  unfold tCommit
  rw [if_neg hw]
  intro l hl
  dsimp only
  rw [if_neg (by omega)]
  have hcells : ∀ x ∈ t.sets.writes, ∃ j, j < n ∧ x.1 = 3 + 3 * j := ht.writes
  refine Keeps.bindM (m := 19 * t.sets.writes.length + 2 * ([] : List (Nat × Nat)).length) (n := 16 + k + 3 * k) (tLocks_keeps ho t.sets.writes [] s ht.sorted hcells hs ht ⟨fun j hj => ⟨fun h => absurd h (hi.lk j hj), fun ⟨_, h, _⟩ => (by cases h)⟩, fun j hj ⟨_, h, _⟩ => (by cases h)⟩ hi.void (fun j ⟨_, h, _⟩ => (by cases h)) (hE.bind fun x => ⟨_, rfl⟩) (fun s1 h1 h2 h3 h4 => ?_) fun s1 h1 h2 h3 h4 h5 => ?_) (by simp only [List.length_nil]; omega)
  · exact hQ _ s1 h1 h2 (.no rfl ⟨h3, fun j hj e => (h4.lk j hj).1 e⟩)
  simp only [if_true, ht.clock]
  simp only [List.nil_append] at h4 h5
  have hWL : ∀ j, j < n → (wOf t j).isSome = true → CellsL t.sets.writes j := fun j _ h => by
    unfold wOf at h
    cases q : wget (3 + 3 * j) t.sets.writes with
    | none => rw [q] at h; cases h
    | some v => exact ⟨_, wget_mem q, rfl⟩
  have hLW : ∀ x ∈ t.sets.writes, ∃ j, j < n ∧ x.1 = 3 + 3 * j ∧ wOf t j = some x.2 := fun x hx => by
    obtain ⟨j, hj, e⟩ := hcells x hx
    refine ⟨j, hj, e, ?_⟩
    unfold wOf
    cases q : wget (3 + 3 * j) t.sets.writes with
    | none => rw [← e] at q; exact absurd q (fun q => wget_absent hx q)
    | some v =>
      have hm := wget_mem q
      have : ∀ l : List (Nat × Nat), Sorted l → x ∈ l → (3 + 3 * j, v) ∈ l → v = x.2 := fun l => by
        induction l with
        | nil => intro _ h; cases h
        | cons y l ih =>
          intro hso h1 h2
          rcases List.mem_cons.1 h1 with a | a <;> rcases List.mem_cons.1 h2 with b | b
          · rw [a, ← b]
          · have := hso.1 _ b
            rw [← a, e] at this
            simp only at this
            omega
          · have := hso.1 _ a
            rw [← b, e] at this
            simp only at this
            omega
          · exact ih hso.2 a b
      rw [this _ ht.sorted hx hm]
  have hE1 := hE.gv h1
  refine Keeps.bindM (m := 16) (n := k + 3 * k) (mTickN_keeps (W := wOf t) hWL 8 s1 h2 h4 h3 (hE1.off.bind fun x => ⟨(0, false, t), by simp [Tree.bind, tFail]⟩) (fun s2 k1 k2 => ?_) fun s2 s3 k1 k2 k3 k4 k5 k6 k7 => ?_) (by omega)
  · -- the clock is fought for
    have hh2 := h4.gr k1
    have hv2 := h3.gr k1
    simp only [show ¬ (12 = 0) by decide, if_false]
    show Keeps _ _ ((tFail 12 t.sets.writes).bind _) _ Q s2
    refine Keeps.bindM (m := 2 * t.sets.writes.length) (n := 0) ?_ (by omega)
    unfold tFail
    rw [if_neg (by decide)]
    exact tRelease_keeps ho t.sets.writes s2 ht.sorted hcells k2 hh2 ((hE1.gv k1.gv).bind fun x => ⟨_, rfl⟩) (fun _ => hv2) (fun s4 m1 m2 => ⟨s4, rfl, m2, GG.refl s4, rfl, rfl, rfl, hv2.gr m1⟩) fun s4 m1 m2 m3 m4 => hQ _ s4 (h1.trans (k1.gv.trans m1)) m2 (.no rfl ⟨m3, fun j hj e => (m4.lk j hj).1 e⟩)
  · simp only [if_true]
    have ht2 := (ht.gv h1).gv k1.gv
    have ht3 := ht2.gv k3
    have hT3 : T < s3.clk := by rw [k5]; have := ht2.le; omega
    refine Keeps.bindM (m := k) (n := 3 * k) (Keeps.more (m := t.sets.reads.length) (tStill_keeps ho _ t.sets.reads s3 s3.clk (fun x hx _ => ?_) (Nat.le_refl _) k4 ((hE1.gv (k1.gv.trans k3)).off.bind fun x => ⟨(0, false, t), by simp [tFail, Tree.bind]⟩) fun r s4 m1 m2 mp => ?_) hf) (Nat.le_refl _)
    · obtain ⟨j, V, a, b, _⟩ := ht.reads x hx
      exact ⟨j, V, a, b⟩
    have hV4 := h1.trans (k1.gv.trans (k3.trans m1.gv))
    have hp4 := k7.gr m1
    rcases mp with rfl | ⟨rfl, mp⟩
    · simp only [show ¬ (12 = 0) by decide, if_false]
      refine Keeps.bindM (m := 2 * t.sets.writes.length) (n := 0) ?_ (by omega)
      unfold tFail
      rw [if_neg (by decide)]
      have hh4 : HoldI n i (CellsL t.sets.writes) s4 := ⟨hp4.lk, fun j hj hl => (hp4.cur j hj hl).1⟩
      have ho4 : s4.st s3.clk = .opn := by rw [(m1.mine s3.clk hp4.le hp4.own).2]; exact k6
      refine tRelease_keeps ho t.sets.writes s4 ht.sorted hcells m2 hh4 ((hE.gv hV4).bind fun x => ⟨_, rfl⟩) (fun e => absurd e hw) (fun s5 g1 g2 => ?_) fun s5 g1 g2 g3 g4 => hQ _ s5 (hV4.trans g1) g2 (.no rfl ⟨g3, fun j hj e => (g4.lk j hj).1 e⟩)
      have hp5 := hp4.gr g1
      have ho5 : s5.st s3.clk = .opn := by rw [(g1.mine s3.clk hp5.le hp5.own).2]; exact ho4
      obtain ⟨s6, b1, b2, b3, b4, b5, b6, b7, b8, b9, b10⟩ := ch_fate g2 hp5.own ho5 .void
      refine ⟨s6, b1, b2, b3, b7, b5, b6, fun z x1 x2 x3 => ?_⟩
      rw [b10]
      by_cases q : z = s3.clk
      · rw [if_pos q]
      · rw [if_neg q]
        by_cases e : s5.st z = .void
        · exact e
        · exact absurd (hp5.only z x1 (by rw [← b4]; exact x2) (by rw [← b8]; exact x3) e) q
    · simp only [if_true]
      -- what it read is as it was
      have hr4 : ∀ x ∈ t.sets.reads, ∃ j V, j < n ∧ x = (3 + 3 * j, ((V : Nat) : Int)) ∧ V < s3.clk ∧ Made s4 j V ∧ NoneB s4 j V (s3.clk - 1) := fun x hx => by
        obtain ⟨j, V, a1, a2, a3, a4, a5⟩ := (ht3.gv m1.gv).reads x hx
        refine ⟨j, V, a1, a2, by omega, a4, ?_⟩
        by_cases q : (wget (3 + 3 * j) t.sets.writes).isSome = true
        · have hL := hWL j a1 q
          have hver : s2.ver j = V := by
            rw [(k1.held j a1 ((h4.lk j a1).2 hL)).1]
            exact h5 j hL V (by rw [← a2]; exact hx)
          have hlk2 := (k1.lk j a1).1 ((h4.lk j a1).2 hL)
          have hv2 := h3.gr k1
          have hN2 : NoneB s2 j V s2.clk := fun z x1 x2 => by
            by_cases e : s2.st z = .void
            · exact .inl e
            · cases y : s2.wr z j with
              | none => exact .inr rfl
              | some w =>
                rcases k2.act z j (by omega) x2 e a1 (by rw [y]; rfl) with b | b
                · omega
                · rw [hlk2] at b
                  exact absurd (hv2 z (by omega) x2 (Option.some.inj b).symm) e
          have := (hN2.gv k3 (Nat.le_refl _)).gv m1.gv (by have := k3.clk; omega)
          rw [k5]
          exact this
        · exact (mp x hx (by rw [a2]; simpa using q) j V a1 a2).less (by omega)
      have hr5 : ∀ s5, GV n s4 s5 → ∀ x ∈ t.sets.reads, ∃ j V, j < n ∧ x = (3 + 3 * j, ((V : Nat) : Int)) ∧ V < s3.clk ∧ Made s5 j V ∧ NoneB s5 j V (s3.clk - 1) := fun s5 g1 x hx => by
        obtain ⟨j, V, a1, a2, a3, a4, a5⟩ := hr4 x hx
        have := m1.clk
        exact ⟨j, V, a1, a2, a3, a4.gv g1 (by omega), a5.gv g1 (by omega)⟩
      refine Keeps.bindM (m := 3 * t.sets.writes.length) (n := 0) (tPuts_keeps ho t.sets.writes false s4 ht.sorted hLW m2 hp4 (fun e => absurd e hw) ((hE.gv hV4).bind fun x => ⟨_, rfl⟩) fun w s5 g1 g2 g3 g4 => ?_) (by omega)
      exact hQ _ s5 (hV4.trans g1) g2 (.done s3.clk w (by simp only [if_true, ht.clock]) g3 g4 hT3 (hr5 s5 g1))
end
end Go.Proofs.YtmdganpealbmpaaGreatDoor.Th
