/- ThreadRuns, its plain law: a small program comes to its end within some steps, and portions of steps do what they do at once. No program stands here. -/
import Derived.Test.YtfehonejcambgaaGreatDoorMicroPlain
namespace Go.Proofs.YtfehonejcambgaaGreatDoor.Th
open Bl

/-- What is so of a Ctx while a body runs that began with the log L. -/
structure Inv (L : List Ntry) (c : CS) : Prop where
  next : c.next ≤ c.log.length
  no : c.did = false → c.log = L
  yes : c.did = true → c.next = c.log.length ∧ ∃ x, c.log = L ++ [x]
  errs : ∀ x ∈ c.log, x.err ≤ 5

theorem word_e5 {S : BS} {ref : Nat} {i : Int} {n : Nat} (h : word S ref i = .error n) : n ≤ 5 := by
  unfold word at h
  split at h
  · obtain rfl := Except.error.inj h; omega
  · split at h
    · cases h
    · obtain rfl := Except.error.inj h; omega
theorem alloc_e5 {S : BS} {i : Int} {n : Nat} (h : alloc S i = .error n) : n ≤ 5 := by
  unfold alloc at h
  split at h
  · split at h
    · obtain rfl := Except.error.inj h; omega
    · split at h
      · obtain rfl := Except.error.inj h; omega
      · cases h
  · obtain rfl := Except.error.inj h; omega
theorem load_e5 (ref : Nat) (i : Int) (S : BS) : (opLoad ref i S).1.err ≤ 5 := by
  unfold opLoad
  cases h : word S ref i with
  | ok k => simp
  | error n => exact word_e5 h
theorem store_e5 (ref : Nat) (i : Int) (x : Nat) (S : BS) : (opStore ref i x S).1.err ≤ 5 := by
  unfold opStore
  cases h : word S ref i with
  | ok k => simp
  | error n => exact word_e5 h
theorem cas_e5 (ref : Nat) (i : Int) (o x : Nat) (S : BS) : (opCAS ref i o x S).1.err ≤ 5 := by
  unfold opCAS
  cases h : word S ref i with
  | ok k => simp
  | error n => exact word_e5 h
theorem alloc_e5' (i : Int) (S : BS) : (opAlloc i S).1.err ≤ 5 := by
  unfold opAlloc
  cases h : alloc S i with
  | ok k => simp
  | error n => exact alloc_e5 h
theorem free_e5 (ref : Nat) (S : BS) : (opFree ref S).1.err ≤ 5 := by
  unfold opFree
  cases free S ref with
  | some k => simp
  | none => simp

/-- What an access leaves of it. -/
structure Goes (L : List Ntry) (c : CS) (n : Nat) (c' : CS) : Prop where
  inv : Inv L c'
  next : c'.next ≤ c.next + 1
  over : n = 11 → c'.did = true ∧ c'.next ≤ c.next
theorem access_goes {L : List Ntry} {op : BS → Ntry × BS} {c : CS} (h : Inv L c) (ho : (op c.bs).1.err ≤ 5) : Goes L c (access op c).1 (access op c).2.2 := by
  unfold access
  cases hx : c.log[c.next]? with
  | some x =>
    have hl : c.next < c.log.length := (List.getElem?_eq_some_iff.1 hx).1
    have he := h.errs x (List.mem_of_getElem? hx)
    refine ⟨⟨?_, h.no, fun hd => ?_, h.errs⟩, Nat.le_refl _, fun e => ?_⟩
    · simp only; omega
    · have := (h.yes hd).1; omega
    · simp only at e; omega
  | none =>
    have hl : c.log.length ≤ c.next := by simpa using hx
    have hn := h.next
    simp only
    by_cases hd : c.did = true
    · rw [if_pos hd]
      exact ⟨h, Nat.le_succ _, fun _ => ⟨hd, Nat.le_refl _⟩⟩
    · rw [if_neg hd]
      have hd' : c.did = false := by simpa using hd
      split
      · exact ⟨h, Nat.le_succ _, fun e => by simp at e⟩
      · refine ⟨⟨?_, fun e => by simp at e, fun _ => ⟨?_, (op c.bs).1, ?_⟩, ?_⟩, Nat.le_refl _, fun e => ?_⟩
        · simp only [List.length_append, List.length_cons, List.length_nil]; omega
        · simp only [List.length_append, List.length_cons, List.length_nil]; omega
        · simp only [h.no hd']
        · intro x hx'
          rcases List.mem_append.1 hx' with q | q
          · exact h.errs x q
          · simp only [List.mem_singleton] at q
            subst q; exact ho
        · simp only at e; omega
theorem act_goes {L : List Ntry} {m : Micro} {s : MS} (h : Inv L s.c) : Goes L s.c (act m s).1 (act m s).2.c := by
  unfold act
  simp only
  split
  · exact access_goes h (load_e5 _ _ _)
  · split
    · exact access_goes h (store_e5 _ _ _ _)
    · split
      · exact access_goes h (cas_e5 _ _ _ _ _)
      · split
        · exact access_goes h (alloc_e5' _ _)
        · exact access_goes h (free_e5 _ _)
theorem one_goes {L : List Ntry} {round : Nat} {m : Micro} {s : MS} (h : Inv L s.c) : Goes L s.c (one round m s).1 (one round m s).2.c := by
  unfold one
  split
  · exact ⟨h, Nat.le_succ _, fun e => by simp at e⟩
  · split
    · exact ⟨h, Nat.le_succ _, fun e => by simp at e⟩
    · exact act_goes h
/-- What a small program leaves of it. -/
theorem go_goes {L : List Ntry} {round : Nat} : ∀ (p : List Micro) {s : MS}, Inv L s.c → Inv L (go round p s).2.c ∧ (go round p s).2.c.next ≤ s.c.next + p.length ∧ ((go round p s).1 = 11 → (go round p s).2.c.did = true ∧ (go round p s).2.c.next + 1 ≤ s.c.next + p.length)
  | [], s, h => ⟨h, Nat.le_refl _, fun e => by simp [go] at e⟩
  | m :: p, s, h => by
    have h1 := one_goes (round := round) (m := m) h
    unfold go
    split
    · obtain ⟨a, b, c⟩ := go_goes p h1.inv
      have := h1.next
      refine ⟨a, by simp only [List.length_cons]; omega, fun e => ⟨(c e).1, ?_⟩⟩
      have := (c e).2
      simp only [List.length_cons]; omega
    · refine ⟨h1.inv, by have := h1.next; simp only [List.length_cons]; omega, fun e => ⟨(h1.over e).1, ?_⟩⟩
      have := (h1.over e).2
      simp only [List.length_cons]; omega

/-- What is so of a thread of a small program. -/
structure Fine (p : List Micro) (t : TS Unit) : Prop where
  few : t.log.length ≤ p.length
  round : t.round < 40
  errs : ∀ x ∈ t.log, x.err ≤ 5
/-- How far it is from its end. -/
def far (p : List Micro) (t : TS Unit) : Nat := (40 - t.round) * (p.length + 1) + (p.length - t.log.length)

theorem step_fine {p : List Micro} {t : TS Unit} {S : BS} (h : Fine p t) (hd : t.done = false) : (step (body p) t S).2.1.done = true ∨ (Fine p (step (body p) t S).2.1 ∧ far p (step (body p) t S).2.1 < far p t) := by
  have h0 : Inv t.log (⟨t.log, 0, false, S⟩ : CS) := ⟨Nat.zero_le _, fun _ => rfl, fun e => by simp at e, h.errs⟩
  obtain ⟨a, b, c⟩ := go_goes (round := t.round) p (s := ⟨[0, 0, 0, 0], 0, ⟨t.log, 0, false, S⟩⟩) h0
  unfold step
  rw [if_neg (by simp [hd])]
  simp only [body]
  obtain ⟨q, hq⟩ : ∃ q, go t.round p ⟨[0, 0, 0, 0], 0, ⟨t.log, 0, false, S⟩⟩ = q := ⟨_, rfl⟩
  rw [hq] at a b c
  simp only [hq]
  have hr := h.round
  have hf := h.few
  simp only [Nat.zero_add] at b c
  by_cases h11 : q.1 = 11
  · rw [if_pos h11]
    right
    obtain ⟨c1, c2⟩ := c h11
    obtain ⟨y1, x, y2⟩ := a.yes c1
    have hl : q.2.c.log.length = t.log.length + 1 := by rw [y2]; simp
    refine ⟨⟨by simp only; omega, hr, a.errs⟩, ?_⟩
    unfold far
    simp only
    rw [hl]
    omega
  · rw [if_neg h11]
    by_cases h12 : q.1 = 12
    · rw [if_neg (by simp [h12])]
      by_cases h40 : 40 ≤ t.round + 1
      · rw [if_pos h40]; exact .inl rfl
      · rw [if_neg h40]
        right
        refine ⟨⟨Nat.zero_le _, by simp only; omega, by simp⟩, ?_⟩
        unfold far
        simp only [List.length_nil, Nat.sub_zero]
        have : 40 - t.round = (40 - (t.round + 1)) + 1 := by omega
        rw [this, Nat.succ_mul]
        omega
    · rw [if_pos h12]; exact .inl rfl

theorem run_is_done {σ : Type} (F : Prog σ) (n : Nat) (s : Nat × TS σ × BS) (h : s.2.1.done = true) : run F n s = s := by
  cases n with
  | zero => rfl
  | succ n => unfold run; rw [if_pos h]
theorem run_add {σ : Type} (F : Prog σ) : ∀ (m n : Nat) (s : Nat × TS σ × BS), run F (m + n) s = run F n (run F m s)
  | 0, n, s => by rw [Nat.zero_add]; rfl
  | m + 1, n, s => by
    by_cases h : s.2.1.done = true
    · rw [run_is_done F (m + 1 + n) s h, run_is_done F (m + 1) s h, run_is_done F n s h]
    · rw [show m + 1 + n = (m + n) + 1 by omega]
      conv => lhs; unfold run
      conv => rhs; rhs; unfold run
      rw [if_neg h, if_neg h]
      exact run_add F m n _
/-- A small program comes to its end. -/
theorem run_ends {p : List Micro} : ∀ (n : Nat) (s : Nat × TS Unit × BS), (s.2.1.done = true ∨ Fine p s.2.1) → far p s.2.1 < n → (run (body p) n s).2.1.done = true
  | 0, _, _, h => by omega
  | n + 1, s, hs, hf => by
    by_cases hd : s.2.1.done = true
    · rw [run_is_done _ _ s hd]; exact hd
    · have hd' : s.2.1.done = false := by simpa using hd
      unfold run
      rw [if_neg hd]
      rcases hs with q | q
      · exact absurd q hd
      · rcases step_fine (S := s.2.2) q hd' with e | ⟨e1, e2⟩
        · rw [run_is_done _ _ _ e]; exact e
        · exact run_ends n _ (.inr e1) (by omega)
/-- What Run answers of one that is done at its end is its error. -/
theorem step_err {σ : Type} (F : Prog σ) (t : TS σ) (S : BS) (h : (step F t S).2.1.done = true) : (step F t S).1 = (step F t S).2.1.err := by
  unfold step at h ⊢
  by_cases hd : t.done = true
  · rw [if_pos hd]
  · rw [if_neg hd] at h ⊢
    simp only at h ⊢
    split
    · rename_i e; simp [e] at h
    · rename_i e
      rw [if_neg e] at h
      split
      · rfl
      · rename_i e2
        rw [if_neg e2] at h
        split
        · rfl
        · rename_i e3; simp [e3] at h
theorem run_err {σ : Type} (F : Prog σ) : ∀ (n : Nat) (s : Nat × TS σ × BS), (s.2.1.done = true → s.1 = s.2.1.err) → (run F n s).2.1.done = true → (run F n s).1 = (run F n s).2.1.err
  | 0, s, h, hd => h hd
  | n + 1, s, h, hd => by
    by_cases q : s.2.1.done = true
    · rw [run_is_done F _ s q]; exact h q
    · unfold run at hd ⊢
      rw [if_neg q] at hd ⊢
      exact run_err F n _ (step_err F _ _) hd
/-- Only the thread and the blocks count. -/
theorem run_snd {σ : Type} (F : Prog σ) : ∀ (n : Nat) (a b : Nat) (q : TS σ × BS), (run F n (a, q)).2 = (run F n (b, q)).2
  | 0, _, _, _ => rfl
  | n + 1, a, b, q => by
    unfold run
    simp only
    split
    · rfl
    · rfl
/-- Portions. -/
def portions {σ : Type} (F : Prog σ) : List Nat → TS σ × BS → TS σ × BS
  | [], q => q
  | n :: l, q => portions F l (run F n (q.1.err, q)).2
theorem portions_sum {σ : Type} (F : Prog σ) : ∀ (l : List Nat) (q : TS σ × BS), portions F l q = (run F l.sum (0, q)).2
  | [], q => rfl
  | n :: l, q => by
    rw [portions, portions_sum F l, List.sum_cons, run_add, run_snd F n _ 0 q]
    exact run_snd F _ _ _ _

/-- The law: in portions, and at once. -/
theorem runs_same {p : List Micro} (hp : p.length ≤ 20) (l : List Nat) (S : BS) :
    let q := portions (body p) l (start (), S)
    let a := run (body p) 2000 (q.1.err, q)
    let b := run (body p) 2000 ((start () : TS Unit).err, start (), S)
    a.2 = b.2 ∧ a.2.1.done = true ∧ a.1 = a.2.1.err ∧ b.1 = b.2.1.err := by
  intro q a b
  have hf : Fine p (start () : TS Unit) := ⟨Nat.zero_le _, by simp [start], by simp [start]⟩
  have hfar : far p (start () : TS Unit) < 2000 := by
    unfold far start
    simp only [List.length_nil, Nat.sub_zero]
    omega
  have hb : b.2.1.done = true := run_ends 2000 _ (.inr hf) hfar
  have hq : q = (run (body p) l.sum (0, (start (), S))).2 := portions_sum _ l _
  have hab : a.2 = b.2 := by
    have e1 : a.2 = (run (body p) 2000 (0, q)).2 := run_snd _ _ _ _ _
    rw [e1, hq]
    have e2 : (run (body p) 2000 (0, (run (body p) l.sum (0, (start (), S))).2)).2 = (run (body p) 2000 (run (body p) l.sum (0, (start (), S)))).2 := run_snd _ _ _ _ _
    rw [e2, ← run_add, Nat.add_comm, run_add]
    have e3 : (run (body p) 2000 (0, (start (), S))) = b := rfl
    rw [e3, run_is_done _ _ _ hb]
  have ha : a.2.1.done = true := by rw [hab]; exact hb
  exact ⟨hab, ha, run_err _ _ _ (fun _ => rfl) ha, run_err _ _ _ (fun _ => rfl) hb⟩
end Go.Proofs.YtfehonejcambgaaGreatDoor.Th
