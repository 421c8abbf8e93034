/- Layer 2 (blocks), as plain functions on lists: what blocks do. No program stands here. -/
namespace Go.Proofs.YtmdganpealbmpaaGreatDoor.Bl

/-- A block: how many words, which generation, is it live? -/
structure Blk where
  n : Nat
  gen : Nat
  live : Bool

/-- Blocks on an arena: its words, the first word that was never in one, the blocks by places, the freed places by sizes. -/
structure BS where
  ws : List Nat
  top : Nat
  bl : List (Nat × Blk)
  fr : List (Nat × List Nat)

def aget {α : Type} (k : Nat) : List (Nat × α) → Option α
  | [] => none
  | p :: l => if p.1 = k then some p.2 else aget k l
def aput {α : Type} (k : Nat) (v : α) : List (Nat × α) → List (Nat × α)
  | [] => [(k, v)]
  | p :: l => if p.1 = k then (k, v) :: l else p :: aput k v l

theorem aget_aput {α : Type} (k j : Nat) (v : α) : ∀ l : List (Nat × α), aget j (aput k v l) = if j = k then some v else aget j l
  | [] => by
    simp only [aput, aget]
    by_cases h : k = j
    · simp [h]
    · have : ¬ j = k := fun q => h q.symm
      simp [h, this]
  | p :: l => by
    unfold aput
    by_cases h : p.1 = k
    · rw [if_pos h]
      simp only [aget]
      by_cases hj : k = j
      · simp [hj]
      · have h1 : ¬ j = k := fun q => hj q.symm
        have h2 : ¬ p.1 = j := fun q => hj (h.symm.trans q)
        simp [hj, h1, h2]
    · rw [if_neg h]
      simp only [aget]
      by_cases hj : p.1 = j
      · have : ¬ j = k := fun q => h (hj.trans q)
        simp [hj, this]
      · simp only [hj, if_false]
        exact aget_aput k j v l

/-- A block's head. -/
def headOf (b : Blk) : Nat := b.gen * 4294967296 + 2 * b.n + b.live.toNat
def refOf (p : Nat) (b : Blk) : Nat := b.gen * 4294967296 + p

/-- The place and the block of a good ref. -/
def find (S : BS) (ref : Nat) : Option (Nat × Blk) :=
  match aget (ref % 4294967296) S.bl with
  | some b => if b.live = true ∧ b.gen = ref / 4294967296 then some (ref % 4294967296, b) else none
  | none => none

/-- The place of a block's word, or the error's number. -/
def word (S : BS) (ref : Nat) (i : Int) : Except Nat Nat :=
  match find S ref with
  | none => .error 5
  | some (p, b) => if 0 ≤ i ∧ i < b.n then .ok (p + 1 + i.toNat) else .error 3

/-- A place for a block of n words. -/
def take (S : BS) (n : Nat) : Option (Nat × BS) :=
  match aget n S.fr with
  | some (x :: l) => some ((x :: l).getLastD 0, { S with fr := aput n (x :: l).dropLast S.fr })
  | _ => if S.ws.length < S.top + n + 1 then none else some (S.top, { S with top := S.top + n + 1, bl := aput S.top ⟨n, 0, false⟩ S.bl })

/-- n words from a place on are made 0. -/
def zeros (ws : List Nat) (p : Nat) : Nat → List Nat
  | 0 => ws
  | n + 1 => (zeros ws p n).set (p + n) 0

def alloc (S : BS) (n : Int) : Except Nat (Nat × BS) :=
  if 1 ≤ n ∧ n ≤ 64 then
    match take S n.toNat with
    | none => .error 4
    | some (p, S1) =>
      match aget p S1.bl with
      | none => .error 0
      | some b => .ok (refOf p b, { S1 with bl := aput p { b with live := true } S1.bl, ws := zeros (S1.ws.set p (headOf { b with live := true })) (p + 1) n.toNat })
  else .error 2

def free (S : BS) (ref : Nat) : Option BS :=
  match find S ref with
  | none => none
  | some (p, b) =>
    let b' : Blk := ⟨b.n, b.gen + 1, false⟩
    some { S with bl := aput p b' S.bl, ws := S.ws.set p (headOf b'), fr := if b.gen + 1 < 4294967295 then aput b.n ((aget b.n S.fr).getD [] ++ [p]) S.fr else S.fr }

/-- What is so of all blocks. -/
structure Ok (S : BS) : Prop where
  top : S.top ≤ S.ws.length
  len : S.ws.length ≤ 16384
  fits : ∀ p b, aget p S.bl = some b → p + 1 + b.n ≤ S.top ∧ 1 ≤ b.n ∧ b.n ≤ 64 ∧ b.gen ≤ 4294967295 ∧ (b.live = true → b.gen < 4294967295)
  frees : ∀ n l p, aget n S.fr = some l → p ∈ l → ∃ b, aget p S.bl = some b ∧ b.n = n ∧ b.gen < 4294967295 ∧ b.live = false
  once : ∀ n l, aget n S.fr = some l → l.Nodup
  words : ∀ x ∈ S.ws, x < 18446744073709551616

theorem split_last (x : Nat) (l : List Nat) : (x :: l) = (x :: l).dropLast ++ [(x :: l).getLastD 0] :=
  (List.dropLast_concat_getLast (l := x :: l) (by simp)).symm
theorem getLastD_mem (x : Nat) (l : List Nat) : (x :: l).getLastD 0 ∈ x :: l := by
  have e := split_last x l
  generalize (x :: l).getLastD 0 = y at *
  rw [e]; simp
theorem last_notin (x : Nat) (l : List Nat) (h : (x :: l).Nodup) : (x :: l).getLastD 0 ∉ (x :: l).dropLast := by
  rw [split_last x l, List.nodup_append] at h
  exact fun hm => h.2.2 _ hm _ (by simp) rfl

/-- The place that was taken. -/
theorem take_fits {S S1 : BS} {n p : Nat} (ho : Ok S) (ht : take S n = some (p, S1)) :
    ∃ b, aget p S1.bl = some b ∧ b.n = n ∧ b.gen < 4294967295 ∧ b.live = false ∧ (∀ m l, aget m S1.fr = some l → p ∉ l) ∧ S1.ws = S.ws ∧ p + 1 + n ≤ S1.top := by
  have new : (if S.ws.length < S.top + n + 1 then none else some (S.top, ({ S with top := S.top + n + 1, bl := aput S.top ⟨n, 0, false⟩ S.bl } : BS))) = some (p, S1) → ∃ b, aget p S1.bl = some b ∧ b.n = n ∧ b.gen < 4294967295 ∧ b.live = false ∧ (∀ m l, aget m S1.fr = some l → p ∉ l) ∧ S1.ws = S.ws ∧ p + 1 + n ≤ S1.top := by
    intro hif
    split at hif
    · cases hif
    · obtain ⟨rfl, rfl⟩ := Prod.mk.inj (Option.some.inj hif)
      refine ⟨⟨n, 0, false⟩, by simp [aget_aput], rfl, by simp, rfl, ?_, rfl, by simp only; omega⟩
      intro m l hm hp
      obtain ⟨b, hb, _⟩ := ho.frees m l _ hm hp
      have := ho.fits _ _ hb
      omega
  unfold take at ht
  cases hg : aget n S.fr with
  | none => rw [hg] at ht; exact new ht
  | some l =>
    cases l with
    | nil => rw [hg] at ht; exact new ht
    | cons y l =>
      rw [hg] at ht
      obtain ⟨rfl, rfl⟩ := Prod.mk.inj (Option.some.inj ht)
      obtain ⟨b, hb1, hb2, hb3, hb4⟩ := ho.frees n _ _ hg (getLastD_mem y l)
      refine ⟨b, hb1, hb2, hb3, hb4, ?_, rfl, by have := ho.fits _ _ hb1; simp only; omega⟩
      intro m l' hm hp
      rw [aget_aput] at hm
      by_cases e : m = n
      · rw [if_pos e] at hm
        obtain rfl := Option.some.inj hm
        exact last_notin y l (ho.once n _ hg) hp
      · rw [if_neg e] at hm
        obtain ⟨b', hb', hn', _⟩ := ho.frees m l' _ hm hp
        rw [hb1] at hb'
        obtain rfl := Option.some.inj hb'
        exact e (hn'.symm.trans hb2)
/-- It is made live. -/
theorem live_ok {S : BS} {p : Nat} {b : Blk} (ho : Ok S) (hb : aget p S.bl = some b) (hg : b.gen < 4294967295) (hf : ∀ m l, aget m S.fr = some l → p ∉ l) : Ok { S with bl := aput p { b with live := true } S.bl } := by
  refine ⟨ho.top, ho.len, ?_, ?_, ho.once, ho.words⟩
  · intro q b' hq
    rw [aget_aput] at hq
    by_cases e : q = p
    · rw [if_pos e] at hq
      obtain rfl := Option.some.inj hq
      have := ho.fits p b hb
      subst e
      exact ⟨this.1, this.2.1, this.2.2.1, this.2.2.2.1, fun _ => hg⟩
    · rw [if_neg e] at hq; exact ho.fits q b' hq
  · intro m l q hm hq
    obtain ⟨b', hb', h⟩ := ho.frees m l q hm hq
    refine ⟨b', ?_, h⟩
    rw [aget_aput, if_neg ?_]
    · exact hb'
    · rintro rfl; exact hf m l hm hq
theorem zeros_length (ws : List Nat) (p : Nat) : ∀ n, (zeros ws p n).length = ws.length
  | 0 => rfl
  | n + 1 => by simp [zeros, zeros_length ws p n]

theorem nodup_bound : ∀ (N : Nat) (l : List Nat), l.Nodup → (∀ x ∈ l, x < N) → l.length ≤ N
  | 0, l, _, h => by cases l with
    | nil => simp
    | cons a l => exact absurd (h a (by simp)) (by omega)
  | N + 1, l, hn, h => by
    by_cases hm : N ∈ l
    · have h1 := List.length_erase_of_mem hm
      have h2 := nodup_bound N (l.erase N) (hn.erase N) fun x hx => by
        have hx' := (List.Nodup.mem_erase_iff hn).1 hx
        have := h x hx'.2
        omega
      omega
    · exact Nat.le_succ_of_le (nodup_bound N l hn fun x hx => by
        have := h x hx
        have : x ≠ N := fun e => hm (e ▸ hx)
        omega)
theorem freed_len {S : BS} (ho : Ok S) {n : Nat} {l : List Nat} (h : aget n S.fr = some l) : l.length ≤ 16384 := by
  refine nodup_bound _ l (ho.once n l h) fun p hp => ?_
  obtain ⟨b, hb, _⟩ := ho.frees n l p h hp
  have := ho.fits _ _ hb
  have := ho.top
  have := ho.len
  omega
/-- A block that was live is freed. -/
theorem dead_ok {S : BS} {p : Nat} {b : Blk} (ho : Ok S) (hb : aget p S.bl = some b) (hl : b.live = true) : Ok { S with bl := aput p ⟨b.n, b.gen + 1, false⟩ S.bl } := by
  refine ⟨ho.top, ho.len, ?_, ?_, ho.once, ho.words⟩
  · intro q b' hq
    rw [aget_aput] at hq
    by_cases e : q = p
    · rw [if_pos e] at hq
      obtain rfl := Option.some.inj hq
      have h := ho.fits p b hb
      have := h.2.2.2.2 hl
      subst e
      exact ⟨h.1, h.2.1, h.2.2.1, by simp only; omega, by simp⟩
    · rw [if_neg e] at hq; exact ho.fits q b' hq
  · intro m l q hm hq
    obtain ⟨b', hb', h⟩ := ho.frees m l q hm hq
    refine ⟨b', ?_, h⟩
    rw [aget_aput, if_neg ?_]
    · exact hb'
    · rintro rfl
      rw [hb] at hb'
      obtain rfl := Option.some.inj hb'
      rw [hl] at h
      exact absurd h.2.2 (by simp)
/-- Its place goes to the freed ones. -/
theorem freed_ok {S : BS} {p : Nat} {b : Blk} (ho : Ok S) (hb : aget p S.bl = some b) (hl : b.live = false) (hg : b.gen < 4294967295) (hnew : ∀ m l, aget m S.fr = some l → p ∉ l) :
    Ok { S with fr := aput b.n ((aget b.n S.fr).getD [] ++ [p]) S.fr } := by
  refine ⟨ho.top, ho.len, ho.fits, ?_, ?_, ho.words⟩
  · intro m l q hm hq
    rw [aget_aput] at hm
    by_cases e : m = b.n
    · rw [if_pos e] at hm
      obtain rfl := Option.some.inj hm
      simp only [List.mem_append, List.mem_singleton] at hq
      rcases hq with hq | rfl
      · cases hgt : aget b.n S.fr with
        | none => rw [hgt] at hq; simp at hq
        | some l' => rw [hgt] at hq; rw [e]; exact ho.frees b.n l' q hgt hq
      · exact ⟨b, hb, e.symm, hg, hl⟩
    · rw [if_neg e] at hm; exact ho.frees m l q hm hq
  · intro m l hm
    rw [aget_aput] at hm
    by_cases e : m = b.n
    · rw [if_pos e] at hm
      obtain rfl := Option.some.inj hm
      rw [List.nodup_append]
      refine ⟨?_, by simp, ?_⟩
      · cases hgt : aget b.n S.fr with
        | none => simp
        | some l' => exact ho.once _ _ hgt
      · rintro a ha b' hb' rfl
        simp only [List.mem_singleton] at hb'
        subst hb'
        cases hgt : aget b.n S.fr with
        | none => rw [hgt] at ha; simp at ha
        | some l' => rw [hgt] at ha; exact hnew _ _ hgt ha
    · rw [if_neg e] at hm; exact ho.once m l hm
end Go.Proofs.YtmdganpealbmpaaGreatDoor.Bl
