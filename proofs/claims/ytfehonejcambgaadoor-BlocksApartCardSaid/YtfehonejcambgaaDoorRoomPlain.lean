/- BlocksRoom and BlocksApart in plain words: what alloc and free do to blocks that are live. No program stands here. -/
import Derived.Test.YtfehonejcambgaaDoorStalePlain
namespace Go.Proofs.YtfehonejcambgaaDoor.Bl

/-- A ref that is good for a block of n words. -/
def Good (S : BS) (n : Nat) (r : Nat) : Prop := ∃ b, find S r = some (r % 4294967296, b) ∧ b.n = n
theorem find_eq {S : BS} {r p : Nat} {b : Blk} (h : find S r = some (p, b)) : p = r % 4294967296 ∧ aget p S.bl = some b ∧ b.live = true ∧ b.gen = r / 4294967296 := by
  unfold find at h
  split at h
  · rename_i b' hb
    split at h
    · rename_i hc
      simp only [Option.some.injEq, Prod.mk.injEq] at h
      obtain ⟨rfl, rfl⟩ := h
      exact ⟨rfl, hb, hc.1, hc.2⟩
    · cases h
  · cases h
theorem find_of {S : BS} {r : Nat} {b : Blk} (h1 : aget (r % 4294967296) S.bl = some b) (h2 : b.live = true) (h3 : b.gen = r / 4294967296) : find S r = some (r % 4294967296, b) := by
  unfold find; rw [h1]; simp [h2, h3]
theorem find_put {S S' : BS} {r p : Nat} {b : Blk} (hbl : S'.bl = aput p b S.bl) (hp : r % 4294967296 ≠ p) : find S' r = find S r := by
  unfold find; rw [hbl, aget_aput, if_neg hp]

/-- How many blocks are live. -/
def lives (bl : List (Nat × Blk)) : Nat := (bl.filter fun q => q.2.live).length
theorem lives_put (p : Nat) (b : Blk) : ∀ bl : List (Nat × Blk), lives (aput p b bl) + (match aget p bl with | some b' => b'.live.toNat | none => 0) = lives bl + b.live.toNat
  | [] => by
    simp only [aput, aget, lives, List.filter_nil, List.length_nil]
    cases h : b.live <;> simp [h]
  | q :: l => by
    unfold aput aget
    by_cases h : q.1 = p
    · rw [if_pos h, if_pos h]
      simp only [lives, List.filter_cons]
      cases h1 : b.live <;> cases h2 : q.2.live <;> simp
    · rw [if_neg h, if_neg h]
      have := lives_put p b l
      simp only [lives, List.filter_cons] at this ⊢
      cases h2 : q.2.live
      · simpa using this
      · simp only [if_true, List.length_cons]; omega
theorem used_lives (n : Nat) : ∀ bl : List (Nat × Blk), (∀ q ∈ bl, q.2.n = n) → usedBy bl = lives bl * (n + 1)
  | [], _ => by simp [usedBy, lives]
  | q :: l, h => by
    have := used_lives n l fun x hx => h x (by simp [hx])
    have h0 := h q (by simp)
    unfold usedBy lives at *
    simp only [List.filter_cons]
    cases q.2.live
    · simpa using this
    · simp only [if_true, List.map_cons, List.sum_cons, List.length_cons, this, h0, Nat.add_mul]
      omega
theorem mem_put {α : Type} (p : Nat) (b : α) : ∀ (bl : List (Nat × α)) (q : Nat × α), q ∈ aput p b bl → q = (p, b) ∨ q ∈ bl
  | [], q, h => by simp [aput] at h; exact .inl h
  | x :: l, q, h => by
    unfold aput at h
    split at h
    · simp only [List.mem_cons] at h ⊢
      rcases h with h | h
      · exact .inl h
      · exact .inr (.inr h)
    · simp only [List.mem_cons] at h ⊢
      rcases h with h | h
      · exact .inr (.inl h)
      · rcases mem_put p b l q h with e | e
        · exact .inl e
        · exact .inr (.inr e)
theorem aget_mem {α : Type} (p : Nat) : ∀ (bl : List (Nat × α)) (b : α), aget p bl = some b → (p, b) ∈ bl
  | [], b, h => by simp [aget] at h
  | x :: l, b, h => by
    unfold aget at h
    split at h
    · rename_i e
      simp only [Option.some.injEq] at h
      subst h; subst e; simp
    · simp [aget_mem p l b h]

/-- Blocks of one size: which refs are live, how many places there are, how often at most each was given out. -/
structure Room (n : Nat) (refs : List Nat) (most k : Nat) (S : BS) : Prop where
  len : S.ws.length = 700
  top : S.top = most * (n + 1)
  good : ∀ r ∈ refs, Good S n r
  apart : (refs.map (· % 4294967296)).Nodup
  frees : ((aget n S.fr).getD []).length + refs.length = most
  size : ∀ q ∈ S.bl, q.2.n = n
  gens : ∀ q ∈ S.bl, q.2.gen ≤ k
  lives : lives S.bl = refs.length
  small : ∀ r ∈ refs, r < 18446744073709551616

theorem Room.start (n : Nat) : Room n [] 0 0 ⟨List.replicate 700 0, 0, [], []⟩ := by
  refine ⟨List.length_replicate, (Nat.zero_mul _).symm, (fun r hr => by cases hr), List.nodup_nil, rfl, (fun r hr => by cases hr), (fun r hr => by cases hr), rfl, (fun r hr => by cases hr)⟩
theorem Room.more {n : Nat} {refs : List Nat} {most k : Nat} {S : BS} (h : Room n refs most k S) : Room n refs most (k + 1) S :=
  ⟨h.len, h.top, h.good, h.apart, h.frees, h.size, fun q hq => Nat.le_succ_of_le (h.gens q hq), h.lives, h.small⟩
theorem zeros_len (ws : List Nat) (p : Nat) : ∀ n, (zeros ws p n).length = ws.length
  | 0 => rfl
  | n + 1 => by simp [zeros, zeros_len ws p n]

theorem Room.alloc {n : Nat} {refs : List Nat} {most k : Nat} {S : BS} (ho : Ok S) (h : Room n refs most k S) (h1 : 1 ≤ n) (h8 : n ≤ 8) (hk : k ≤ 60) (hm : most ≤ 60) :
    ∃ ref S', Bl.alloc S n = .ok (ref, S') ∧ ref < 18446744073709551616 ∧ Room n (refs ++ [ref]) (max most (refs.length + 1)) k S' := by
  have hc : (1 : Int) ≤ (n : Int) ∧ (n : Int) ≤ 64 := by omega
  -- what is so whatever place is taken
  have key : ∀ (p : Nat) (b : Blk) (S1 : BS) (most' : Nat), aget p S1.bl = some b → b.live = false → b.n = n → b.gen ≤ k → p < 4294967296 → S1.ws = S.ws → S1.top = most' * (n + 1) →
      ((aget n S1.fr).getD []).length + (refs.length + 1) = most' → (∀ r ∈ refs, r % 4294967296 ≠ p) → (∀ r, r % 4294967296 ≠ p → find S1 r = find S r) → (∀ q ∈ S1.bl, q.2.n = n) → (∀ q ∈ S1.bl, q.2.gen ≤ k) → Bl.lives S1.bl = refs.length →
      Room n (refs ++ [refOf p b]) most' k { S1 with bl := aput p { b with live := true } S1.bl, ws := zeros (S1.ws.set p (headOf { b with live := true })) (p + 1) n } ∧ refOf p b < 18446744073709551616 := by
    intro p b S1 most' hb hl hn hg hp hws htop hfr hne hsame hsz hgs hlv
    have hmod : refOf p b % 4294967296 = p := by unfold refOf; omega
    have hdiv : refOf p b / 4294967296 = b.gen := by unfold refOf; omega
    have hlt : refOf p b < 18446744073709551616 := by unfold refOf; omega
    refine ⟨⟨?_, htop, ?_, ?_, by simpa using hfr, ?_, ?_, ?_, ?_⟩, hlt⟩
    · simp [zeros_len, hws, h.len]
    · intro r hr
      simp only [List.mem_append, List.mem_cons, List.not_mem_nil, or_false] at hr
      rcases hr with hr | rfl
      · obtain ⟨b', h1, h2⟩ := h.good r hr
        refine ⟨b', ?_, h2⟩
        rw [find_put (S := S1) (p := p) (b := { b with live := true }) rfl (hne r hr), hsame r (hne r hr)]
        exact h1
      · refine ⟨{ b with live := true }, find_of ?_ rfl hdiv.symm, hn⟩
        simp [aget_aput, hmod]
    · simp only [List.map_append, List.map_cons, List.map_nil, hmod]
      rw [List.nodup_append]
      refine ⟨h.apart, by simp, ?_⟩
      intro a ha c hc
      simp only [List.mem_cons, List.not_mem_nil, or_false] at hc
      subst hc
      obtain ⟨r, hr, rfl⟩ := List.mem_map.1 ha
      exact hne r hr
    · intro q hq
      rcases mem_put _ _ _ _ hq with rfl | hq
      · exact hn
      · exact hsz q hq
    · intro q hq
      rcases mem_put _ _ _ _ hq with rfl | hq
      · exact hg
      · exact hgs q hq
    · have := lives_put p { b with live := true } S1.bl
      rw [hb] at this
      simp only [hl, Bool.toNat_false, Bool.toNat_true, Nat.add_zero] at this
      simp only [this, hlv, List.length_append, List.length_cons, List.length_nil]
    · intro r hr
      simp only [List.mem_append, List.mem_cons, List.not_mem_nil, or_false] at hr
      rcases hr with hr | rfl
      · exact h.small r hr
      · exact hlt
  unfold Bl.alloc
  rw [if_pos hc, Int.toNat_natCast]
  have hmn : most * (n + 1) ≤ 60 * 9 := Nat.mul_le_mul hm (by omega)
  -- a new place
  have fresh : ((aget n S.fr).getD []) = [] → Bl.take S n = some (S.top, { S with top := S.top + n + 1, bl := aput S.top ⟨n, 0, false⟩ S.bl }) → ∃ ref S', (match Bl.take S n with
        | none => Except.error 4
        | some (p, S1) => match aget p S1.bl with
          | none => .error 0
          | some b => .ok (refOf p b, { S1 with bl := aput p { b with live := true } S1.bl, ws := zeros (S1.ws.set p (headOf { b with live := true })) (p + 1) n })) = .ok (ref, S') ∧ ref < 18446744073709551616 ∧ Room n (refs ++ [ref]) (max most (refs.length + 1)) k S' := by
    intro he ht
    have hfr := h.frees
    rw [he] at hfr
    simp only [List.length_nil, Nat.zero_add] at hfr
    rw [ht]
    have hg : aget S.top (aput S.top (⟨n, 0, false⟩ : Blk) S.bl) = some ⟨n, 0, false⟩ := by simp [aget_aput]
    have hnew : ∀ b, aget S.top S.bl = some b → False := by
      intro b hb
      have := ho.fits _ _ hb
      omega
    have hnone : aget S.top S.bl = none := by
      cases hx : aget S.top S.bl with
      | none => rfl
      | some b => exact (hnew b hx).elim
    simp only [hg]
    obtain ⟨k1, k2⟩ := key S.top ⟨n, 0, false⟩ { S with top := S.top + n + 1, bl := aput S.top ⟨n, 0, false⟩ S.bl } (most + 1) hg rfl rfl (Nat.zero_le _) (by rw [h.top]; omega) rfl (by simp only [h.top, Nat.add_mul]; omega) (by simp only [he, List.length_nil]; omega)
      (fun r hr e => by
        obtain ⟨b, hf, _⟩ := h.good r hr
        obtain ⟨_, hb, _⟩ := find_eq hf
        rw [e] at hb
        exact hnew b hb)
      (fun r hr => find_put rfl hr)
      (fun q hq => by
        rcases mem_put _ _ _ _ hq with rfl | hq
        · rfl
        · exact h.size q hq)
      (fun q hq => by
        rcases mem_put _ _ _ _ hq with rfl | hq
        · exact Nat.zero_le _
        · exact h.gens q hq)
      (by
        have := lives_put S.top ⟨n, 0, false⟩ S.bl
        rw [hnone] at this
        simpa [h.lives] using this)
    refine ⟨_, _, rfl, k2, ?_⟩
    rw [show max most (refs.length + 1) = most + 1 by omega]
    exact k1
  have hroom : ¬ S.ws.length < S.top + n + 1 := by rw [h.len, h.top]; omega
  cases hg : aget n S.fr with
  | none =>
    refine fresh (by rw [hg]; rfl) ?_
    unfold Bl.take; rw [hg]; simp only [if_neg hroom]
  | some l =>
    cases l with
    | nil =>
      refine fresh (by rw [hg]; rfl) ?_
      unfold Bl.take; rw [hg]; simp only [if_neg hroom]
    | cons y l =>
      have ht : Bl.take S n = some ((y :: l).getLastD 0, { S with fr := aput n (y :: l).dropLast S.fr }) := by unfold Bl.take; rw [hg]
      rw [ht]
      obtain ⟨b, hb1, hb2, hb3, hb4⟩ := ho.frees n _ _ hg (getLastD_mem y l)
      have hfr := h.frees
      rw [hg] at hfr
      simp only [Option.getD_some, List.length_cons] at hfr
      simp only [hb1]
      have hfit := ho.fits _ _ hb1
      obtain ⟨k1, k2⟩ := key ((y :: l).getLastD 0) b { S with fr := aput n (y :: l).dropLast S.fr } most hb1 hb4 hb2 (h.gens _ (aget_mem _ _ _ hb1)) (by rw [h.top] at hfit; omega) rfl h.top
        (by simp only [aget_aput, if_true, Option.getD_some, List.length_dropLast, List.length_cons]; omega)
        (fun r hr e => by
          obtain ⟨b', hf, _⟩ := h.good r hr
          obtain ⟨_, hb, hl, _⟩ := find_eq hf
          rw [e, hb1] at hb
          simp only [Option.some.injEq] at hb
          subst hb
          rw [hb4] at hl
          cases hl)
        (fun r _ => rfl) h.size h.gens h.lives
      refine ⟨_, _, rfl, k2, ?_⟩
      rw [show max most (refs.length + 1) = most by omega]
      exact k1

theorem Room.free {n r : Nat} {refs : List Nat} {most k : Nat} {S : BS} (h : Room n (r :: refs) most k S) (hk : k ≤ 100) :
    ∃ S', Bl.free S r = some S' ∧ Room n refs most (k + 1) S' := by
  obtain ⟨b, hf, hn⟩ := h.good r (by simp)
  obtain ⟨_, hb, hl, hgen⟩ := find_eq hf
  have hg := h.gens _ (aget_mem _ _ _ hb)
  have hg' : b.gen + 1 < 4294967295 := by simp only at hg; omega
  unfold Bl.free
  rw [hf]
  refine ⟨_, rfl, ?_⟩
  have hne : ∀ x ∈ refs, x % 4294967296 ≠ r % 4294967296 := by
    intro x hx e
    have := h.apart
    simp only [List.map_cons, List.nodup_cons] at this
    exact this.1 (List.mem_map.2 ⟨x, hx, e⟩)
  refine ⟨by simp [h.len], h.top, ?_, ?_, ?_, ?_, ?_, ?_, fun x hx => h.small x (by simp [hx])⟩
  · intro x hx
    obtain ⟨b', h1, h2⟩ := h.good x (by simp [hx])
    refine ⟨b', ?_, h2⟩
    rw [find_put (S := S) (p := r % 4294967296) (b := ⟨b.n, b.gen + 1, false⟩) rfl (hne x hx)]
    exact h1
  · have := h.apart
    simp only [List.map_cons, List.nodup_cons] at this
    exact this.2
  · have := h.frees
    simp only [if_pos hg', hn, aget_aput, if_true, Option.getD_some, List.length_append, List.length_cons, List.length_nil] at this ⊢
    omega
  · intro q hq
    rcases mem_put _ _ _ _ hq with rfl | hq
    · exact hn
    · exact h.size q hq
  · intro q hq
    rcases mem_put _ _ _ _ hq with rfl | hq
    · simp only at hg ⊢; omega
    · exact Nat.le_succ_of_le (h.gens q hq)
  · have := lives_put (r % 4294967296) ⟨b.n, b.gen + 1, false⟩ S.bl
    rw [hb] at this
    have h3 := h.lives
    simp only [hl, Bool.toNat_false, Bool.toNat_true, List.length_cons] at this h3
    show Bl.lives (aput _ _ _) = _
    omega
theorem Room.used {n : Nat} {refs : List Nat} {most k : Nat} {S : BS} (h : Room n refs most k S) : usedBy S.bl = refs.length * (n + 1) := by
  rw [used_lives n _ h.size, h.lives]
end Go.Proofs.YtfehonejcambgaaDoor.Bl
