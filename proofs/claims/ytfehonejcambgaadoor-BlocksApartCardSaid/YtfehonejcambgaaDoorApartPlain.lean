/- BlocksApart in plain words: blocks that are live lie apart, and each has what was stored in it. No program stands here. -/
import Derived.Test.YtfehonejcambgaaDoorRoomPlain
namespace Go.Proofs.YtfehonejcambgaaDoor.Bl

/-- No two blocks share a word. -/
def Sep (bl : List (Nat × Blk)) : Prop := ∀ p b p' b', aget p bl = some b → aget p' bl = some b' → p ≠ p' → p + 1 + b.n ≤ p' ∨ p' + 1 + b'.n ≤ p
theorem Sep.put {bl : List (Nat × Blk)} {p : Nat} {b b' : Blk} (h : Sep bl) (hb : aget p bl = some b) (hn : b'.n = b.n) : Sep (aput p b' bl) := by
  intro q c q' c' h1 h2 hne
  rw [aget_aput] at h1 h2
  by_cases e : q = p
  · by_cases e' : q' = p
    · exact absurd (e.trans e'.symm) hne
    · rw [if_pos e] at h1
      rw [if_neg e'] at h2
      cases h1
      subst e
      rw [hn]
      exact h _ _ _ _ hb h2 hne
  · rw [if_neg e] at h1
    by_cases e' : q' = p
    · rw [if_pos e'] at h2
      cases h2
      subst e'
      rw [hn]
      exact h _ _ _ _ h1 hb hne
    · rw [if_neg e'] at h2
      exact h _ _ _ _ h1 h2 hne
theorem Sep.new {bl : List (Nat × Blk)} {p : Nat} {b : Blk} (h : Sep bl) (hf : ∀ q c, aget q bl = some c → q + 1 + c.n ≤ p) : Sep (aput p b bl) := by
  intro q c q' c' h1 h2 hne
  rw [aget_aput] at h1 h2
  by_cases e : q = p
  · by_cases e' : q' = p
    · exact absurd (e.trans e'.symm) hne
    · rw [if_neg e'] at h2
      have := hf _ _ h2
      exact .inr (by omega)
  · rw [if_neg e] at h1
    have := hf _ _ h1
    by_cases e' : q' = p
    · exact .inl (by omega)
    · rw [if_neg e'] at h2
      exact h _ _ _ _ h1 h2 hne

/-- Which refs are live, with their sizes; t: how many places there are at most, g: how often each was given out. -/
structure Apart (rs : List (Nat × Nat)) (t g : Nat) (S : BS) : Prop where
  len : S.ws.length = 600
  top : S.top ≤ 9 * t
  good : ∀ r ∈ rs, Good S r.2 r.1
  size : ∀ r ∈ rs, 1 ≤ r.2 ∧ r.2 ≤ 8
  apart : (rs.map (·.1 % 4294967296)).Nodup
  gens : ∀ q ∈ S.bl, q.2.gen ≤ g
  lives : lives S.bl = rs.length
  small : ∀ r ∈ rs, r.1 < 18446744073709551616
  sep : Sep S.bl

theorem Apart.start : Apart [] 0 0 ⟨List.replicate 600 0, 0, [], []⟩ := by
  refine ⟨List.length_replicate, Nat.zero_le _, (fun r hr => by cases hr), (fun r hr => by cases hr), List.nodup_nil, (fun r hr => by cases hr), rfl, (fun r hr => by cases hr), ?_⟩
  intro p b p' b' h
  simp [aget] at h
theorem Apart.more {rs : List (Nat × Nat)} {t g : Nat} {S : BS} (h : Apart rs t g S) : Apart rs t (g + 1) S :=
  ⟨h.len, h.top, h.good, h.size, h.apart, fun q hq => Nat.le_succ_of_le (h.gens q hq), h.lives, h.small, h.sep⟩

theorem Apart.alloc {n : Nat} {rs : List (Nat × Nat)} {t g : Nat} {S : BS} (ho : Ok S) (h : Apart rs t g S) (h1 : 1 ≤ n) (h8 : n ≤ 8) (ht : t ≤ 40) (hgg : g ≤ 100) :
    ∃ ref S', Bl.alloc S n = .ok (ref, S') ∧ ref < 18446744073709551616 ∧ Apart (rs ++ [(ref, n)]) (t + 1) g S' := by
  have hc : (1 : Int) ≤ (n : Int) ∧ (n : Int) ≤ 64 := by omega
  have htp := h.top
  have key : ∀ (p : Nat) (b : Blk) (S1 : BS), aget p S1.bl = some b → b.live = false → b.n = n → b.gen ≤ g → p < 4294967296 → S1.ws = S.ws → S1.top ≤ 9 * (t + 1) →
      (∀ r ∈ rs, r.1 % 4294967296 ≠ p) → (∀ r, r % 4294967296 ≠ p → find S1 r = find S r) → (∀ q ∈ S1.bl, q.2.gen ≤ g) → Bl.lives S1.bl = rs.length → Sep S1.bl →
      Apart (rs ++ [(refOf p b, n)]) (t + 1) g { S1 with bl := aput p { b with live := true } S1.bl, ws := zeros (S1.ws.set p (headOf { b with live := true })) (p + 1) n } ∧ refOf p b < 18446744073709551616 := by
    intro p b S1 hb hl hn hg hp hws htop hne hsame hgs hlv hsep
    have hmod : refOf p b % 4294967296 = p := by unfold refOf; omega
    have hdiv : refOf p b / 4294967296 = b.gen := by unfold refOf; omega
    have hlt : refOf p b < 18446744073709551616 := by unfold refOf; omega
    refine ⟨⟨?_, htop, ?_, ?_, ?_, ?_, ?_, ?_, hsep.put hb rfl⟩, hlt⟩
    · simp [zeros_len, hws, h.len]
    · intro r hr
      simp only [List.mem_append, List.mem_cons, List.not_mem_nil, or_false] at hr
      rcases hr with hr | rfl
      · obtain ⟨b', h1, h2⟩ := h.good r hr
        refine ⟨b', ?_, h2⟩
        rw [find_put (S := S1) (p := p) (b := { b with live := true }) rfl (hne r hr), hsame r.1 (hne r hr)]
        exact h1
      · refine ⟨{ b with live := true }, find_of ?_ rfl hdiv.symm, hn⟩
        simp [aget_aput, hmod]
    · intro r hr
      simp only [List.mem_append, List.mem_cons, List.not_mem_nil, or_false] at hr
      rcases hr with hr | rfl
      · exact h.size r hr
      · exact ⟨h1, h8⟩
    · simp only [List.map_append, List.map_cons, List.map_nil, hmod]
      rw [List.nodup_append]
      refine ⟨h.apart, by simp, ?_⟩
      intro a ha c hc
      simp only [List.mem_cons, List.not_mem_nil, or_false] at hc
      subst hc
      obtain ⟨r, hr, rfl⟩ := List.mem_map.1 ha
      exact hne r hr
    · intro q hq
      rcases mem_put _ _ _ _ hq with rfl | hq
      · exact hg
      · exact hgs q hq
    · have := lives_put p { b with live := true } S1.bl
      rw [hb] at this
      simp only [hl, Bool.toNat_false, Bool.toNat_true, Nat.add_zero] at this
      simp only [this, hlv, List.length_append, List.length_cons, List.length_nil]
    · intro r hr
      simp only [List.mem_append, List.mem_cons, List.not_mem_nil, or_false] at hr
      rcases hr with hr | rfl
      · exact h.small r hr
      · exact hlt
  unfold Bl.alloc
  rw [if_pos hc, Int.toNat_natCast]
  have fresh : Bl.take S n = some (S.top, { S with top := S.top + n + 1, bl := aput S.top ⟨n, 0, false⟩ S.bl }) → ∃ ref S', (match Bl.take S n with
        | none => Except.error 4
        | some (p, S1) => match aget p S1.bl with
          | none => .error 0
          | some b => .ok (refOf p b, { S1 with bl := aput p { b with live := true } S1.bl, ws := zeros (S1.ws.set p (headOf { b with live := true })) (p + 1) n })) = .ok (ref, S') ∧ ref < 18446744073709551616 ∧ Apart (rs ++ [(ref, n)]) (t + 1) g S' := by
    intro ht
    rw [ht]
    have hg : aget S.top (aput S.top (⟨n, 0, false⟩ : Blk) S.bl) = some ⟨n, 0, false⟩ := by simp [aget_aput]
    have hnew : ∀ b, aget S.top S.bl = some b → False := by
      intro b hb
      have := ho.fits _ _ hb
      omega
    have hnone : aget S.top S.bl = none := by
      cases hx : aget S.top S.bl with
      | none => rfl
      | some b => exact (hnew b hx).elim
    simp only [hg]
    obtain ⟨k1, k2⟩ := key S.top ⟨n, 0, false⟩ { S with top := S.top + n + 1, bl := aput S.top ⟨n, 0, false⟩ S.bl } hg rfl rfl (Nat.zero_le _) (by omega) rfl (by simp only; omega)
      (fun r hr e => by
        obtain ⟨b, hf, _⟩ := h.good r hr
        obtain ⟨_, hb, _⟩ := find_eq hf
        rw [e] at hb
        exact hnew b hb)
      (fun r hr => find_put rfl hr)
      (fun q hq => by
        rcases mem_put _ _ _ _ hq with rfl | hq
        · exact Nat.zero_le _
        · exact h.gens q hq)
      (by
        have := lives_put S.top ⟨n, 0, false⟩ S.bl
        rw [hnone] at this
        simpa [h.lives] using this)
      (h.sep.new fun q c hq => (ho.fits _ _ hq).1)
    exact ⟨_, _, rfl, k2, k1⟩
  have hroom : ¬ S.ws.length < S.top + n + 1 := by rw [h.len]; omega
  cases hg : aget n S.fr with
  | none =>
    refine fresh ?_
    unfold Bl.take; rw [hg]; simp only [if_neg hroom]
  | some l =>
    cases l with
    | nil =>
      refine fresh ?_
      unfold Bl.take; rw [hg]; simp only [if_neg hroom]
    | cons y l =>
      have ht : Bl.take S n = some ((y :: l).getLastD 0, { S with fr := aput n (y :: l).dropLast S.fr }) := by unfold Bl.take; rw [hg]
      rw [ht]
      obtain ⟨b, hb1, hb2, hb3, hb4⟩ := ho.frees n _ _ hg (getLastD_mem y l)
      simp only [hb1]
      have hfit := ho.fits _ _ hb1
      obtain ⟨k1, k2⟩ := key ((y :: l).getLastD 0) b { S with fr := aput n (y :: l).dropLast S.fr } hb1 hb4 hb2 (h.gens _ (aget_mem _ _ _ hb1)) (by omega) rfl (by simp only; omega)
        (fun r hr e => by
          obtain ⟨b', hf, _⟩ := h.good r hr
          obtain ⟨_, hb, hl, _⟩ := find_eq hf
          rw [e, hb1] at hb
          simp only [Option.some.injEq] at hb
          subst hb
          rw [hb4] at hl
          cases hl)
        (fun r _ => rfl) h.gens h.lives h.sep
      exact ⟨_, _, rfl, k2, k1⟩

theorem Apart.free {r n : Nat} {rs : List (Nat × Nat)} {t g : Nat} {S : BS} (h : Apart (rs ++ [(r, n)]) t g S) :
    ∃ S', Bl.free S r = some S' ∧ Apart rs t (g + 1) S' := by
  obtain ⟨b, hf, hn⟩ := h.good (r, n) (by simp)
  simp only at hf hn
  obtain ⟨_, hb, hl, hgen⟩ := find_eq hf
  have hg := h.gens _ (aget_mem _ _ _ hb)
  unfold Bl.free
  rw [hf]
  refine ⟨_, rfl, ?_⟩
  have hap := h.apart
  rw [List.map_append, List.nodup_append] at hap
  have hne : ∀ x ∈ rs, x.1 % 4294967296 ≠ r % 4294967296 := by
    intro x hx e
    exact hap.2.2 _ (List.mem_map.2 ⟨x, hx, rfl⟩) _ (by simp) e
  refine ⟨by simp [h.len], h.top, ?_, (fun x hx => h.size x (by simp [hx])), hap.1, ?_, ?_, (fun x hx => h.small x (by simp [hx])), h.sep.put hb rfl⟩
  · intro x hx
    obtain ⟨b', h1, h2⟩ := h.good x (by simp [hx])
    refine ⟨b', ?_, h2⟩
    rw [find_put (S := S) (p := r % 4294967296) (b := ⟨b.n, b.gen + 1, false⟩) rfl (hne x hx)]
    exact h1
  · intro q hq
    rcases mem_put _ _ _ _ hq with rfl | hq
    · simp only at hg ⊢; omega
    · exact Nat.le_succ_of_le (h.gens q hq)
  · have := lives_put (r % 4294967296) ⟨b.n, b.gen + 1, false⟩ S.bl
    rw [hb] at this
    have h3 := h.lives
    simp only [hl, Bool.toNat_false, Bool.toNat_true, List.length_append, List.length_cons, List.length_nil] at this h3
    show Bl.lives (aput _ _ _) = _
    omega

/-- What was stored, up to word i of block k. -/
def Filled (rs : List (Nat × Nat)) (ws : List Nat) (k i : Nat) : Prop := ∀ j m r, rs[j]? = some r → m < r.2 → (j < k ∨ (j = k ∧ m < i)) → ws.getD (r.1 % 4294967296 + 1 + m) 0 = 100 * j + m + 1
theorem Filled.start (rs : List (Nat × Nat)) (ws : List Nat) : Filled rs ws 0 0 := by
  intro j m r _ _ h
  omega
theorem Filled.next {rs : List (Nat × Nat)} {ws : List Nat} {k : Nat} {r : Nat × Nat} (h : Filled rs ws k r.2) (hr : rs[k]? = some r) : Filled rs ws (k + 1) 0 := by
  intro j m r' h1 h2 h3
  refine h j m r' h1 h2 ?_
  by_cases e : j = k
  · subst e
    rw [hr] at h1
    cases h1
    exact .inr ⟨rfl, h2⟩
  · exact .inl (by omega)
theorem nodup_get {l : List Nat} (h : l.Nodup) {i j x : Nat} (hi : l[i]? = some x) (hj : l[j]? = some x) : i = j := by
  have h1 := List.getElem?_eq_some_iff.1 hi
  exact (List.getElem?_inj h1.1 h).1 (hi.trans hj.symm)
theorem Apart.far {rs : List (Nat × Nat)} {t g : Nat} {S : BS} (h : Apart rs t g S) {j k m i : Nat} {r r' : Nat × Nat} (hj : rs[j]? = some r) (hk : rs[k]? = some r') (hm : m < r.2) (hi : i < r'.2) (hne : j ≠ k) :
    r.1 % 4294967296 + 1 + m ≠ r'.1 % 4294967296 + 1 + i := by
  obtain ⟨b, hf, hn⟩ := h.good r (List.mem_of_getElem? hj)
  obtain ⟨b', hf', hn'⟩ := h.good r' (List.mem_of_getElem? hk)
  have h1 := (find_eq hf).2.1
  have h2 := (find_eq hf').2.1
  have hp : r.1 % 4294967296 ≠ r'.1 % 4294967296 := by
    intro e
    refine hne (nodup_get h.apart (x := r.1 % 4294967296) ?_ ?_)
    · rw [List.getElem?_map, hj]; rfl
    · rw [List.getElem?_map, hk, Option.map_some, e]
  have := h.sep _ _ _ _ h1 h2 hp
  omega
theorem Apart.word {rs : List (Nat × Nat)} {t g : Nat} {S : BS} (h : Apart rs t g S) {k i : Nat} {r : Nat × Nat} (hk : rs[k]? = some r) (hi : i < r.2) (ws : List Nat) : Bl.word { S with ws := ws } r.1 (i : Int) = .ok (r.1 % 4294967296 + 1 + i) := by
  obtain ⟨b, hf, hn⟩ := h.good r (List.mem_of_getElem? hk)
  have hf' : find { S with ws := ws } r.1 = some (r.1 % 4294967296, b) := hf
  unfold Bl.word
  rw [hf']
  have hc : (0 : Int) ≤ (i : Int) ∧ (i : Int) < (b.n : Int) := by omega
  simp only [if_pos hc, Int.toNat_natCast]
theorem Apart.fill {rs : List (Nat × Nat)} {t g : Nat} {S : BS} (h : Apart rs t g S) (ho : Ok S) {ws : List Nat} (hl : ws.length = 600) {k i : Nat} {r : Nat × Nat} (hf : Filled rs ws k i) (hk : rs[k]? = some r) (hi : i < r.2) :
    Filled rs (ws.set (r.1 % 4294967296 + 1 + i) (100 * k + i + 1)) k (i + 1) := by
  obtain ⟨b, hfd, hn⟩ := h.good r (List.mem_of_getElem? hk)
  have hfit := ho.fits _ _ (find_eq hfd).2.1
  have htop := ho.top
  have hlen := h.len
  intro j m r' h1 h2 h3
  rw [List.getD_eq_getElem?_getD]
  by_cases e : j = k
  · subst e
    rw [hk] at h1
    cases h1
    by_cases e' : m = i
    · subst e'
      rw [List.getElem?_set_self (by omega)]
      rfl
    · rw [List.getElem?_set_ne (by omega), ← List.getD_eq_getElem?_getD]
      exact hf j m r hk h2 (.inr ⟨rfl, by omega⟩)
  · have := h.far hk h1 hi h2 (fun q => e q.symm)
    rw [List.getElem?_set_ne this, ← List.getD_eq_getElem?_getD]
    exact hf j m r' h1 h2 (.inl (by omega))
theorem live_count : ∀ bl : List (Nat × Blk), (liveRefs bl).length = lives bl
  | [] => rfl
  | q :: l => by
    have ih := live_count l
    unfold liveRefs lives at *
    cases h : q.2.live <;> simp [refIf, h, ih] <;> exact ih
end Go.Proofs.YtfehonejcambgaaDoor.Bl
