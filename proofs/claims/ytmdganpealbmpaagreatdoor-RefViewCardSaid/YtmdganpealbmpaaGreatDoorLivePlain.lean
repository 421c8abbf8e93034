/- Layer 2 (blocks): the live refs, in plain words. No program stands here. -/
import Derived.Test.YtmdganpealbmpaaGreatDoorBlocksPlain
namespace Go.Proofs.YtmdganpealbmpaaGreatDoor.Bl

def Uniq (S : BS) : Prop := (S.bl.map (·.1)).Nodup
theorem aput_keys {α : Type} (k : Nat) (v : α) : ∀ l : List (Nat × α), (aput k v l).map (·.1) = if k ∈ l.map (·.1) then l.map (·.1) else l.map (·.1) ++ [k]
  | [] => by simp [aput]
  | p :: l => by
    unfold aput
    by_cases h : p.1 = k
    · simp [h]
    · have h' : ¬ k = p.1 := fun e => h e.symm
      simp only [if_neg h, List.map_cons, aput_keys k v l, List.mem_cons, h', false_or]
      split <;> simp_all
theorem aput_nodup {α : Type} (k : Nat) (v : α) (l : List (Nat × α)) (h : (l.map (·.1)).Nodup) : ((aput k v l).map (·.1)).Nodup := by
  rw [aput_keys]
  split
  · exact h
  · rw [List.nodup_append]
    refine ⟨h, by simp, ?_⟩
    intro a ha b hb
    simp only [List.mem_cons, List.not_mem_nil, or_false] at hb
    subst hb
    rintro rfl
    contradiction
theorem aget_of_get {α : Type} : ∀ (l : List (Nat × α)) (i p : Nat) (b : α), (l.map (·.1)).Nodup → l[i]? = some (p, b) → aget p l = some b
  | [], i, _, _, _, h => by simp at h
  | q :: l, 0, p, b, _, h => by
    simp only [List.getElem?_cons_zero, Option.some.injEq] at h
    subst h; simp [aget]
  | q :: l, i + 1, p, b, hn, h => by
    simp only [List.map_cons, List.nodup_cons] at hn
    simp only [List.getElem?_cons_succ] at h
    have hm : p ∈ l.map (·.1) := List.mem_map.2 ⟨_, List.mem_of_getElem? h, rfl⟩
    have hne : ¬ q.1 = p := fun e => hn.1 (e ▸ hm)
    unfold aget
    rw [if_neg hne]
    exact aget_of_get l i p b hn.2 h

def refIf (q : Nat × Blk) : Option Nat := if q.2.live then some (refOf q.1 q.2) else none
def liveRefs (bl : List (Nat × Blk)) : List Nat := bl.filterMap refIf
def refAt (bl : List (Nat × Blk)) (i : Nat) : Option Nat := bl[i]?.bind refIf
/-- How many words live blocks have, with their heads. -/
def usedBy (bl : List (Nat × Blk)) : Nat := ((bl.filter fun q => q.2.live).map fun q => q.2.n + 1).sum

theorem range_refs (bl : List (Nat × Blk)) : ∀ (l pre : List (Nat × Blk)), bl = pre ++ l → (List.range' pre.length l.length).filterMap (refAt bl) = l.filterMap refIf
  | [], _, _ => rfl
  | q :: l, pre, h => by
    have e : bl[pre.length]? = some q := by rw [h]; simp
    have := range_refs bl l (pre ++ [q]) (by rw [h]; simp)
    simp only [List.length_append, List.length_cons, List.length_nil, Nat.zero_add] at this
    simp only [List.length_cons, List.range'_succ, List.filterMap_cons, this, refAt, e, Option.bind_some]
theorem perm_of_same {l m : List Nat} (hl : l.Nodup) (hm : m.Nodup) (h : ∀ x, x ∈ l ↔ x ∈ m) : l.Perm m := by
  rw [List.perm_iff_count]
  intro a
  rw [hl.count, hm.count]
  simp only [h]
theorem refs_perm (bl : List (Nat × Blk)) (seen : List Nat) (hn : seen.Nodup) (h1 : ∀ i ∈ seen, i < bl.length) (h2 : ∀ i, i < bl.length → i ∈ seen) : (seen.filterMap (refAt bl)).Perm (liveRefs bl) := by
  have hp : seen.Perm (List.range' 0 bl.length) := perm_of_same hn List.nodup_range' fun x => by
    rw [List.mem_range'_1]
    exact ⟨fun h => ⟨Nat.zero_le _, by simpa using h1 x h⟩, fun h => h2 x (by simpa using h.2)⟩
  refine (hp.filterMap _).trans ?_
  have := range_refs bl bl [] rfl
  simp only [List.length_nil] at this
  rw [this]
  exact List.Perm.refl _

/-- What Used adds for a ref. -/
def cost (bl : List (Nat × Blk)) (ref : Nat) : Nat := match aget (ref % 4294967296) bl with | some b => b.n + 1 | none => 0
theorem sum_perm {l m : List Nat} (h : l.Perm m) (f : Nat → Nat) : (l.map f).sum = (m.map f).sum := (h.map f).sum_nat
theorem mem_liveRefs {bl : List (Nat × Blk)} {r : Nat} (h : r ∈ liveRefs bl) : ∃ q ∈ bl, q.2.live = true ∧ r = refOf q.1 q.2 := by
  unfold liveRefs at h
  simp only [List.mem_filterMap, refIf] at h
  obtain ⟨q, hq, h⟩ := h
  split at h
  · exact ⟨q, hq, ‹_›, (Option.some.inj h).symm⟩
  · cases h
theorem cost_live (S : BS) (ho : Ok S) (hu : Uniq S) : ((liveRefs S.bl).map (cost S.bl)).sum = usedBy S.bl := by
  have h : ∀ l : List (Nat × Blk), (∀ q ∈ l, q ∈ S.bl) → ((l.filterMap refIf).map (cost S.bl)).sum = ((l.filter fun q => q.2.live).map fun q => q.2.n + 1).sum := by
    intro l
    induction l with
    | nil => intro _; rfl
    | cons q l ih =>
      intro hm
      have ih := ih fun q hq => hm q (by simp [hq])
      obtain ⟨i, hi⟩ := List.getElem?_of_mem (hm q (by simp))
      have hg := aget_of_get S.bl i q.1 q.2 hu hi
      have hf := ho.fits q.1 q.2 hg
      have ht := ho.top
      have hl := ho.len
      by_cases hq : q.2.live = true
      · have e : refIf q = some (refOf q.1 q.2) := by simp [refIf, hq]
        have hc : cost S.bl (refOf q.1 q.2) = q.2.n + 1 := by
          unfold cost refOf
          rw [show (q.2.gen * 4294967296 + q.1) % 4294967296 = q.1 by omega, hg]
        simp [e, hq, hc, ih]
      · have e : refIf q = none := by simp [refIf, hq]
        simp [e, hq, ih]
  exact h S.bl fun _ h => h
end Go.Proofs.YtmdganpealbmpaaGreatDoor.Bl
