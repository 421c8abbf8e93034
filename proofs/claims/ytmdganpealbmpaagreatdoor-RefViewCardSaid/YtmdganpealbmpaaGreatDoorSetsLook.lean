/- Layer 7 (sets): the maps of sets against their plain lists. No program stands here. -/
import Derived.Test.YtmdganpealbmpaaGreatDoorHeap
import Derived.Test.YtmdganpealbmpaaGreatDoorRefPlain
namespace Go.Proofs.YtmdganpealbmpaaGreatDoor
open Go.RowKit Th

theorem at_append (k c : Nat) (v : Int) : ∀ (l : List (Nat × Int)) (i : Nat), at? k (l ++ [(c, v)]) i = (match at? k l i with | some j => some j | none => if k = c then some (i + l.length) else none)
  | [], i => by
    simp only [List.nil_append, at?, List.length_nil, Nat.add_zero]
  | x :: l, i => by
    simp only [List.cons_append, at?, List.length_cons]
    by_cases h : k = x.1
    · simp [h]
    · rw [if_neg h, if_neg h, at_append k c v l (i + 1)]
      rw [show i + 1 + l.length = i + (l.length + 1) by omega]

theorem wget_wput (k j v : Nat) : ∀ l : List (Nat × Nat), wget j (wput k v l) = if j = k then some v else wget j l
  | [] => by simp [wput, wget]
  | x :: l => by
    unfold wput
    by_cases h1 : k < x.1
    · rw [if_pos h1]; simp only [wget]
    · rw [if_neg h1]
      by_cases h2 : k = x.1
      · rw [if_pos h2]
        simp only [wget]
        by_cases h3 : j = k
        · simp [h3]
        · rw [if_neg h3, if_neg h3, if_neg (by omega)]
      · rw [if_neg h2]
        simp only [wget]
        rw [wget_wput k j v l]
        by_cases h3 : j = x.1
        · rw [if_pos h3, if_pos h3, if_neg (by omega)]
        · rw [if_neg h3, if_neg h3]
theorem mem_wput (k v : Nat) : ∀ (l : List (Nat × Nat)) (y : Nat × Nat), y ∈ wput k v l → y = (k, v) ∨ y ∈ l
  | [], y, h => by simpa [wput] using h
  | x :: l, y, h => by
    unfold wput at h
    split at h
    · rcases List.mem_cons.1 h with e | e
      · exact .inl e
      · exact .inr e
    · split at h
      · rcases List.mem_cons.1 h with e | e
        · exact .inl e
        · exact .inr (List.mem_cons_of_mem _ e)
      · rcases List.mem_cons.1 h with e | e
        · exact .inr (by simp [e])
        · rcases mem_wput k v l y e with q | q
          · exact .inl q
          · exact .inr (List.mem_cons_of_mem _ q)
theorem sorted_wput (k v : Nat) : ∀ l : List (Nat × Nat), Th.Sorted l → Th.Sorted (wput k v l)
  | [], _ => by simp [wput, Th.Sorted]
  | x :: l, ⟨h1, h2⟩ => by
    unfold wput
    split
    · rename_i hk
      refine ⟨fun y hy => ?_, h1, h2⟩
      rcases List.mem_cons.1 hy with e | e
      · rw [e]; exact hk
      · exact Nat.lt_trans hk (h1 y e)
    · split
      · rename_i hk hk2
        refine ⟨fun y hy => ?_, h2⟩
        simp only
        rw [hk2]; exact h1 y hy
      · rename_i hk hk2
        refine ⟨fun y hy => ?_, sorted_wput k v l h2⟩
        rcases mem_wput k v l y hy with e | e
        · rw [e]; simp only; omega
        · exact h1 y e
theorem wget_mem (k v : Nat) : ∀ l : List (Nat × Nat), wget k l = some v → (k, v) ∈ l
  | [], h => by simp [wget] at h
  | x :: l, h => by
    unfold wget at h
    split at h
    · rename_i e
      simp only [Option.some.injEq] at h
      exact List.mem_cons.2 (.inl (by rw [e, ← h]))
    · exact List.mem_cons_of_mem _ (wget_mem k v l h)
theorem wget_of_mem : ∀ (l : List (Nat × Nat)), Th.Sorted l → ∀ x ∈ l, wget x.1 l = some x.2
  | [], _, x, h => by simp at h
  | y :: l, ⟨h1, h2⟩, x, h => by
    unfold wget
    rcases List.mem_cons.1 h with e | e
    · rw [e, if_pos rfl]
    · have := h1 x e
      rw [if_neg (by omega)]
      exact wget_of_mem l h2 x e
theorem len_wput (k v : Nat) : ∀ l : List (Nat × Nat), Th.Sorted l → (wput k v l).length = if (wget k l).isSome then l.length else l.length + 1
  | [], _ => by simp [wput, wget]
  | x :: l, ⟨h1, h2⟩ => by
    unfold wput
    by_cases hk : k < x.1
    · rw [if_pos hk]
      have : wget k (x :: l) = none := by
        cases hw : wget k (x :: l) with
        | none => rfl
        | some v =>
          have hm := wget_mem k v _ hw
          rcases List.mem_cons.1 hm with e | e
          · have := congrArg Prod.fst e; simp only at this; omega
          · have := h1 _ e; simp only at this; omega
      simp [this]
    · rw [if_neg hk]
      by_cases h2' : k = x.1
      · rw [if_pos h2']; simp [wget, h2']
      · rw [if_neg h2']
        simp only [List.length_cons, wget, if_neg h2']
        rw [len_wput k v l h2]
        split <;> rfl

theorem look_key (k : Int) : ∀ es : List Ent, look k es = none ↔ k ∉ es.map (·.key)
  | [] => by simp [look]
  | e :: es => by
    unfold look
    by_cases h : e.key = k
    · simp [h]
    · rw [if_neg h, look_key k es]
      simp only [List.map_cons, List.mem_cons, not_or]
      exact ⟨fun q => ⟨fun e => h e.symm, q⟩, fun q => q.2⟩
theorem upd_some (k : Int) (v : Value) (c : Nat) : ∀ es : List Ent, (look k es).isSome → (upd k v c es).map (·.key) = es.map (·.key) ∧ (upd k v c es).map (·.born) = es.map (·.born)
  | [], h => by simp [look] at h
  | e :: es, h => by
    unfold look at h
    unfold upd
    by_cases hk : e.key = k
    · simp [hk]
    · rw [if_neg hk] at h ⊢
      obtain ⟨h1, h2⟩ := upd_some k v c es h
      simp [h1, h2]

/-- A map's entries and the clock of births, against a list of what cells will have. -/
structure WMap (ws : List (Nat × Nat)) (es : List Ent) (c : Nat) : Prop where
  look : ∀ k : Nat, look (k : Int) es = (wget k ws).map fun v => .int .u64 (v : Int)
  len : es.length = ws.length
  born : (es.map (·.born)).Nodup
  old : ∀ b ∈ es.map (·.born), b < c
  keys : (es.map (·.key)).Nodup
  nat : ∀ k ∈ es.map (·.key), ∃ n : Nat, k = (n : Int)
  sorted : Th.Sorted ws
theorem WMap.empty : WMap [] [] 0 := ⟨fun _ => rfl, rfl, by simp, by simp, by simp, by simp, trivial⟩
theorem WMap.put {ws : List (Nat × Nat)} {es : List Ent} {c : Nat} (h : WMap ws es c) (k v : Nat) : WMap (wput k v ws) (upd (k : Int) (.int .u64 (v : Int)) c es) (updClock (k : Int) es c) := by
  have hl := h.look k
  refine ⟨fun j => ?_, ?_, ?_, ?_, ?_, ?_, sorted_wput k v ws h.sorted⟩
  · rw [look_upd, wget_wput, h.look j]
    by_cases e : j = k
    · simp [e]
    · rw [if_neg (by omega), if_neg e]
  all_goals
    cases hw : wget k ws with
    | none =>
      rw [hw] at hl
      simp only [Option.map_none] at hl
      have hu := upd_none (k : Int) (.int .u64 (v : Int)) c es hl
      have hkn := (look_key (k : Int) es).1 hl
      have hcl : updClock (k : Int) es c = c + 1 := by unfold updClock; rw [hl]; rfl
      rw [hu]
      first
      | (rw [len_wput k v ws h.sorted, hw]; simp [h.len])
      | (rw [List.map_append, List.nodup_append]
         refine ⟨h.born, by simp, ?_⟩
         intro a ha b hb
         simp only [List.map_cons, List.map_nil, List.mem_singleton] at hb
         have := h.old a ha
         omega)
      | (rw [hcl, List.map_append]
         intro b hb
         rcases List.mem_append.1 hb with e | e
         · have := h.old b e; omega
         · simp only [List.map_cons, List.map_nil, List.mem_singleton] at e; omega)
      | (rw [List.map_append, List.nodup_append]
         refine ⟨h.keys, by simp, ?_⟩
         intro a ha b hb
         simp only [List.map_cons, List.map_nil, List.mem_singleton] at hb
         rintro rfl
         exact hkn (hb ▸ ha))
      | (rw [List.map_append]
         intro b hb
         rcases List.mem_append.1 hb with e | e
         · exact h.nat b e
         · simp only [List.map_cons, List.map_nil, List.mem_singleton] at e
           exact ⟨k, e⟩)
    | some x =>
      rw [hw] at hl
      simp only [Option.map_some] at hl
      obtain ⟨u1, u2⟩ := upd_some (k : Int) (.int .u64 (v : Int)) c es (by rw [hl]; rfl)
      have hcl : updClock (k : Int) es c = c := by unfold updClock; rw [hl]; rfl
      have hlen : (upd (k : Int) (.int .u64 (v : Int)) c es).length = es.length := by
        have := congrArg List.length u1
        simpa using this
      first
      | (rw [len_wput k v ws h.sorted, hw, hlen]; simp [h.len])
      | (rw [u2]; exact h.born)
      | (rw [hcl, u2]; exact h.old)
      | (rw [u1]; exact h.keys)
      | (rw [u1]; exact h.nat)
end Go.Proofs.YtmdganpealbmpaaGreatDoor
