/- Layer 2 (blocks), on: Free. -/
import Derived.Test.YtmdganpealbmpaaGreatDoorBlocks3
import Derived.Deep.RegionHeld3
import Derived.Deep.AppendLies
namespace Go.Proofs.YtmdganpealbmpaaGreatDoor
open Go.RowKit Bl
set_option maxRecDepth 10000

theorem intInfo : (Tryz.prog.info? 3).map (fun i => (i.zero, i.size, i.bytes)) = some (some (.int .i64 0), 1, 8) := by kernel_rfl

/-- What Free answers at a good ref. -/
def Freed (pb : Nat) (L : Lay) (S' : BS) (w : World) (e : Ending) (w' : World) : Prop :=
  ∃ L', e = .returned .nilIface ∧ Rep w' pb L' S' ∧ Moved pb L L' w w'

theorem entsF_snoc (k : Nat) (l : List Nat) (v : Value) : ∀ (fr : List (Nat × List Nat)) (vs : List Value) (i : Nat), vs.length = fr.length → entsF (fr ++ [(k, l)]) (vs ++ [v]) i = entsF fr vs i ++ [⟨(k : Int), v, i + fr.length⟩]
  | [], [], i, _ => rfl
  | [], _ :: _, _, h => by simp at h
  | _ :: _, [], _, h => by simp at h
  | p :: fr, y :: vs, i, h => by
    simp only [List.cons_append, entsF, entsF_snoc k l v fr vs (i + 1) (by simpa using h), List.length_cons]
    rw [show i + 1 + fr.length = i + (fr.length + 1) by omega]

/-- A new freed list. -/
theorem Rep.withRowNew {T : Nat → Prop} {w w' : World} {pb : Nat} {L : Lay} {S : BS} (h : Rep w pb L S) {n : Nat} {v' : Value} {l' : List Nat} (k : Kept T w w')
    (hT : ∀ b ∈ pb :: L.pa :: L.wb :: L.bm :: L.xs, ¬ T b) (hTv : ∀ u ∈ L.vs, ∀ b, u.ownBlock = some b → ¬ T b)
    (hm : MapAt w' L.fm .i64 (entsF (S.fr ++ [(n, l')]) (L.vs ++ [v']) 0) (S.fr.length + 1)) (hr : w'.ownsRow 0 3 1 v' l'.length (l'.map fun (k : Nat) => .int .i64 (k : Int)))
    (hn : (({ L with vs := L.vs ++ [v'] } : Lay).all pb).Nodup) (ho : Ok { S with fr := S.fr ++ [(n, l')] }) : Rep w' pb { L with vs := L.vs ++ [v'] } { S with fr := S.fr ++ [(n, l')] } := by
  refine ⟨h.main.kept k (hT _ (by simp)), h.arena.kept k (hT _ (by simp)) (hT _ (by simp)), h.bmap.kept k (hT _ (by simp)), by simpa using hm, h.xlen, by simp [h.vlen], ?_, ?_, hn, ho⟩
  · intro j q x hq hx
    have hmx : x ∈ L.xs := List.mem_of_getElem? hx
    exact (h.blks j q x hq hx : Cells _ _ _ _).kept k (hT _ (by simp [hmx]))
  · intro j q u hq hu
    simp only at hq hu
    by_cases hi : j < S.fr.length
    · rw [List.getElem?_append_left hi] at hq
      rw [List.getElem?_append_left (by rw [h.vlen]; exact hi)] at hu
      exact ownsRow_kept (h.rows j q u hq hu) k fun b hb => hTv u (List.mem_of_getElem? hu) b hb
    · rw [List.getElem?_append_right (by omega)] at hq
      rw [List.getElem?_append_right (by rw [h.vlen]; omega)] at hu
      rw [h.vlen] at hu
      cases hd : j - S.fr.length with
      | zero => rw [hd] at hq hu; simp at hq hu; subst hq; subst hu; exact hr
      | succ d => rw [hd] at hq; simp at hq

/-- The slice that a size has, and what it is good for. -/
theorem Rep.rowOf {w : World} {pb : Nat} {L : Lay} {S : BS} (h : Rep w pb L S) (n : Nat) :
    ∃ v, look (n : Int) (entsF S.fr L.vs 0) = (aget n S.fr).map (fun _ => v) ∧ ((look (n : Int) (entsF S.fr L.vs 0)).getD (.slice none 0 0)) = v ∧ w.ownsRow 0 3 1 v ((aget n S.fr).getD []).length (((aget n S.fr).getD []).map fun (k : Nat) => .int .i64 (k : Int)) ∧ (∀ b, v.ownBlock = some b → b ∈ L.vs.filterMap Value.ownBlock) ∧ (aget n S.fr = none → v.ownBlock = none) := by
  have hs := spotF_aget n S.fr L.vs h.vlen
  rw [look_entsF]
  cases hsp : spotF n S.fr L.vs with
  | none =>
    rw [hsp] at hs
    refine ⟨.slice none 0 0, by rw [← hs]; rfl, rfl, ?_, by intro b hb; simp [Value.ownBlock] at hb, fun _ => rfl⟩
    rw [← hs]
    exact ⟨by simp, Or.inl ⟨rfl, rfl⟩⟩
  | some y =>
    obtain ⟨v, l⟩ := y
    rw [hsp] at hs
    obtain ⟨i, h1, h2, _, _⟩ := spotF_idx n S.fr L.vs _ hsp
    have hr := h.rows i _ _ h1 h2
    rw [← hs]
    exact ⟨v, rfl, rfl, hr, fun b hb => List.mem_filterMap.2 ⟨v, List.mem_of_getElem? h2, hb⟩, fun he => by simp at he⟩

theorem own_in_all (pb : Nat) (L : Lay) {b : Nat} (h : b ∈ L.vs.filterMap Value.ownBlock) : b ∈ L.all pb := by simp [Lay.all]; simp at h; right; right; right; right; right; right; exact h

theorem filterMap_set_other {α β : Type} (f : α → Option β) : ∀ (l : List α) (i : Nat) (a' : α) (b : β), b ∈ (l.set i a').filterMap f → b ∈ l.filterMap f ∨ f a' = some b
  | [], _, _, _, h => by simp at h
  | x :: l, 0, a', b, h => by
    simp only [List.set_cons_zero, List.filterMap_cons] at h ⊢
    cases ha : f a' with
    | none => rw [ha] at h; left; cases f x <;> simp [h]
    | some c =>
      rw [ha] at h
      simp only [List.mem_cons] at h
      rcases h with rfl | h
      · exact Or.inr rfl
      · left; cases f x <;> simp [h]
  | x :: l, i + 1, a', b, h => by
    simp only [List.set_cons_succ, List.filterMap_cons] at h ⊢
    cases hx : f x with
    | none => rw [hx] at h; exact filterMap_set_other f l i a' b h
    | some c =>
      rw [hx] at h
      simp only [List.mem_cons] at h ⊢
      rcases h with rfl | h
      · exact Or.inl (Or.inl rfl)
      · rcases filterMap_set_other f l i a' b h with e | e
        · exact Or.inl (Or.inr e)
        · exact Or.inr e

/-- Blocks that no two of a list have in common, after one was changed to a new one. -/
theorem nodup_filterMap_set {α β : Type} (f : α → Option β) : ∀ (l : List α) (i : Nat) (a' : α) (b : β), (l.filterMap f).Nodup → f a' = some b → b ∉ l.filterMap f → ((l.set i a').filterMap f).Nodup
  | [], _, _, _, _, _, _ => by simp
  | x :: l, 0, a', b, h, e, hb => by
    simp only [List.set_cons_zero, List.filterMap_cons, e] at h hb ⊢
    cases hx : f x with
    | none => rw [hx] at h hb; exact List.nodup_cons.2 ⟨hb, h⟩
    | some c =>
      rw [hx] at h hb
      simp only [List.mem_cons, not_or] at hb
      exact List.nodup_cons.2 ⟨hb.2, (List.nodup_cons.1 h).2⟩
  | x :: l, i + 1, a', b, h, e, hb => by
    simp only [List.set_cons_succ, List.filterMap_cons] at h hb ⊢
    cases hx : f x with
    | none => rw [hx] at h hb; exact nodup_filterMap_set f l i a' b h e hb
    | some c =>
      rw [hx] at h hb
      simp only [List.mem_cons, not_or] at hb
      refine List.nodup_cons.2 ⟨fun hm => ?_, nodup_filterMap_set f l i a' b (List.nodup_cons.1 h).2 e hb.2⟩
      rcases filterMap_set_other f l i a' c hm with h' | h'
      · exact (List.nodup_cons.1 h).1 h'
      · rw [e] at h'; exact hb.1 (Option.some.inj h')

theorem all_nodup_vs {pb : Nat} {L : Lay} {vs : List Value} (h : (L.all pb).Nodup) (hn : (vs.filterMap Value.ownBlock).Nodup) (hs : ∀ b ∈ vs.filterMap Value.ownBlock, b ∈ L.vs.filterMap Value.ownBlock ∨ b ∉ L.all pb) : (({ L with vs := vs } : Lay).all pb).Nodup := by
  unfold Lay.all at h ⊢
  have hs' : ∀ b ∈ vs.filterMap Value.ownBlock, b ∈ L.vs.filterMap Value.ownBlock ∨ b ∉ L.all pb := hs
  unfold Lay.all at hs'
  simp only [List.nodup_cons, List.mem_cons, List.mem_append, not_or, List.nodup_append] at h ⊢ hs'
  obtain ⟨⟨a1, a2, a3, a4, a5, a6⟩, ⟨b1, b2, b3, b4, b5⟩, ⟨c1, c2, c3, c4⟩, ⟨d1, d2, d3⟩, ⟨e1, e2⟩, f1, f2, f3⟩ := h
  refine ⟨⟨a1, a2, a3, a4, a5, fun hm => ?_⟩, ⟨b1, b2, b3, b4, fun hm => ?_⟩, ⟨c1, c2, c3, fun hm => ?_⟩, ⟨d1, d2, fun hm => ?_⟩, ⟨e1, fun hm => ?_⟩, f1, hn, ?_⟩
  · rcases hs' _ hm with h' | h'
    · exact a6 h'
    · exact h'.1 rfl
  · rcases hs' _ hm with h' | h'
    · exact b5 h'
    · exact h'.2.1 rfl
  · rcases hs' _ hm with h' | h'
    · exact c4 h'
    · exact h'.2.2.1 rfl
  · rcases hs' _ hm with h' | h'
    · exact d3 h'
    · exact h'.2.2.2.1 rfl
  · rcases hs' _ hm with h' | h'
    · exact e2 h'
    · exact h'.2.2.2.2.1 rfl
  · intro x hx y hy hxy
    subst hxy
    rcases hs' _ hy with h' | h'
    · exact f3 x hx x h' rfl
    · exact h'.2.2.2.2.2.1 hx

theorem all_vs_mem {pb : Nat} {L : Lay} {vs : List Value} {b : Nat} (h : b ∈ ({ L with vs := vs } : Lay).all pb) : b ∈ L.all pb ∨ b ∈ vs.filterMap Value.ownBlock := by
  unfold Lay.all at h ⊢
  simp only [List.mem_cons, List.mem_append] at h ⊢
  rcases h with h | h | h | h | h | h | h
  · exact Or.inl (Or.inl h)
  · exact Or.inl (Or.inr (Or.inl h))
  · exact Or.inl (Or.inr (Or.inr (Or.inl h)))
  · exact Or.inl (Or.inr (Or.inr (Or.inr (Or.inl h))))
  · exact Or.inl (Or.inr (Or.inr (Or.inr (Or.inr (Or.inl h)))))
  · exact Or.inl (Or.inr (Or.inr (Or.inr (Or.inr (Or.inr (Or.inl h))))))
  · exact Or.inr h

theorem nodup_vs {pb : Nat} {L : Lay} (h : (L.all pb).Nodup) : (L.vs.filterMap Value.ownBlock).Nodup ∧ ∀ b ∈ L.vs.filterMap Value.ownBlock, ∀ c ∈ pb :: L.pa :: L.wb :: L.bm :: L.xs, b ≠ c := by
  unfold Lay.all at h
  simp only [List.nodup_cons, List.mem_cons, List.mem_append, not_or, List.nodup_append] at h
  obtain ⟨a, b', c', d', e', _, g, k⟩ := h
  refine ⟨g, fun b hb c hc => ?_⟩
  simp only [List.mem_cons] at hc
  rcases hc with rfl | rfl | rfl | rfl | hc
  · rintro rfl; exact a.2.2.2.2.2 hb
  · rintro rfl; exact b'.2.2.2.2 hb
  · rintro rfl; exact c'.2.2.2 hb
  · rintro rfl; exact d'.2.2 hb
  · rintro rfl; exact k b hc b hb rfl

theorem own_apart {α β : Type} {f : α → Option β} : ∀ {l : List α}, (l.filterMap f).Nodup → ∀ {i j : Nat} {a b : α} {x : β}, l[i]? = some a → l[j]? = some b → i ≠ j → f a = some x → f b = some x → False
  | [], _, _, _, _, _, _, hi, _, _, _, _ => by simp at hi
  | c :: l, h, i, j, a, b, x, hi, hj, hij, ha, hb => by
    rw [List.filterMap_cons] at h
    cases i with
    | zero =>
      cases j with
      | zero => exact hij rfl
      | succ j =>
        simp at hi hj
        subst hi
        rw [ha] at h
        exact (List.nodup_cons.1 h).1 (List.mem_filterMap.2 ⟨b, List.mem_of_getElem? hj, hb⟩)
    | succ i =>
      cases j with
      | zero =>
        simp at hi hj
        subst hj
        rw [hb] at h
        exact (List.nodup_cons.1 h).1 (List.mem_filterMap.2 ⟨a, List.mem_of_getElem? hi, ha⟩)
      | succ j =>
        simp at hi hj
        have h' : (l.filterMap f).Nodup := by
          cases hc : f c with
          | none => rw [hc] at h; exact h
          | some d => rw [hc] at h; exact (List.nodup_cons.1 h).2
        exact own_apart h' hi hj (fun e => hij (by rw [e])) ha hb

/-- A place was put behind a size's freed list. -/
theorem Rep.pushed {w w3 : World} {pb : Nat} {L : Lay} {S : BS} (h : Rep w pb L S) {n p g cap : Nat} {v : Value}
    (hv : look (n : Int) (entsF S.fr L.vs 0) = (aget n S.fr).map fun _ => v) (hvo : ∀ b, v.ownBlock = some b → b ∈ L.vs.filterMap Value.ownBlock) (hv0 : aget n S.fr = none → v.ownBlock = none)
    (k : Kept (fun j => some j = v.ownBlock) w w3)
    (hown : w3.ownsRow 0 3 1 (.slice (some ⟨g, 0, none⟩) (((aget n S.fr).getD []).length + 1) cap) (((aget n S.fr).getD []).length + 1) ((((aget n S.fr).getD []).map fun (k : Nat) => .int .i64 (k : Int)) ++ [.int .i64 (p : Int)]))
    (hat : v.ownBlock = some g ∨ w.heap.size ≤ g) (hlt : g < w3.heap.size) (ho : Ok { S with fr := aput n ((aget n S.fr).getD [] ++ [p]) S.fr }) :
    ∃ L', Rep (updWorld w3 L.fm .i64 (upd (n : Int) (.slice (some ⟨g, 0, none⟩) (((aget n S.fr).getD []).length + 1) cap) S.fr.length (entsF S.fr L.vs 0)) (updClock (n : Int) (entsF S.fr L.vs 0) S.fr.length)) pb L' { S with fr := aput n ((aget n S.fr).getD [] ++ [p]) S.fr } ∧
      Moved pb L L' w (updWorld w3 L.fm .i64 (upd (n : Int) (.slice (some ⟨g, 0, none⟩) (((aget n S.fr).getD []).length + 1) cap) S.fr.length (entsF S.fr L.vs 0)) (updClock (n : Int) (entsF S.fr L.vs 0) S.fr.length)) := by
  have hlt0 := h.lt
  obtain ⟨hnv, hnd⟩ := nodup_vs h.apart
  obtain ⟨ap1, ap2⟩ := apart_fm h.apart
  have hfmv : some L.fm ≠ v.ownBlock := fun e => by
    obtain ⟨u, hu, hub⟩ := List.mem_filterMap.1 (hvo _ e.symm)
    exact ap2 u hu _ hub rfl
  have hm3 : MapAt w3 L.fm .i64 (entsF S.fr L.vs 0) S.fr.length := h.fmap.kept k hfmv
  have hgfm : g ≠ L.fm := by
    rcases hat with e | e
    · rintro rfl; exact hfmv e.symm
    · have := hlt0 _ (mem_fm pb L); omega
  generalize hW4 : updWorld w3 L.fm .i64 (upd (n : Int) (.slice (some ⟨g, 0, none⟩) (((aget n S.fr).getD []).length + 1) cap) S.fr.length (entsF S.fr L.vs 0)) (updClock (n : Int) (entsF S.fr L.vs 0) S.fr.length) = w4
  have hmap : MapAt w4 L.fm .i64 (upd (n : Int) (.slice (some ⟨g, 0, none⟩) (((aget n S.fr).getD []).length + 1) cap) S.fr.length (entsF S.fr L.vs 0)) (updClock (n : Int) (entsF S.fr L.vs 0) S.fr.length) := by rw [← hW4]; exact updWorld_at hm3.lt _ _ _
  have k4 : Kept (fun j => j = L.fm) w3 w4 := by rw [← hW4]; exact updWorld_kept _ _ _ _ _
  have K : Kept (fun j => some j = v.ownBlock ∨ j = L.fm) w w4 := (k.mono fun j _ hj => Or.inl hj).then k4 fun j _ hj => Or.inr hj
  have hr4 : w4.ownsRow 0 3 1 (.slice (some ⟨g, 0, none⟩) (((aget n S.fr).getD []).length + 1) cap) (((aget n S.fr).getD []) ++ [p]).length ((((aget n S.fr).getD []) ++ [p]).map fun (k : Nat) => .int .i64 (k : Int)) := by
    rw [List.length_append, List.map_append]
    exact ownsRow_kept hown k4 fun b hb => by simp only [Value.ownBlock, Option.some.injEq] at hb; rw [← hb]; exact hgfm
  clear hW4
  have hT : ∀ b ∈ pb :: L.pa :: L.wb :: L.bm :: L.xs, ¬ (some b = v.ownBlock ∨ b = L.fm) := by
    rintro b hb (e | e)
    · exact hnd b (hvo b e.symm) b hb rfl
    · exact ap1 b hb e
  have hKall : ∀ b, (some b = v.ownBlock ∨ b = L.fm) → b ∈ L.all pb := by
    rintro b (e | rfl)
    · exact own_in_all pb L (hvo b e.symm)
    · exact mem_fm pb L
  have hs := spotF_aget n S.fr L.vs h.vlen
  cases hsp : spotF n S.fr L.vs with
  | none =>
    rw [hsp] at hs
    have hg0 : aget n S.fr = none := by rw [← hs]; rfl
    have hlk : look (n : Int) (entsF S.fr L.vs 0) = none := by rw [hv, hg0]; rfl
    rw [hg0] at hr4 hmap ho ⊢
    have hput := aput_none n (([] : List Nat) ++ [p]) S.fr hg0
    simp only [Option.getD_none] at hr4 hmap ho ⊢
    rw [hput] at ho ⊢
    have hvn := hv0 hg0
    have hg : w.heap.size ≤ g := by
      rcases hat with e | e
      · rw [hvn] at e; cases e
      · exact e
    have hgn : g ∉ L.all pb := fun hm => by have := hlt0 g hm; omega
    have hfm2 : (L.vs ++ [Value.slice (some ⟨g, 0, none⟩) (([] : List Nat).length + 1) cap]).filterMap Value.ownBlock = L.vs.filterMap Value.ownBlock ++ [g] := by
      rw [List.filterMap_append]; rfl
    refine ⟨{ L with vs := L.vs ++ [Value.slice (some ⟨g, 0, none⟩) (([] : List Nat).length + 1) cap] }, ?_, Moved.to K hKall ?_ rfl⟩
    · refine h.withRowNew K hT ?_ ?_ hr4 (all_nodup_vs h.apart ?_ ?_) ho
      · rintro u hu b hb (e | e)
        · rw [hvn] at e; cases e
        · exact ap2 u hu b hb e
      · rw [upd_none _ _ _ _ hlk] at hmap
        unfold updClock at hmap
        rw [hlk] at hmap
        rw [entsF_snoc n _ _ S.fr L.vs 0 h.vlen, Nat.zero_add]
        exact hmap
      · rw [hfm2, List.nodup_append]
        refine ⟨hnv, by simp, ?_⟩
        rintro a ha b hb rfl
        simp only [List.mem_singleton] at hb
        exact hgn (hb ▸ own_in_all pb L ha)
      · intro b hb
        rw [hfm2, List.mem_append, List.mem_singleton] at hb
        rcases hb with e | rfl
        · exact Or.inl e
        · exact Or.inr hgn
    · intro b hb
      rcases all_vs_mem hb with e | e
      · exact Or.inl e
      · rw [hfm2, List.mem_append, List.mem_singleton] at e
        rcases e with e | rfl
        · exact Or.inl (own_in_all pb L e)
        · exact Or.inr hg
  | some y =>
    obtain ⟨u, l⟩ := y
    rw [hsp] at hs
    have hg0 : aget n S.fr = some l := by rw [← hs]; rfl
    obtain ⟨i, i1, i2, i3, i4⟩ := spotF_idx n S.fr L.vs _ hsp
    simp only at i1 i2
    obtain rfl : u = v := by
      rw [look_entsF, hsp, hg0] at hv
      simpa using hv
    have hlk : (look (n : Int) (entsF S.fr L.vs 0)).isSome = true := by rw [hv, hg0]; rfl
    rw [hg0] at hr4 hmap ho ⊢
    simp only [Option.getD_some] at hr4 hmap ho ⊢
    rw [i3] at ho ⊢
    rw [i4 _ (l ++ [p])] at hmap
    unfold updClock at hmap
    rw [if_pos hlk] at hmap
    have hother : ∀ (j : Nat) z, j ≠ i → L.vs[j]? = some z → ∀ b, z.ownBlock = some b → ¬ (some b = u.ownBlock ∨ b = L.fm) := by
      rintro j z hj hz b hb (e | e)
      · exact own_apart hnv i2 hz (fun e' => hj e'.symm) e.symm hb
      · exact ap2 z (List.mem_of_getElem? hz) b hb e
    refine ⟨{ L with vs := L.vs.set i (.slice (some ⟨g, 0, none⟩) (l.length + 1) cap) }, ?_, Moved.to K hKall ?_ rfl⟩
    · refine h.withRow i1 i2 K hT hother hmap hr4 ?_ ho
      rcases hat with e | e
      · have hall : ({ L with vs := L.vs.set i (.slice (some ⟨g, 0, none⟩) (l.length + 1) cap) } : Lay).all pb = L.all pb := by
          simp only [Lay.all]
          rw [filterMap_set_same Value.ownBlock L.vs i _ (.slice (some ⟨g, 0, none⟩) (l.length + 1) cap) i2 (by rw [e]; rfl)]
        rw [hall]; exact h.apart
      · have hgn : g ∉ L.all pb := fun hm => by have := hlt0 g hm; omega
        refine all_nodup_vs h.apart (nodup_filterMap_set _ _ _ _ g hnv rfl fun hm => hgn (own_in_all pb L hm)) ?_
        intro b hb
        rcases filterMap_set_other _ _ _ _ b hb with e' | e'
        · exact Or.inl e'
        · simp only [Value.ownBlock, Option.some.injEq] at e'
          rw [← e']; exact Or.inr hgn
    · intro b hb
      rcases all_vs_mem hb with e' | e'
      · exact Or.inl e'
      · rcases filterMap_set_other _ _ _ _ b e' with e'' | e''
        · exact Or.inl (own_in_all pb L e'')
        · simp only [Value.ownBlock, Option.some.injEq] at e''
          rw [← e'']
          rcases hat with e | e
          · exact Or.inl (own_in_all pb L (hvo _ e))
          · exact Or.inr e

/-- What New leaves: blocks on an arena. -/
def NewBlocks (pa wb : Nat) (ws : List Nat) (from' : Nat) (w : World) (e : Ending) (w' : World) : Prop :=
  ∃ pb L, e = .returned (.tuple #[.pointer (some ⟨pb, 0, none⟩), .nilIface]) ∧ Rep w' pb L ⟨ws, from', [], []⟩ ∧ L.pa = pa ∧ L.wb = wb ∧ (∀ b ∈ L.all pb, b = pa ∨ b = wb ∨ w.heap.size ≤ b) ∧ Below w.heap.size w w'

set_option maxHeartbeats 1000000 in
theorem bnew_ok {w : World} {pa wb : Nat} {ws : List Nat} (h : Arena w pa wb ws) (from' : Nat) (hf : from' ≤ ws.length) :
    Calls Tryz.prog 70 #[.pointer (some ⟨pa, 0, none⟩), .int .i64 from'] w (NewBlocks pa wb ws from' w) := by
  have HL := Lib.hid (arena_len h)
  have g0 : decide ((from' : Int) < 0) = false := by simp
  have g1 : decide ((ws.length : Int) < (from' : Int)) = false := by simp; omega
  have g2 : decide (ws.length < from') = false := by simp; omega
  have g3 : ((ws.length : Int) == 0) = false := by have := h.pos; rw [beq_eq_false_iff_ne]; omega
  have g4 : (ws.length == 0) = false := by have := h.pos; rw [beq_eq_false_iff_ne]; omega
  have hpos := h.pos
  have hmm := @run_makeMap Tryz.prog
  have HA := Lib.hid h
  have HF := Lib.hid hf
  clear h hf
  generalize hlen : ws.length = len at *
  have HLEN := Lib.hid hlen; clear hlen
  go_enter Tryz.func70, Tryz.ntmps70
  go_wp2_with (go_at_call 95; refine HL.out.mono ?_; rintro e w' ⟨rfl, rfl⟩)
  go_ret2
  have A := HA.out
  obtain ⟨_, _, _, _, _, _, hc⟩ := A.hd
  have lpa := hc.lt
  have lwb := A.row.lt
  have hb : Below w.heap.size w (((w.alloc (.map #[] 0)).alloc (.map #[] 0)).alloc (.cells #[.pointer (some ⟨pa, 0, none⟩), .int .i64 (from' : Int), .map (some w.heap.size), .map (some (w.heap.size + 1))] 96)) :=
    (((Below.refl _ _).alloc (Nat.le_refl _) _).alloc (by simp) _).alloc (by simp; omega) _
  refine ⟨w.heap.size + 1 + 1, ⟨pa, wb, w.heap.size, w.heap.size + 1, [], []⟩, rfl, ?_, rfl, rfl, ?_, hb⟩
  · refine ⟨?_, A.kept (Kept.of_below hb) (by simp; omega) (by simp; omega), ?_, ?_, rfl, rfl, by simp, by simp, ?_, ?_⟩
    · have := Cells.new ((w.alloc (.map #[] 0)).alloc (.map #[] 0)) [.pointer (some ⟨pa, 0, none⟩), .int .i64 (from' : Int), .map (some w.heap.size), .map (some (w.heap.size + 1))] 96
      simpa using this
    · exact ((MapAt.new w .i64).alloc _).alloc _
    · have := (MapAt.new (w.alloc (.map #[] 0)) .i64).alloc (.cells #[.pointer (some ⟨pa, 0, none⟩), .int .i64 (from' : Int), .map (some w.heap.size), .map (some (w.heap.size + 1))] 96)
      rw [World.size_alloc] at this
      exact this
    · simp [Lay.all]
      have := A.ne
      omega
    · exact ⟨by rw [HLEN.out]; exact HF.out, A.few, by intro p b hp; simp [aget] at hp, by intro n l p hp; simp [aget] at hp, by intro n l hp; simp [aget] at hp, A.fit⟩
  · intro b hb'
    simp [Lay.all] at hb'
    omega
end Go.Proofs.YtmdganpealbmpaaGreatDoor
