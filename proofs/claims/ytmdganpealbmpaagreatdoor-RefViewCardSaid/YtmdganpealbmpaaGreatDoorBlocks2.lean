/- Layer 2 (blocks), on: head, take, Alloc. -/
import Derived.Test.YtmdganpealbmpaaGreatDoorBlocks
import Derived.StillTailTactics
namespace Go.Proofs.YtmdganpealbmpaaGreatDoor
open Go.RowKit Bl
set_option maxRecDepth 10000

theorem spot_idx (k : Nat) : ∀ (bl : List (Nat × Blk)) (xs : List Nat) (q : Nat × Blk), spot k bl xs = some q → ∃ i : Nat, bl[i]? = some (k, q.2) ∧ xs[i]? = some q.1 ∧ ∀ b', aput k b' bl = bl.set i (k, b')
  | p :: bl, x :: xs, q, h => by
    unfold spot at h
    by_cases hk : p.1 = k
    · rw [if_pos hk] at h
      obtain rfl := Option.some.inj h
      exact ⟨0, by simp [← hk], rfl, fun b' => by simp [aput, hk]⟩
    · rw [if_neg hk] at h
      obtain ⟨i, h1, h2, h3⟩ := spot_idx k bl xs q h
      exact ⟨i + 1, by simpa using h1, by simpa using h2, fun b' => by simp [aput, hk, h3 b']⟩
  | [], _, _, h => by cases ‹List Nat› <;> simp [spot] at h
  | _ :: _, [], _, h => by simp [spot] at h

theorem entsB_keys : ∀ (bl bl' : List (Nat × Blk)) (xs : List Nat) (i : Nat), bl.map (·.1) = bl'.map (·.1) → entsB bl xs i = entsB bl' xs i
  | [], [], _, _, _ => rfl
  | [], _ :: _, _, _, h => by simp at h
  | _ :: _, [], _, _, h => by simp at h
  | _ :: _, _ :: _, [], _, _ => rfl
  | p :: bl, p' :: bl', x :: xs, i, h => by
    simp only [List.map_cons, List.cons.injEq] at h
    simp only [entsB, h.1, entsB_keys bl bl' xs (i + 1) h.2]

theorem mapfst_set (bl : List (Nat × Blk)) (i k : Nat) (b b' : Blk) (h : bl[i]? = some (k, b)) : (bl.set i (k, b')).map (·.1) = bl.map (·.1) := by
  rw [List.map_set]
  apply List.ext_getElem?
  intro j
  by_cases e : i = j
  · subst e
    have : (bl.map (·.1))[i]? = some k := by rw [List.getElem?_map, h]; rfl
    rw [List.getElem?_set, if_pos rfl, this]
    have hl : i < (bl.map (·.1)).length := (List.getElem?_eq_some_iff.1 this).1
    simp only [hl, if_true]
  · rw [List.getElem?_set, if_neg e]

theorem nodup_get {α : Type} : ∀ {l : List α}, l.Nodup → ∀ {i j : Nat} {a : α}, l[i]? = some a → l[j]? = some a → i = j
  | [], _, _, _, _, hi, _ => by simp at hi
  | x :: l, h, i, j, a, hi, hj => by
    rw [List.nodup_cons] at h
    cases i with
    | zero =>
      cases j with
      | zero => rfl
      | succ j =>
        simp at hi hj
        subst hi
        exact absurd (List.mem_of_getElem? hj) h.1
    | succ i =>
      cases j with
      | zero =>
        simp at hi hj
        subst hj
        exact absurd (List.mem_of_getElem? hi) h.1
      | succ j =>
        simp at hi hj
        rw [nodup_get h.2 hi hj]

theorem apart_xs {pb : Nat} {L : Lay} (h : (L.all pb).Nodup) : L.xs.Nodup ∧ ∀ x ∈ L.xs, x ≠ pb ∧ x ≠ L.pa ∧ x ≠ L.wb ∧ x ≠ L.bm ∧ x ≠ L.fm ∧ x ∉ L.vs.filterMap Value.ownBlock := by
  unfold Lay.all at h
  simp only [List.nodup_cons, List.mem_cons, List.mem_append, not_or, List.nodup_append] at h
  obtain ⟨a1, a2, a3, a4, a5, a6, _, a8⟩ := h
  refine ⟨a6, fun x hx => ⟨?_, ?_, ?_, ?_, ?_, ?_⟩⟩
  · rintro rfl; exact a1.2.2.2.2.1 hx
  · rintro rfl; exact a2.2.2.2.1 hx
  · rintro rfl; exact a3.2.2.1 hx
  · rintro rfl; exact a4.2.1 hx
  · rintro rfl; exact a5.1 hx
  · intro hv; exact a8 x hx x hv rfl

/-- A block's struct has changed, and nothing else. -/
theorem Rep.withBlk {w w' : World} {pb : Nat} {L : Lay} {S : BS} (h : Rep w pb L S) {p x : Nat} {b b' : Blk} (hs : spot p S.bl L.xs = some (x, b)) (k : Kept (fun j => j = x) w w') (hb : BlkAt w' x b') (ho : Ok { S with bl := aput p b' S.bl }) :
    Rep w' pb L { S with bl := aput p b' S.bl } := by
  obtain ⟨i, h1, h2, h3⟩ := spot_idx p S.bl L.xs _ hs
  have hx : x ∈ L.xs := List.mem_of_getElem? h2
  obtain ⟨hn, hd⟩ := apart_xs h.apart
  obtain ⟨d1, d2, d3, d4, d5, d6⟩ := hd x hx
  have hkeys : (aput p b' S.bl).map (·.1) = S.bl.map (·.1) := by rw [h3]; exact mapfst_set _ _ _ _ _ h1
  have hlen : (aput p b' S.bl).length = S.bl.length := by rw [h3]; simp
  refine ⟨h.main.kept k d1.symm, h.arena.kept k d2.symm d3.symm, ?_, h.fmap.kept k d5.symm, by rw [hlen]; exact h.xlen, h.vlen, ?_, ?_, h.apart, ho⟩
  · rw [entsB_keys _ _ L.xs 0 hkeys, hlen]; exact h.bmap.kept k d4.symm
  · intro j q y hq hy
    rw [h3] at hq
    by_cases e : i = j
    · subst e
      have hl : i < S.bl.length := (List.getElem?_eq_some_iff.1 h1).1
      rw [List.getElem?_set, if_pos rfl, if_pos hl] at hq
      obtain rfl := Option.some.inj hq
      rw [h2] at hy
      obtain rfl := Option.some.inj hy
      exact hb
    · rw [List.getElem?_set, if_neg e] at hq
      refine (h.blks j q y hq hy : Cells _ _ _ _).kept k ?_
      rintro rfl
      exact e (nodup_get hn h2 hy)
  · intro j q v hq hv
    refine ownsRow_kept (h.rows j q v hq hv) k fun g hg => ?_
    rintro rfl
    exact d6 (List.mem_filterMap.2 ⟨v, List.mem_of_getElem? hv, hg⟩)

theorem head_form (gen n : Nat) (hg : gen ≤ 4294967295) (hn : n ≤ 64) : bits BinOp.or IntKind.u64 ((gen : Int) * 4294967296) ((n : Int) * 2) = ((gen * 4294967296 + 2 * n : Nat) : Int) := by
  rw [show (gen : Int) * 4294967296 = ((gen * 4294967296 : Nat) : Int) by omega, show (n : Int) * 2 = ((2 * n : Nat) : Int) by omega, u64_or_nat _ _ (by omega) (by omega), nat_join 32 _ _ (by omega) (by omega)]
theorem head_live (gen n : Nat) (hg : gen ≤ 4294967295) (hn : n ≤ 64) : bits BinOp.or IntKind.u64 ((gen * 4294967296 + 2 * n : Nat) : Int) 1 = ((gen * 4294967296 + 2 * n + 1 : Nat) : Int) := by
  rw [show (1 : Int) = ((1 : Nat) : Int) from rfl, u64_or_nat _ _ (by omega) (by omega), nat_join 1 _ _ (by omega) (by omega)]

set_option maxHeartbeats 400000 in
theorem head_ok {w : World} {pb : Nat} {L : Lay} {S : BS} (h : Rep w pb L S) {p : Nat} {b : Blk} (hp : aget p S.bl = some b) :
    Calls Tryz.prog 118 #[.pointer (some ⟨pb, 0, none⟩), .int .i64 p] w fun e w' => e = .returned .nilIface ∧ Rep w' pb L { S with ws := S.ws.set p (headOf b) } ∧ Kept (fun b => b = L.pa ∨ b = L.wb) w w' := by
  have q := h.main.cell
  have hl := h.lookB p
  have hs := spot_aget p S.bl L.xs h.xlen
  have hfit := h.ok.fits p b hp
  have htop := h.ok.top
  cases hsp : spot p S.bl L.xs with
  | none => rw [hsp, hp] at hs; simp at hs
  | some y =>
    obtain ⟨x, b'⟩ := y
    rw [hsp, hp] at hs
    simp only [Option.map_some, Option.some.injEq] at hs
    subst hs
    rw [hsp] at hl
    obtain ⟨i, hi1, hi2⟩ := spot_at p S.bl L.xs _ hsp
    have qb := (h.blks i _ _ hi1 hi2 : Cells _ _ _ _).cell
    simp only at qb hl
    obtain ⟨n, gen, live⟩ := b'
    have hf := head_form gen n hfit.2.2.2.1 hfit.2.2.1
    have hf1 := head_live gen n hfit.2.2.2.1 hfit.2.2.1
    have hpl : p < S.ws.length := by omega
    have w1 : IntKind.u64.wrap ((gen : Int) * 4294967296) = (gen : Int) * 4294967296 := by have := hfit.2.2.2.1; simp only at this; rw [IntKind.wrap_u64]; omega
    have w2 : IntKind.u64.wrap ((n : Int) * 2) = (n : Int) * 2 := by have := hfit.2.2.1; simp only at this; rw [IntKind.wrap_u64]; omega
    have w3 : IntKind.u64.wrap (n : Int) = (n : Int) := by have := hfit.2.2.1; simp only at this; rw [IntKind.wrap_u64]; omega
    have hb1 : gen * 4294967296 + 2 * n < 18446744073709551615 := by have := hfit.2.2.2.1; have := hfit.2.2.1; simp only at *; omega
    have bg : gen ≤ 4294967295 := hfit.2.2.2.1
    have bn : n ≤ 64 := hfit.2.2.1
    have hhead : headOf ⟨n, gen, live⟩ = gen * 4294967296 + 2 * n + live.toNat := rfl
    rw [hhead]
    obtain ⟨X, hX⟩ : ∃ X : Nat, gen * 4294967296 + 2 * n = X := ⟨_, rfl⟩
    obtain ⟨X1, hX1⟩ : ∃ X1 : Nat, X + 1 = X1 := ⟨_, rfl⟩
    rw [hX] at hf hf1 hb1 ⊢
    rw [hX1] at hf1
    have H := Lib.hid h; have HX := Lib.hid hX; have HX1 := Lib.hid hX1; have HP := Lib.hid hpl
    clear hpl h hi1 hi2 hsp hfit htop hhead hX hX1 hp
    cases live
    · go_enter Tryz.func118, Tryz.ntmps118
      go_wp2_with fail
      go_quiet (fail)
      have K0 : Kept (fun _ => False) w (w.drewN nq) := (Kept.refl _ _).drewN nq
      have H1 := Lib.hid (H.out.kept K0 (fun _ _ h => h))
      clear K0 w1 w2 w3
      go_wp2_with fail
      refine (arena_store H1.out.arena p HP.out X (by omega)).mono ?_
      rintro e w1 ⟨rfl, ha, hk⟩
      have HK : Hid (Kept (fun b => b = L.pa ∨ b = L.wb) w w1) := Lib.hid (((Kept.refl _ _).drewN nq).trans hk)
      have HR := Lib.hid (H1.out.withWords hk ha (by simp))
      clear ha hk
      go_wp2
      go_ret
      exact ⟨rfl, HR.out, HK.out⟩
    · have HE : Hid (X + true.toNat = X1) := Lib.hid (by have := HX1.out; simp; omega)
      go_enter Tryz.func118, Tryz.ntmps118
      go_wp2_with fail
      go_quiet (fail)
      have K0 : Kept (fun _ => False) w (w.drewN nq) := (Kept.refl _ _).drewN nq
      have H1 := Lib.hid (H.out.kept K0 (fun _ _ h => h))
      clear K0 w1 w2 w3
      go_wp2_with fail
      refine (arena_store H1.out.arena p HP.out X1 (by have := HX1.out; have := HX.out; omega)).mono ?_
      rintro e w1 ⟨rfl, ha, hk⟩
      have HK : Hid (Kept (fun b => b = L.pa ∨ b = L.wb) w w1) := Lib.hid (((Kept.refl _ _).drewN nq).trans hk)
      have HR := Lib.hid (H1.out.withWords hk ha (by simp))
      rw [← HE.out] at HR
      clear ha hk
      go_wp2
      go_ret
      exact ⟨rfl, HR.out, HK.out⟩

/-- The slice of a size. -/
def spotF (k : Nat) : List (Nat × List Nat) → List Value → Option (Value × List Nat)
  | p :: fr, v :: vs => if p.1 = k then some (v, p.2) else spotF k fr vs
  | _, _ => none
theorem look_entsF (k : Nat) : ∀ (fr : List (Nat × List Nat)) (vs : List Value) (i : Nat), look (k : Int) (entsF fr vs i) = (spotF k fr vs).map (·.1)
  | [], _, _ => by cases ‹List Value› <;> rfl
  | _ :: _, [], _ => rfl
  | p :: fr, v :: vs, i => by
    unfold entsF look spotF
    by_cases h : p.1 = k
    · simp [h]
    · have : ¬ (p.1 : Int) = (k : Int) := by omega
      simp only [this, h, if_false]
      exact look_entsF k fr vs (i + 1)
theorem spotF_aget (k : Nat) : ∀ (fr : List (Nat × List Nat)) (vs : List Value), vs.length = fr.length → (spotF k fr vs).map (·.2) = aget k fr
  | [], [], _ => rfl
  | [], _ :: _, h => by simp at h
  | _ :: _, [], h => by simp at h
  | p :: fr, v :: vs, h => by
    unfold spotF aget
    split
    · rfl
    · exact spotF_aget k fr vs (by simpa using h)
theorem spotF_idx (k : Nat) : ∀ (fr : List (Nat × List Nat)) (vs : List Value) (q : Value × List Nat), spotF k fr vs = some q → ∃ i : Nat, fr[i]? = some (k, q.2) ∧ vs[i]? = some q.1 ∧ (∀ l', aput k l' fr = fr.set i (k, l')) ∧ ∀ (v' : Value) (l' : List Nat) (c j : Nat), upd (k : Int) v' c (entsF fr vs j) = entsF (fr.set i (k, l')) (vs.set i v') j
  | p :: fr, v :: vs, q, h => by
    unfold spotF at h
    by_cases hk : p.1 = k
    · rw [if_pos hk] at h
      obtain rfl := Option.some.inj h
      refine ⟨0, by simp [← hk], rfl, fun l' => by simp [aput, hk], fun v' l' c j => ?_⟩
      simp [entsF, upd, hk]
    · rw [if_neg hk] at h
      obtain ⟨i, h1, h2, h3, h4⟩ := spotF_idx k fr vs q h
      refine ⟨i + 1, by simpa using h1, by simpa using h2, fun l' => by simp [aput, hk, h3 l'], fun v' l' c j => ?_⟩
      have : ¬ (p.1 : Int) = (k : Int) := by omega
      simp only [entsF, upd, this, if_false, List.set_cons_succ, h4 v' l' c (j + 1)]
  | [], _, _, h => by cases ‹List Value› <;> simp [spotF] at h
  | _ :: _, [], _, h => by simp [spotF] at h

/-- A look-up of a size. -/
theorem Rep.lookF {w : World} {pb : Nat} {L : Lay} {S : BS} (h : Rep w pb L S) (k : Nat) :
    (Instr.lookup 94 (.map (some L.fm)) (.int .i64 (k : Int)) false).run Tryz.prog w = .ok (((spotF k S.fr L.vs).map (·.1)).getD (.slice none 0 0)) w := by
  rw [run_lookup_at h.fmap Tryz.underlying94 Tryz.underlying3 zeroInts, look_entsF]

theorem filterMap_set_same {α β : Type} (f : α → Option β) : ∀ (l : List α) (i : Nat) (a a' : α), l[i]? = some a → f a' = f a → (l.set i a').filterMap f = l.filterMap f
  | [], _, _, _, h, _ => by simp at h
  | x :: l, 0, a, a', h, e => by
    simp at h; subst h
    simp [List.filterMap_cons, e]
  | x :: l, i + 1, a, a', h, e => by
    simp at h
    simp [List.filterMap_cons, filterMap_set_same f l i a a' h e]

/-- One freed list has changed, and nothing else. -/
theorem Rep.withRow {T : Nat → Prop} {w w' : World} {pb : Nat} {L : Lay} {S : BS} (h : Rep w pb L S) {n i : Nat} {v v' : Value} {l l' : List Nat} (h1 : S.fr[i]? = some (n, l)) (h2 : L.vs[i]? = some v) (k : Kept T w w')
    (hT : ∀ b ∈ pb :: L.pa :: L.wb :: L.bm :: L.xs, ¬ T b) (hTv : ∀ (j : Nat) u, j ≠ i → L.vs[j]? = some u → ∀ b, u.ownBlock = some b → ¬ T b)
    (hm : MapAt w' L.fm .i64 (entsF (S.fr.set i (n, l')) (L.vs.set i v') 0) S.fr.length) (hr : w'.ownsRow 0 3 1 v' l'.length (l'.map fun (k : Nat) => .int .i64 (k : Int)))
    (hn : (({ L with vs := L.vs.set i v' } : Lay).all pb).Nodup) (ho : Ok { S with fr := S.fr.set i (n, l') }) : Rep w' pb { L with vs := L.vs.set i v' } { S with fr := S.fr.set i (n, l') } := by
  refine ⟨h.main.kept k (hT _ (by simp)), h.arena.kept k (hT _ (by simp)) (hT _ (by simp)), h.bmap.kept k (hT _ (by simp)), by simpa using hm, h.xlen, by simpa using h.vlen, ?_, ?_, hn, ho⟩
  · intro j q x hq hx
    have hmx : x ∈ L.xs := List.mem_of_getElem? hx
    exact (h.blks j q x hq hx : Cells _ _ _ _).kept k (hT _ (by simp [hmx]))
  · intro j q u hq hu
    simp only at hq hu
    by_cases e : i = j
    · subst e
      have hl1 : i < S.fr.length := (List.getElem?_eq_some_iff.1 h1).1
      have hl2 : i < L.vs.length := (List.getElem?_eq_some_iff.1 h2).1
      rw [List.getElem?_set, if_pos rfl, if_pos hl1] at hq
      rw [List.getElem?_set, if_pos rfl, if_pos hl2] at hu
      obtain rfl := Option.some.inj hq
      obtain rfl := Option.some.inj hu
      exact hr
    · rw [List.getElem?_set, if_neg e] at hq hu
      exact ownsRow_kept (h.rows j q u hq hu) k fun b hb => hTv j u (fun e' => e e'.symm) hu b hb

theorem apart_fm {pb : Nat} {L : Lay} (h : (L.all pb).Nodup) : (∀ b ∈ pb :: L.pa :: L.wb :: L.bm :: L.xs, b ≠ L.fm) ∧ ∀ v ∈ L.vs, ∀ b, v.ownBlock = some b → b ≠ L.fm := by
  unfold Lay.all at h
  simp only [List.nodup_cons, List.mem_cons, List.mem_append, not_or, List.nodup_append] at h
  obtain ⟨a1, a2, a3, a4, a5, _, _, _⟩ := h
  refine ⟨fun b hb => ?_, fun v hv b hb => ?_⟩
  · simp only [List.mem_cons] at hb
    rcases hb with rfl | rfl | rfl | rfl | hb
    · exact a1.2.2.2.1
    · exact a2.2.2.1
    · exact a3.2.1
    · exact a4.1
    · rintro rfl; exact a5.1 hb
  · rintro rfl; exact a5.2 (List.mem_filterMap.2 ⟨v, hv, hb⟩)

theorem row_last (g : Nat) (cur : List Value) (w : World) (l : List Nat) (m : Nat) (hl : l.length = m + 1) (h2 : w.heap[g]? = some (.cells cur.toArray 3 (0, 0))) (h6 : cur.take (l.length * 1) = l.map fun (k : Nat) => .int .i64 (k : Int)) :
    w.cell? ⟨g, m, none⟩ = some (.int .i64 (l.getLastD 0 : Nat)) := by
  have e1 : cur[m]? = (l.map fun (k : Nat) => Value.int .i64 (k : Int))[m]? := by
    rw [← h6, List.getElem?_take, if_pos (by omega)]
  have e2 : l[m]? = some (l.getLastD 0) := by
    rw [List.getLastD_eq_getLast?, List.getLast?_eq_getElem?, show l.length - 1 = m by omega]
    have : m < l.length := by omega
    simp [this]
  simp only [World.cell?, h2]
  simp [e1, e2]

theorem row_drop (g cap m : Nat) (cur : List Value) (w : World) (l : List Nat) (hl : l.length = m + 1) (h1 : 0 ≤ g) (h2 : w.heap[g]? = some (.cells cur.toArray 3 (0, 0))) (h3 : m + 1 ≤ cap) (h4 : cap ≤ maxLen) (h5 : cur.toArray.size = cap * 1) (h6 : cur.take (l.length * 1) = l.map fun (k : Nat) => .int .i64 (k : Int)) :
    w.ownsRow 0 3 1 (.slice (some ⟨g, 0, none⟩) m cap) l.dropLast.length (l.dropLast.map fun (k : Nat) => .int .i64 (k : Int)) := by
  have hd : l.dropLast.length = m := by simp; omega
  refine ⟨by simp, Or.inr ⟨g, cap, cur.toArray, by rw [hd], h1, h2, by omega, h4, h5, ?_⟩⟩
  rw [hd]
  have : cur.take m = (cur.take (l.length * 1)).take m := by rw [List.take_take]; congr 1; omega
  show cur.take (m * 1) = _
  rw [Nat.mul_one, this, h6, ← List.map_take, List.dropLast_eq_take, show l.length - 1 = m by omega]

theorem frees_drop {S : BS} (ho : Ok S) {n i : Nat} {l : List Nat} (hn : aget n S.fr = some l) (hp : ∀ l', aput n l' S.fr = S.fr.set i (n, l')) : Ok { S with fr := S.fr.set i (n, l.dropLast) } := by
  refine ⟨ho.top, ho.len, ho.fits, ?_, ?_, ho.words⟩
  · intro k l' p hk hp'
    rw [← hp, aget_aput] at hk
    by_cases e : k = n
    · rw [if_pos e] at hk
      obtain rfl := Option.some.inj hk
      subst e
      exact ho.frees k l p hn (List.dropLast_subset l hp')
    · rw [if_neg e] at hk
      exact ho.frees k l' p hk hp'
  · intro k l' hk
    rw [← hp, aget_aput] at hk
    by_cases e : k = n
    · rw [if_pos e] at hk
      obtain rfl := Option.some.inj hk
      exact (List.dropLast_sublist l).nodup (ho.once n l hn)
    · rw [if_neg e] at hk
      exact ho.once k l' hk

/-- What take answers where a freed place is there. -/
def TakeOld (pb : Nat) (L : Lay) (S : BS) (n : Nat) (l : List Nat) (w : World) (e : Ending) (w' : World) : Prop :=
  ∃ L', e = .returned (.tuple #[.int .i64 (l.getLastD 0 : Nat), .nilIface]) ∧ Rep w' pb L' { S with fr := aput n l.dropLast S.fr } ∧ Kept (fun b => b = L.fm) w w' ∧ L'.all pb = L.all pb

set_option maxHeartbeats 1000000 in
theorem take_old {w : World} {pb : Nat} {L : Lay} {S : BS} (h : Rep w pb L S) {n : Nat} {l : List Nat} (hn : aget n S.fr = some l) (hne : l ≠ []) :
    Calls Tryz.prog 117 #[.pointer (some ⟨pb, 0, none⟩), .int .i64 n] w (TakeOld pb L S n l w) := by
  have q := h.main.cell
  have hl := h.lookF n
  have hs := spotF_aget n S.fr L.vs h.vlen
  cases hsp : spotF n S.fr L.vs with
  | none => rw [hsp, hn] at hs; simp at hs
  | some y =>
    obtain ⟨v, l'⟩ := y
    rw [hsp, hn] at hs
    simp only [Option.map_some, Option.some.injEq] at hs
    subst hs
    rw [hsp] at hl
    simp only [Option.map_some, Option.getD_some] at hl
    obtain ⟨i, h1, h2, h3, h4⟩ := spotF_idx n S.fr L.vs _ hsp
    have hlk : (look (n : Int) (entsF S.fr L.vs 0)).isSome = true := by rw [look_entsF, hsp]; rfl
    have hrow := h.rows i _ _ h1 h2
    simp only at hrow
    have hpos : 0 < l'.length := (by cases l' with | nil => exact absurd rfl hne | cons a t => simp)
    rcases hrow.2 with ⟨_, hz⟩ | ⟨g, cap, cur, rfl, g1, g2, g3, g4, g5, g6⟩
    · omega
    · obtain ⟨cur⟩ := cur
      obtain ⟨m, hlm⟩ : ∃ m, l'.length = m + 1 := ⟨l'.length - 1, by omega⟩
      have hlast := row_last g cur w l' m hlm g2 g6
      have hdrop := row_drop g cap m cur
      obtain ⟨ap1, ap2⟩ := apart_fm h.apart
      have hgf : g ≠ L.fm := ap2 _ (List.mem_of_getElem? h2) g rfl
      have hpf : pb ≠ L.fm := ap1 _ (by simp)
      have hap := h.apart
      have hfin : Hid (∀ w1, MapAt w1 L.fm .i64 (upd (n : Int) (.slice (some ⟨g, 0, none⟩) m cap) S.fr.length (entsF S.fr L.vs 0)) (updClock (n : Int) (entsF S.fr L.vs 0) S.fr.length) → Kept (fun b => b = L.fm) w w1 →
          ∃ L', Rep w1 pb L' { S with fr := aput n l'.dropLast S.fr } ∧ L'.all pb = L.all pb) := by
        refine Lib.hid fun w1 hm1 hk1 => ?_
        have hall : ({ L with vs := L.vs.set i (.slice (some ⟨g, 0, none⟩) m cap) } : Lay).all pb = L.all pb := by
          simp only [Lay.all]
          rw [filterMap_set_same Value.ownBlock L.vs i _ (.slice (some ⟨g, 0, none⟩) m cap) h2 rfl]
        refine ⟨_, ?_, hall⟩
        rw [h3]
        rw [h4 _ l'.dropLast] at hm1
        unfold updClock at hm1
        rw [if_pos hlk] at hm1
        refine h.withRow h1 h2 hk1 ap1 (fun j u _ hu b hb => ap2 u (List.mem_of_getElem? hu) b hb) hm1 ?_ (by rw [hall]; exact hap) (frees_drop h.ok hn h3)
        exact hdrop w1 l' hlm g1 ((hk1.block g (lt_of_block g2) hgf).trans g2) (by omega) g4 g5 g6
      have hm := h.fmap
      have b1 : 0 < (l'.length : Int) := by omega
      have b2 : (m : Int) < (l'.length : Int) := by omega
      have b3 : (l'.length : Int) - 1 = (m : Int) := by omega
      have b4 : (m : Int) ≤ (cap : Int) := by omega
      have b5 : m < 9223372036854775807 := by unfold maxLen at g4; omega
      have b6 : IntKind.i64.wrap (m : Int) = (m : Int) := IntWalk.i64_in _ (by omega)
      have b7 : m ≤ cap := by omega
      have HM := Lib.hid hm
      have HGF := Lib.hid hgf; have HPF := Lib.hid hpf
      have HQ := Lib.hid h.main
      generalize l'.length = len at *
      clear hlm g1 g2 g3 g4 g5 g6 hm hgf hpf hap ap1 ap2 hdrop hlk h1 h2 h3 h4 hrow h hn hsp hne hpos
      generalize entsF S.fr L.vs 0 = es at *
      generalize hla : l'.getLastD 0 = la at *
      have HLA := Lib.hid hla; clear hla
      go_enter Tryz.func117, Tryz.ntmps117
      go_wp2
      go_still_tail 10, (by kernel_rfl)
      go_wp2_with (at_mapUpdate; refine wpList_mapUpdate_at _ rfl _ _ _ 94 rfl 3 23 .i64 Tryz.underlying94 Tryz.underlying3 L.fm es S.fr.length rfl HM.out (n : Int) _ rfl rfl ?_; intro w1 hm1 hk1; have HM1 := Lib.hid hm1; have HK1 : Hid (Kept (fun b => b = L.fm) w w1) := Lib.hid (((Kept.refl _ w).drew).trans hk1); have q1 := cell_kept hlast HK1.out HGF.out; clear hm1 hk1)
      go_ret2
      obtain ⟨L', hR, hall⟩ := hfin.out _ HM1.out HK1.out
      exact ⟨L', by rw [HLA.out]; rfl, hR, HK1.out, hall⟩

/-- What take answers where a new place is taken. -/
def TakeNew (pb : Nat) (L : Lay) (S : BS) (n : Nat) (w : World) (e : Ending) (w' : World) : Prop :=
  ∃ x, e = .returned (.tuple #[.int .i64 S.top, .nilIface]) ∧ Rep w' pb { L with xs := L.xs ++ [x] } { S with top := S.top + n + 1, bl := aput S.top ⟨n, 0, false⟩ S.bl } ∧ Kept (fun b => b = pb ∨ b = L.bm) w w' ∧ w.heap.size ≤ x

theorem aget_none_top {S : BS} (ho : Ok S) : aget S.top S.bl = none := by
  cases h : aget S.top S.bl with
  | none => rfl
  | some b => have := ho.fits _ _ h; omega
theorem aput_none {α : Type} (k : Nat) (v : α) : ∀ l : List (Nat × α), aget k l = none → aput k v l = l ++ [(k, v)]
  | [], _ => rfl
  | p :: l, h => by
    unfold aget at h
    by_cases hk : p.1 = k
    · simp [hk] at h
    · rw [if_neg hk] at h
      simp [aput, hk, aput_none k v l h]
theorem entsB_snoc (k : Nat) (b : Blk) (x : Nat) : ∀ (bl : List (Nat × Blk)) (xs : List Nat) (i : Nat), xs.length = bl.length → entsB (bl ++ [(k, b)]) (xs ++ [x]) i = entsB bl xs i ++ [⟨(k : Int), .pointer (some ⟨x, 0, none⟩), i + bl.length⟩]
  | [], [], i, _ => rfl
  | [], _ :: _, _, h => by simp at h
  | _ :: _, [], _, h => by simp at h
  | p :: bl, y :: xs, i, h => by
    simp only [List.cons_append, entsB, entsB_snoc k b x bl xs (i + 1) (by simpa using h), List.length_cons]
    rw [show i + 1 + bl.length = i + (bl.length + 1) by omega]
theorem spot_none {k : Nat} {bl : List (Nat × Blk)} {xs : List Nat} (hl : xs.length = bl.length) (h : aget k bl = none) : spot k bl xs = none := by
  have := spot_aget k bl xs hl
  rw [h] at this
  cases hs : spot k bl xs with
  | none => rfl
  | some q => rw [hs] at this; simp at this

/-- A new block stands at the top. -/
theorem Rep.withNew {w w' : World} {pb : Nat} {L : Lay} {S : BS} (h : Rep w pb L S) {n x : Nat} (h1 : 1 ≤ n) (h2 : n ≤ 64) (hroom : S.top + n + 1 ≤ S.ws.length) (k : Kept (fun b => b = pb ∨ b = L.bm) w w')
    (hx : w.heap.size ≤ x) (hb : BlkAt w' x ⟨n, 0, false⟩) (hmain : Cells w' pb [.pointer (some ⟨L.pa, 0, none⟩), .int .i64 ((S.top + n + 1 : Nat) : Int), .map (some L.bm), .map (some L.fm)] 96)
    (hm : MapAt w' L.bm .i64 (upd (S.top : Int) (.pointer (some ⟨x, 0, none⟩)) S.bl.length (entsB S.bl L.xs 0)) (updClock (S.top : Int) (entsB S.bl L.xs 0) S.bl.length)) :
    Rep w' pb { L with xs := L.xs ++ [x] } { S with top := S.top + n + 1, bl := aput S.top ⟨n, 0, false⟩ S.bl } := by
  have hnone := aget_none_top h.ok
  have hput := aput_none S.top ⟨n, 0, false⟩ S.bl hnone
  have hlt := h.lt
  have hsp := spot_none h.xlen hnone
  have hlook : look (S.top : Int) (entsB S.bl L.xs 0) = none := by rw [look_entsB, hsp]; rfl
  have hap := h.apart
  have hpar : ∀ b ∈ L.pa :: L.wb :: L.fm :: (L.xs ++ L.vs.filterMap Value.ownBlock), ¬ (b = pb ∨ b = L.bm) := by
    unfold Lay.all at hap
    simp only [List.nodup_cons, List.mem_cons, List.mem_append, not_or] at hap
    obtain ⟨a1, a2, a3, a4, a5, _⟩ := hap
    intro b hb
    simp only [List.mem_cons, List.mem_append] at hb
    rintro (rfl | rfl)
    · rcases hb with e | e | e | e | e
      · exact a1.1 e
      · exact a1.2.1 e
      · exact a1.2.2.2.1 e
      · exact a1.2.2.2.2.1 e
      · exact a1.2.2.2.2.2 e
    · rcases hb with e | e | e | e | e
      · exact a2.2.1 e.symm
      · exact a3.1 e.symm
      · exact a4.1 e
      · exact a4.2.1 e
      · exact a4.2.2 e
  rw [hput]
  refine ⟨hmain, h.arena.kept k (hpar _ (by simp)) (hpar _ (by simp)), ?_, h.fmap.kept k (hpar _ (by simp)), by simp [h.xlen], h.vlen, ?_, ?_, ?_, ?_⟩
  · have e := upd_none (S.top : Int) (.pointer (some ⟨x, 0, none⟩)) S.bl.length _ hlook
    unfold updClock at hm
    rw [e, hlook] at hm
    simp only [entsB_snoc S.top ⟨n, 0, false⟩ x S.bl L.xs 0 h.xlen, Nat.zero_add, List.length_append, List.length_singleton]
    exact hm
  · intro i p y hp hy
    simp only at hp hy
    by_cases hi : i < S.bl.length
    · rw [List.getElem?_append_left hi] at hp
      rw [List.getElem?_append_left (by rw [h.xlen]; exact hi)] at hy
      exact (h.blks i p y hp hy : Cells _ _ _ _).kept k (hpar _ (by have := List.mem_of_getElem? hy; simp [this]))
    · rw [List.getElem?_append_right (by omega)] at hp
      rw [List.getElem?_append_right (by rw [h.xlen]; omega)] at hy
      rw [h.xlen] at hy
      cases hd : i - S.bl.length with
      | zero => rw [hd] at hp hy; simp at hp hy; subst hp; subst hy; exact hb
      | succ d => rw [hd] at hp; simp at hp
  · intro i p v hp hv
    have hmv : v ∈ L.vs := List.mem_of_getElem? hv
    refine ownsRow_kept (h.rows i p v hp hv) k fun b hb' => hpar _ ?_
    simp only [List.mem_cons, List.mem_append, List.mem_filterMap]
    exact Or.inr (Or.inr (Or.inr (Or.inr ⟨v, hmv, hb'⟩)))
  · have hxn : x ∉ L.all pb := fun hm' => by have := hlt x hm'; omega
    have hperm : (L.all pb ++ [x]).Nodup := by
      rw [List.nodup_append]
      refine ⟨hap, by simp, ?_⟩
      rintro a ha b hb' rfl
      simp only [List.mem_singleton] at hb'
      exact hxn (hb' ▸ ha)
    refine (List.Perm.nodup_iff ?_).1 hperm
    simp only [Lay.all, List.cons_append, List.append_assoc]
    refine List.Perm.cons _ (List.Perm.cons _ (List.Perm.cons _ (List.Perm.cons _ (List.Perm.cons _ ?_))))
    exact List.Perm.append_left _ List.perm_append_comm
  · have ho := h.ok
    refine ⟨hroom, ho.len, ?_, ?_, ho.once, ho.words⟩
    · intro p b hp
      simp only at hp ⊢
      rw [← hput, aget_aput] at hp
      by_cases e : p = S.top
      · rw [if_pos e] at hp
        obtain rfl := Option.some.inj hp
        subst e
        exact ⟨by simp only; omega, h1, h2, by simp, by simp⟩
      · rw [if_neg e] at hp
        have := ho.fits p b hp
        exact ⟨by omega, this.2⟩
    · intro m l p hm' hp
      obtain ⟨b, hb1, hb2⟩ := ho.frees m l p hm' hp
      refine ⟨b, ?_, hb2⟩
      simp only
      rw [← hput, aget_aput, if_neg ?_]
      · exact hb1
      · rintro rfl; rw [hnone] at hb1; cases hb1

set_option maxHeartbeats 1000000 in
theorem take_new {w : World} {pb : Nat} {L : Lay} {S : BS} (h : Rep w pb L S) {n : Nat} (h1 : 1 ≤ n) (h2 : n ≤ 64) (hn : aget n S.fr = none ∨ aget n S.fr = some []) (hroom : S.top + n + 1 ≤ S.ws.length) :
    Calls Tryz.prog 117 #[.pointer (some ⟨pb, 0, none⟩), .int .i64 n] w (TakeNew pb L S n w) := by
  have hl := h.lookF n
  have hs := spotF_aget n S.fr L.vs h.vlen
  have hv : ∃ v : Value, ((spotF n S.fr L.vs).map (·.1)).getD (.slice none 0 0) = v ∧ ∃ a c, v = .slice a 0 c := by
    refine ⟨_, rfl, ?_⟩
    cases hsp : spotF n S.fr L.vs with
    | none => exact ⟨_, _, rfl⟩
    | some y =>
      obtain ⟨v, l⟩ := y
      rw [hsp] at hs
      simp only [Option.map_some] at hs
      rw [← hs] at hn
      obtain rfl : l = [] := by rcases hn with e | e <;> simp at e; exact e
      obtain ⟨i, i1, i2, _, _⟩ := spotF_idx n S.fr L.vs _ hsp
      rcases (h.rows i _ _ i1 i2).2 with ⟨e, _⟩ | ⟨g, cap, cur, e, _⟩
      · simp only at e; exact ⟨none, 0, by simpa using e⟩
      · simp only at e; exact ⟨_, _, by simpa using e⟩
  obtain ⟨v, hv, a, c, rfl⟩ := hv
  rw [hv] at hl
  have q := h.main.cell
  have f := h.main.free
  have hlt := h.main.lt
  have HM := Lib.hid h.main
  have HB := Lib.hid h.bmap
  have H := Lib.hid h
  have HL := Lib.hid (fun m => arena_len (h.arena.kept ((Kept.refl (fun _ => False) w).drewN m) (fun e => e) (fun e => e)))
  have hpbm : pb ≠ L.bm := by
    have hap := h.apart
    unfold Lay.all at hap
    simp only [List.nodup_cons, List.mem_cons, not_or] at hap
    exact hap.1.2.2.1
  have b1 : S.top ≤ 16384 := by have := h.ok.len; omega
  have b8 : S.ws.length ≤ 16384 := h.ok.len
  have hfin : Hid (∀ w1 x, w.heap.size ≤ x → Kept (fun b => b = pb ∨ b = L.bm) w w1 → BlkAt w1 x ⟨n, 0, false⟩ → Cells w1 pb [.pointer (some ⟨L.pa, 0, none⟩), .int .i64 ((S.top + n + 1 : Nat) : Int), .map (some L.bm), .map (some L.fm)] 96 →
      MapAt w1 L.bm .i64 (upd (S.top : Int) (.pointer (some ⟨x, 0, none⟩)) S.bl.length (entsB S.bl L.xs 0)) (updClock (S.top : Int) (entsB S.bl L.xs 0) S.bl.length) →
      Rep w1 pb { L with xs := L.xs ++ [x] } { S with top := S.top + n + 1, bl := aput S.top ⟨n, 0, false⟩ S.bl }) :=
    Lib.hid fun w1 x hx k hb hm hp => h.withNew h1 h2 hroom k hx hb hm hp
  clear hs hv hn h
  generalize S.ws.length = len at *
  generalize entsB S.bl L.xs 0 = es at *
  have r1 : IntKind.i64.wrap ((S.top : Int) + (n : Int)) = (S.top : Int) + (n : Int) := IntWalk.i64_in _ (by omega)
  have r2 : IntKind.i64.wrap ((S.top : Int) + (n : Int) + 1) = (S.top : Int) + (n : Int) + 1 := IntWalk.i64_in _ (by omega)
  have r3 : decide ((len : Int) < (S.top : Int) + (n : Int) + 1) = false := by simp; omega
  have r4 : decide (len < S.top + n + 1) = false := by simp; omega
  go_enter Tryz.func117, Tryz.ntmps117
  go_wp2
  go_quiet ((go_at_call 95; exact quiet_left (HL.out _)))
  clear r1 r2 HL
  have q1 : ∀ i, (w.drewN nq).cell? ⟨pb, i, none⟩ = _ := fun i => q i
  clear q
  have HP := Lib.hid hpbm
  have hlb := HB.out.lt
  go_wp2_with (at_mapUpdate; refine wpList_mapUpdate_at _ rfl _ _ _ 93 rfl 3 129 .i64 Tryz.underlying93 Tryz.underlying3 L.bm es S.bl.length rfl ?_ (S.top : Int) _ rfl rfl ?_)
  · exact HB.out.kept (S := fun b => b = pb) (by repeat (first | with_reducible exact Kept.refl _ _ | with_reducible refine Kept.alloc ?_ _ | with_reducible refine Kept.drew ?_ | with_reducible refine Kept.drewN ?_ _ | with_reducible refine Kept.setCell ?_ (fun hlt' => by first | rfl | (simp; done) | (simp at hlt'; omega)) _)) (fun e => HP.out e.symm)
  · intro w1 hm1 hk1
    have KA : Kept (fun b => b = pb) w (((w.drewN nq).setCell ⟨pb, 1, none⟩ (.int .i64 ((S.top : Int) + ((n : Int) + 1)))).alloc (.cells #[.int .i64 n, .int .u64 0, .bool false] 133)) := (by repeat (first | with_reducible exact Kept.refl _ _ | with_reducible refine Kept.alloc ?_ _ | with_reducible refine Kept.drew ?_ | with_reducible refine Kept.drewN ?_ _ | with_reducible refine Kept.setCell ?_ (fun hlt' => by first | rfl | (simp; done) | (simp at hlt'; omega)) _))
    have C1 : Cells (((w.drewN nq).setCell ⟨pb, 1, none⟩ (.int .i64 ((S.top : Int) + ((n : Int) + 1)))).alloc (.cells #[.int .i64 n, .int .u64 0, .bool false] 133)) w.heap.size [.int .i64 n, .int .u64 0, .bool false] 133 := by
      have := Cells.new ((w.drewN nq).setCell ⟨pb, 1, none⟩ (.int .i64 ((S.top : Int) + ((n : Int) + 1)))) [.int .i64 n, .int .u64 0, .bool false] 133
      rwa [World.size_setCell] at this
    have C2 := ((show Cells (w.drewN nq) pb _ _ from HM.out).set 1 (.int .i64 ((S.top : Int) + ((n : Int) + 1)))).alloc (.cells #[.int .i64 n, .int .u64 0, .bool false] 133)
    have R := Lib.hid (hfin.out w1 w.heap.size (Nat.le_refl _) ((KA.mono fun j _ hj => Or.inl hj).then hk1 (fun j _ hj => Or.inr hj)) (C1.kept hk1 (by omega)) (Cells.cast (C2.kept hk1 HP.out) (by simp; omega)) hm1)
    have KK : Hid (Kept (fun b => b = pb ∨ b = L.bm) w w1) := Lib.hid ((KA.mono fun j _ hj => Or.inl hj).then hk1 (fun j _ hj => Or.inr hj))
    clear KA C1 C2 hm1 hk1 hfin q1 f
    go_wp2
    go_ret2
    exact ⟨w.heap.size, rfl, R.out, KK.out, Nat.le_refl _⟩
end Go.Proofs.YtmdganpealbmpaaGreatDoor
