/- SxDraw5: SxDraw1, SxDraw2, SxDraw3, SxDraw4, SxDraw5. -/
import Derived.Test.YtgmdbfackbdnlaaGreatDoorSxCall
import Derived.Orders

/- The executor: regions whose order is drawn: what is before what; memory that has more. -/
namespace Go.Proofs.YtgmdbfackbdnlaaGreatDoor
open Go.RowKit Bl Th Go.Sx
set_option maxRecDepth 10000

/-! Masks. -/
theorem beq_dec (a b : Nat) : Nat.beq a b = decide (a = b) := by
  by_cases e : a = b
  · subst e; rw [decide_eq_true rfl]; exact Nat.beq_refl a
  · rw [decide_eq_false e]
    cases h : Nat.beq a b with
    | false => rfl
    | true => exact absurd (Nat.eq_of_beq_eq_true h) e
theorem bit_test (m i : Nat) : bit m i = m.testBit i := by
  rw [Nat.testBit_eq_decide_div_mod_eq, ← Nat.shiftRight_eq_div_pow]
  exact beq_dec _ _
theorem maskOf_bit {ms : List Nat} {j : Nat} : ∀ {l : List Edge}, bit (List.rec (motive := fun _ => Nat) 0 (fun e _ ih => bif' (edgeB e) (Nat.lor ih (Nat.lor (Nat.shiftLeft 1 e.on) (ms.getD e.on 0))) ih) l) j = true → ∃ e ∈ l, edgeB e = true ∧ (j = e.on ∨ bit (ms.getD e.on 0) j = true)
  | [], h => by rw [bit_test] at h; simp at h
  | e :: l, h => by
    have h : bit (bif' (edgeB e) (Nat.lor (List.rec (motive := fun _ => Nat) 0 (fun e _ ih => bif' (edgeB e) (Nat.lor ih (Nat.lor (Nat.shiftLeft 1 e.on) (ms.getD e.on 0))) ih) l) (Nat.lor (Nat.shiftLeft 1 e.on) (ms.getD e.on 0))) (List.rec (motive := fun _ => Nat) 0 (fun e _ ih => bif' (edgeB e) (Nat.lor ih (Nat.lor (Nat.shiftLeft 1 e.on) (ms.getD e.on 0))) ih) l)) j = true := h
    have rest : bit (List.rec (motive := fun _ => Nat) 0 (fun e _ ih => bif' (edgeB e) (Nat.lor ih (Nat.lor (Nat.shiftLeft 1 e.on) (ms.getD e.on 0))) ih) l) j = true → ∃ e' ∈ e :: l, edgeB e' = true ∧ (j = e'.on ∨ bit (ms.getD e'.on 0) j = true) := fun h => by
      obtain ⟨e', a, b⟩ := maskOf_bit h
      exact ⟨e', List.mem_cons_of_mem _ a, b⟩
    rw [bif_eq] at h
    split at h
    · rename_i he
      rw [bit_test] at h
      have h : ((List.rec (motive := fun _ => Nat) 0 (fun e _ ih => bif' (edgeB e) (Nat.lor ih (Nat.lor (Nat.shiftLeft 1 e.on) (ms.getD e.on 0))) ih) l : Nat) ||| ((1 <<< e.on) ||| (ms.getD e.on 0))).testBit j = true := h
      rw [Nat.testBit_or, Nat.testBit_or, Bool.or_eq_true, Bool.or_eq_true] at h
      rcases h with h | h | h
      · exact rest (by rw [bit_test]; exact h)
      · rw [Nat.one_shiftLeft, Nat.testBit_two_pow] at h
        exact ⟨e, by simp, he, .inl (of_decide_eq_true h).symm⟩
      · exact ⟨e, by simp, he, .inr (by rw [bit_test]; exact h)⟩
    · exact rest h
theorem masks_cons (o : Oper) (l : List Oper) (acc : List Nat) : masks (o :: l) acc = masks l (acc ++ [maskOf acc o]) := rfl
theorem masks_spec : ∀ (l : List Oper) (acc : List Nat), (∃ r, masks l acc = acc ++ r ∧ r.length = l.length) ∧ ∀ k o, l[k]? = some o → (masks l acc).getD (acc.length + k) 0 = maskOf ((masks l acc).take (acc.length + k)) o
  | [], acc => ⟨⟨[], by rw [List.append_nil]; rfl, rfl⟩, fun k o h => by simp at h⟩
  | o :: l, acc => by
    rw [masks_cons]
    obtain ⟨⟨r, h1, h2⟩, h3⟩ := masks_spec l (acc ++ [maskOf acc o])
    refine ⟨⟨maskOf acc o :: r, by rw [h1]; simp, by simp [h2]⟩, fun k o' hk => ?_⟩
    cases k with
    | zero =>
      simp only [List.getElem?_cons_zero, Option.some.injEq] at hk
      subst hk
      rw [h1]
      simp
    | succ k =>
      have := h3 k o' (by simpa using hk)
      rw [show (acc ++ [maskOf acc o]).length + k = acc.length + (k + 1) by simp; omega] at this
      exact this
/-- The temporaries that an operation names. -/
def nms (all : List Oper) (o : Oper) : List Nat :=
  (o.op.operands.toList.filterMap fun | .tmp t => some t | _ => none) ++ (match o.guard with | some (g, _) => ((all[g]?).bind (·.dst)).toList | none => []) ++ o.dst.toList
def Pre (all : List Oper) (listed : Array Bool) (i : Nat) : Prop := ∀ o, all[i]? = some o → ∀ e ∈ o.after.toList, edgeB e = true → listed[e.on]? = some true
def Cl (all : List Oper) (listed : Array Bool) : Prop := ∀ i, listed[i]? = some true → Pre all listed i
structure DrawOk (N : Nat) (all : List Oper) : Prop where
  ops : ∀ o ∈ all, OperOk N o
  sel : ∀ o ∈ all, ∀ cs b, o.op ≠ .select cs b
  back : ∀ i o, all[i]? = some o → ∀ e ∈ o.after.toList, edgeB e = true → e.on < i
  name : ∀ i j oi oj t, all[i]? = some oi → all[j]? = some oj → oi.dst = some t → t ∈ nms all oj → i < j → bit ((masks all []).getD j 0) i = true
  name' : ∀ i j oi oj t, all[i]? = some oi → all[j]? = some oj → oi.dst = some t → t ∈ nms all oj → j < i → bit ((masks all []).getD i 0) j = true
theorem binds_any (e : Edge) : Region.binds .any e = edgeB e := by
  unfold Region.binds edgeB
  cases e.ground <;> rfl
section
variable {N : Nat} {all : List Oper} {listed : Array Bool}
theorem mask_at {i : Nat} {o : Oper} (h : all[i]? = some o) : (masks all []).getD i 0 = maskOf ((masks all []).take i) o := by
  have := (masks_spec all []).2 i o h
  simpa using this
theorem mask_done (hd : DrawOk N all) (hc : Cl all listed) : ∀ (n i : Nat), i < n → i < all.length → Pre all listed i → ∀ j, bit ((masks all []).getD i 0) j = true → listed[j]? = some true
  | 0, i, h, _, _, _, _ => by omega
  | n + 1, i, hn, hi, hp, j, hj => by
    have ho := List.getElem?_eq_getElem hi
    rw [mask_at ho] at hj
    obtain ⟨e, h1, h2, h3⟩ := maskOf_bit hj
    have hlt := hd.back i _ ho e h1 h2
    have hdone := hp _ ho e h1 h2
    rcases h3 with rfl | h3
    · exact hdone
    · have : ((masks all []).take i).getD e.on 0 = (masks all []).getD e.on 0 := by
        rw [List.getD_eq_getElem?_getD, List.getD_eq_getElem?_getD, List.getElem?_take, if_pos hlt]
      rw [this] at h3
      exact mask_done hd hc n e.on (by omega) (by omega) (hc _ hdone) j h3
theorem mem_ready (hs : listed.size = all.length) {i : Nat} : i ∈ Region.ready .any all.toArray listed ↔ i < all.length ∧ listed[i]? = some false ∧ Pre all listed i := by
  unfold Region.ready
  rw [List.mem_filter, List.mem_range]
  have hsz : all.toArray.size = all.length := by simp
  rw [hsz]
  constructor
  · rintro ⟨h1, h2⟩
    rw [Bool.and_eq_true] at h2
    have hi : i < listed.size := by omega
    have ho := List.getElem?_eq_getElem h1
    refine ⟨h1, ?_, fun o ho' e he hb => ?_⟩
    · have := h2.1
      rw [Array.getD_eq_getD_getElem?, Array.getElem?_eq_getElem hi] at this
      rw [Array.getElem?_eq_getElem hi]
      simpa using this
    · have h3 := h2.2
      rw [List.getElem?_toArray, ho'] at h3
      simp only [Option.map_some, Option.getD_some] at h3
      rw [Array.all_eq_true'] at h3
      have := h3 e (by simpa using he)
      rw [binds_any, hb] at this
      simp only [Bool.not_true, Bool.false_or] at this
      rw [Array.getD_eq_getD_getElem?] at this
      cases hl : listed[e.on]? with
      | none => rw [hl] at this; cases this
      | some b => rw [hl] at this; simp at this; rw [this]
  · rintro ⟨h1, h2, h3⟩
    have ho := List.getElem?_eq_getElem h1
    refine ⟨h1, ?_⟩
    rw [Bool.and_eq_true]
    refine ⟨by rw [Array.getD_eq_getD_getElem?, h2]; rfl, ?_⟩
    rw [List.getElem?_toArray, ho]
    simp only [Option.map_some, Option.getD_some]
    rw [Array.all_eq_true']
    intro e he
    rw [binds_any]
    cases hb : edgeB e with
    | false => rfl
    | true =>
      have := h3 _ ho e (by simpa using he) hb
      simp [Array.getD_eq_getD_getElem?, this]
/-- How many are not yet done. -/
def left (listed : Array Bool) : Nat := listed.toList.count false
theorem count_set : ∀ (l : List Bool) (k : Nat), l[k]? = some false → (l.set k true).count false + 1 = l.count false
  | [], k, h => by simp at h
  | b :: l, 0, h => by
    simp at h
    subst h
    simp
  | b :: l, k + 1, h => by
    have := count_set l k (by simpa using h)
    rw [List.set_cons_succ, List.count_cons, List.count_cons]
    omega
theorem left_set {k : Nat} (h : listed[k]? = some false) : left (listed.setIfInBounds k true) + 1 = left listed := by
  unfold left
  rw [Array.toList_setIfInBounds]
  exact count_set _ _ (by simpa using h)
theorem left_pos {k : Nat} (h : listed[k]? = some false) : 0 < left listed := by
  have := left_set h; omega
theorem set_at {k j : Nat} (hk : k < listed.size) : (listed.setIfInBounds k true)[j]? = if j = k then some true else listed[j]? := by
  by_cases e : j = k
  · subst e; rw [if_pos rfl, Array.getElem?_setIfInBounds_self, if_pos hk]
  · rw [if_neg e, Array.getElem?_setIfInBounds_ne (fun e' => e e'.symm)]
theorem done_or (hs : listed.size = all.length) {k : Nat} (hk : k < all.length) : listed[k]? = some true ∨ listed[k]? = some false := by
  rw [Array.getElem?_eq_getElem (by omega)]
  cases listed[k]'(by omega) <;> simp
/-- The first that is not done is ready. -/
theorem first_ready (hd : DrawOk N all) (hs : listed.size = all.length) {i : Nat} (hi : i < all.length) (h : ∀ k, k < i → listed[k]? = some true) (hu : listed[i]? = some false) : i ∈ Region.ready .any all.toArray listed :=
  (mem_ready hs).2 ⟨hi, hu, fun o ho e he hb => h _ (hd.back i o ho e he hb)⟩
theorem some_ready (hd : DrawOk N all) (hs : listed.size = all.length) : ∀ (n i : Nat), i < n → i < all.length → listed[i]? = some false → Region.ready .any all.toArray listed ≠ []
  | 0, _, h, _, _ => by omega
  | n + 1, i, hn, hi, hu => by
    by_cases h : ∀ k, k < i → listed[k]? = some true
    · intro e
      have := first_ready hd hs hi h hu
      rw [e] at this; cases this
    · have : ∃ k, k < i ∧ listed[k]? = some false := by
        apply Classical.byContradiction
        intro hn'
        apply h
        intro k hk
        rcases done_or hs (show k < all.length by omega) with e | e
        · exact e
        · exact absurd ⟨k, hk, e⟩ hn'
      obtain ⟨k, h1, h2⟩ := this
      exact some_ready hd hs n k (by omega) (by omega) h2
theorem closed_set (hc : Cl all listed) {k : Nat} (hk : k < listed.size) (hp : Pre all listed k) : Cl all (listed.setIfInBounds k true) := by
  intro i hi o ho e he hb
  rw [set_at hk] at hi ⊢
  by_cases h1 : e.on = k
  · rw [if_pos h1]
  · rw [if_neg h1]
    by_cases h2 : i = k
    · subst h2; exact hp o ho e he hb
    · rw [if_neg h2] at hi
      exact hc i hi o ho e he hb
end

/-! Memory that has more. -/
noncomputable def ext (m : Mem) (l : List (Nat × SObj)) : Mem := l.foldl (fun m q => m.newAt q.1 q.2) m
/-- All but what stands at numbers. -/
structure Alike (m m' : Mem) : Prop where
  bs : m'.bs = m.bs
  mode : m'.mode = m.mode
  j : m'.j = m.j
  tl : m'.tl = m.tl
  ib : m'.ib = m.ib
  ic : m'.ic = m.ic
  nx : m'.nx = m.nx
theorem Alike.refl (m : Mem) : Alike m m := ⟨rfl, rfl, rfl, rfl, rfl, rfl, rfl⟩
theorem Alike.trans {a b c : Mem} (h : Alike a b) (k : Alike b c) : Alike a c := ⟨k.bs.trans h.bs, k.mode.trans h.mode, k.j.trans h.j, k.tl.trans h.tl, k.ib.trans h.ib, k.ic.trans h.ic, k.nx.trans h.nx⟩
theorem Alike.symm {a b : Mem} (h : Alike a b) : Alike b a := ⟨h.bs.symm, h.mode.symm, h.j.symm, h.tl.symm, h.ib.symm, h.ic.symm, h.nx.symm⟩
theorem ext_alike : ∀ (l : List (Nat × SObj)) (m : Mem), Alike m (ext m l)
  | [], m => Alike.refl m
  | q :: l, m => Alike.trans (show Alike m (m.newAt q.1 q.2) from ⟨rfl, rfl, rfl, rfl, rfl, rfl, rfl⟩) (ext_alike l (m.newAt q.1 q.2))
theorem ext_far : ∀ (l : List (Nat × SObj)) (m : Mem) (n : Nat), (∀ q ∈ l, q.1 ≤ 1048574) → n ∉ l.map (·.1) → (ext m l).tr.get? n = m.tr.get? n
  | [], m, n, _, _ => rfl
  | q :: l, m, n, h, hn => by
    simp only [List.map_cons, List.mem_cons, not_or] at hn
    refine (ext_far l (m.newAt q.1 q.2) n (fun x hx => h x (by simp [hx])) hn.2).trans ?_
    show (Tr.set 20 m.tr q.1 q.2).get? n = _
    rw [Tr.get_set20 _ _ _ _ (h q (by simp)), if_neg hn.1]
theorem ext_at : ∀ (l : List (Nat × SObj)) (m : Mem), (∀ q ∈ l, q.1 ≤ 1048574) → (l.map (·.1)).Nodup → ∀ q ∈ l, (ext m l).tr.get? q.1 = some q.2
  | q :: l, m, h, hn, x, hx => by
    rw [List.map_cons, List.nodup_cons] at hn
    have hl : ∀ x ∈ l, x.1 ≤ 1048574 := fun x hx => h x (by simp [hx])
    rcases List.mem_cons.1 hx with rfl | hx
    · refine (ext_far l (m.newAt x.1 x.2) x.1 hl hn.1).trans ?_
      show (Tr.set 20 m.tr x.1 x.2).get? x.1 = _
      rw [Tr.get_set20 _ _ _ _ (h x (by simp)), if_pos rfl]
    · exact ext_at l (m.newAt q.1 q.2) hl hn.2 x hx
theorem ext_snoc (m : Mem) (l : List (Nat × SObj)) (q : Nat × SObj) : ext m (l ++ [q]) = (ext m l).newAt q.1 q.2 := by
  unfold ext; rw [List.foldl_append]; rfl
def Gh.plus (G : Gh) (Y : List Nat) : Gh := { G with X := Y ++ G.X, ok := fun b => b ∉ Y ∧ G.ok b }
section
variable {E : Env} {G : Gh} {ρ : Ren} {m m' : Mem} {w : World}
theorem Conc.alike (h : Conc E G ρ m w) (ha : Alike m m') (hg : ∀ i o, m'.tr.get? i = some o → isObj o = true ∧ m.tr.get? i = some o ∨ isObj o = false ∧ ∃ q, ρ i = some q) : Conc E G ρ m' w :=
  h.less ⟨ha.bs, ha.mode, ha.j, ha.tl⟩ ⟨ha.ib, ha.ic⟩ (Nat.le_of_eq ha.nx.symm) hg
theorem Conc.same (h : Conc E G ρ m w) (ha : Alike m m') (hg : ∀ i o, m'.tr.get? i = some o → m.tr.get? i = some o) : Conc E G ρ m' w :=
  h.alike ha fun i o ho => by
    cases e : isObj o with
    | true => exact .inl ⟨rfl, hg i o ho⟩
    | false =>
      obtain ⟨q, a, _⟩ := h.rows i o (hg i o ho)
      exact .inr ⟨rfl, q, a⟩
/-- What is not known any more is held. -/
theorem Conc.split (h : Conc E G ρ m w) (ha : Alike m m') (hg : ∀ i o, m'.tr.get? i = some o → isObj o = true ∧ m.tr.get? i = some o ∨ isObj o = false ∧ ∃ q, ρ i = some q) {Y : List Nat}
    (hY : ∀ b ∈ Y, ∃ i o q, m.tr.get? i = some o ∧ isObj o = true ∧ ρ i = some q ∧ q.1 = b ∧ ∀ o', m'.tr.get? i = some o' → isObj o' = false) : Conc E (G.plus Y) ρ m' w := by
  have h' := h.alike ha hg
  have hmo : ∀ o : SObj, chg o = true → isObj o = true := by intro o; cases o <;> simp [chg, isObj]
  have apart : ∀ i o q, m'.tr.get? i = some o → isObj o = true → ρ i = some q → q.1 ∉ Y := by
    intro i o q h1 h2 h3 hb
    obtain ⟨i', o', q', k1, k2, k3, k4, k5⟩ := hY _ hb
    rcases hg i o h1 with ⟨_, h4⟩ | ⟨h4, _⟩
    · have := h.inj i' i o' o q' q k1 h4 k2 h2 k3 h3 k4
      subst this
      rw [k5 o h1] at h2; cases h2
    · rw [h2] at h4; cases h4
  obtain ⟨R, r1, r2, r3⟩ := h.lay
  refine ⟨h'.below, h'.dom, fun i o ho => ?_, h'.inj, ⟨R, fun b hb => ?_, fun i o q h1 h2 h3 => ?_, ?_⟩, fun b hb => ?_, h'.ib, h'.ic, fun i o q h1 h2 h3 => ⟨apart i o q h1 h2 h3, h'.off i o q h1 h2 h3⟩, fun b hb => ⟨fun hm => ?_, h'.new b hb⟩, h.hand⟩
  · obtain ⟨q, a, b, c⟩ := h'.rows i o ho
    refine ⟨q, a, b, fun hm => ⟨(c hm).1, fun hx => ?_⟩⟩
    rcases List.mem_append.1 hx with hx | hx
    · exact apart i o q ho (hmo o hm) a hx
    · exact (c hm).2 hx
  · rcases List.mem_append.1 hb with hb | hb
    · obtain ⟨i', o', q', k1, k2, k3, k4, k5⟩ := hY _ hb
      rw [← k4]; exact r2 i' o' q' k1 k2 k3
    · exact r1 b hb
  · rcases hg i o h1 with ⟨_, h4⟩ | ⟨h4, _⟩
    · exact r2 i o q h4 h2 h3
    · rw [h2] at h4; cases h4
  · have e1 := ha.bs; have e2 := ha.mode; have e3 := ha.j; have e4 := ha.tl
    rcases r3 with ⟨a, b⟩ | ⟨S, pa, q, a, b, b', c⟩ | ⟨a, b, c, d, f⟩
    · exact .inl ⟨e1 ▸ a, e2 ▸ b⟩
    · exact .inr (.inl ⟨S, pa, q, e1 ▸ a, e2 ▸ b, by rw [ha.ib]; exact b', c⟩)
    · refine .inr (.inr ⟨e2 ▸ a, ?_, c, ?_, f⟩)
      · rw [e1, e3]; exact b
      · unfold Cs at d ⊢
        rw [e2, e3, e4]; exact d
  · rcases List.mem_append.1 hb with hb | hb
    · obtain ⟨i', o', q', k1, k2, k3, k4, k5⟩ := hY _ hb
      obtain ⟨q2, a, b, _⟩ := h.rows i' o' k1
      rw [k3] at a; cases a
      rw [← k4]; exact b.lt k2
    · exact h.xlt b hb
  · obtain ⟨i', o', q', k1, k2, k3, k4, k5⟩ := hY _ hm
    obtain ⟨q2, a, b', _⟩ := h.rows i' o' k1
    rw [k3] at a; cases a
    have := b'.lt k2
    omega
/-- It is known again. -/
theorem Conc.join {Y : List Nat} {b n x : Nat} {o : SObj} (h : Conc E (G.plus (b :: Y)) ρ m w) (hn : ρ n = some (b, x)) (hg : ∀ o', m.tr.get? n = some o' → isObj o' = false) (ho : ObjC E ρ w (b, x) o) (hb : G.W.heap.size ≤ b) (hbY : b ∉ Y) (hbX : b ∉ G.X) (hok : G.ok b) : Conc E (G.plus Y) ρ (m.newAt n o) w := by
  have hl : n ≤ 1048574 := by have := (h.dom n _ hn).2; unfold lim at this; omega
  have hget : ∀ j, (m.newAt n o).tr.get? j = if j = n then some o else m.tr.get? j := fun j => Tr.get_set20 o m.tr n j hl
  have hbG : b ∉ (G.plus Y).X := fun hm => (List.mem_append.1 hm).elim hbY hbX
  have key : ∀ i oi qi, (m.newAt n o).tr.get? i = some oi → isObj oi = true → ρ i = some qi → (i = n ∧ qi = (b, x) ∧ oi = o) ∨ (i ≠ n ∧ m.tr.get? i = some oi ∧ qi.1 ≠ b) := by
    intro i oi qi h1 h2 h3
    rw [hget] at h1
    by_cases e : i = n
    · subst e; rw [if_pos rfl] at h1; cases h1; rw [hn] at h3; cases h3; exact .inl ⟨rfl, rfl, rfl⟩
    · rw [if_neg e] at h1
      exact .inr ⟨e, h1, fun e' => (h.off i oi qi h1 h2 h3).1 (by rw [e']; exact List.mem_cons_self ..)⟩
  obtain ⟨R, r1, r2, r3⟩ := h.lay
  refine ⟨h.below, h.dom, fun i oi hi => ?_, fun i j oi oj qi qj hi hj hoi hoj hqi hqj e => ?_, ⟨R, fun y hy => r1 y ?_, fun i oi qi h1 h2 h3 => ?_, r3⟩, fun y hy => h.xlt y ?_, h.ib, h.ic, fun i oi qi h1 h2 h3 => ?_, fun y hy => ⟨fun hm => (h.new y hy).1 (List.mem_cons_of_mem _ hm), (h.new y hy).2⟩, h.hand⟩
  · rw [hget] at hi
    by_cases e : i = n
    · subst e; rw [if_pos rfl] at hi; cases hi
      exact ⟨(b, x), hn, ho, fun _ => ⟨hb, hbG⟩⟩
    · rw [if_neg e] at hi
      obtain ⟨q, a, b', c⟩ := h.rows i oi hi
      refine ⟨q, a, b', fun hm => ⟨(c hm).1, fun hx => (c hm).2 ?_⟩⟩
      exact List.mem_cons_of_mem _ hx
  · rcases key i oi qi hi hoi hqi with ⟨e1, rfl, _⟩ | ⟨e1, e2, e3⟩ <;> rcases key j oj qj hj hoj hqj with ⟨f1, rfl, _⟩ | ⟨f1, f2, f3⟩
    · omega
    · exact absurd e.symm f3
    · exact absurd e e3
    · exact h.inj i j oi oj qi qj e2 f2 hoi hoj hqi hqj e
  · exact List.mem_cons_of_mem _ hy
  · rcases key i oi qi h1 h2 h3 with ⟨_, rfl, _⟩ | ⟨_, e2, _⟩
    · exact r1 b (List.mem_cons_self ..)
    · exact r2 i oi qi e2 h2 h3
  · exact List.mem_cons_of_mem _ hy
  · rcases key i oi qi h1 h2 h3 with ⟨_, rfl, _⟩ | ⟨_, e2, _⟩
    · exact ⟨hbY, hok⟩
    · have := h.off i oi qi e2 h2 h3
      exact ⟨fun hm => this.1 (List.mem_cons_of_mem _ hm), this.2⟩
/-- The block of a number. -/
def blk (ρ : Ren) (n : Nat) : Nat := ((ρ n).getD (0, 0)).1
theorem blk_of {n : Nat} {q : Nat × Nat} (h : ρ n = some q) : blk ρ n = q.1 := by unfold blk; rw [h]; rfl
theorem Conc.unplus (h : Conc E (G.plus []) ρ m w) : Conc E G ρ m w :=
  ⟨h.below, h.dom, h.rows, h.inj, h.lay, h.xlt, h.ib, h.ic, fun i o q a b c => (h.off i o q a b c).2, fun b hb => (h.new b hb).2, h.hand⟩
theorem Conc.joins : ∀ (l : List (Nat × SObj)) (m : Mem), Conc E (G.plus (l.map fun q => blk ρ q.1)) ρ m w →
    (∀ q ∈ l, ∃ p, ρ q.1 = some p ∧ ObjC E ρ w p q.2 ∧ G.W.heap.size ≤ p.1 ∧ p.1 ∉ G.X ∧ G.ok p.1 ∧ ∀ o', m.tr.get? q.1 = some o' → isObj o' = false) → (l.map fun q => blk ρ q.1).Nodup → (l.map (·.1)).Nodup → Conc E G ρ (ext m l) w
  | [], m, h, _, _, _ => h.unplus
  | q :: l, m, h, hl, hb, hn => by
    obtain ⟨p, p1, p2, p3, p4, p6, p5⟩ := hl q (by simp)
    rw [List.map_cons, List.nodup_cons] at hb hn
    rw [List.map_cons] at h
    rw [blk_of p1] at h hb
    have hlt : q.1 ≤ 1048574 := by have := (h.dom _ _ p1).2; unfold lim at this; omega
    refine Conc.joins l (m.newAt q.1 q.2) (h.join p1 p5 p2 p3 hb.1 p4 p6) (fun x hx => ?_) hb.2 hn.2
    obtain ⟨p', k1, k2, k3, k4, k6, k5⟩ := hl x (by simp [hx])
    refine ⟨p', k1, k2, k3, k4, k6, fun o' ho' => k5 o' ?_⟩
    have hne : x.1 ≠ q.1 := fun e => hn.1 (by rw [← e]; exact List.mem_map.2 ⟨x, hx, rfl⟩)
    have : (Tr.set 20 m.tr q.1 q.2).get? x.1 = some o' := ho'
    rw [Tr.get_set20 _ _ _ _ hlt, if_neg hne] at this
    exact this
end
end Go.Proofs.YtgmdbfackbdnlaaGreatDoor

/- The executor: regions whose order is drawn: a run in the text's order, and what another order comes to. -/
namespace Go.Proofs.YtgmdbfackbdnlaaGreatDoor
open Go.RowKit Bl Th Go.Sx
set_option maxRecDepth 10000

/-- A run in the text's order: temporaries and memory ahead of each operation, its value, whether it is wanted. -/
structure Trc where
  T : Nat → Tr Value
  m : Nat → Mem
  v : Nat → Value
  on : Nat → Bool
def Eff (all : List Oper) (F : Trc) (k : Nat) : Prop := F.on k = true ∧ ∃ o, all[k]? = some o ∧ kindOf o.op = 3
def Made (all : List Oper) (F : Trc) (k : Nat) : Prop := F.on k = true ∧ ∃ o, all[k]? = some o ∧ kindOf o.op = 2
def Snap (all : List Oper) (F : Trc) (s p : Nat) : Prop := p = s ∨ ∃ e, p = e + 1 ∧ s ≤ e ∧ Eff all F e
noncomputable abbrev msk (all : List Oper) (k : Nat) : Nat := (masks all []).getD k 0
structure StepOk (E : Env) (call : CallF) (G : Gh) (all : List Oper) (base : Nat) (F : Trc) (s k : Nat) (o : Oper) : Prop where
  want : wantedX all (F.T k) o.guard = some (F.on k)
  next : F.T (k + 1) = putT (F.T k) o.dst (F.v k)
  off : F.on k = false → F.v k = undef ∧ F.m (k + 1) = F.m k
  pure : F.on k = true → kindOf o.op = 0 → (∃ mm, xop o.op E (F.T k) (F.m k) = some (F.v k, mm)) ∧ F.m (k + 1) = F.m k
  read : F.on k = true → kindOf o.op = 1 → F.m (k + 1) = F.m k ∧ ∀ p, Snap all F s p → p ≤ k → (∀ e, p ≤ e → e < k → Eff all F e → bit (msk all k) e = false) → ∃ mm, xop o.op E (F.T k) (F.m p) = some (F.v k, mm)
  made : F.on k = true → kindOf o.op = 2 → base + k < lim ∧ ∃ ob, xalO o.op E (F.T k) (base + k) = some (F.v k, ob) ∧ F.m (k + 1) = (F.m k).newAt (base + k) ob
  eff : F.on k = true → kindOf o.op = 3 → xeff E call o.op (F.T k) (F.m k) = .ok [(F.v k, F.m (k + 1))] ∧ FitM G (F.m (k + 1)) ∧
    (∀ e, s ≤ e → e < k → Eff all F e → ∃ e', e ≤ e' ∧ s ≤ e' ∧ e' < k ∧ Eff all F e' ∧ bit (msk all k) e' = true) ∧
    (∀ c, s ≤ c → c < k → Made all F c → (∃ e, c < e ∧ e < k ∧ Eff all F e) ∨ bit (msk all k) c = true) ∧
    (∀ r orr, s ≤ r → r < k → F.on r = true → all[r]? = some orr → kindOf orr.op = 1 → bit (msk all k) r = true ∨ sameAt E orr.op (F.T r) (F.v r) (F.m (k + 1)) = true)
def SegOk (E : Env) (call : CallF) (G : Gh) (all : List Oper) (base : Nat) (F : Trc) (s i : Nat) : Prop := ∀ k, s ≤ k → k < i → ∃ o, all[k]? = some o ∧ StepOk E call G all base F s k o
/-- Temporaries, where only what is listed is done. -/
noncomputable def cur (F : Trc) (all : List Oper) (listed : Array Bool) (s : Nat) : Nat → Tr Value
  | 0 => F.T s
  | c + 1 => if listed[s + c]? = some true then putT (cur F all listed s c) ((all[s + c]?).bind (·.dst)) (F.v (s + c)) else cur F all listed s c
def Free (all : List Oper) (k : Nat) : Prop := ∃ o, all[k]? = some o ∧ freeAl o = true
theorem free_some {o : Oper} (h : freeAl o = true) : (∃ e, o.op = .alloc e) ∧ o.after.toList = [] ∧ o.guard = none := by
  unfold freeAl at h
  split at h
  · rename_i e he
    rw [Bool.and_eq_true] at h
    refine ⟨⟨e, he⟩, ?_, ?_⟩
    · have h1 := h.1
      split at h1
      · assumption
      · cases h1
    · cases hg : o.guard with
      | none => rfl
      | some q => rw [hg] at h; cases h.2
  · cases h
/-- Temporaries, but for those of what is done ahead. -/
def TmpsX (all : List Oper) (listed : Array Bool) (i : Nat) (ρ : Ren) (T : Tr Value) (tmps : Array Value) : Prop :=
  ∀ t v, T.get? t = some v → (∃ c oc, i ≤ c ∧ listed[c]? = some true ∧ all[c]? = some oc ∧ oc.dst = some t) ∨ ∃ v', tmps[t]? = some v' ∧ Rel ρ v v'
structure Inv (E : Env) (G : Gh) (N : Nat) (all : List Oper) (base : Nat) (F : Trc) (s i : Nat) (listed : Array Bool) (a : Act) (w : World) (ρ : Ren) (p : Nat) (l : List (Nat × SObj)) : Prop where
  size : listed.size = all.length
  cl : Cl all listed
  low : ∀ k, k < s → listed[k]? = some true
  high : ∀ k, i ≤ k → k < all.length → listed[k]? = some false ∨ Free all k
  snap : Snap all F s p
  pi : p ≤ i
  effs : ∀ e, s ≤ e → e < i → Eff all F e → (listed[e]? = some true ↔ e < p)
  made : ∀ c, s ≤ c → c < p → Made all F c → listed[c]? = some true
  conc : Conc E G ρ (ext (F.m p) l) w
  nx : base + all.length ≤ (F.m p).nx
  nums : (l.map (·.1)).Nodup
  mem : ∀ q ∈ l, ∃ c o, q.1 = base + c ∧ base + c < lim ∧ p ≤ c ∧ (c < i ∨ Free all c) ∧ listed[c]? = some true ∧ (c < i → F.on c = true) ∧ all[c]? = some o ∧ kindOf o.op = 2 ∧ (∃ v, xalO o.op E (F.T c) (base + c) = some (v, q.2)) ∧ ∀ o', (F.m p).tr.get? q.1 = some o' → isObj o' = false
  all' : ∀ c o, p ≤ c → (c < i ∨ Free all c) → listed[c]? = some true → (c < i → F.on c = true) → all[c]? = some o → kindOf o.op = 2 → ∀ v ob, xalO o.op E (F.T c) (base + c) = some (v, ob) → (base + c, ob) ∈ l
  free : ∀ c, s ≤ c → c < all.length → listed[c]? = some false → ρ (base + c) = none
  tmps : TmpsX all listed i ρ (cur F all listed s (i - s)) a.tmps
  tsize : a.tmps.size = N
  ahead : ∀ c o d, i ≤ c → listed[c]? = some true → all[c]? = some o → o.dst = some d → ∃ v', a.tmps[d]? = some v' ∧ Rel ρ (pv (base + c)) v'

theorem adEq_eq {a b : Option Addr} (h : adEq a b = true) : a = b := by
  unfold adEq at h
  split at h
  · rfl
  · rw [Bool.and_eq_true] at h
    rw [Nat.eq_of_beq_eq_true h.1, Nat.eq_of_beq_eq_true h.2]
  · cases h
theorem onEq_eq {a b : Option Nat} (h : onEq a b = true) : a = b := by
  unfold onEq at h
  split at h
  · rfl
  · rw [Nat.eq_of_beq_eq_true h]
  · cases h
theorem veqL_eq {f : Value → Value → Bool} (hf : ∀ x y, f x y = true → x = y) : ∀ l r : List Value, veqL f l r = true → l = r
  | [], [], _ => rfl
  | [], _ :: _, h => by cases h
  | _ :: _, [], h => by cases h
  | x :: l, y :: r, h => by
    have h : (f x y && veqL f l r) = true := h
    rw [Bool.and_eq_true] at h
    rw [hf x y h.1, veqL_eq hf l r h.2]
theorem veq_eq : ∀ (d : Nat) (x y : Value), veq d x y = true → x = y
  | 0, _, _, h => by cases h
  | d + 1, x, y, h => by
    unfold veq at h
    split at h
    · rw [eq_of_beq h]
    · rw [Bool.and_eq_true] at h
      have e1 := h.1; have e2 := h.2
      rw [ieq_eq, beq_iff_eq] at e2
      have e1 := eqK_eq (by unfold eqK at e1; exact e1)
      subst e1; subst e2; rfl
    · unfold bytesEq at h
      rename_i a b
      split at h
      · rename_i e _
        obtain ⟨⟨x⟩⟩ := a
        obtain ⟨⟨y⟩⟩ := b
        have e : x = y := e
        subst e; rfl
      · cases h
    · rw [adEq_eq h]
    · simp only [Bool.and_eq_true] at h
      rw [adEq_eq h.1.1, Nat.eq_of_beq_eq_true h.1.2, Nat.eq_of_beq_eq_true h.2]
    · rw [onEq_eq h]
    · rfl
    · rfl
    · rw [Bool.and_eq_true] at h
      rw [Nat.eq_of_beq_eq_true h.1, veq_eq d _ _ h.2]
    · rename_i a b
      obtain ⟨a⟩ := a; obtain ⟨b⟩ := b
      rw [veqL_eq (veq_eq d) a b h]
    · rename_i a b
      obtain ⟨a⟩ := a; obtain ⟨b⟩ := b
      rw [veqL_eq (veq_eq d) a b h]
    · cases h
theorem kind_cases (op : Op) : kindOf op = 0 ∨ kindOf op = 1 ∨ kindOf op = 2 ∨ kindOf op = 3 := by
  unfold kindOf
  split <;> first | simp | (split <;> simp)
theorem same_some {E : Env} {op : Op} {T : Tr Value} {v : Value} {m : Mem} (h : sameAt E op T v m = true) : ∃ mm, xop op E T m = some (v, mm) := by
  unfold sameAt at h
  cases e : xop op E T m with
  | none => rw [e] at h; cases h
  | some q => rw [e] at h; exact ⟨q.2, by rw [← veq_eq 20 _ _ h]⟩
theorem xalO_obj {E : Env} {op : Op} {T : Tr Value} {i : Nat} {v : Value} {o : SObj} (h : xalO op E T i = some (v, o)) : isObj o = true ∧ chg o = true := by
  have hrow : ∀ {cs : List Value} {e : TypeId} {o : SObj}, rowOf cs e = some o → isObj o = true ∧ chg o = true := fun h => by
    obtain ⟨_, rfl⟩ := rowOf_ok h; exact ⟨rfl, rfl⟩
  have hmk : ∀ {i : Nat} {f : Nat → Value} {x : Option SObj}, mk1 i f x = some (v, o) → x = some o := fun h => by
    obtain ⟨ob, h1, h2⟩ := ob_some h
    cases h2; exact h1
  cases op with
  | alloc e =>
    obtain ⟨z, h1, h2⟩ := ob_some (show ob (E.zero e) _ = some (v, o) from h)
    exact hrow (hmk h2)
  | box e x =>
    obtain ⟨z, h1, h2⟩ := ob_some (show ob (ev T x) _ = some (v, o) from h)
    exact hrow (hmk h2)
  | makeMap t r =>
    obtain ⟨h0, h2⟩ := ifo_some (show ifo r.isNone _ = some (v, o) from h)
    have := hmk h2
    cases this; exact ⟨rfl, rfl⟩
  | buildSlice t len ps =>
    obtain ⟨l, h1, h2⟩ := ob_some (show ob (evp T ps.toList) _ = some (v, o) from h)
    obtain ⟨e, n, h3, h4, h5⟩ := EnvOk.elemS h2
    obtain ⟨z, h6, h7⟩ := ob_some h5
    obtain ⟨h8, h9⟩ := ifo_some h7
    obtain ⟨cs, h10, h11⟩ := ob_some h9
    exact hrow (hmk h11)
  | makeSlice t l c =>
    obtain ⟨lv, h1, h2⟩ := ob_some (show ob (ev T l) _ = some (v, o) from h)
    obtain ⟨k1, ln, rfl, h3⟩ := nat_some h2
    obtain ⟨cv, h4, h5⟩ := ob_some h3
    obtain ⟨k2, cn, rfl, h6⟩ := nat_some h5
    obtain ⟨e, n, g1, g2, h7⟩ := EnvOk.elemS h6
    obtain ⟨inf, g3, h8⟩ := ob_some h7
    obtain ⟨z, g4, h9⟩ := ob_some h8
    obtain ⟨g5, h10⟩ := ifo_some h9
    split at h10
    · have := hmk h10
      cases this; exact ⟨rfl, rfl⟩
    · obtain ⟨q5, h11⟩ := ifo_some h10
      exact hrow (hmk h11)
  | _ => cases h

section
variable {P : Program} {E : Env} {call : CallF} {G : Gh} {N : Nat} {all : List Oper} {base : Nat} {F : Trc} {s i : Nat} {listed : Array Bool} {a : Act} {w : World} {ρ : Ren} {p : Nat} {l : List (Nat × SObj)}
theorem SegOk.at (h : SegOk E call G all base F s i) {k : Nat} (h1 : s ≤ k) (h2 : k < i) {o : Oper} (ho : all[k]? = some o) : StepOk E call G all base F s k o := by
  obtain ⟨o', e, st⟩ := h k h1 h2
  rw [ho] at e; cases e; exact st
theorem dst_le (hd : DrawOk N all) {k : Nat} {o : Oper} (ho : all[k]? = some o) : ∀ d, o.dst = some d → d ≤ 1048574 := fun d e => ((hd.ops o (List.mem_of_getElem? ho)).dst d e).2
theorem bind_dst {k : Nat} {o : Oper} (ho : all[k]? = some o) : (all[k]?).bind (·.dst) = o.dst := by rw [ho]; rfl
theorem cur_all (hg : SegOk E call G all base F s i) : ∀ c, s + c ≤ i → (∀ k, s ≤ k → k < s + c → listed[k]? = some true) → cur F all listed s c = F.T (s + c)
  | 0, _, _ => rfl
  | c + 1, h, hl => by
    obtain ⟨o, ho, st⟩ := hg (s + c) (by omega) (by omega)
    unfold cur
    rw [if_pos (hl _ (by omega) (by omega)), cur_all hg c (by omega) (fun k h1 h2 => hl k h1 (by omega)), bind_dst ho, ← st.next]
    rfl
theorem cur_none : ∀ c, (∀ k, s ≤ k → k < s + c → listed[k]? ≠ some true) → cur F all listed s c = F.T s
  | 0, _ => rfl
  | c + 1, hl => by
    unfold cur
    rw [if_neg (hl _ (by omega) (by omega)), cur_none c (fun k h1 h2 => hl k h1 (by omega))]
theorem cur_get (hd : DrawOk N all) (hg : SegOk E call G all base F s i) (hi : i ≤ all.length) (hs : listed.size = all.length) (hc : Cl all listed) {j : Nat} {o : Oper} (hsj : s ≤ j) (hji : j < i) (ho : all[j]? = some o) (hu : listed[j]? = some false) (hp : Pre all listed j) {t : Nat} (ht : t ∈ nms all o) :
    ∀ c, s + c ≤ i → (cur F all listed s c).get? t = (F.T (if s + c ≤ j then s + c else j)).get? t
  | 0, _ => by rw [if_pos (by omega)]; rfl
  | c + 1, h => by
    have ih := cur_get hd hg hi hs hc hsj hji ho hu hp ht c (by omega)
    obtain ⟨o', ho', st⟩ := hg (s + c) (by omega) (by omega)
    have hput := fun T v => put_get (T := T) (v := v) (dst_le hd ho') t
    unfold cur
    rw [bind_dst ho']
    by_cases hk : s + c < j
    · rw [if_pos (by omega)] at ih
      rw [if_pos (show s + (c + 1) ≤ j by omega)]
      have hn : (F.T (s + (c + 1))).get? t = if o'.dst = some t then some (F.v (s + c)) else (F.T (s + c)).get? t := by
        rw [show s + (c + 1) = s + c + 1 by omega, st.next, hput]
      rw [hn]
      split
      · rw [hput, ih]
      · rename_i hl
        rw [ih, if_neg]
        intro e
        exact hl (mask_done hd hc (j + 1) j (by omega) (by omega) hp _ (hd.name (s + c) j o' o t ho' ho e ht hk))
    · have ih : (cur F all listed s c).get? t = (F.T j).get? t := by
        rw [ih]
        split
        · rw [show s + c = j by omega]
        · rfl
      rw [if_neg (show ¬ s + (c + 1) ≤ j by omega)]
      split
      · rename_i hl
        rw [hput, ih, if_neg]
        intro e
        by_cases hjk : s + c = j
        · rw [hjk, hu] at hl; cases hl
        · have := mask_done hd hc (s + c + 1) (s + c) (by omega) (by omega) (hc _ hl) _ (hd.name' (s + c) j o' o t ho' ho e ht (by omega))
          rw [hu] at this; cases this
      · exact ih
theorem cur_set (hd : DrawOk N all) (hi : i ≤ all.length) (hs : listed.size = all.length) (hc : Cl all listed) {k : Nat} {o : Oper} (hki : k < i) (ho : all[k]? = some o) (hu : listed[k]? = some false) (t : Nat) :
    ∀ c, s + c ≤ i → s ≤ k → (cur F all (listed.setIfInBounds k true) s c).get? t = if k < s + c ∧ o.dst = some t then some (F.v k) else (cur F all listed s c).get? t
  | 0, _, _ => by rw [if_neg (by omega)]; rfl
  | c + 1, h, hsk => by
    have ih := cur_set hd hi hs hc hki ho hu t c (by omega) hsk
    obtain ⟨o', ho'⟩ : ∃ o', all[s + c]? = some o' := ⟨_, List.getElem?_eq_getElem (by omega)⟩
    have hput := fun T v => put_get (T := T) (v := v) (dst_le hd ho') t
    unfold cur
    rw [bind_dst ho', set_at (show k < listed.size by omega)]
    by_cases e : s + c = k
    · rw [if_pos e, if_pos rfl, hput, ih, if_neg (show ¬ (k < s + c ∧ o.dst = some t) by omega)]
      have : o' = o := by rw [e, ho] at ho'; exact (Option.some.inj ho').symm
      subst this
      rw [e]
      by_cases hd' : o'.dst = some t
      · rw [if_pos hd', if_pos ⟨by omega, hd'⟩]
      · rw [if_neg hd', if_neg (fun x => hd' x.2), if_neg (by rw [hu]; simp)]
    · rw [if_neg e]
      split
      · rename_i hl
        rw [hput, hput, ih]
        by_cases hk : k < s + c
        · by_cases h1 : o'.dst = some t
          · rw [if_pos h1, if_pos h1, if_neg]
            rintro ⟨_, h2⟩
            have := mask_done hd hc (s + c + 1) (s + c) (by omega) (by omega) (hc _ hl) _ (hd.name' (s + c) k o' o t ho' ho h1 (by unfold nms; rw [h2]; simp) hk)
            rw [hu] at this; cases this
          · rw [if_neg h1, if_neg h1]
            by_cases h2 : o.dst = some t
            · rw [if_pos ⟨hk, h2⟩, if_pos ⟨by omega, h2⟩]
            · rw [if_neg (fun x => h2 x.2), if_neg (fun x => h2 x.2)]
        · rw [if_neg (show ¬ (k < s + c ∧ o.dst = some t) by omega), if_neg (show ¬ (k < s + (c + 1) ∧ o.dst = some t) by omega)]
      · rw [ih]
        by_cases h2 : o.dst = some t
        · by_cases hk : k < s + c
          · rw [if_pos ⟨hk, h2⟩, if_pos ⟨by omega, h2⟩]
          · rw [if_neg (show ¬ (k < s + c ∧ o.dst = some t) by omega), if_neg (show ¬ (k < s + (c + 1) ∧ o.dst = some t) by omega)]
        · rw [if_neg (fun x => h2 x.2), if_neg (fun x => h2 x.2)]
/-- Memory, as long as nothing changes it. -/
theorem between (hg : SegOk E call G all base F s i) (hsp : s ≤ p) : ∀ n, p + n ≤ i → (∀ e, p ≤ e → e < p + n → ¬ Eff all F e) → Alike (F.m p) (F.m (p + n)) ∧
    ∀ x, (∃ c o v ob, p ≤ c ∧ c < p + n ∧ F.on c = true ∧ all[c]? = some o ∧ kindOf o.op = 2 ∧ xalO o.op E (F.T c) (base + c) = some (v, ob) ∧ x = base + c ∧ (F.m (p + n)).tr.get? x = some ob) ∨
      ((F.m (p + n)).tr.get? x = (F.m p).tr.get? x ∧ ∀ c, p ≤ c → c < p + n → Made all F c → x ≠ base + c)
  | 0, _, _ => ⟨Alike.refl _, fun x => .inr ⟨rfl, fun c h1 h2 => by omega⟩⟩
  | n + 1, h, he => by
    obtain ⟨ih1, ih2⟩ := between hg hsp n (by omega) (fun e h1 h2 => he e h1 (by omega))
    obtain ⟨o, ho, st⟩ := hg (p + n) (by omega) (by omega)
    have same : (¬ Made all F (p + n)) → F.m (p + n + 1) = F.m (p + n) → Alike (F.m p) (F.m (p + (n + 1))) ∧
        ∀ x, (∃ c o v ob, p ≤ c ∧ c < p + (n + 1) ∧ F.on c = true ∧ all[c]? = some o ∧ kindOf o.op = 2 ∧ xalO o.op E (F.T c) (base + c) = some (v, ob) ∧ x = base + c ∧ (F.m (p + (n + 1))).tr.get? x = some ob) ∨
          ((F.m (p + (n + 1))).tr.get? x = (F.m p).tr.get? x ∧ ∀ c, p ≤ c → c < p + (n + 1) → Made all F c → x ≠ base + c) := by
      intro hm e
      rw [show p + (n + 1) = p + n + 1 by omega, e]
      refine ⟨ih1, fun x => ?_⟩
      rcases ih2 x with ⟨c, o, v, ob, h1, h2, h3⟩ | ⟨h1, h2⟩
      · exact .inl ⟨c, o, v, ob, h1, by omega, h3⟩
      · refine .inr ⟨h1, fun c k1 k2 k3 => ?_⟩
        by_cases e2 : c = p + n
        · subst e2; exact absurd k3 hm
        · exact h2 c k1 (by omega) k3
    cases hon : F.on (p + n) with
    | false => exact same (fun hm => by rw [hm.1] at hon; cases hon) (st.off hon).2
    | true =>
      rcases kind_cases o.op with hk | hk | hk | hk
      · exact same (fun ⟨_, o', h1, h2⟩ => by rw [ho] at h1; cases h1; omega) (st.pure hon hk).2
      · exact same (fun ⟨_, o', h1, h2⟩ => by rw [ho] at h1; cases h1; omega) (st.read hon hk).1
      · obtain ⟨hl, ob, k1, k2⟩ := st.made hon hk
        rw [show p + (n + 1) = p + n + 1 by omega, k2]
        refine ⟨ih1.trans ⟨rfl, rfl, rfl, rfl, rfl, rfl, rfl⟩, fun x => ?_⟩
        have hget : ((F.m (p + n)).newAt (base + (p + n)) ob).tr.get? x = if x = base + (p + n) then some ob else (F.m (p + n)).tr.get? x := Tr.get_set20 _ _ _ _ (by unfold lim at hl; omega)
        rw [hget]
        by_cases e : x = base + (p + n)
        · rw [if_pos e]
          exact .inl ⟨p + n, o, _, ob, by omega, by omega, hon, ho, hk, k1, e, rfl⟩
        · rw [if_neg e]
          rcases ih2 x with ⟨c, o, v, ob, h1, h2, h3⟩ | ⟨h1, h2⟩
          · exact .inl ⟨c, o, v, ob, h1, by omega, h3⟩
          · refine .inr ⟨h1, fun c k1 k2 k3 => ?_⟩
            by_cases e2 : c = p + n
            · rw [e2]; exact e
            · exact h2 c k1 (by omega) k3
      · exact absurd ⟨hon, o, ho, hk⟩ (he (p + n) (by omega) (by omega))
theorem Inv.sp (h : Inv E G N all base F s i listed a w ρ p l) : s ≤ p := by
  rcases h.snap with e | ⟨e, e1, e2, _⟩ <;> omega
theorem Inv.small (h : Inv E G N all base F s i listed a w ρ p l) : ∀ q ∈ l, q.1 ≤ 1048574 := by
  intro q hq
  obtain ⟨c, o, e, hl, _⟩ := h.mem q hq
  unfold lim at hl; omega
end
end Go.Proofs.YtgmdbfackbdnlaaGreatDoor

/- The executor: regions whose order is drawn: an operation that is ready. -/
namespace Go.Proofs.YtgmdbfackbdnlaaGreatDoor
open Go.RowKit Bl Th Go.Sx
set_option maxRecDepth 10000

section
variable {P : Program} {E : Env} {call : CallF} {G : Gh} {N : Nat} {all : List Oper} {base : Nat} {F : Trc} {s i : Nat} {listed : Array Bool} {a : Act} {w : World} {ρ : Ren} {p : Nat} {l : List (Nat × SObj)}
theorem nodup_map {l : List (Nat × SObj)} {f : Nat × SObj → Nat} (hn : (l.map (·.1)).Nodup) (hf : ∀ x ∈ l, ∀ y ∈ l, f x = f y → x.1 = y.1) : (l.map f).Nodup := by
  induction l with
  | nil => simp
  | cons q l ih =>
    rw [List.map_cons, List.nodup_cons] at hn ⊢
    refine ⟨fun hm => ?_, ih hn.2 fun x hx y hy => hf x (by simp [hx]) y (by simp [hy])⟩
    obtain ⟨x, hx, e⟩ := List.mem_map.1 hm
    exact hn.1 (List.mem_map.2 ⟨x, hx, hf x (by simp [hx]) q (by simp) e⟩)
theorem nodup_filter {l : List (Nat × SObj)} (hn : (l.map (·.1)).Nodup) (f : Nat × SObj → Bool) : ((l.filter f).map (·.1)).Nodup := by
  induction l with
  | nil => simp
  | cons q l ih =>
    rw [List.map_cons, List.nodup_cons] at hn
    rw [List.filter_cons]
    split
    · rw [List.map_cons, List.nodup_cons]
      refine ⟨fun hm => hn.1 ?_, ih hn.2⟩
      obtain ⟨x, hx, e⟩ := List.mem_map.1 hm
      exact List.mem_map.2 ⟨x, (List.mem_filter.1 hx).1, e⟩
    · exact ih hn.2
theorem cur_tmps (hd : DrawOk N all) (hi : i ≤ all.length) (h : Inv E G N all base F s i listed a w ρ p l) {k : Nat} {o : Oper} (hsk : s ≤ k) (hki : k < i) (ho : all[k]? = some o) (hu : listed[k]? = some false) {ρ' : Ren} (hr : ρ.le ρ') {v' : Value} (hv : Rel ρ' (F.v k) v') :
    TmpsX all (listed.setIfInBounds k true) i ρ' (cur F all (listed.setIfInBounds k true) s (i - s)) (a.put o.dst v').tmps := by
  have hkl : k < listed.size := by rw [h.size]; omega
  intro t u hu'
  rw [cur_set hd hi h.size h.cl hki ho hu t (i - s) (by omega) hsk] at hu'
  have hds := (hd.ops o (List.mem_of_getElem? ho)).dst
  rw [act_put_get (fun d e => by rw [h.tsize]; exact (hds d e).1)]
  by_cases e : o.dst = some t
  · rw [if_pos ⟨by omega, e⟩] at hu'
    rw [if_pos e]
    cases hu'
    exact .inr ⟨v', rfl, hv⟩
  · rw [if_neg (fun x => e x.2)] at hu'
    rw [if_neg e]
    rcases h.tmps t u hu' with ⟨c, oc, c1, c2, c3, c4⟩ | ⟨u', a1, a2⟩
    · exact .inl ⟨c, oc, c1, by rw [set_at hkl, if_neg (by omega)]; exact c2, c3, c4⟩
    · exact .inr ⟨u', a1, a2.mono hr⟩
theorem free_apart (hd : DrawOk N all) {c k : Nat} {oc ok : Oper} (hc : all[c]? = some oc) (hf : freeAl oc = true) (hk : all[k]? = some ok) (hlt : k < c) {t : Nat} (ht : oc.dst = some t) : ok.dst ≠ some t := by
  intro e
  have := hd.name k c ok oc t hk hc e (by unfold nms; rw [ht]; simp) hlt
  rw [mask_at hc] at this
  unfold maskOf at this
  rw [(free_some hf).2.1, bit_test] at this
  simp at this
theorem ahead_put (hd : DrawOk N all) (h : Inv E G N all base F s i listed a w ρ p l) {k : Nat} {o : Oper} (hki : k < i) (ho : all[k]? = some o) {ρ' : Ren} (hr : ρ.le ρ') (v' : Value) : ∀ c oc d, i ≤ c → (listed.setIfInBounds k true)[c]? = some true → all[c]? = some oc → oc.dst = some d → ∃ u, (a.put o.dst v').tmps[d]? = some u ∧ Rel ρ' (pv (base + c)) u := by
  intro c oc d h1 h2 h3 h4
  have hcl : c < all.length := (List.getElem?_eq_some_iff.1 h3).1
  have hkl : k < listed.size := by rw [h.size]; omega
  rw [set_at hkl, if_neg (by omega)] at h2
  obtain ⟨u, e, r⟩ := h.ahead c oc d h1 h2 h3 h4
  have hfree : freeAl oc = true := by
    rcases h.high c h1 hcl with x | ⟨o', x, y⟩
    · rw [h2] at x; cases x
    · rw [h3] at x; cases x; exact y
  have hds := (hd.ops o (List.mem_of_getElem? ho)).dst
  refine ⟨u, ?_, r.mono hr⟩
  rw [act_put_get (fun d e => by rw [h.tsize]; exact (hds d e).1), if_neg (free_apart hd h3 hfree ho (by omega) h4)]
  exact e
/-- The temporaries that it names. -/
theorem op_tmps (hd : DrawOk N all) (hg : SegOk E call G all base F s i) (hi : i ≤ all.length) (h : Inv E G N all base F s i listed a w ρ p l) {k : Nat} {o : Oper} (hsk : s ≤ k) (hki : k < i) (ho : all[k]? = some o) (hu : listed[k]? = some false) (hp : Pre all listed k) :
    ∃ T, Tmps ρ T a.tmps ∧ (∀ x ∈ o.op.operands.toList, ev (F.T k) x = ev T x) ∧ wantedX all T o.guard = wantedX all (F.T k) o.guard := by
  refine ⟨(F.T k).filt (fun t => (nms all o).contains t) 1 0, fun t v hv => ?_, fun x hx => ?_, ?_⟩
  · rw [Tr.get_filt1] at hv
    split at hv
    · rename_i hc
      have hcur : (cur F all listed s (i - s)).get? t = some v := by
        rw [cur_get hd hg hi h.size h.cl hsk hki ho hu hp (by simpa using hc) (i - s) (by omega), if_neg (by omega)]
        exact hv
      rcases h.tmps t v hcur with ⟨c, oc, c1, c2, c3, c4⟩ | q
      · exfalso
        have hcl : c < all.length := (List.getElem?_eq_some_iff.1 c3).1
        have hfree : freeAl oc = true := by
          rcases h.high c c1 hcl with x | ⟨o', x, y⟩
          · rw [c2] at x; cases x
          · rw [c3] at x; cases x; exact y
        have := hd.name' c k oc o t c3 ho c4 (by simpa using hc) (by omega)
        rw [mask_at c3] at this
        unfold maskOf at this
        rw [(free_some hfree).2.1, bit_test] at this
        simp at this
      · exact q
    · cases hv
  · cases x with
    | tmp t =>
      show (F.T k).get? t = Tr.get? _ t
      rw [Tr.get_filt1, if_pos]
      have : t ∈ nms all o := by
        unfold nms
        exact List.mem_append_left _ (List.mem_append_left _ (List.mem_filterMap.2 ⟨.tmp t, hx, rfl⟩))
      simpa using this
    | _ => rfl
  · unfold wantedX
    cases hgd : o.guard with
    | none => rfl
    | some q =>
      show ob (all[q.1]?) _ = ob (all[q.1]?) _
      cases ho' : all[q.1]? with
      | none => rfl
      | some o' =>
        show ob o'.dst _ = ob o'.dst _
        cases hds : o'.dst with
        | none => rfl
        | some d =>
          show guardB _ q.2 d = guardB _ q.2 d
          unfold guardB
          rw [Tr.get_filt1, if_pos]
          have : d ∈ nms all o := by
            unfold nms
            refine List.mem_append_left _ (List.mem_append_right _ ?_)
            obtain ⟨g, want⟩ := q
            simp only at ho'
            rw [hgd]
            simp only
            rw [ho']
            simp [hds]
          simpa using this
/-- Memory in which nothing was made since. -/
theorem conc_snap (h : Inv E G N all base F s i listed a w ρ p l) : Conc E G ρ (F.m p) w := by
  refine h.conc.alike (ext_alike l _).symm fun x o hx => ?_
  by_cases hm : x ∈ l.map (·.1)
  · obtain ⟨q, hq, rfl⟩ := List.mem_map.1 hm
    obtain ⟨c, oc, _, _, _, _, _, _, _, _, _, hno⟩ := h.mem q hq
    have he := ext_at l (F.m p) h.small h.nums q hq
    obtain ⟨r, hr, _⟩ := h.conc.rows _ _ he
    exact .inr ⟨hno o hx, r, hr⟩
  · have he := ext_far l (F.m p) x h.small hm
    rw [hx] at he
    cases ho : isObj o with
    | true => exact .inl ⟨rfl, he⟩
    | false =>
      obtain ⟨r, hr, _⟩ := h.conc.rows _ _ he
      exact .inr ⟨rfl, r, hr⟩
/-- Nothing changes in memory. -/
theorem inv_still (hd : DrawOk N all) (hi : i ≤ all.length) (h : Inv E G N all base F s i listed a w ρ p l) {k : Nat} {o : Oper} (hsk : s ≤ k) (hki : k < i) (ho : all[k]? = some o) (hu : listed[k]? = some false) (hp : Pre all listed k) (hne : ¬ Eff all F k) (hnm : ¬ Made all F k) {v' : Value} (hv : Rel ρ (F.v k) v') :
    Inv E G N all base F s i (listed.setIfInBounds k true) (a.put o.dst v') w ρ p l := by
  have hkl : k < listed.size := by rw [h.size]; omega
  have hset : ∀ j, j ≠ k → (listed.setIfInBounds k true)[j]? = listed[j]? := fun j hj => by rw [set_at hkl, if_neg hj]
  refine ⟨by simp [h.size], closed_set h.cl hkl hp, fun j hj => by rw [hset j (by omega)]; exact h.low j hj, fun j h1 h2 => by rw [hset j (by omega)]; exact h.high j h1 h2, h.snap, h.pi, fun e h1 h2 h3 => ?_, fun c h1 h2 h3 => ?_, h.conc, h.nx, h.nums, fun q hq => ?_, fun c oc h1 h2 h3 h4 h5 h6 => ?_, fun c h1 h2 h3 => ?_, cur_tmps hd hi h hsk hki ho hu (Ren.le_refl ρ) hv, by rw [act_put_size]; exact h.tsize, ahead_put hd h hki ho (Ren.le_refl ρ) v'⟩
  · rw [hset e (fun x => hne (x ▸ h3))]; exact h.effs e h1 h2 h3
  · rw [hset c (fun x => hnm (x ▸ h3))]; exact h.made c h1 h2 h3
  · obtain ⟨c, oc, h1, h2, h3, h4, h5, h6⟩ := h.mem q hq
    refine ⟨c, oc, h1, h2, h3, h4, ?_, h6⟩
    rw [set_at hkl]; split
    · rfl
    · exact h5
  · by_cases e : c = k
    · subst e; exact absurd ⟨h4 hki, oc, h5, h6⟩ hnm
    · rw [hset c e] at h3; exact h.all' c oc h1 h2 h3 h4 h5 h6
  · by_cases e : c = k
    · subst e; rw [set_at hkl, if_pos rfl] at h3; cases h3
    · rw [hset c e] at h3; exact h.free c h1 h2 h3
theorem newAt_nx (m : Mem) (i : Nat) (o : SObj) : ({ (m.newAt i o) with nx := m.nx } : Mem) = m.newAt i o := rfl
theorem inv_made (hE : EnvOk P E) (hd : DrawOk N all) (hi : i ≤ all.length) (h : Inv E G N all base F s i listed a w ρ p l) {k : Nat} {o : Oper} (hsk : s ≤ k) (hki : k < i) (ho : all[k]? = some o) (hu : listed[k]? = some false) (hp : Pre all listed k) (hon : F.on k = true) (hk : kindOf o.op = 2) (hlm : base + k < lim) {ob' : SObj} (hx : xalO o.op E (F.T k) (base + k) = some (F.v k, ob')) {T : Tr Value} (hT : Tmps ρ T a.tmps) (hev : ∀ x ∈ o.op.operands.toList, ev (F.T k) x = ev T x) :
    ∃ v' ρ' w', (execOp a.eval o).run P w = .ok (.value v') w' ∧ ρ.le ρ' ∧ (∀ j, j ≠ base + k → ρ' j = ρ j) ∧ HeldBy G.X w w' ∧ Inv E G N all base F s i (listed.setIfInBounds k true) (a.put o.dst v') w' ρ' p (l ++ [(base + k, ob')]) := by
  have hkl : k < listed.size := by rw [h.size]; omega
  have hset : ∀ j, j ≠ k → (listed.setIfInBounds k true)[j]? = listed[j]? := fun j hj => by rw [set_at hkl, if_neg hj]
  have hpk : p ≤ k := by
    rcases Nat.lt_or_ge k p with e | e
    · have := h.made k hsk e ⟨hon, o, ho, hk⟩
      rw [hu] at this; cases this
    · exact e
  have hfree := h.free k hsk (by omega) hu
  have hxal : xal o.op E T (ext (F.m p) l) (base + k) = some (F.v k, (ext (F.m p) l).newAt (base + k) ob') := by
    unfold xal
    rw [← xalO_congr hev, hx]
    show ifo (Nat.blt (base + k) lim) _ = _
    rw [show Nat.blt (base + k) lim = true by rw [Nat.blt_eq]; exact hlm]
    rfl
  obtain ⟨v', ρ', w', e, k1, k2, k3, k4, k5⟩ := xal_ok (nx := (ext (F.m p) l).nx) hE h.conc hT (hd.ops o (List.mem_of_getElem? ho)).op hfree (Nat.le_refl _) (by rw [(ext_alike l (F.m p)).nx]; have := h.nx; omega) hxal
  rw [newAt_nx, ← ext_snoc (F.m p) l (base + k, ob')] at k4
  have hnew : base + k ∉ l.map (·.1) := by
    intro hm
    obtain ⟨q, hq, e1⟩ := List.mem_map.1 hm
    obtain ⟨c, _, h1, _, _, _, h5, _⟩ := h.mem q hq
    have : c = k := by omega
    rw [this, hu] at h5; cases h5
  refine ⟨v', ρ', w', e, k1, k2, k5, ⟨by simp [h.size], closed_set h.cl hkl hp, fun j hj => by rw [hset j (by omega)]; exact h.low j hj, fun j h1 h2 => by rw [hset j (by omega)]; exact h.high j h1 h2, h.snap, h.pi, fun e h1 h2 h3 => ?_, fun c h1 h2 h3 => ?_, k4, h.nx, ?_, fun q hq => ?_, fun c oc h1 h2 h3 h4 h5 h6 v ob hob => ?_, fun c h1 h2 h3 => ?_, cur_tmps hd hi h hsk hki ho hu k1 k3, by rw [act_put_size]; exact h.tsize, ahead_put hd h hki ho k1 v'⟩⟩
  · rw [hset e (fun x => by subst x; obtain ⟨_, o', h4, h5⟩ := h3; rw [ho] at h4; cases h4; omega)]; exact h.effs e h1 h2 h3
  · rw [set_at hkl]; split
    · rfl
    · exact h.made c h1 h2 h3
  · rw [List.map_append, List.nodup_append]
    refine ⟨h.nums, by simp, fun x hx y hy e => ?_⟩
    simp only [List.map_cons, List.map_nil, List.mem_singleton] at hy
    rw [e, hy] at hx
    exact hnew hx
  · rcases List.mem_append.1 hq with hq | hq
    · obtain ⟨c, oc, h1, h2, h3, h4, h5, h6⟩ := h.mem q hq
      refine ⟨c, oc, h1, h2, h3, h4, ?_, h6⟩
      rw [set_at hkl]; split
      · rfl
      · exact h5
    · simp only [List.mem_singleton] at hq
      subst hq
      refine ⟨k, o, rfl, hlm, hpk, .inl hki, by rw [set_at hkl, if_pos rfl], fun _ => hon, ho, hk, ⟨_, hx⟩, fun o' ho' => ?_⟩
      have he := ext_far l (F.m p) (base + k) h.small hnew
      rw [ho'] at he
      obtain ⟨r, hr, _⟩ := h.conc.rows _ _ he
      rw [hfree] at hr; cases hr
  · by_cases e : c = k
    · subst e
      rw [ho] at h5; cases h5
      rw [hx] at hob; cases hob
      exact List.mem_append_right _ (by simp)
    · rw [hset c e] at h3
      exact List.mem_append_left _ (h.all' c oc h1 h2 h3 h4 h5 h6 v ob hob)
  · by_cases e : c = k
    · subst e; rw [set_at hkl, if_pos rfl] at h3; cases h3
    · rw [hset c e] at h3; rw [k2 _ (by omega)]; exact h.free c h1 h2 h3
theorem free_xal {o : Oper} (hf : freeAl o = true) (T T' : Tr Value) (j : Nat) : xalO o.op E T j = xalO o.op E T' j := by
  obtain ⟨⟨e, he⟩, _⟩ := free_some hf
  rw [he]; rfl
theorem free_val {o : Oper} (hf : freeAl o = true) {T : Tr Value} {j : Nat} {v : Value} {ob' : SObj} (h : xalO o.op E T j = some (v, ob')) : v = pv j := by
  obtain ⟨⟨e, he⟩, _⟩ := free_some hf
  rw [he] at h
  obtain ⟨z, h1, h2⟩ := ob_some (show ob (E.zero e) (fun z => mk1 j pv (rowOf z.cells.toList e)) = some (v, ob') from h)
  obtain ⟨o', h3, h4⟩ := ob_some h2
  cases h4; rfl
theorem free_kind {o : Oper} (hf : freeAl o = true) : kindOf o.op = 2 := by
  obtain ⟨⟨e, he⟩, _⟩ := free_some hf
  rw [he]; rfl
theorem cur_far {k : Nat} : ∀ c, s + c ≤ k → cur F all (listed.setIfInBounds k true) s c = cur F all listed s c
  | 0, _ => rfl
  | c + 1, h => by
    unfold cur
    rw [cur_far c (by omega), Array.getElem?_setIfInBounds_ne (by omega)]
/-- What hangs on nothing is done ahead. -/
theorem inv_free (hE : EnvOk P E) (hd : DrawOk N all) (h : Inv E G N all base F s i listed a w ρ p l) {k : Nat} {o : Oper} (hik : i ≤ k) (ho : all[k]? = some o) (hf : freeAl o = true) (hu : listed[k]? = some false) (hp : Pre all listed k) (hlm : base + k < lim) {v0 : Value} {ob' : SObj} (hx : xalO o.op E .nil (base + k) = some (v0, ob')) :
    ∃ v' ρ' w', (execOp a.eval o).run P w = .ok (.value v') w' ∧ ρ.le ρ' ∧ (∀ j, j ≠ base + k → ρ' j = ρ j) ∧ HeldBy G.X w w' ∧ Inv E G N all base F s i (listed.setIfInBounds k true) (a.put o.dst v') w' ρ' p (l ++ [(base + k, ob')]) := by
  have hkn : k < all.length := (List.getElem?_eq_some_iff.1 ho).1
  have hkl : k < listed.size := by rw [h.size]; omega
  have hset : ∀ j, j ≠ k → (listed.setIfInBounds k true)[j]? = listed[j]? := fun j hj => by rw [set_at hkl, if_neg hj]
  have hsp := h.sp
  have hpi := h.pi
  have hk := free_kind hf
  have hfree := h.free k (by omega) hkn hu
  have hds := (hd.ops o (List.mem_of_getElem? ho)).dst
  have hT : Tmps ρ (.nil : Tr Value) a.tmps := fun t v e => by cases e
  have hxal : xal o.op E .nil (ext (F.m p) l) (base + k) = some (v0, (ext (F.m p) l).newAt (base + k) ob') := by
    unfold xal
    rw [hx]
    show ifo (Nat.blt (base + k) lim) _ = _
    rw [show Nat.blt (base + k) lim = true by rw [Nat.blt_eq]; exact hlm]
    rfl
  obtain ⟨v', ρ', w', e, k1, k2, k3, k4, k5⟩ := xal_ok (nx := (ext (F.m p) l).nx) hE h.conc hT (hd.ops o (List.mem_of_getElem? ho)).op hfree (Nat.le_refl _) (by rw [(ext_alike l (F.m p)).nx]; have := h.nx; omega) hxal
  rw [newAt_nx, ← ext_snoc (F.m p) l (base + k, ob')] at k4
  have hnew : base + k ∉ l.map (·.1) := by
    intro hm
    obtain ⟨q, hq, e1⟩ := List.mem_map.1 hm
    obtain ⟨c, _, h1, _, _, _, h5, _⟩ := h.mem q hq
    have : c = k := by omega
    rw [this, hu] at h5; cases h5
  refine ⟨v', ρ', w', e, k1, k2, k5, ⟨by simp [h.size], closed_set h.cl hkl hp, fun j hj => by rw [hset j (by omega)]; exact h.low j hj, fun j h1 h2 => ?_, h.snap, h.pi, fun e h1 h2 h3 => by rw [hset e (by omega)]; exact h.effs e h1 h2 h3, fun c h1 h2 h3 => by rw [hset c (by omega)]; exact h.made c h1 h2 h3, k4, h.nx, ?_, fun q hq => ?_, fun c oc h1 h2 h3 h4 h5 h6 v ob hob => ?_, fun c h1 h2 h3 => ?_, fun t u hu' => ?_, by rw [act_put_size]; exact h.tsize, fun c oc d h1 h2 h3 h4 => ?_⟩⟩
  · by_cases e1 : j = k
    · subst e1; exact .inr ⟨o, ho, hf⟩
    · rw [hset j e1]; exact h.high j h1 h2
  · rw [List.map_append, List.nodup_append]
    refine ⟨h.nums, by simp, fun x hx y hy e => ?_⟩
    simp only [List.map_cons, List.map_nil, List.mem_singleton] at hy
    rw [e, hy] at hx
    exact hnew hx
  · rcases List.mem_append.1 hq with hq | hq
    · obtain ⟨c, oc, h1, h2, h3, h4, h5, h6⟩ := h.mem q hq
      refine ⟨c, oc, h1, h2, h3, h4, ?_, h6⟩
      rw [set_at hkl]; split
      · rfl
      · exact h5
    · simp only [List.mem_singleton] at hq
      subst hq
      refine ⟨k, o, rfl, hlm, by omega, .inr ⟨o, ho, hf⟩, by rw [set_at hkl, if_pos rfl], fun h => absurd h (by omega), ho, hk, ⟨v0, by rw [free_xal hf _ .nil]; exact hx⟩, fun o' ho' => ?_⟩
      have he := ext_far l (F.m p) (base + k) h.small hnew
      rw [ho'] at he
      obtain ⟨r, hr, _⟩ := h.conc.rows _ _ he
      rw [hfree] at hr; cases hr
  · by_cases e : c = k
    · subst e
      rw [ho] at h5; cases h5
      rw [free_xal hf _ .nil, hx] at hob; cases hob
      exact List.mem_append_right _ (by simp)
    · rw [hset c e] at h3
      exact List.mem_append_left _ (h.all' c oc h1 h2 h3 h4 h5 h6 v ob hob)
  · by_cases e : c = k
    · subst e; rw [set_at hkl, if_pos rfl] at h3; cases h3
    · rw [hset c e] at h3; rw [k2 _ (by omega)]; exact h.free c h1 h2 h3
  · rw [cur_far _ (by omega)] at hu'
    by_cases e1 : o.dst = some t
    · exact .inl ⟨k, o, hik, by rw [set_at hkl, if_pos rfl], ho, e1⟩
    · rcases h.tmps t u hu' with ⟨c, oc, c1, c2, c3, c4⟩ | ⟨u', a1, a2⟩
      · refine .inl ⟨c, oc, c1, ?_, c3, c4⟩
        rw [set_at hkl]; split
        · rfl
        · exact c2
      · exact .inr ⟨u', by rw [act_put_get (fun d e => by rw [h.tsize]; exact (hds d e).1), if_neg e1]; exact a1, a2.mono k1⟩
  · by_cases e1 : c = k
    · subst e1
      rw [ho] at h3; cases h3
      exact ⟨v', by rw [act_put_get (fun d e => by rw [h.tsize]; exact (hds d e).1), if_pos h4], by rw [← free_val hf hx]; exact k3⟩
    · rw [hset c e1] at h2
      obtain ⟨u, e2, r⟩ := h.ahead c oc d h1 h2 h3 h4
      have hcl : c < all.length := (List.getElem?_eq_some_iff.1 h3).1
      have hfree : freeAl oc = true := by
        rcases h.high c h1 hcl with x | ⟨o', x, y⟩
        · rw [h2] at x; cases x
        · rw [h3] at x; cases x; exact y
      have hne : o.dst ≠ some d := fun e3 => by
        rcases Nat.lt_or_ge c k with x | x
        · exact free_apart hd ho hf h3 x e3 h4
        · exact free_apart hd h3 hfree ho (by omega) h4 e3
      exact ⟨u, by rw [act_put_get (fun d e => by rw [h.tsize]; exact (hds d e).1), if_neg hne]; exact e2, r.mono k1⟩
/-- Ahead of an effect that is ready. -/
theorem eff_ahead (hd : DrawOk N all) (hg : SegOk E call G all base F s i) (hi : i ≤ all.length) (h : Inv E G N all base F s i listed a w ρ p l) {k : Nat} {o : Oper} (hsk : s ≤ k) (hki : k < i) (ho : all[k]? = some o) (hu : listed[k]? = some false) (hp : Pre all listed k) (hon : F.on k = true) (hk : kindOf o.op = 3) :
    p ≤ k ∧ (∀ e, p ≤ e → e < k → ¬ Eff all F e) ∧ (∀ c, p ≤ c → c < k → Made all F c → listed[c]? = some true) ∧ (F.m k).nx = (F.m p).nx ∧
    Conc E (G.plus ((l.filter fun q => decide (base + k < q.1)).map fun q => blk ρ q.1)) ρ (F.m k) w := by
  have st := hg.at hsk hki ho
  obtain ⟨_, _, e3, e4, _⟩ := st.eff hon hk
  have hsp := h.sp
  have hpk : p ≤ k := by
    rcases Nat.lt_or_ge k p with e | e
    · have := (h.effs k hsk hki ⟨hon, o, ho, hk⟩).2 e
      rw [hu] at this; cases this
    · exact e
  have hdone : ∀ j, bit (msk all k) j = true → listed[j]? = some true := mask_done hd h.cl (k + 1) k (by omega) (by omega) hp
  have hne : ∀ e, p ≤ e → e < k → ¬ Eff all F e := by
    intro e h1 h2 h3
    obtain ⟨e', k1, k2, k3, k4, k5⟩ := e3 e (by omega) h2 h3
    have := (h.effs e' k2 (by omega) k4).1 (hdone _ k5)
    omega
  have hmd : ∀ c, p ≤ c → c < k → Made all F c → listed[c]? = some true := by
    intro c h1 h2 h3
    rcases e4 c (by omega) h2 h3 with ⟨e, k1, k2, k3⟩ | hb
    · exact absurd k3 (hne e (by omega) k2)
    · exact hdone _ hb
  obtain ⟨b1, b2⟩ := between hg hsp (k - p) (by omega) (fun e h1 h2 => hne e h1 (by omega))
  rw [show p + (k - p) = k by omega] at b1 b2
  refine ⟨hpk, hne, hmd, b1.nx, h.conc.split ((ext_alike l _).symm.trans b1) (fun x ox hx => ?_) fun b hb => ?_⟩
  · rcases b2 x with ⟨c, oc, v, ob, c1, c2, c3, c4, c5, c6, c7, c8⟩ | ⟨c1, c2⟩
    · rw [hx] at c8; cases c8
      have hin := h.all' c oc c1 (.inl (by omega)) (hmd c c1 c2 ⟨c3, oc, c4, c5⟩) (fun _ => c3) c4 c5 v ox c6
      have he := ext_at l (F.m p) h.small h.nums _ hin
      exact .inl ⟨(xalO_obj c6).1, by rw [c7]; exact he⟩
    · rw [c1] at hx
      by_cases hm : x ∈ l.map (·.1)
      · obtain ⟨q, hq, rfl⟩ := List.mem_map.1 hm
        obtain ⟨c, oc, _, _, _, _, _, _, _, _, _, hno⟩ := h.mem q hq
        obtain ⟨r, hr, _⟩ := h.conc.rows _ _ (ext_at l (F.m p) h.small h.nums q hq)
        exact .inr ⟨hno ox hx, r, hr⟩
      · have he := ext_far l (F.m p) x h.small hm
        rw [hx] at he
        cases hox : isObj ox with
        | true => exact .inl ⟨rfl, he⟩
        | false =>
          obtain ⟨r, hr, _⟩ := h.conc.rows _ _ he
          exact .inr ⟨rfl, r, hr⟩
  · obtain ⟨q, hq, rfl⟩ := List.mem_map.1 hb
    obtain ⟨hq, hlt⟩ := List.mem_filter.1 hq
    have hlt : base + k < q.1 := of_decide_eq_true hlt
    have he := ext_at l (F.m p) h.small h.nums q hq
    obtain ⟨r, hr, _⟩ := h.conc.rows _ _ he
    obtain ⟨c, oc, c1, _, c2, c3, c4, c5, c6, c7, ⟨v, c8⟩, hno⟩ := h.mem q hq
    refine ⟨q.1, q.2, r, he, (xalO_obj c8).1, hr, (blk_of hr).symm, fun o' ho' => ?_⟩
    rcases b2 q.1 with ⟨c', oc', v', ob, d1, d2, d3, d4, d5, d6, d7, d8⟩ | ⟨d1, d2⟩
    · omega
    · rw [d1] at ho'; exact hno o' ho'
theorem inv_eff (hd : DrawOk N all) (hg : SegOk E call G all base F s i) (hi : i ≤ all.length) (h : Inv E G N all base F s i listed a w ρ p l) {k : Nat} {o : Oper} (hsk : s ≤ k) (hki : k < i) (ho : all[k]? = some o) (hu : listed[k]? = some false) (hp : Pre all listed k) (hon : F.on k = true) (hk : kindOf o.op = 3) {v' : Value} {w' : World}
    (hpost : EffPost E (G.plus ((l.filter fun q => decide (base + k < q.1)).map fun q => blk ρ q.1)) ρ (F.m k) w (F.v k) (F.m (k + 1)) v' w') :
    ∃ ρ', Since G (F.m k).nx ρ w ρ' w' ∧ Inv E G N all base F s i (listed.setIfInBounds k true) (a.put o.dst v') w' ρ' (k + 1) (l.filter fun q => decide (base + k < q.1)) := by
  obtain ⟨hpk, hne, hmd, hnx, hcon⟩ := eff_ahead hd hg hi h hsk hki ho hu hp hon hk
  obtain ⟨ρ', s1, s2, s3, s4⟩ := hpost
  have hkl : k < listed.size := by rw [h.size]; omega
  have hset : ∀ j, j ≠ k → (listed.setIfInBounds k true)[j]? = listed[j]? := fun j hj => by rw [set_at hkl, if_neg hj]
  have hsp := h.sp
  have hnums := nodup_filter h.nums fun q => decide (base + k < q.1)
  have hblk : ∀ q ∈ l, blk ρ' q.1 = blk ρ q.1 := by
    intro q hq
    obtain ⟨r, hr, _⟩ := h.conc.rows _ _ (ext_at l (F.m p) h.small h.nums q hq)
    rw [blk_of hr, blk_of (s1.le _ _ hr)]
  have hmap : ((l.filter fun q => decide (base + k < q.1)).map fun q => blk ρ' q.1) = ((l.filter fun q => decide (base + k < q.1)).map fun q => blk ρ q.1) :=
    List.map_congr_left fun q hq => hblk q (List.mem_filter.1 hq).1
  have hobj : ∀ q ∈ l, isObj q.2 = true ∧ chg q.2 = true := by
    intro q hq
    obtain ⟨c, oc, _, _, _, _, _, _, _, _, ⟨v, c8⟩, _⟩ := h.mem q hq
    exact xalO_obj c8
  have hfar : ∀ q ∈ l.filter (fun q => decide (base + k < q.1)), ∀ o', (F.m (k + 1)).tr.get? q.1 = some o' → isObj o' = false := by
    intro q hq o' ho'
    obtain ⟨hq', hlt⟩ := List.mem_filter.1 hq
    obtain ⟨r, hr, _⟩ := h.conc.rows _ _ (ext_at l (F.m p) h.small h.nums q hq')
    cases e : isObj o' with
    | false => rfl
    | true =>
      exact absurd (List.mem_map.2 ⟨q, hq, blk_of hr⟩) (s4.off q.1 o' r ho' e (s1.le _ _ hr)).1
  have hconc : Conc E G ρ' (ext (F.m (k + 1)) (l.filter fun q => decide (base + k < q.1))) w' := by
    refine Conc.joins _ _ (by rw [hmap]; exact s4) (fun q hq => ?_) ?_ hnums
    · obtain ⟨hq', hlt⟩ := List.mem_filter.1 hq
      obtain ⟨r, hr, r2, r3⟩ := h.conc.rows _ _ (ext_at l (F.m p) h.small h.nums q hq')
      refine ⟨r, s1.le _ _ hr, r2.to s1.le fun _ => s1.by'.2 r.1 (List.mem_append_left _ (List.mem_map.2 ⟨q, hq, blk_of hr⟩)), (r3 (hobj q hq').2).1, (r3 (hobj q hq').2).2, h.conc.off _ _ r (ext_at l (F.m p) h.small h.nums q hq') (hobj q hq').1 hr, hfar q hq⟩
    · refine nodup_map hnums fun x hx y hy e => ?_
      obtain ⟨hx, _⟩ := List.mem_filter.1 hx
      obtain ⟨hy, _⟩ := List.mem_filter.1 hy
      rw [hblk x hx, hblk y hy] at e
      have ex := ext_at l (F.m p) h.small h.nums x hx
      have ey := ext_at l (F.m p) h.small h.nums y hy
      obtain ⟨r, hr, _⟩ := h.conc.rows _ _ ex
      obtain ⟨r', hr', _⟩ := h.conc.rows _ _ ey
      rw [blk_of hr, blk_of hr'] at e
      exact h.conc.inj _ _ _ _ r r' ex ey (hobj x hx).1 (hobj y hy).1 hr hr' e
  refine ⟨ρ', ⟨s1.le, s1.low, s1.by'.less fun b hb => List.mem_append_right _ hb⟩, ⟨by simp [h.size], closed_set h.cl hkl hp, fun j hj => by rw [hset j (by omega)]; exact h.low j hj, fun j h1 h2 => by rw [hset j (by omega)]; exact h.high j h1 h2, .inr ⟨k, rfl, hsk, hon, o, ho, hk⟩, hki, fun e h1 h2 h3 => ?_, fun c h1 h2 h3 => ?_, hconc, by have := h.nx; omega, hnums, fun q hq => ?_, fun c oc h1 h2 h3 h4 h5 h6 v ob hob => ?_, fun c h1 h2 h3 => ?_, cur_tmps hd hi h hsk hki ho hu s1.le s3, by rw [act_put_size]; exact h.tsize, ahead_put hd h hki ho s1.le v'⟩⟩
  · by_cases e1 : e = k
    · subst e1; rw [set_at hkl, if_pos rfl]; exact ⟨fun _ => Nat.lt_succ_self _, fun _ => rfl⟩
    · rw [hset e e1, h.effs e h1 h2 h3]
      constructor
      · intro h4; omega
      · intro h4
        rcases Nat.lt_or_ge e p with h5 | h5
        · exact h5
        · exact absurd h3 (hne e h5 (by omega))
  · by_cases e1 : c = k
    · subst e1; rw [set_at hkl, if_pos rfl]
    · rw [hset c e1]
      rcases Nat.lt_or_ge c p with h5 | h5
      · exact h.made c h1 h5 h3
      · exact hmd c h5 (by omega) h3
  · obtain ⟨hq', hlt⟩ := List.mem_filter.1 hq
    have hlt : base + k < q.1 := of_decide_eq_true hlt
    obtain ⟨c, oc, c1, c2, c3, c4, c5, c6, c7, c8, c9, _⟩ := h.mem q hq'
    refine ⟨c, oc, c1, c2, by omega, c4, ?_, c6, c7, c8, c9, hfar q hq⟩
    rw [set_at hkl]; split
    · rfl
    · exact c5
  · have e1 : c ≠ k := by omega
    rw [hset c e1] at h3
    exact List.mem_filter.2 ⟨h.all' c oc (by omega) h2 h3 h4 h5 h6 v ob hob, by simp only [decide_eq_true_eq]; omega⟩
  · by_cases e : c = k
    · subst e; rw [set_at hkl, if_pos rfl] at h3; cases h3
    · rw [hset c e] at h3; rw [s1.low _ (by have := h.nx; omega)]; exact h.free c h1 h2 h3
theorem op_step (hE : EnvOk P E) (hK : CmpOk P E) (hcall : CallOk P E call) (hd : DrawOk N all) (hg : SegOk E call G all base F s i) (hi : i ≤ all.length) (h : Inv E G N all base F s i listed a w ρ p l) {k : Nat} (hsk : s ≤ k) (hki : k < i) (hu : listed[k]? = some false) (hp : Pre all listed k) {n0 : Nat} {ρ0 : Ren} {w0 : World} (hs : Since G n0 ρ0 w0 ρ w) (hn0 : n0 ≤ base) {Q : Exit → Act → World → Prop} {K : Act → World → Prop}
    (hK' : ∀ a' w' ρ' p' l', Inv E G N all base F s i (listed.setIfInBounds k true) a' w' ρ' p' l' → Since G n0 ρ0 w0 ρ' w' → a'.defers = a.defers → K a' w') : wpOp P all.toArray Q k K a w := by
  obtain ⟨o, ho, st⟩ := hg k hsk hki
  obtain ⟨T, hT, hev, hwt⟩ := op_tmps hd hg hi h hsk hki ho hu hp
  rw [st.want] at hwt
  have hw := wanted_ok (all := all) hT hwt
  have hop := (hd.ops o (List.mem_of_getElem? ho)).op
  have hdone : ∀ j, bit (msk all k) j = true → listed[j]? = some true := mask_done hd h.cl (k + 1) k (by omega) (by omega) hp
  have hsp := h.sp
  unfold wpOp
  rw [List.getElem?_toArray, ho]
  simp only
  rw [hw]
  cases hon : F.on k with
  | false =>
    rw [if_neg (by simp)]
    have hv := (st.off hon).1
    exact hK' _ _ _ _ _ (inv_still hd hi h hsk hki ho hu hp (fun e => by rw [e.1] at hon; cases hon) (fun e => by rw [e.1] at hon; cases hon) (by rw [hv]; exact undef_rel ρ)) hs act_put_defers
  | true =>
    rw [if_pos rfl]
    left
    have hkk : ∀ n, kindOf o.op ≠ n → ¬ (F.on k = true ∧ ∃ o, all[k]? = some o ∧ kindOf o.op = n) := fun n hn ⟨_, o', h1, h2⟩ => by rw [ho] at h1; cases h1; exact hn h2
    rcases kind_cases o.op with hk | hk | hk | hk
    · obtain ⟨⟨mm, hx⟩, _⟩ := st.pure hon hk
      have hx2 := xop0_any hk hx (F.m p)
      rw [xop_congr hev] at hx2
      obtain ⟨_, v', e, r⟩ := xop_ok hE hK (conc_snap h) hT hop hx2
      unfold Oper.wp
      rw [e]
      exact hK' _ _ _ _ _ (inv_still hd hi h hsk hki ho hu hp (hkk 3 (by omega)) (hkk 2 (by omega)) r) hs act_put_defers
    · have hsame : ∃ mm, xop o.op E (F.T k) (F.m p) = some (F.v k, mm) := by
        rcases Nat.lt_or_ge k p with hlt | hge
        · rcases h.snap with e | ⟨e, e1, e2, e3⟩
          · omega
          · have hek : e ≠ k := fun x => hkk 3 (by omega) (x ▸ e3)
            have hei : e < i := by have := h.pi; omega
            obtain ⟨oe, hoe, ste⟩ := hg e e2 hei
            have e3' := e3
            obtain ⟨_, oe', hoe', hke⟩ := e3'
            rw [hoe] at hoe'; cases hoe'
            have hde := (h.effs e e2 hei ⟨e3.1, oe, hoe, hke⟩).2 (by omega)
            rcases (ste.eff e3.1 hke).2.2.2.2 k o hsk (by omega) hon ho hk with hb | hb
            · have := mask_done hd h.cl (e + 1) e (by omega) (by omega) (h.cl e hde) _ hb
              rw [hu] at this; cases this
            · rw [e1]; exact same_some hb
        · refine (st.read hon hk).2 p h.snap hge fun e h1 h2 h3 => ?_
          cases hb : bit (msk all k) e with
          | false => rfl
          | true =>
            have := (h.effs e (by omega) (by omega) h3).1 (hdone _ hb)
            omega
      obtain ⟨mm, hx⟩ := hsame
      rw [xop_congr hev] at hx
      obtain ⟨_, v', e, r⟩ := xop_ok hE hK (conc_snap h) hT hop hx
      unfold Oper.wp
      rw [e]
      exact hK' _ _ _ _ _ (inv_still hd hi h hsk hki ho hu hp (hkk 3 (by omega)) (hkk 2 (by omega)) r) hs act_put_defers
    · obtain ⟨hlm, ob', hx, _⟩ := st.made hon hk
      obtain ⟨v', ρ', w', e, k1, k2, k3, k4⟩ := inv_made hE hd hi h hsk hki ho hu hp hon hk hlm hx hT hev
      unfold Oper.wp
      rw [e]
      exact hK' _ _ _ _ _ k4 ⟨Ren.le_trans hs.le k1, fun j hj => (k2 j (by omega)).trans (hs.low j hj), HeldBy.trans hs.by' k3⟩ act_put_defers
    · obtain ⟨hx, hf, _⟩ := st.eff hon hk
      obtain ⟨hpk, hne, hmd, hnx, hcon⟩ := eff_ahead hd hg hi h hsk hki ho hu hp hon hk
      rw [xeff_congr hev] at hx
      refine xeff_ok hE hcall hcon hT hop hx (fun q hq => ?_) fun q hq v' w' hpost => ?_
      · simp only [List.mem_singleton] at hq
        subst hq; exact hf
      · simp only [List.mem_singleton] at hq
        subst hq
        obtain ⟨ρ', s1, s2⟩ := inv_eff hd hg hi h hsk hki ho hu hp hon hk hpost
        exact hK' _ _ _ _ _ s2 (hs.trans s1 (by have := h.nx; omega)) act_put_defers
end
end Go.Proofs.YtgmdbfackbdnlaaGreatDoor

/- The executor: regions whose order is drawn: between barriers. -/
namespace Go.Proofs.YtgmdbfackbdnlaaGreatDoor
open Go.RowKit Bl Th Go.Sx
set_option maxRecDepth 10000

/-- All ahead of s is done, and of the rest some that hang on nothing: what they made is l. -/
structure Start (E : Env) (G : Gh) (N : Nat) (all : List Oper) (base s : Nat) (T : Tr Value) (m : Mem) (l : List (Nat × SObj)) (listed : Array Bool) (a : Act) (w : World) (ρ : Ren) : Prop where
  size : listed.size = all.length
  cl : Cl all listed
  low : ∀ k, k < s → listed[k]? = some true
  high : ∀ k, s ≤ k → k < all.length → listed[k]? = some false ∨ Free all k
  conc : Conc E G ρ (ext m l) w
  nx : base + all.length ≤ m.nx
  nums : (l.map (·.1)).Nodup
  mem : ∀ q ∈ l, ∃ c o, q.1 = base + c ∧ base + c < lim ∧ s ≤ c ∧ listed[c]? = some true ∧ all[c]? = some o ∧ freeAl o = true ∧ (∃ v, xalO o.op E .nil (base + c) = some (v, q.2)) ∧ ∀ o', m.tr.get? q.1 = some o' → isObj o' = false
  all' : ∀ c o, s ≤ c → listed[c]? = some true → all[c]? = some o → ∀ v ob, xalO o.op E .nil (base + c) = some (v, ob) → (base + c, ob) ∈ l
  free : ∀ c, s ≤ c → c < all.length → listed[c]? = some false → ρ (base + c) = none
  tmps : TmpsX all listed s ρ T a.tmps
  tsize : a.tmps.size = N
  ahead : ∀ c o d, s ≤ c → listed[c]? = some true → all[c]? = some o → o.dst = some d → ∃ v', a.tmps[d]? = some v' ∧ Rel ρ (pv (base + c)) v'

section
variable {P : Program} {E : Env} {call : CallF} {G : Gh} {N : Nat} {all : List Oper} {base : Nat} {F : Trc} {s i : Nat} {listed : Array Bool} {a : Act} {w : World} {ρ : Ren} {p : Nat} {l : List (Nat × SObj)}
theorem Start.isFree {T : Tr Value} {m : Mem} (h : Start E G N all base s T m l listed a w ρ) {c : Nat} {o : Oper} (h1 : s ≤ c) (h2 : listed[c]? = some true) (h3 : all[c]? = some o) : freeAl o = true := by
  rcases h.high c h1 (List.getElem?_eq_some_iff.1 h3).1 with x | ⟨o', x, y⟩
  · rw [h2] at x; cases x
  · rw [h3] at x; cases x; exact y
theorem Inv.isFree (h : Inv E G N all base F s i listed a w ρ p l) {c : Nat} {o : Oper} (h1 : i ≤ c) (h2 : listed[c]? = some true) (h3 : all[c]? = some o) : freeAl o = true := by
  rcases h.high c h1 (List.getElem?_eq_some_iff.1 h3).1 with x | ⟨o', x, y⟩
  · rw [h2] at x; cases x
  · rw [h3] at x; cases x; exact y
theorem free_on (hg : SegOk E call G all base F s i) {c : Nat} {o : Oper} (h1 : s ≤ c) (h2 : c < i) (ho : all[c]? = some o) (hf : freeAl o = true) : F.on c = true := by
  have := (hg.at h1 h2 ho).want
  rw [(free_some hf).2.2] at this
  exact (Option.some.inj (show some true = some (F.on c) from this)).symm
theorem Start.inv (hd : DrawOk N all) (hg : SegOk E call G all base F s i) (h : Start E G N all base s (F.T s) (F.m s) l listed a w ρ) (hsi : s ≤ i) (hi : i ≤ all.length) : Inv E G N all base F s i listed a w ρ s l := by
  have hcur : ∀ n, s + n ≤ i → TmpsX all listed (s + n) ρ (cur F all listed s n) a.tmps := by
    intro n
    induction n with
    | zero => intro _; exact h.tmps
    | succ n ih =>
      intro hn
      have ih := ih (by omega)
      obtain ⟨o, ho, st⟩ := hg (s + n) (by omega) (by omega)
      intro t v hv
      unfold cur at hv
      rw [bind_dst ho] at hv
      split at hv
      · rename_i hl
        have hf := h.isFree (by omega) hl ho
        have hon := free_on hg (by omega) (by omega) ho hf
        obtain ⟨_, ob, k1, _⟩ := st.made hon (free_kind hf)
        rw [put_get (dst_le hd ho) t] at hv
        split at hv
        · rename_i e
          cases hv
          obtain ⟨u, e2, r⟩ := h.ahead (s + n) o t (by omega) hl ho e
          exact .inr ⟨u, e2, by rw [free_val hf k1]; exact r⟩
        · rename_i hne
          rcases ih t v hv with ⟨c, oc, c1, c2, c3, c4⟩ | q
          · by_cases e : c = s + n
            · subst e; rw [ho] at c3; cases c3; exact absurd c4 hne
            · exact .inl ⟨c, oc, by omega, c2, c3, c4⟩
          · exact .inr q
      · rename_i hl
        rcases ih t v hv with ⟨c, oc, c1, c2, c3, c4⟩ | q
        · by_cases e : c = s + n
          · subst e; exact absurd c2 hl
          · exact .inl ⟨c, oc, by omega, c2, c3, c4⟩
        · exact .inr q
  have hnoE : ∀ e, s ≤ e → Eff all F e → listed[e]? ≠ some true := fun e h1 h2 h3 => by
    obtain ⟨_, o, ho, hk⟩ := h2
    have := free_kind (h.isFree h1 h3 ho)
    omega
  refine ⟨h.size, h.cl, h.low, fun k h1 h2 => h.high k (by omega) h2, .inl rfl, hsi, fun e h1 h2 h3 => ⟨fun e1 => absurd e1 (hnoE e h1 h3), fun h4 => by omega⟩, fun c h1 h2 => (by omega), h.conc, h.nx, h.nums, fun q hq => ?_, fun c o h1 h2 h3 h4 h5 h6 v ob hob => ?_, fun c h1 h2 h3 => h.free c h1 h2 h3, ?_, h.tsize, fun c o d h1 => h.ahead c o d (by omega)⟩
  · obtain ⟨c, o, h1, h2, h3, h4, h5, h6, ⟨v, h7⟩, h8⟩ := h.mem q hq
    refine ⟨c, o, h1, h2, h3, .inr ⟨o, h5, h6⟩, h4, fun hci => free_on hg h3 hci h5 h6, h5, free_kind h6, ⟨v, by rw [free_xal h6 _ .nil]; exact h7⟩, h8⟩
  · have hf := h.isFree h1 h3 h5
    exact h.all' c o h1 h3 h5 v ob (by rw [free_xal hf .nil (F.T c)]; exact hob)
  · have := hcur (i - s) (by omega)
    rwa [show s + (i - s) = i by omega] at this
/-- All is done. -/
theorem Inv.start (hg : SegOk E call G all base F s i) (h : Inv E G N all base F s i listed a w ρ p l) (hsi : s ≤ i) (hall : ∀ k, s ≤ k → k < i → listed[k]? = some true) : Start E G N all base i (F.T i) (F.m i) (l.filter fun q => decide (base + i ≤ q.1)) listed a w ρ := by
  have hsp := h.sp
  have hpi := h.pi
  have hne : ∀ e, p ≤ e → e < p + (i - p) → ¬ Eff all F e := by
    intro e h1 h2 h3
    have := (h.effs e (by omega) (by omega) h3).1 (hall e (by omega) (by omega))
    omega
  obtain ⟨b1, b2⟩ := between hg hsp (i - p) (by omega) hne
  rw [show p + (i - p) = i by omega] at b1 b2
  have hnums := nodup_filter h.nums fun q => decide (base + i ≤ q.1)
  have hsm : ∀ q ∈ l.filter (fun q => decide (base + i ≤ q.1)), q.1 ≤ 1048574 := fun q hq => h.small q (List.mem_filter.1 hq).1
  have hfar : ∀ q ∈ l.filter (fun q => decide (base + i ≤ q.1)), ∀ o', (F.m i).tr.get? q.1 = some o' → isObj o' = false := by
    intro q hq o' ho'
    obtain ⟨hq', hlt⟩ := List.mem_filter.1 hq
    have hlt : base + i ≤ q.1 := of_decide_eq_true hlt
    obtain ⟨_, _, _, _, _, _, _, _, _, _, _, hno⟩ := h.mem q hq'
    rcases b2 q.1 with ⟨c', oc', v', ob, d1, d2, d3, d4, d5, d6, d7, d8⟩ | ⟨d1, d2⟩
    · omega
    · rw [d1] at ho'; exact hno o' ho'
  refine ⟨h.size, h.cl, fun k hk => ?_, h.high, h.conc.alike (((ext_alike l _).symm.trans b1).trans (ext_alike _ _)) (fun x ox hx => ?_), by rw [b1.nx]; exact h.nx, hnums, fun q hq => ?_, fun c o h1 h2 h3 v ob hob => ?_, fun c h1 h2 h3 => h.free c (by omega) h2 h3, ?_, h.tsize, h.ahead⟩
  · rcases Nat.lt_or_ge k s with e | e
    · exact h.low k e
    · exact hall k e hk
  · by_cases hm' : x ∈ (l.filter fun q => decide (base + i ≤ q.1)).map (·.1)
    · obtain ⟨q, hq, rfl⟩ := List.mem_map.1 hm'
      have he' := ext_at _ (F.m i) hsm hnums q hq
      rw [hx] at he'
      have hq' := (List.mem_filter.1 hq).1
      have he := ext_at l (F.m p) h.small h.nums q hq'
      obtain ⟨_, _, _, _, _, _, _, _, _, _, ⟨v, c8⟩, _⟩ := h.mem q hq'
      cases he'
      exact .inl ⟨(xalO_obj c8).1, he⟩
    · rw [ext_far _ (F.m i) x hsm hm'] at hx
      rcases b2 x with ⟨c, oc, v, ob, c1, c2, c3, c4, c5, c6, c7, c8⟩ | ⟨c1, c2⟩
      · rw [hx] at c8; cases c8
        have hin := h.all' c oc c1 (.inl (by omega)) (hall c (by omega) (by omega)) (fun _ => c3) c4 c5 v ox c6
        have he := ext_at l (F.m p) h.small h.nums _ hin
        exact .inl ⟨(xalO_obj c6).1, by rw [c7]; exact he⟩
      · rw [c1] at hx
        by_cases hm : x ∈ l.map (·.1)
        · obtain ⟨q, hq, rfl⟩ := List.mem_map.1 hm
          obtain ⟨c, oc, _, _, _, _, _, _, _, _, _, hno⟩ := h.mem q hq
          obtain ⟨r, hr, _⟩ := h.conc.rows _ _ (ext_at l (F.m p) h.small h.nums q hq)
          exact .inr ⟨hno ox hx, r, hr⟩
        · have he := ext_far l (F.m p) x h.small hm
          rw [hx] at he
          cases hox : isObj ox with
          | true => exact .inl ⟨rfl, he⟩
          | false =>
            obtain ⟨r, hr, _⟩ := h.conc.rows _ _ he
            exact .inr ⟨rfl, r, hr⟩
  · obtain ⟨hq', hlt⟩ := List.mem_filter.1 hq
    have hlt : base + i ≤ q.1 := of_decide_eq_true hlt
    obtain ⟨c, oc, c1, c2, c3, c4, c5, c6, c7, c8, ⟨v, c9⟩, _⟩ := h.mem q hq'
    have hf := h.isFree (by omega) c5 c7
    exact ⟨c, oc, c1, c2, by omega, c5, c7, hf, ⟨v, by rw [free_xal hf .nil (F.T c)]; exact c9⟩, hfar q hq⟩
  · have hf := h.isFree h1 h2 h3
    refine List.mem_filter.2 ⟨h.all' c o (by omega) (.inr ⟨o, h3, hf⟩) h2 (fun h => absurd h (by omega)) h3 (free_kind hf) v ob (by rw [free_xal hf _ .nil]; exact hob), ?_⟩
    simp only [decide_eq_true_eq]
    omega
  · have := cur_all (listed := listed) hg (i - s) (by omega) fun k h1 h2 => hall k h1 (by omega)
    rw [show s + (i - s) = i by omega] at this
    rw [← this]; exact h.tmps
theorem barrier_some {ms : List Nat} {i : Nat} (h : barrier ms i = true) : ms.getD i 0 = 2 ^ i - 1 ∧ ∀ k, i < k → k < ms.length → bit (ms.getD k 0) i = true := by
  have h : (Nat.beq (ms.getD i 0) (Nat.sub (Nat.shiftLeft 1 i) 1) && List.rec (motive := fun _ => Bool) true (fun m _ ih => bit m i && ih) (ms.drop (i + 1))) = true := h
  rw [Bool.and_eq_true] at h
  refine ⟨?_, fun k h1 h2 => ?_⟩
  · have := Nat.eq_of_beq_eq_true h.1
    rw [this]
    show (1 <<< i) - 1 = _
    rw [Nat.one_shiftLeft]
  · have key : ∀ (r : List Nat), (List.rec (motive := fun _ => Bool) true (fun m _ ih => bit m i && ih) r) = true → ∀ x ∈ r, bit x i = true := by
      intro r
      induction r with
      | nil => intro _ x hx; cases hx
      | cons y r ih =>
        intro h x hx
        have h : (bit y i && List.rec (motive := fun _ => Bool) true (fun m _ ih => bit m i && ih) r) = true := h
        rw [Bool.and_eq_true] at h
        rcases List.mem_cons.1 hx with e | e
        · rw [e]; exact h.1
        · exact ih h.2 x e
    refine key _ h.2 _ ?_
    rw [List.getD_eq_getElem?_getD, List.getElem?_eq_getElem h2]
    simp only [Option.getD_some]
    rw [List.mem_iff_getElem?]
    refine ⟨k - (i + 1), ?_⟩
    rw [List.getElem?_drop, show i + 1 + (k - (i + 1)) = k by omega, List.getElem?_eq_getElem h2]
theorem masks_length : (masks all []).length = all.length := by
  obtain ⟨⟨r, h1, h2⟩, _⟩ := masks_spec all []
  rw [h1]; simpa using h2
theorem pow_bit {i j : Nat} (h : j < i) : bit (2 ^ i - 1) j = true := by
  rw [bit_test, Nat.testBit_two_pow_sub_one]; exact decide_eq_true h
/-- What can be made, though its turn in the list is still to come. -/
def Ahead (E : Env) (all : List Oper) (base k : Nat) : Prop := ∃ o v ob, all[k]? = some o ∧ freeAl o = true ∧ base + k < lim ∧ xalO o.op E .nil (base + k) = some (v, ob)
/-- What is but moved, hanging on nothing: it may as well be done first. -/
def Late (all : List Oper) (k : Nat) : Prop := ∃ o, all[k]? = some o ∧ lateB all k o = true
theorem anyB_of {α : Type} {f : α → Bool} : ∀ {l : List α}, anyB f l = false → ∀ x ∈ l, f x = false
  | y :: l, h, x, hx => by
    have h : bif' (f y) true (anyB f l) = false := h
    rw [bif_eq] at h
    split at h
    · cases h
    · rename_i hy
      rcases List.mem_cons.1 hx with e | e
      · rw [e]; simpa using hy
      · exact anyB_of h x e
theorem anyB_some {α : Type} {f : α → Bool} : ∀ {l : List α}, anyB f l = true → ∃ x ∈ l, f x = true
  | [], h => by cases h
  | y :: l, h => by
    have h : bif' (f y) true (anyB f l) = true := h
    rw [bif_eq] at h
    split at h
    · rename_i hy
      exact ⟨y, List.mem_cons_self .., hy⟩
    · obtain ⟨x, hx, e⟩ := anyB_some h
      exact ⟨x, List.mem_cons_of_mem _ hx, e⟩
theorem allAt_all {f : Nat → Oper → Bool} : ∀ {l : List Oper} {j : Nat}, allAt f l j = true → ∀ k o, l[k]? = some o → f (j + k) o = true
  | y :: l, j, h, k, o, hk => by
    have h : bif' (f j y) (allAt f l (j + 1)) false = true := h
    rw [bif_eq] at h
    split at h
    · rename_i hy
      cases k with
      | zero => simp only [List.getElem?_cons_zero, Option.some.injEq] at hk; subst hk; exact hy
      | succ k =>
        have := allAt_all h k o (by simpa using hk)
        rwa [show j + 1 + k = j + (k + 1) by omega] at this
    · cases h
  | [], _, _, _, _, hk => by simp at hk
theorem late_some {k : Nat} {o : Oper} (h : lateB all k o = true) : ∃ t d, o.op = .move (.tmp t) ∧ o.dst = some d ∧ o.after.toList = [] ∧ o.guard = none ∧ allAt (apartB all k d t) all 0 = true := by
  unfold lateB at h
  split at h
  · rename_i t d e1 e2
    simp only [Bool.and_eq_true] at h
    obtain ⟨⟨h1, h2⟩, h3⟩ := h
    refine ⟨t, d, e1, e2, ?_, ?_, h3⟩
    · split at h1
      · assumption
      · cases h1
    · cases hg : o.guard with
      | none => rfl
      | some q => rw [hg] at h2; cases h2
  · cases h
theorem dst_ne {d : Nat} {x : Option Nat} (h : dstB d x = false) : x ≠ some d := by
  intro e
  subst e
  have : Nat.beq d d = false := h
  rw [Nat.beq_refl] at this
  cases this
theorem late_apart {k j : Nat} {o oj : Oper} (h : lateB all k o = true) (hj : all[j]? = some oj) (hjk : j ≠ k) (hno : ∀ e ∈ oj.after, Region.binds .any e = true → e.on ≠ k) : o.apart all.toArray oj = true := by
  obtain ⟨t, d, e1, e2, e3, e4, h5⟩ := late_some h
  have h6 := allAt_all h5 j oj hj
  rw [Nat.zero_add] at h6
  have h6 : bif' (Nat.beq j k) true (bif' (anyB (fun e => edgeB e && Nat.beq e.on k) oj.after.toList) true (!(looksB all d oj) && !(dstB d oj.dst) && !(dstB t oj.dst))) = true := h6
  rw [bif_eq, if_neg (fun e => hjk (Nat.eq_of_beq_eq_true e)), bif_eq] at h6
  split at h6
  · rename_i ha
    obtain ⟨e, he, hb⟩ := anyB_some ha
    rw [Bool.and_eq_true] at hb
    exact absurd (Nat.eq_of_beq_eq_true hb.2) (hno e (by simpa using he) (by rw [binds_any]; exact hb.1))
  · simp only [Bool.and_eq_true, Bool.not_eq_true'] at h6
    obtain ⟨⟨h7, h8⟩, h9⟩ := h6
    have h8 := dst_ne h8
    have h9 := dst_ne h9
    have h7' : bif' (anyB (tmpB d) oj.op.operands.toList) true (match oj.guard with | some (g, _) => dstB d ((all[g]?).bind (·.dst)) | none => false) = false := h7
    rw [bif_eq] at h7'
    split at h7'
    · cases h7'
    · rename_i ho
      have ho := anyB_of (by simpa using ho)
      have hlook : d ∉ oj.looksAt all.toArray := by
        unfold Oper.looksAt
        intro hm
        rcases List.mem_append.1 hm with q | q
        · obtain ⟨x, hx, hx2⟩ := List.mem_filterMap.1 q
          have := ho x hx
          cases x with
          | tmp t' =>
            simp only [Option.some.injEq] at hx2
            subst hx2
            have : Nat.beq t' t' = false := this
            rw [Nat.beq_refl] at this
            cases this
          | _ => simp at hx2
        · cases hg : oj.guard with
          | none => rw [hg] at q; simp at q
          | some gw =>
            obtain ⟨g, want⟩ := gw
            rw [hg] at q h7'
            simp only [List.getElem?_toArray, Option.mem_toList] at q
            exact dst_ne h7' q
      have hlook2 : ∀ d', oj.dst = some d' → d' ∉ o.looksAt all.toArray := by
        intro d' hd' hm
        unfold Oper.looksAt at hm
        rw [e1, e4] at hm
        simp [Op.operands] at hm
        subst hm
        exact h9 hd'
      unfold Oper.apart
      rw [e2]
      simp only [Bool.and_eq_true, Bool.not_eq_true', bne_iff_ne, ne_eq]
      refine ⟨⟨?_, h8⟩, ?_⟩
      · simpa using hlook
      · cases hd' : oj.dst with
        | none => rfl
        | some d' => simpa using hlook2 d' hd'
/-- A barrier, but for what hangs on nothing. -/
def Bar (E : Env) (all : List Oper) (base i : Nat) : Prop :=
  i = all.length ∨ ((∀ k, k < i → bit (msk all i) k = true ∨ Late all k) ∧ ¬ Free all i ∧ ∀ k, i < k → k < all.length → bit (msk all k) i = true ∨ Ahead E all base k)
/-- What is ready, when not all ahead of a barrier is done. -/
theorem ready_in (hd : DrawOk N all) (hbar : Bar E all base i) (hs : listed.size = all.length) (hc : Cl all listed) (hlow : ∀ k, k < s → listed[k]? = some true) (hhigh : ∀ k, i ≤ k → k < all.length → listed[k]? = some false ∨ Free all k) (hlate : ∀ k, k < i → Late all k → listed[k]? = some true) {k0 : Nat} (h0 : k0 < i) (hu0 : listed[k0]? = some false) {k : Nat} (hk : k ∈ Region.ready .any all.toArray listed) : s ≤ k ∧ listed[k]? = some false ∧ Pre all listed k ∧ (k < i ∨ (i ≤ k ∧ Ahead E all base k)) := by
  obtain ⟨h1, h2, h3⟩ := (mem_ready hs).1 hk
  refine ⟨?_, h2, h3, ?_⟩
  · rcases Nat.lt_or_ge k s with e | e
    · rw [hlow k e] at h2; cases h2
    · exact e
  · rcases Nat.lt_or_ge k i with e | e
    · exact .inl e
    · rcases hbar with hb | ⟨b1, b0, b2⟩
      · omega
      · by_cases hki : k = i
        · exfalso
          subst hki
          rcases b1 k0 h0 with hb | hb
          · have := mask_done hd hc (k + 1) k (by omega) h1 h3 k0 hb
            rw [hu0] at this; cases this
          · rw [hlate k0 h0 hb] at hu0; cases hu0
        · rcases b2 k (by omega) h1 with hb | ha
          · exfalso
            have := mask_done hd hc (k + 1) k (by omega) h1 h3 i hb
            rcases hhigh i (Nat.le_refl _) (by omega) with x | x
            · rw [x] at this; cases this
            · exact b0 x
          · exact .inr ⟨e, ha⟩
theorem op_free (hE : EnvOk P E) (hd : DrawOk N all) (h : Inv E G N all base F s i listed a w ρ p l) {k : Nat} (hik : i ≤ k) (ha : Ahead E all base k) (hu : listed[k]? = some false) (hp : Pre all listed k) {n0 : Nat} {ρ0 : Ren} {w0 : World} (hs : Since G n0 ρ0 w0 ρ w) (hn0 : n0 ≤ base) {Q : Exit → Act → World → Prop} {K : Act → World → Prop}
    (hK' : ∀ a' w' ρ' p' l', Inv E G N all base F s i (listed.setIfInBounds k true) a' w' ρ' p' l' → Since G n0 ρ0 w0 ρ' w' → a'.defers = a.defers → K a' w') : wpOp P all.toArray Q k K a w := by
  obtain ⟨o, v, ob', ho, hf, hlm, hx⟩ := ha
  obtain ⟨v', ρ', w', e, k1, k2, k3, k4⟩ := inv_free hE hd h hik ho hf hu hp hlm hx
  unfold wpOp
  rw [List.getElem?_toArray, ho]
  simp only
  have hw : Region.wanted o (yielded all.toArray a.tmps) = true := by
    unfold Region.wanted
    rw [(free_some hf).2.2]
  rw [if_pos hw]
  left
  unfold Oper.wp
  rw [e]
  exact hK' _ _ _ _ _ k4 ⟨Ren.le_trans hs.le k1, fun j hj => (k2 j (by omega)).trans (hs.low j hj), HeldBy.trans hs.by' k3⟩ act_put_defers
theorem all_or {s i : Nat} (hs : listed.size = all.length) (hi : i ≤ all.length) : (∀ k, s ≤ k → k < i → listed[k]? = some true) ∨ ∃ k, s ≤ k ∧ k < i ∧ listed[k]? = some false := by
  apply Classical.byContradiction
  intro h
  rw [not_or] at h
  apply h.1
  intro k h1 h2
  rcases done_or hs (show k < all.length by omega) with e | e
  · exact e
  · exact absurd ⟨k, h1, h2, e⟩ h.2
/-- One of those may as well be done first. -/
theorem late_first (hd : DrawOk N all) (hs : listed.size = all.length) {k : Nat} {o : Oper} (ho : all[k]? = some o) (hl : lateB all k o = true) (hu : listed[k]? = some false) {Q : Exit → Act → World → Prop} (hQp : ∀ c a w, ¬ Q (.panic c) a w) {fuel : Nat}
    (h : wpAny P .any all.toArray Q fuel (listed.setIfInBounds k true) (a.put o.dst (a.eval (match o.op with | .move x => x | _ => .const undef))) w) : wpAny P .any all.toArray Q (fuel + 1) listed a w := by
  obtain ⟨t, d, e1, e2, e3, e4, _⟩ := late_some hl
  rw [e1] at h
  have hk : k < all.length := (List.getElem?_eq_some_iff.1 ho).1
  refine wpAny_first (oi := o) (v := a.eval (.tmp t)) (by rw [List.getElem?_toArray]; exact ho) (fun j oj cs b hj => hd.sel oj (List.mem_of_getElem? (by rw [List.getElem?_toArray] at hj; exact hj)) cs b) (fun c a w hq => absurd hq (hQp _ _ _)) fuel listed a w (fun j oj hj hjk _ hno => late_apart hl (by rw [List.getElem?_toArray] at hj; exact hj) hjk hno) ((mem_ready hs).2 ⟨hk, hu, fun o' ho' e he => ?_⟩) (.inl ⟨?_, fun w' => ?_⟩) h
  · rw [ho] at ho'; cases ho'
    rw [e3] at he
    cases he
  · unfold Region.wanted
    rw [e4]
  · unfold execOp
    rw [e1]
    rfl
theorem seg_run (hE : EnvOk P E) (hK : CmpOk P E) (hcall : CallOk P E call) (hd : DrawOk N all) (hg : SegOk E call G all base F s i) (hsi : s ≤ i) (hi : i ≤ all.length) (hbar : Bar E all base i) {n0 : Nat} {ρ0 : Ren} {w0 : World} (hn0 : n0 ≤ base) {d : List Deferred} {Q : Exit → Act → World → Prop} (hQp : ∀ c a w, ¬ Q (.panic c) a w)
    (hCont : ∀ fuel listed a w ρ l, Start E G N all base i (F.T i) (F.m i) l listed a w ρ → Since G n0 ρ0 w0 ρ w → a.defers = d → left listed = fuel → wpAny P .any all.toArray Q fuel listed a w) :
    ∀ fuel listed a w ρ p l, Inv E G N all base F s i listed a w ρ p l → Since G n0 ρ0 w0 ρ w → a.defers = d → left listed = fuel → wpAny P .any all.toArray Q fuel listed a w
  | fuel, listed, a, w, ρ, p, l, h, hs, ha, hf => by
    rcases all_or (s := s) h.size hi with hall | ⟨k0, h1, h2, h3⟩
    · exact hCont fuel listed a w ρ _ (h.start hg hsi hall) hs ha hf
    · cases fuel with
      | zero => have := left_pos h3; omega
      | succ fuel =>
        by_cases hla : ∃ k, k < i ∧ Late all k ∧ listed[k]? = some false
        · obtain ⟨k, k2, ⟨o, ho, hl⟩, k3⟩ := hla
          have k1 : s ≤ k := by
            rcases Nat.lt_or_ge k s with e | e
            · rw [h.low k e] at k3; cases k3
            · exact e
          obtain ⟨t, d', e1, e2, e3, e4, _⟩ := late_some hl
          have k4 : Pre all listed k := fun o' ho' e he => by rw [ho] at ho'; cases ho'; rw [e3] at he; cases he
          refine late_first hd h.size ho hl k3 hQp ?_
          rw [e1]
          obtain ⟨o', ho', st⟩ := hg k k1 k2
          rw [ho] at ho'; cases ho'
          have hon : F.on k = true := by
            have hw := st.want
            unfold wantedX at hw
            rw [e4] at hw
            exact (Option.some.inj hw).symm
          have hk0 : kindOf o.op = 0 := by rw [e1]; rfl
          have hkk : ∀ n, kindOf o.op ≠ n → ¬ (F.on k = true ∧ ∃ o, all[k]? = some o ∧ kindOf o.op = n) := fun n hn ⟨_, o', h1, h2⟩ => by rw [ho] at h1; cases h1; exact hn h2
          obtain ⟨T, hT, hev, _⟩ := op_tmps hd hg hi h k1 k2 ho k3 k4
          have hop := (hd.ops o (List.mem_of_getElem? ho)).op
          obtain ⟨⟨mm, hx⟩, _⟩ := st.pure hon hk0
          have hx2 := xop0_any hk0 hx (F.m p)
          rw [xop_congr hev] at hx2
          obtain ⟨_, v', e, r⟩ := xop_ok hE hK (conc_snap h) hT hop hx2
          have hv' : v' = a.eval (.tmp t) := by
            unfold execOp at e
            rw [e1] at e
            have e : (Result.ok (Next.value (a.eval (.tmp t))) w) = .ok (.value v') w := e
            cases e
            rfl
          subst hv'
          exact seg_run hE hK hcall hd hg hsi hi hbar hn0 hQp hCont fuel _ _ w ρ p l (inv_still hd hi h k1 k2 ho k3 k4 (hkk 3 (by omega)) (hkk 2 (by omega)) r) hs (act_put_defers.trans ha) (by have := left_set k3; omega)
        have hlate : ∀ k, k < i → Late all k → listed[k]? = some true := by
          intro k hki hl
          rcases done_or h.size (show k < all.length by omega) with e | e
          · exact e
          · exact absurd ⟨k, hki, hl, e⟩ hla
        refine ⟨fun e => absurd e (some_ready hd h.size (k0 + 1) k0 (by omega) (by omega) h3), fun k hk => ?_⟩
        obtain ⟨k1, k3, k4, k2⟩ := ready_in hd hbar h.size h.cl h.low h.high hlate h2 h3 hk
        rcases k2 with k2 | ⟨k2, k5⟩
        · refine op_step hE hK hcall hd hg hi h k1 k2 k3 k4 hs hn0 fun a' w' ρ' p' l' h' hs' ha' => ?_
          exact seg_run hE hK hcall hd hg hsi hi hbar hn0 hQp hCont fuel _ a' w' ρ' p' l' h' hs' (ha'.trans ha) (by have := left_set k3; omega)
        · refine op_free hE hd h k2 k5 k3 k4 hs hn0 fun a' w' ρ' p' l' h' hs' ha' => ?_
          exact seg_run hE hK hcall hd hg hsi hi hbar hn0 hQp hCont fuel _ a' w' ρ' p' l' h' hs' (ha'.trans ha) (by have := left_set k3; omega)

/-- At a barrier: what hangs on nothing may still come first. -/
theorem at_barrier (hE : EnvOk P E) (hd : DrawOk N all) {T : Tr Value} {m : Mem} (hbar : Bar E all base i) (hin : i < all.length) {n0 : Nat} {ρ0 : Ren} {w0 : World} (hn0 : n0 ≤ base) {d : List Deferred} {Q : Exit → Act → World → Prop}
    (hwp : ∀ fuel listed a w ρ l, Start E G N all base i T m l listed a w ρ → listed[i]? = some false → Since G n0 ρ0 w0 ρ w → a.defers = d → left listed = fuel + 1 → wpOp P all.toArray Q i (wpAny P .any all.toArray Q fuel (listed.setIfInBounds i true)) a w) :
    ∀ fuel listed a w ρ l, Start E G N all base i T m l listed a w ρ → Since G n0 ρ0 w0 ρ w → a.defers = d → left listed = fuel → wpAny P .any all.toArray Q fuel listed a w
  | fuel, listed, a, w, ρ, l, h, hs, ha, hf => by
    obtain ⟨_, b0, b2⟩ : (∀ k, k < i → bit (msk all i) k = true ∨ Late all k) ∧ ¬ Free all i ∧ ∀ k, i < k → k < all.length → bit (msk all k) i = true ∨ Ahead E all base k := by
      rcases hbar with hb | hb
      · omega
      · exact hb
    have hu : listed[i]? = some false := by
      rcases h.high i (Nat.le_refl _) hin with x | x
      · exact x
      · exact absurd x b0
    cases fuel with
    | zero => have := left_pos hu; omega
    | succ fuel =>
      have hr := first_ready hd h.size hin h.low hu
      refine ⟨fun e => (by rw [e] at hr; cases hr), fun k hk => ?_⟩
      obtain ⟨h1, h2, h3⟩ := (mem_ready h.size).1 hk
      rcases Nat.lt_trichotomy k i with e | e | e
      · rw [h.low k e] at h2; cases h2
      · subst e
        exact hwp fuel listed a w ρ l h hu hs ha hf
      · rcases b2 k e h1 with hb | hah
        · have := mask_done hd h.cl (k + 1) k (by omega) h1 h3 i hb
          rw [hu] at this; cases this
        · have hg0 : SegOk E (fun _ _ _ => R.no [] : CallF) G all base ⟨fun _ => T, fun _ => m, fun _ => undef, fun _ => false⟩ i i := fun k a1 a2 => by omega
          have hinv := Start.inv (call := (fun _ _ _ => R.no [] : CallF)) (F := ⟨fun _ => T, fun _ => m, fun _ => undef, fun _ => false⟩) hd hg0 h (Nat.le_refl i) (by omega)
          refine op_free hE hd hinv (Nat.le_of_lt e) hah h2 h3 hs hn0 fun a' w' ρ' p' l' h' hs' ha' => ?_
          exact at_barrier hE hd hbar hin hn0 hwp fuel _ a' w' ρ' _ (h'.start hg0 (Nat.le_refl i) fun k a1 a2 => by omega) hs' (ha'.trans ha) (by have := left_set h2; omega)
/-- Ahead of an effect: what was made ahead is put by. -/
theorem start_split {T : Tr Value} {m : Mem} (h : Start E G N all base i T m l listed a w ρ) : Conc E (G.plus (l.map fun q => blk ρ q.1)) ρ m w := by
  have hsm : ∀ q ∈ l, q.1 ≤ 1048574 := fun q hq => by
    obtain ⟨c, _, h1, h2, _⟩ := h.mem q hq
    unfold lim at h2; omega
  refine h.conc.split (ext_alike l _).symm (fun x ox hx => ?_) fun b hb => ?_
  · by_cases hm : x ∈ l.map (·.1)
    · obtain ⟨q, hq, rfl⟩ := List.mem_map.1 hm
      obtain ⟨_, _, _, _, _, _, _, _, _, hno⟩ := h.mem q hq
      obtain ⟨r, hr, _⟩ := h.conc.rows _ _ (ext_at l m hsm h.nums q hq)
      exact .inr ⟨hno ox hx, r, hr⟩
    · have he := ext_far l m x hsm hm
      rw [hx] at he
      cases hox : isObj ox with
      | true => exact .inl ⟨rfl, he⟩
      | false =>
        obtain ⟨r, hr, _⟩ := h.conc.rows _ _ he
        exact .inr ⟨rfl, r, hr⟩
  · obtain ⟨q, hq, rfl⟩ := List.mem_map.1 hb
    have he := ext_at l m hsm h.nums q hq
    obtain ⟨r, hr, _⟩ := h.conc.rows _ _ he
    obtain ⟨c, oc, _, _, _, _, _, _, ⟨v, c8⟩, hno⟩ := h.mem q hq
    exact ⟨q.1, q.2, r, he, (xalO_obj c8).1, hr, (blk_of hr).symm, hno⟩
theorem start_next (hd : DrawOk N all) {T : Tr Value} {m m' : Mem} {o : Oper} (ho : all[i]? = some o) (hnf : freeAl o = false) (h : Start E G N all base i T m l listed a w ρ) (hu : listed[i]? = some false) (hp : Pre all listed i) {ρ' : Ren} {w' : World} {v v' : Value} (hle : ρ.le ρ') (hlow : ∀ c, i < c → c < all.length → ρ' (base + c) = ρ (base + c)) (hby : HeldBy (G.plus (l.map fun q => blk ρ q.1)).X w w') (hv : Rel ρ' v v') (s4 : Conc E (G.plus (l.map fun q => blk ρ q.1)) ρ' m' w') (hnx : m.nx ≤ m'.nx) :
    Start E G N all base (i + 1) (putT T o.dst v) m' l (listed.setIfInBounds i true) (a.put o.dst v') w' ρ' := by
  have hi : i < all.length := (List.getElem?_eq_some_iff.1 ho).1
  have hkl : i < listed.size := by rw [h.size]; exact hi
  have hds := (hd.ops o (List.mem_of_getElem? ho)).dst
  have hset : ∀ j, j ≠ i → (listed.setIfInBounds i true)[j]? = listed[j]? := fun j hj => by rw [set_at hkl, if_neg hj]
  have hsm : ∀ q ∈ l, q.1 ≤ 1048574 := fun q hq => by
    obtain ⟨c, _, h1, h2, _⟩ := h.mem q hq
    unfold lim at h2; omega
  have hobj : ∀ q ∈ l, isObj q.2 = true ∧ chg q.2 = true := fun q hq => by
    obtain ⟨_, _, _, _, _, _, _, _, ⟨v, c8⟩, _⟩ := h.mem q hq
    exact xalO_obj c8
  have hblk : ∀ q ∈ l, blk ρ' q.1 = blk ρ q.1 := fun q hq => by
    obtain ⟨r, hr, _⟩ := h.conc.rows _ _ (ext_at l m hsm h.nums q hq)
    rw [blk_of hr, blk_of (hle _ _ hr)]
  have hmap : (l.map fun q => blk ρ' q.1) = (l.map fun q => blk ρ q.1) := List.map_congr_left fun q hq => hblk q hq
  have hfar : ∀ q ∈ l, ∀ o', m'.tr.get? q.1 = some o' → isObj o' = false := by
    intro q hq o' ho'
    obtain ⟨r, hr, _⟩ := h.conc.rows _ _ (ext_at l m hsm h.nums q hq)
    cases e : isObj o' with
    | false => rfl
    | true => exact absurd (List.mem_map.2 ⟨q, hq, blk_of hr⟩) (s4.off q.1 o' r ho' e (hle _ _ hr)).1
  have hconc : Conc E G ρ' (ext m' l) w' := by
    refine Conc.joins _ _ (by rw [hmap]; exact s4) (fun q hq => ?_) ?_ h.nums
    · obtain ⟨r, hr, r2, r3⟩ := h.conc.rows _ _ (ext_at l m hsm h.nums q hq)
      exact ⟨r, hle _ _ hr, r2.to hle fun _ => hby.2 r.1 (List.mem_append_left _ (List.mem_map.2 ⟨q, hq, blk_of hr⟩)), (r3 (hobj q hq).2).1, (r3 (hobj q hq).2).2, h.conc.off _ _ r (ext_at l m hsm h.nums q hq) (hobj q hq).1 hr, hfar q hq⟩
    · refine nodup_map h.nums fun x hx y hy e => ?_
      rw [hblk x hx, hblk y hy] at e
      have ex := ext_at l m hsm h.nums x hx
      have ey := ext_at l m hsm h.nums y hy
      obtain ⟨r, hr, _⟩ := h.conc.rows _ _ ex
      obtain ⟨r', hr', _⟩ := h.conc.rows _ _ ey
      rw [blk_of hr, blk_of hr'] at e
      exact h.conc.inj _ _ _ _ r r' ex ey (hobj x hx).1 (hobj y hy).1 hr hr' e
  have hap : ∀ c oc, i ≤ c → listed[c]? = some true → all[c]? = some oc → c ≠ i ∧ ∀ t, oc.dst = some t → o.dst ≠ some t := fun c oc h1 h2 h3 => by
    have hne : c ≠ i := fun e => by rw [e, hu] at h2; cases h2
    exact ⟨hne, fun t ht => free_apart hd h3 (h.isFree h1 h2 h3) ho (by omega) ht⟩
  refine ⟨by simp [h.size], closed_set h.cl hkl hp, fun k hk => ?_, fun k h1 h2 => by rw [hset k (by omega)]; exact h.high k (by omega) h2, hconc, by have := h.nx; omega, h.nums, fun q hq => ?_, fun c oc h1 h2 h3 v ob hob => ?_, fun c h1 h2 h3 => ?_, fun t u hu' => ?_, by rw [act_put_size]; exact h.tsize, fun c oc d h1 h2 h3 h4 => ?_⟩
  · rw [set_at hkl]; split
    · rfl
    · exact h.low k (by omega)
  · obtain ⟨c, oc, c1, c2, c3, c4, c5, c6, c7, _⟩ := h.mem q hq
    have := (hap c oc c3 c4 c5).1
    exact ⟨c, oc, c1, c2, by omega, by rw [hset c this]; exact c4, c5, c6, c7, hfar q hq⟩
  · rw [hset c (by omega)] at h2
    exact h.all' c oc (by omega) h2 h3 v ob hob
  · rw [hset c (by omega)] at h3
    rw [hlow c (by omega) h2]
    exact h.free c (by omega) h2 h3
  · rw [put_get (fun d e => (hds d e).2)] at hu'
    rw [act_put_get (fun d e => by rw [h.tsize]; exact (hds d e).1)]
    split at hu'
    · rename_i e
      rw [if_pos e]
      cases hu'
      exact .inr ⟨v', rfl, hv⟩
    · rename_i e
      rw [if_neg e]
      rcases h.tmps t u hu' with ⟨c, oc, c1, c2, c3, c4⟩ | ⟨u', a1, a2⟩
      · have := (hap c oc c1 c2 c3).1
        exact .inl ⟨c, oc, by omega, by rw [hset c this]; exact c2, c3, c4⟩
      · exact .inr ⟨u', a1, a2.mono hle⟩
  · rw [hset c (by omega)] at h2
    obtain ⟨u, e, r⟩ := h.ahead c oc d (by omega) h2 h3 h4
    exact ⟨u, by rw [act_put_get (fun d e => by rw [h.tsize]; exact (hds d e).1), if_neg ((hap c oc (by omega) h2 h3).2 d h4)]; exact e, r.mono hle⟩
theorem start_tmps (hd : DrawOk N all) {T : Tr Value} {m : Mem} (h : Start E G N all base i T m l listed a w ρ) {o : Oper} (ho : all[i]? = some o) (hu : listed[i]? = some false) :
    ∃ T', Tmps ρ T' a.tmps ∧ (∀ x ∈ o.op.operands.toList, ev T x = ev T' x) ∧ wantedX all T' o.guard = wantedX all T o.guard := by
  refine ⟨T.filt (fun t => (nms all o).contains t) 1 0, fun t v hv => ?_, fun x hx => ?_, ?_⟩
  · rw [Tr.get_filt1] at hv
    split at hv
    · rename_i hc
      rcases h.tmps t v hv with ⟨c, oc, c1, c2, c3, c4⟩ | q
      · exfalso
        have hne : c ≠ i := fun e => by rw [e, hu] at c2; cases c2
        have := hd.name' c i oc o t c3 ho c4 (by simpa using hc) (by omega)
        rw [mask_at c3] at this
        unfold maskOf at this
        rw [(free_some (h.isFree c1 c2 c3)).2.1, bit_test] at this
        simp at this
      · exact q
    · cases hv
  · cases x with
    | tmp t =>
      show T.get? t = Tr.get? _ t
      rw [Tr.get_filt1, if_pos]
      have : t ∈ nms all o := by
        unfold nms
        exact List.mem_append_left _ (List.mem_append_left _ (List.mem_filterMap.2 ⟨.tmp t, hx, rfl⟩))
      simpa using this
    | _ => rfl
  · unfold wantedX
    cases hgd : o.guard with
    | none => rfl
    | some q =>
      show ob (all[q.1]?) _ = ob (all[q.1]?) _
      cases ho' : all[q.1]? with
      | none => rfl
      | some o' =>
        show ob o'.dst _ = ob o'.dst _
        cases hds : o'.dst with
        | none => rfl
        | some d =>
          show guardB _ q.2 d = guardB _ q.2 d
          unfold guardB
          rw [Tr.get_filt1, if_pos]
          have : d ∈ nms all o := by
            unfold nms
            refine List.mem_append_left _ (List.mem_append_right _ ?_)
            obtain ⟨g, want⟩ := q
            simp only at ho'
            rw [hgd]
            simp only
            rw [ho']
            simp [hds]
          simpa using this
theorem bar_hard {o : Oper} (ho : all[i]? = some o) (hf : freeAl o = false) (hb : barrier (masks all []) i = true) : Bar E all base i := by
  obtain ⟨b1, b2⟩ := barrier_some hb
  rw [masks_length] at b2
  exact .inr ⟨fun k hk => .inl (by rw [show msk all i = 2 ^ i - 1 from b1]; exact pow_bit hk), fun ⟨o', x, y⟩ => (by rw [ho] at x; cases x; rw [hf] at y; cases y), fun k k1 k2 => .inl (b2 k k1 k2)⟩
theorem bar_soft {o : Oper} (ho : all[i]? = some o) (hf : freeAl o = false) (hb : barrierF E base all (masks all []) i = true) : Bar E all base i := by
  have hb : (aheadB all ((masks all []).getD i 0) i && List.rec (motive := fun _ => Nat → Bool) (fun _ => true) (fun o _ ih j => bif' (bif' (Nat.ble j i) true (bif' (bit ((masks all []).getD j 0) i) true (canMake E (base + j) o))) (ih (j + 1)) false) all 0) = true := hb
  rw [Bool.and_eq_true] at hb
  have key : ∀ (l : List Oper) (j : Nat), (List.rec (motive := fun _ => Nat → Bool) (fun _ => true) (fun o _ ih j => bif' (bif' (Nat.ble j i) true (bif' (bit ((masks all []).getD j 0) i) true (canMake E (base + j) o))) (ih (j + 1)) false) l j) = true → ∀ k o, l[k]? = some o → i < j + k → bit ((masks all []).getD (j + k) 0) i = true ∨ canMake E (base + (j + k)) o = true := by
    intro l
    induction l with
    | nil => intro j _ k o h; simp at h
    | cons y l ih =>
      intro j h k o hk hlt
      have h : bif' (bif' (Nat.ble j i) true (bif' (bit ((masks all []).getD j 0) i) true (canMake E (base + j) y))) ((List.rec (motive := fun _ => Nat → Bool) (fun _ => true) (fun o _ ih j => bif' (bif' (Nat.ble j i) true (bif' (bit ((masks all []).getD j 0) i) true (canMake E (base + j) o))) (ih (j + 1)) false) l) (j + 1)) false = true := h
      rw [bif_eq] at h
      split at h
      · rename_i hc
        cases k with
        | zero =>
          simp only [List.getElem?_cons_zero, Option.some.injEq] at hk
          subst hk
          rw [Nat.add_zero] at hlt ⊢
          rw [bif_eq] at hc
          split at hc
          · rename_i hle
            have := Nat.le_of_ble_eq_true hle
            omega
          · rw [bif_eq] at hc
            split at hc
            · rename_i hbit; exact .inl hbit
            · exact .inr hc
        | succ k =>
          have := ih (j + 1) h k o (by simpa using hk) (by omega)
          rwa [show j + 1 + k = j + (k + 1) by omega] at this
      · cases h
  refine .inr ⟨?_, fun ⟨o', x, y⟩ => (by rw [ho] at x; cases x; rw [hf] at y; cases y), fun k k1 k2 => ?_⟩
  · intro k hk
    show bit ((masks all []).getD i 0) k = true ∨ _
    have h1 := hb.1
    unfold aheadB at h1
    rw [bif_eq] at h1
    split at h1
    · rename_i h2
      have h2 := Nat.eq_of_beq_eq_true h2
      left
      rw [h2]
      show bit ((1 <<< i) - 1) k = true
      rw [Nat.one_shiftLeft]
      exact pow_bit hk
    · have hil : i < all.length := (List.getElem?_eq_some_iff.1 ho).1
      have h2 := allAt_all h1 k all[k] (List.getElem?_eq_getElem (by omega))
      rw [Nat.zero_add, bif_eq, if_neg (fun e => by have := Nat.le_of_ble_eq_true e; omega), bif_eq] at h2
      split at h2
      · rename_i h3; exact .inl h3
      · exact .inr ⟨all[k], List.getElem?_eq_getElem (by omega), h2⟩
  · have hk := key all 0 hb.2 k all[k] (List.getElem?_eq_getElem k2) (by omega)
    rw [Nat.zero_add] at hk
    rcases hk with x | x
    · exact .inl x
    · unfold canMake at x
      simp only [Bool.and_eq_true] at x
      obtain ⟨⟨x1, x2⟩, x3⟩ := x
      rw [Nat.blt_eq] at x2
      refine .inr ⟨all[k], ?_⟩
      cases hq : xalO all[k].op E .nil (base + k) with
      | none => rw [hq] at x3; cases x3
      | some q => exact ⟨q.1, q.2, List.getElem?_eq_getElem k2, x1, x2, rfl⟩
/-! From what is tested. -/
inductive ER (all : List Oper) (F : Trc) (s : Nat) : Nat → List Nat → List Mem → Prop
  | nil (i : Nat) : s ≤ i → (∀ e, s ≤ e → e < i → ¬ Eff all F e) → ER all F s i [] [F.m s]
  | cons (i e : Nat) (eff : List Nat) (snaps : List Mem) : s ≤ e → e < i → Eff all F e → (∀ e', e < e' → e' < i → ¬ Eff all F e') → ER all F s e eff snaps → ER all F s i (e :: eff) (F.m (e + 1) :: snaps)
structure SegRel (all : List Oper) (F : Trc) (s i : Nat) (S : Seg) : Prop where
  er : ER all F s i S.eff S.snaps
  rds : ∀ r o, s ≤ r → r < i → F.on r = true → all[r]? = some o → kindOf o.op = 1 → ⟨r, o.op, F.T r, F.v r⟩ ∈ S.rds
  als : ∀ c, s ≤ c → c < i → Made all F c → (∃ e, c < e ∧ e < i ∧ Eff all F e) ∨ c ∈ S.als
theorem ER.next {i : Nat} {eff : List Nat} {snaps : List Mem} (h : ER all F s i eff snaps) (hn : ¬ Eff all F i) : ER all F s (i + 1) eff snaps := by
  cases h with
  | nil _ h1 h2 =>
    refine .nil _ (by omega) fun e k1 k2 k3 => ?_
    by_cases e1 : e = i
    · subst e1; exact hn k3
    · exact h2 e k1 (by omega) k3
  | cons _ e eff snaps h1 h2 h3 h4 h5 =>
    refine .cons _ e eff snaps h1 (by omega) h3 (fun e' k1 k2 k3 => ?_) h5
    by_cases e1 : e' = i
    · subst e1; exact hn k3
    · exact h4 e' k1 (by omega) k3
theorem readOk_all {op : Op} {T : Tr Value} {v : Value} {mask : Nat} {i : Nat} {eff : List Nat} {snaps : List Mem} (h : ER all F s i eff snaps) : readOk E op T v mask eff snaps = true →
    ∀ p, Snap all F s p → p ≤ i → (∀ e, p ≤ e → e < i → Eff all F e → bit mask e = false) → ∃ mm, xop op E T (F.m p) = some (v, mm) := by
  induction h with
  | nil i h1 h2 =>
    intro hr p hp hpi _
    rcases hp with rfl | ⟨e, rfl, k1, k2⟩
    · exact same_some hr
    · exact absurd k2 (h2 e k1 (by omega))
  | cons i e eff snaps h1 h2 h3 h4 _ ih =>
    intro hr p hp hpi hb
    have hr : (sameAt E op T v (F.m (e + 1)) && bif' (bit mask e) true (readOk E op T v mask eff snaps)) = true := hr
    rw [Bool.and_eq_true] at hr
    by_cases hpe : p ≤ e
    · have h5 := hr.2
      rw [hb e hpe h2 h3] at h5
      exact ih h5 p hp hpe fun e' k1 k2 k3 => hb e' k1 (by omega) k3
    · have : p = e + 1 := by
        rcases hp with rfl | ⟨e', rfl, k1, k2⟩
        · omega
        · by_cases e1 : e' = e
          · rw [e1]
          · exact absurd k2 (h4 e' (by omega) (by omega))
      rw [this]; exact same_some hr.1
theorem chain_all {mask : Nat} {i : Nat} {eff : List Nat} {snaps : List Mem} (h : ER all F s i eff snaps) (hc : chainOk mask eff = true) : ∀ e, s ≤ e → e < i → Eff all F e → ∃ e', e ≤ e' ∧ s ≤ e' ∧ e' < i ∧ Eff all F e' ∧ bit mask e' = true := by
  intro e k1 k2 k3
  cases h with
  | nil _ h1 h2 => exact absurd k3 (h2 e k1 k2)
  | cons _ e' eff snaps h1 h2 h3 h4 h5 =>
    refine ⟨e', ?_, h1, h2, h3, hc⟩
    rcases Nat.lt_or_ge e' e with x | x
    · exact absurd k3 (h4 e x k2)
    · exact x
theorem allIn_all {mask : Nat} : ∀ {l : List Nat}, allIn mask l = true → ∀ x ∈ l, bit mask x = true
  | [], _, x, hx => by cases hx
  | y :: l, h, x, hx => by
    have h : (bit mask y && allIn mask l) = true := h
    rw [Bool.and_eq_true] at h
    rcases List.mem_cons.1 hx with e | e
    · rw [e]; exact h.1
    · exact allIn_all h.2 x e
theorem reread_all {mask : Nat} {m : Mem} : ∀ {l : List Rd}, reread E mask m l = true → ∀ r ∈ l, bit mask r.i = true ∨ sameAt E r.op r.T r.v m = true
  | [], _, x, hx => by cases hx
  | y :: l, h, x, hx => by
    have h : bif' (bit mask y.i) (reread E mask m l) (sameAt E y.op y.T y.v m && reread E mask m l) = true := h
    rw [bif_eq] at h
    split at h
    · rename_i hb
      rcases List.mem_cons.1 hx with e | e
      · rw [e]; exact .inl hb
      · exact reread_all h x e
    · rw [Bool.and_eq_true] at h
      rcases List.mem_cons.1 hx with e | e
      · rw [e]; exact .inr h.1
      · exact reread_all h.2 x e
def Trc.upd (F : Trc) (i : Nat) (on : Bool) (v : Value) (T : Tr Value) (m : Mem) : Trc :=
  ⟨fun k => if k = i + 1 then T else F.T k, fun k => if k = i + 1 then m else F.m k, fun k => if k = i then v else F.v k, fun k => if k = i then on else F.on k⟩
section
variable {on : Bool} {v : Value} {T : Tr Value} {m : Mem}
theorem upd_T {k : Nat} (h : k ≤ i) : (F.upd i on v T m).T k = F.T k := by show (if k = i + 1 then T else F.T k) = _; rw [if_neg (by omega)]
theorem upd_m {k : Nat} (h : k ≤ i) : (F.upd i on v T m).m k = F.m k := by show (if k = i + 1 then m else F.m k) = _; rw [if_neg (by omega)]
theorem upd_v {k : Nat} (h : k < i) : (F.upd i on v T m).v k = F.v k := by show (if k = i then v else F.v k) = _; rw [if_neg (by omega)]
theorem upd_on {k : Nat} (h : k < i) : (F.upd i on v T m).on k = F.on k := by show (if k = i then on else F.on k) = _; rw [if_neg (by omega)]
theorem upd_T1 : (F.upd i on v T m).T (i + 1) = T := by show (if i + 1 = i + 1 then T else F.T (i + 1)) = _; rw [if_pos rfl]
theorem upd_m1 : (F.upd i on v T m).m (i + 1) = m := by show (if i + 1 = i + 1 then m else F.m (i + 1)) = _; rw [if_pos rfl]
theorem upd_v1 : (F.upd i on v T m).v i = v := by show (if i = i then v else F.v i) = _; rw [if_pos rfl]
theorem upd_on1 : (F.upd i on v T m).on i = on := by show (if i = i then on else F.on i) = _; rw [if_pos rfl]
theorem upd_eff {e : Nat} (h : e < i) : Eff all (F.upd i on v T m) e ↔ Eff all F e := by unfold Eff; rw [upd_on h]
theorem upd_made {e : Nat} (h : e < i) : Made all (F.upd i on v T m) e ↔ Made all F e := by unfold Made; rw [upd_on h]
theorem upd_snap {p : Nat} (h : p ≤ i) : Snap all (F.upd i on v T m) s p ↔ Snap all F s p := by
  unfold Snap
  constructor
  · rintro (e | ⟨e, rfl, k1, k2⟩)
    · exact .inl e
    · exact .inr ⟨e, rfl, k1, (upd_eff (by omega)).1 k2⟩
  · rintro (e | ⟨e, rfl, k1, k2⟩)
    · exact .inl e
    · exact .inr ⟨e, rfl, k1, (upd_eff (by omega)).2 k2⟩
theorem upd_step {k : Nat} {o : Oper} (hk : k < i) (h : StepOk E call G all base F s k o) : StepOk E call G all base (F.upd i on v T m) s k o := by
  have t0 : (F.upd i on v T m).T k = F.T k := upd_T (by omega)
  have t1 : (F.upd i on v T m).T (k + 1) = F.T (k + 1) := upd_T (by omega)
  have m0 : (F.upd i on v T m).m k = F.m k := upd_m (by omega)
  have m1 : (F.upd i on v T m).m (k + 1) = F.m (k + 1) := upd_m (by omega)
  have v0 : (F.upd i on v T m).v k = F.v k := upd_v hk
  have o0 : (F.upd i on v T m).on k = F.on k := upd_on hk
  refine ⟨by rw [t0, o0]; exact h.want, by rw [t1, t0, v0]; exact h.next, by rw [o0, v0, m1, m0]; exact h.off, by rw [o0, t0, m0, m1, v0]; exact h.pure, ?_, by rw [o0, t0, v0, m1, m0]; exact h.made, ?_⟩
  · rw [o0, t0, v0, m1, m0]
    intro a1 a2
    obtain ⟨b1, b2⟩ := h.read a1 a2
    refine ⟨b1, fun p c1 c2 c3 => ?_⟩
    rw [upd_m (by omega)]
    exact b2 p ((upd_snap (by omega)).1 c1) c2 fun e d1 d2 d3 => c3 e d1 d2 ((upd_eff (by omega)).2 d3)
  · rw [o0, t0, v0, m1, m0]
    intro a1 a2
    obtain ⟨b1, b2, b3, b4, b5⟩ := h.eff a1 a2
    refine ⟨b1, b2, fun e c1 c2 c3 => ?_, fun c c1 c2 c3 => ?_, fun r orr c1 c2 c3 c4 c5 => ?_⟩
    · obtain ⟨e', d1, d2, d3, d4, d5⟩ := b3 e c1 c2 ((upd_eff (by omega)).1 c3)
      exact ⟨e', d1, d2, d3, (upd_eff (by omega)).2 d4, d5⟩
    · rcases b4 c c1 c2 ((upd_made (by omega)).1 c3) with ⟨e, d1, d2, d3⟩ | d
      · exact .inl ⟨e, d1, d2, (upd_eff (by omega)).2 d3⟩
      · exact .inr d
    · rw [upd_T (by omega), upd_v (by omega)]
      rw [upd_on (by omega)] at c3
      exact b5 r orr c1 c2 c3 c4 c5
theorem upd_seg (h : SegOk E call G all base F s i) {o : Oper} (ho : all[i]? = some o) (hs : StepOk E call G all base (F.upd i on v T m) s i o) : SegOk E call G all base (F.upd i on v T m) s (i + 1) := by
  intro k h1 h2
  by_cases e : k = i
  · subst e; exact ⟨o, ho, hs⟩
  · obtain ⟨o', ho', st⟩ := h k h1 (by omega)
    exact ⟨o', ho', upd_step (by omega) st⟩
theorem upd_er {j : Nat} (hj : j ≤ i) {eff : List Nat} {snaps : List Mem} (h : ER all F s j eff snaps) : ER all (F.upd i on v T m) s j eff snaps := by
  induction h with
  | nil j h1 h2 =>
    have := ER.nil (all := all) (F := F.upd i on v T m) j h1 fun e k1 k2 k3 => h2 e k1 k2 ((upd_eff (by omega)).1 k3)
    rwa [upd_m (by omega)] at this
  | cons j e eff snaps h1 h2 h3 h4 _ ih =>
    have := ER.cons (all := all) (F := F.upd i on v T m) j e eff snaps h1 h2 ((upd_eff (by omega)).2 h3) (fun e' k1 k2 k3 => h4 e' k1 k2 ((upd_eff (by omega)).1 k3)) (ih (by omega))
    rwa [upd_m (by omega)] at this
end
end
end Go.Proofs.YtgmdbfackbdnlaaGreatDoor

/- The executor: a region. -/
namespace Go.Proofs.YtgmdbfackbdnlaaGreatDoor
open Go.RowKit Bl Th Go.Sx
set_option maxRecDepth 10000

section
variable {P : Program} {E : Env} {call : CallF} {G : Gh} {N : Nat} {all : List Oper} {base : Nat} {F : Trc} {s i : Nat} {listed : Array Bool} {a : Act} {w : World} {ρ : Ren}
theorem segrel_upd {S S' : Seg} {on : Bool} {v : Value} {T : Tr Value} {m : Mem} {o : Oper} (h : SegRel all F s i S) (ho : all[i]? = some o) (he : S'.eff = S.eff) (hs : S'.snaps = S.snaps) (hne : on = true → kindOf o.op ≠ 3) (hr : on = true → kindOf o.op = 1 → ⟨i, o.op, F.T i, v⟩ ∈ S'.rds) (hrd : ∀ x ∈ S.rds, x ∈ S'.rds) (ha : ∀ x ∈ S.als, x ∈ S'.als) (hal : on = true → kindOf o.op = 2 → i ∈ S'.als) : SegRel all (F.upd i on v T m) s (i + 1) S' := by
  refine ⟨?_, fun r orr h1 h2 h3 h4 h5 => ?_, fun c h1 h2 h3 => ?_⟩
  · rw [he, hs]
    exact (upd_er (Nat.le_refl i) h.er).next fun ⟨e1, o', e2, e3⟩ => by
      rw [ho] at e2; cases e2
      rw [upd_on1] at e1
      exact hne e1 e3
  · by_cases e : r = i
    · subst e
      rw [ho] at h4; cases h4
      rw [upd_on1] at h3
      rw [upd_T (Nat.le_refl r), upd_v1]
      exact hr h3 h5
    · rw [upd_on (by omega)] at h3
      rw [upd_T (by omega), upd_v (by omega)]
      exact hrd _ (h.rds r orr h1 (by omega) h3 h4 h5)
  · by_cases e : c = i
    · subst e
      obtain ⟨e1, o', e2, e3⟩ := h3
      rw [ho] at e2; cases e2
      rw [upd_on1] at e1
      exact .inr (hal e1 e3)
    · rcases h.als c h1 (by omega) ((upd_made (by omega)).1 h3) with ⟨e', k1, k2, k3⟩ | k
      · exact .inl ⟨e', k1, by omega, (upd_eff (by omega)).2 k3⟩
      · exact .inr (ha c k)
theorem segrel_eff {S : Seg} {v : Value} {T : Tr Value} {m : Mem} {o : Oper} (hsi : s ≤ i) (h : SegRel all F s i S) (ho : all[i]? = some o) (hk : kindOf o.op = 3) : SegRel all (F.upd i true v T m) s (i + 1) ⟨i :: S.eff, m :: S.snaps, S.rds, []⟩ := by
  have hE : Eff all (F.upd i true v T m) i := ⟨upd_on1, o, ho, hk⟩
  refine ⟨?_, fun r orr h1 h2 h3 h4 h5 => ?_, fun c h1 h2 h3 => ?_⟩
  · have := ER.cons (all := all) (F := F.upd i true v T m) (s := s) (i + 1) i S.eff S.snaps hsi (Nat.lt_succ_self i) hE (fun e' k1 k2 => by omega) (upd_er (Nat.le_refl i) h.er)
    rwa [upd_m1] at this
  · by_cases e : r = i
    · subst e
      rw [ho] at h4; cases h4
      omega
    · rw [upd_on (by omega)] at h3
      rw [upd_T (by omega), upd_v (by omega)]
      exact h.rds r orr h1 (by omega) h3 h4 h5
  · by_cases e : c = i
    · subst e
      obtain ⟨e1, o', e2, e3⟩ := h3
      rw [ho] at e2; cases e2
      omega
    · exact .inl ⟨i, by omega, Nat.lt_succ_self i, hE⟩
theorem ER.none {snaps : List Mem} (h : ER all F s i [] snaps) : ∀ e, s ≤ e → e < i → ¬ Eff all F e := by
  cases h with
  | nil _ _ h2 => exact h2
theorem seg_still (hg : SegOk E call G all base F s i) (hne : ∀ e, s ≤ e → e < i → ¬ Eff all F e) (hnm : ∀ c, s ≤ c → c < i → ¬ Made all F c) : ∀ k, s ≤ k → k ≤ i → F.m k = F.m s := by
  intro k
  induction k with
  | zero =>
    intro h1 _
    have : s = 0 := by omega
    rw [this]
  | succ k ih =>
    intro h1 h2
    by_cases e : s = k + 1
    · rw [← e]
    · obtain ⟨o, ho, st⟩ := hg k (by omega) (by omega)
      rw [← ih (by omega) (by omega)]
      cases hon : F.on k with
      | false => exact (st.off hon).2
      | true =>
        rcases kind_cases o.op with hk | hk | hk | hk
        · exact (st.pure hon hk).2
        · exact (st.read hon hk).1
        · exact absurd ⟨hon, o, ho, hk⟩ (hnm k (by omega) (by omega))
        · exact absurd ⟨hon, o, ho, hk⟩ (hne k (by omega) (by omega))
theorem drawOps_ok (hE : EnvOk P E) (hK : CmpOk P E) (hcall : CallOk P E call) (hgrow : GrowF call) (hd : DrawOk N all) {n0 : Nat} {ρ0 : Ren} {w0 : World} (hn0 : n0 ≤ base) {d : List Deferred} {Q : Exit → Act → World → Prop} {outsA : List (Tr Value × Mem)} (hQp : ∀ c a w, ¬ Q (.panic c) a w) (hQ : Goes E G N d n0 ρ0 w0 (Q .normal) outsA) :
    ∀ (l : List Oper) (i : Nat) (S : Seg) (T : Tr Value) (m : Mem) (outs : List (Tr Value × Mem)), drawOps E call all (masks all []) base l i S T m = .ok outs → all.drop i = l → i ≤ all.length → (∀ q ∈ outs, FitM G q.2) → (∀ q ∈ outs, q ∈ outsA) →
    ∀ (s : Nat) (F : Trc), s ≤ i → F.T i = T → F.m i = m → SegOk E call G all base F s i → SegRel all F s i S →
    ∀ fuel listed a w ρ lp, Start E G N all base s (F.T s) (F.m s) lp listed a w ρ → Since G n0 ρ0 w0 ρ w → a.defers = d → left listed = fuel → wpAny P .any all.toArray Q fuel listed a w
  | [], i, S, T, m, outs, h, hl, hi, hf, hsub, s, F, hsi, hT, hm, hg, hS, fuel, listed, a, w, ρ, lp, hst, hs, ha, hfu => by
    have hin : i = all.length := by
      have := congrArg List.length hl
      simp at this; omega
    cases h
    refine seg_run hE hK hcall hd hg hsi hi (.inl hin) hn0 hQp (fun fuel listed a w ρ lq h' hs' ha' hf' => ?_) fuel listed a w ρ s lp (hst.inv hd hg hsi hi) hs ha hfu
    have hempty : Region.ready .any all.toArray listed = [] := by
      rw [List.eq_nil_iff_forall_not_mem]
      intro k hk
      obtain ⟨h1, h2, _⟩ := (mem_ready h'.size).1 hk
      rw [h'.low k (by omega)] at h2; cases h2
    have hq : Q .normal a w := by
      rw [hT, hm] at h'
      have hlq : lq = [] := by
        cases lq with
        | nil => rfl
        | cons q r =>
          obtain ⟨c, o, _, _, h3, _, h5, _⟩ := h'.mem q (by simp)
          have := (List.getElem?_eq_some_iff.1 h5).1
          omega
      subst hlq
      have htm : Tmps ρ T a.tmps := fun t v hv => by
        rcases h'.tmps t v hv with ⟨c, oc, c1, _, c3, _⟩ | q
        · have := (List.getElem?_eq_some_iff.1 c3).1
          omega
        · exact q
      exact hQ (T, m) (hsub (T, m) (by simp)) ρ a w hs' (by have := h'.nx; show n0 ≤ m.nx; omega) ⟨h'.conc, htm, h'.tsize⟩ ha'
    cases fuel with
    | zero => exact ⟨hempty, hq⟩
    | succ fuel => exact ⟨fun _ => hq, fun k hk => by rw [hempty] at hk; cases hk⟩
  | o :: l, i, S, T, m, outs, h, hl, hi, hf, hsub, s, F, hsi, hT, hm, hg, hS, fuel, listed, a, w, ρ, lp, hst, hs, ha, hfu => by
    have ho : all[i]? = some o := by
      have := congrArg (·[0]?) hl
      simpa using this
    have hilt : i < all.length := (List.getElem?_eq_some_iff.1 ho).1
    have hl' : all.drop (i + 1) = l := by
      have := congrArg List.tail hl
      simpa using this
    obtain ⟨g, h1, h⟩ := orb_ok (show drawStep E call all (masks all []) base o (drawOps E call all (masks all []) base l) i S T m = .ok outs from h)
    have next : ∀ (S' : Seg) (on : Bool) (v : Value) (m' : Mem), drawOps E call all (masks all []) base l (i + 1) S' (putT T o.dst v) m' = .ok outs → StepOk E call G all base (F.upd i on v (putT T o.dst v) m') s i o → SegRel all (F.upd i on v (putT T o.dst v) m') s (i + 1) S' → wpAny P .any all.toArray Q fuel listed a w := by
      intro S' on v m' hx hstep hrel
      refine drawOps_ok hE hK hcall hgrow hd hn0 hQp hQ l (i + 1) S' (putT T o.dst v) m' outs hx hl' (by omega) hf hsub s (F.upd i on v (putT T o.dst v) m') (by omega) upd_T1 upd_m1 (upd_seg hg ho hstep) hrel fuel listed a w ρ lp ?_ hs ha hfu
      rw [upd_T hsi, upd_m hsi]; exact hst
    have hnext : ∀ {on : Bool} {v : Value} {m' : Mem}, (F.upd i on v (putT T o.dst v) m').T (i + 1) = putT ((F.upd i on v (putT T o.dst v) m').T i) o.dst ((F.upd i on v (putT T o.dst v) m').v i) := by
      intro on v m'
      rw [upd_T1, upd_T (Nat.le_refl i), upd_v1, hT]
    cases g with
    | false =>
      refine next S false undef m h ⟨?_, hnext, fun _ => ⟨upd_v1, by rw [upd_m1, upd_m (Nat.le_refl i), hm]⟩, fun e => ?_, fun e => ?_, fun e => ?_, fun e => ?_⟩ (segrel_upd hS ho rfl rfl (fun e => by cases e) (fun e => by cases e) (fun _ hx => hx) (fun _ hx => hx) (fun e => by cases e))
      · rw [upd_T (Nat.le_refl i), upd_on1, hT]; exact h1
      all_goals rw [upd_on1] at e; cases e
    | true =>
      rw [bif_true, kindD_eq] at h
      have hwant : ∀ {v : Value} {T' : Tr Value} {m' : Mem}, wantedX all ((F.upd i true v T' m').T i) o.guard = some ((F.upd i true v T' m').on i) := by
        intro v T' m'
        rw [upd_T (Nat.le_refl i), upd_on1, hT]; exact h1
      have hoff : ∀ {v : Value} {T' : Tr Value} {m' : Mem} {X : Prop}, (F.upd i true v T' m').on i = false → X := by
        intro v T' m' X e
        rw [upd_on1] at e; cases e
      split at h
      · rename_i hk
        obtain ⟨oute, h2, h3⟩ := rb_ok h
        have h2 := note_ok h2
        rw [bif_eq] at h3
        split at h3
        · rename_i hbar
          have hnf : freeAl o = false := by
            cases e : freeAl o with
            | false => rfl
            | true => have := free_kind e; omega
          have hB : Bar E all base i := bar_soft ho hnf hbar
          refine seg_run hE hK hcall hd hg hsi hi hB hn0 hQp (fun fuel listed a w ρ lq h' hs' ha' hf' => ?_) fuel listed a w ρ s lp (hst.inv hd hg hsi hi) hs ha hfu
          rw [hT, hm] at h'
          refine at_barrier hE hd hB hilt hn0 (fun fuel' listed a w ρ lq h' hu hs' ha' hf' => ?_) fuel listed a w ρ lq h' hs' ha' hf'
          obtain ⟨T', hT', hev, hwt⟩ := start_tmps hd h' ho hu
          have hp : Pre all listed i := ((mem_ready h'.size).1 (first_ready hd h'.size hilt h'.low hu)).2.2
          unfold wpOp
          rw [List.getElem?_toArray, ho]
          simp only
          rw [wanted_ok (all := all) hT' (hwt.trans h1), if_pos rfl]
          left
          have hsub' : ∀ q ∈ oute, ∃ r, drawOps E call all (masks all []) base l (i + 1) (Seg.at q.2) (putT T o.dst q.1) q.2 = .ok r ∧ ∀ y ∈ r, y ∈ outs := fun q hq => each_ok h3 q hq
          rw [xeff_congr hev] at h2
          refine xeff_ok (G := G.plus (lq.map fun q => blk ρ q.1)) hE hcall (start_split h') hT' (hd.ops o (List.mem_of_getElem? ho)).op h2 (fun q hq => ?_) fun q hq v' w' k => ?_
          · obtain ⟨r, r1, r2⟩ := hsub' q hq
            refine FitM.of_grow (G := G) (drawOps_grow hgrow l _ _ _ _ _ r1) fun m' hm' => ?_
            obtain ⟨y, y1, rfl⟩ := List.mem_map.1 hm'
            exact hf y (r2 y y1)
          · obtain ⟨r, r1, r2⟩ := hsub' q hq
            obtain ⟨ρ', k1, k2, k3, k4⟩ := k
            refine drawOps_ok hE hK hcall hgrow hd hn0 hQp hQ l (i + 1) _ _ _ r r1 hl' (by omega) (fun y hy => hf y (r2 y hy)) (fun y hy => hsub y (r2 y hy)) (i + 1) ⟨fun _ => putT T o.dst q.1, fun _ => q.2, fun _ => undef, fun _ => false⟩ (Nat.le_refl _) rfl rfl (fun k a1 a2 => by omega) ⟨.nil _ (Nat.le_refl _) (fun e a1 a2 => by omega), fun r o a1 a2 => by omega, fun c a1 a2 => by omega⟩ fuel' _ _ w' ρ' lq (start_next hd ho hnf h' hu hp k1.le (fun c c1 c2 => k1.low _ (by have := h'.nx; omega)) k1.by' k3 k4 k2) (hs'.trans ⟨k1.le, k1.low, k1.by'.less fun b hb => List.mem_append_right _ hb⟩ (by have := h'.nx; omega)) (act_put_defers.trans ha') ?_
            have := left_set hu
            omega
        · split at h3
          · rename_i q _
            rw [bif_eq] at h3
            split at h3
            · rename_i hc
              simp only [Bool.and_eq_true] at hc
              obtain ⟨⟨c1, c2⟩, c3⟩ := hc
              have hfm : FitM G q.2 := FitM.of_grow (drawOps_grow hgrow l _ _ _ _ _ h3) fun m' hm' => by
                obtain ⟨y, y1, rfl⟩ := List.mem_map.1 hm'
                exact hf y y1
              refine next _ true q.1 q.2 h3 ⟨hwant, hnext, hoff, fun _ e => by omega, fun _ e => by omega, fun _ e => by omega, fun _ _ => ?_⟩ (segrel_eff hsi hS ho hk)
              rw [upd_T (Nat.le_refl i), upd_m (Nat.le_refl i), upd_v1, upd_m1, hT, hm]
              have her := upd_er (on := true) (v := q.1) (T := putT T o.dst q.1) (m := q.2) (Nat.le_refl i) hS.er
              refine ⟨h2, hfm, chain_all her c1, fun c a1 a2 a3 => ?_, fun r orr a1 a2 a3 a4 a5 => ?_⟩
              · rcases hS.als c a1 a2 ((upd_made a2).1 a3) with ⟨e, b1, b2, b3⟩ | b
                · exact .inl ⟨e, b1, b2, (upd_eff b2).2 b3⟩
                · exact .inr (allIn_all c2 c b)
              · rw [upd_on a2] at a3
                rw [upd_T (by omega), upd_v a2]
                exact reread_all c3 _ (hS.rds r orr a1 a2 a3 a4 a5)
            · cases h3
          · cases h3
      · rename_i hk
        obtain ⟨⟨v, m'⟩, h2, h3⟩ := rb_ok h
        have h2 := of_ok (note_ok h2)
        rw [bif_eq] at h3
        split at h3
        · rename_i hbar
          rw [Bool.and_eq_true] at hbar
          have hnf : freeAl o = false := by
            cases e : freeAl o with
            | false => rfl
            | true => rw [e] at hbar; cases hbar.2
          have hB : Bar E all base i := bar_hard ho hnf hbar.1
          refine seg_run hE hK hcall hd hg hsi hi hB hn0 hQp (fun fuel listed a w ρ lq h' hs' ha' hf' => ?_) fuel listed a w ρ s lp (hst.inv hd hg hsi hi) hs ha hfu
          rw [hT, hm] at h'
          refine at_barrier hE hd hB hilt hn0 (fun fuel' listed a w ρ lq h' hu hs' ha' hf' => ?_) fuel listed a w ρ lq h' hs' ha' hf'
          obtain ⟨T', hT', hev, hwt⟩ := start_tmps hd h' ho hu
          have hp : Pre all listed i := ((mem_ready h'.size).1 (first_ready hd h'.size hilt h'.low hu)).2.2
          have hlq : lq = [] := by
            cases lq with
            | nil => rfl
            | cons q r =>
              exfalso
              obtain ⟨c, oc, _, _, x3, x4, x5, _⟩ := h'.mem q (by simp)
              have hne : c ≠ i := fun e => by rw [e, hu] at x4; cases x4
              obtain ⟨_, b2⟩ := barrier_some hbar.1
              rw [masks_length] at b2
              have hcl := (List.getElem?_eq_some_iff.1 x5).1
              have := mask_done hd h'.cl (c + 1) c (by omega) hcl (h'.cl c x4) i (b2 c (by omega) hcl)
              rw [hu] at this; cases this
          subst hlq
          have h2 : xal o.op E T' m (base + i) = some (v, m') := by
            unfold xal at h2 ⊢
            rw [← xalO_congr hev]
            exact h2
          unfold wpOp
          rw [List.getElem?_toArray, ho]
          simp only
          rw [wanted_ok (all := all) hT' (hwt.trans h1), if_pos rfl]
          left
          obtain ⟨v', ρ', w', e, k1, k2, k3, k4, k5⟩ := xal_ok (nx := m.nx) hE h'.conc hT' (hd.ops o (List.mem_of_getElem? ho)).op (h'.free i (Nat.le_refl _) hilt hu) (Nat.le_refl _) (by have := h'.nx; omega) h2
          unfold Oper.wp
          rw [e]
          have hnx : m'.nx = m.nx := by obtain ⟨_, o', _, rfl⟩ := xal_some h2; rfl
          have hm' : ({ m' with nx := m.nx } : Mem) = m' := by rw [← hnx]
          rw [hm'] at k4
          have k4' : Conc E (G.plus (([] : List (Nat × SObj)).map fun q => blk ρ q.1)) ρ' m' w' := k4.split (Alike.refl _) (fun x ox hx => by
            cases e : isObj ox with
            | true => exact .inl ⟨rfl, hx⟩
            | false =>
              obtain ⟨r, hr, _⟩ := k4.rows _ _ hx
              exact .inr ⟨rfl, r, hr⟩) (fun b hb => by cases hb)
          refine drawOps_ok hE hK hcall hgrow hd hn0 hQp hQ l (i + 1) _ _ _ outs h3 hl' (by omega) hf hsub (i + 1) ⟨fun _ => putT T o.dst v, fun _ => m', fun _ => undef, fun _ => false⟩ (Nat.le_refl _) rfl rfl (fun k a1 a2 => by omega) ⟨.nil _ (Nat.le_refl _) (fun e a1 a2 => by omega), fun r o a1 a2 => by omega, fun c a1 a2 => by omega⟩ fuel' _ _ w' ρ' [] (start_next hd ho hnf h' hu hp k1 (fun c c1 c2 => k2 _ (by omega)) k5 k3 k4' (by show m.nx ≤ m'.nx; omega)) ⟨Ren.le_trans hs'.le k1, fun j hj => (k2 j (by omega)).trans (hs'.low j hj), HeldBy.trans hs'.by' k5⟩ (act_put_defers.trans ha') ?_
          have := left_set hu
          omega
        · obtain ⟨hlm, ob', hx, rfl⟩ := xal_some h2
          refine next _ true v _ h3 ⟨hwant, hnext, hoff, fun _ e => by omega, fun _ e => by omega, fun _ _ => ⟨hlm, ob', ?_, ?_⟩, fun _ e => by omega⟩ (segrel_upd hS ho rfl rfl (fun _ e => by omega) (fun _ e => by omega) (fun _ hx => hx) (fun _ hx => List.mem_cons_of_mem _ hx) (fun _ _ => List.mem_cons_self ..))
          · rw [upd_T (Nat.le_refl i), upd_v1, hT]; exact hx
          · rw [upd_m1, upd_m (Nat.le_refl i), hm]
      · rename_i hk
        obtain ⟨⟨v, m'⟩, h2, h3⟩ := rb_ok h
        have h2 := of_ok (note_ok h2)
        rw [bif_eq] at h3
        split at h3
        · rename_i hro
          refine next _ true v m h3 ⟨hwant, hnext, hoff, fun _ e => by omega, fun _ _ => ⟨by rw [upd_m1, upd_m (Nat.le_refl i), hm], fun p a1 a2 a3 => ?_⟩, fun _ e => by omega, fun _ e => by omega⟩ (segrel_upd hS ho rfl rfl (fun _ e => by omega) (fun _ _ => by rw [hT]; exact List.mem_cons_self ..) (fun _ hx => List.mem_cons_of_mem _ hx) (fun _ hx => hx) (fun _ e => by omega))
          rw [upd_T (Nat.le_refl i), upd_v1, hT]
          rw [bif_eq] at hro
          split at hro
          · rename_i hnone
            have her := hS.er
            have hals := hS.als
            unfold Seg.none at hnone
            split at hnone
            · rename_i e1 e2
              rw [e1] at her
              have hne := her.none
              have hnm : ∀ c, s ≤ c → c < i → ¬ Made all F c := fun c c1 c2 c3 => by
                rcases hals c c1 c2 c3 with ⟨e, d1, d2, d3⟩ | hin
                · exact hne e (by omega) d2 d3
                · rw [e2] at hin; cases hin
              have hp : p = s := by
                rcases a1 with rfl | ⟨e, rfl, d1, d2⟩
                · rfl
                · exact absurd ((upd_eff (by omega)).1 d2) (hne e d1 (by omega))
              rw [upd_m a2, hp, ← seg_still hg hne hnm i hsi (Nat.le_refl i), hm]
              exact ⟨_, h2⟩
            · cases hnone
          · exact readOk_all (upd_er (Nat.le_refl i) hS.er) hro p a1 a2 a3
        · cases h3
      · rename_i hk3 hk2 hk1
        have hk : kindOf o.op = 0 := by
          rcases kind_cases o.op with e | e | e | e
          · exact e
          · exact absurd e hk1
          · exact absurd e hk2
          · exact absurd e hk3
        obtain ⟨⟨v, m'⟩, h2, h3⟩ := rb_ok h
        have h2 := of_ok (note_ok h2)
        refine next _ true v m h3 ⟨hwant, hnext, hoff, fun _ _ => ⟨⟨m', ?_⟩, ?_⟩, fun _ e => by omega, fun _ e => by omega, fun _ e => by omega⟩ (segrel_upd hS ho rfl rfl (fun _ e => by omega) (fun _ e => by omega) (fun _ hx => hx) (fun _ hx => hx) (fun _ e => by omega))
        · rw [upd_T (Nat.le_refl i), upd_m (Nat.le_refl i), upd_v1, hT, hm]; exact h2
        · rw [upd_m1, upd_m (Nat.le_refl i), hm]
/-- A region. -/
theorem wpAny_weak {ops : Array Oper} {Q Q' : Exit → Act → World → Prop} (h : ∀ e a w, Q e a w → Q' e a w) : ∀ (fuel : Nat) (listed : Array Bool) (a : Act) (w : World), wpAny P .any ops Q fuel listed a w → wpAny P .any ops Q' fuel listed a w
  | 0, _, _, _, k => ⟨k.1, h _ _ _ k.2⟩
  | fuel + 1, listed, a, w, k => by
    have hl : LetsOut Q → LetsOut Q' := fun ⟨a, w, x⟩ => ⟨a, w, h _ _ _ x⟩
    refine ⟨fun e => h _ _ _ (k.1 e), fun i hi => ?_⟩
    have k2 := wpOp_mono (K' := wpAny P .any ops Q' fuel (listed.setIfInBounds i true)) (fun a w x => wpAny_weak h fuel _ a w x) (k.2 i hi)
    unfold wpOp at k2 ⊢
    split
    · rename_i e
      rw [e] at k2
      exact k2
    · rename_i o e
      rw [e] at k2
      simp only at k2
      split
      · rename_i hw
        rw [if_pos hw] at k2
        rcases k2 with k2 | k2
        · left
          unfold Oper.wp at k2 ⊢
          generalize (execOp a.eval o).run P w = r at *
          cases r with
          | ok n w' =>
            cases n <;> simp only [Oper.upon] at k2 ⊢ <;>
              first
                | exact k2
                | exact Calls.mono k2 (fun e w'' he => by cases e <;> first | exact he | exact h _ _ _ he | exact hl he)
          | halt x w' => cases x <;> simp only [Oper.upon] at k2 ⊢ <;> exact h _ _ _ k2
        · exact .inr ⟨k2.1, hl k2.2⟩
      · rename_i hw
        rw [if_neg hw] at k2
        exact k2
theorem region_ok (hE : EnvOk P E) (hK : CmpOk P E) (hcall : CallOk P E call) (hgrow : GrowF call) (hm : P.follows .mixedOrders = true) {id : Nat} {ops : Array Oper} {draw : Bool} (hops : ∀ o ∈ ops.toList, OperOk N o) (hd : draw = true → DrawOk N ops.toList) {T : Tr Value} {m : Mem} {outs : List (Tr Value × Mem)} (h : region E call draw ops.toList T m = .ok outs) (hf : ∀ q ∈ outs, FitM G q.2) (st : St E G N ρ T m a w) {Q : Exit → Act → World → Prop} (hQ : Goes E G N a.defers m.nx ρ w (Q .normal) outs) :
    (Code.region id ops draw).wp P Q a w := by
  cases draw with
  | false => exact wp_region_list (doOps_ok hE hK hcall hgrow ops.toList T m outs h hops hf ρ a w st hQ)
  | true =>
    have hd := hd rfl
    obtain ⟨hcu, hhb⟩ := st.conc.under ((Below.refl _ w).drew)
    have hcn : Conc E G ρ { m with nx := m.nx + ops.toList.length } w.drew := hcu.less ⟨rfl, rfl, rfl, rfl⟩ ⟨rfl, rfl⟩ (Nat.le_add_right _ _) fun x o hx => by
      cases e : isObj o with
      | true => exact .inl ⟨rfl, hx⟩
      | false =>
        obtain ⟨q, a, _⟩ := hcu.rows x o hx
        exact .inr ⟨rfl, q, a⟩
    have hsz : (Array.replicate ops.size false).size = ops.toList.length := by simp
    have hno : ∀ k : Nat, (Array.replicate ops.size false)[k]? ≠ some true := by
      intro k e
      rw [Array.getElem?_replicate] at e
      split at e
      · cases e
      · cases e
    have hQ' : Goes E G N a.defers m.nx ρ w (fun a w => Exit.normal = .normal ∧ Q .normal a w) outs := fun q hq ρ' a' w' x1 x2 x3 x4 => ⟨rfl, hQ q hq ρ' a' w' x1 x2 x3 x4⟩
    refine wp_region_any hm ?_
    refine wpAny_weak (Q := fun e a w => e = .normal ∧ Q .normal a w) (fun e a w x => by rw [x.1]; exact x.2) _ _ _ _ ?_
    have := drawOps_ok hE hK hcall hgrow hd (n0 := m.nx) (base := m.nx) (ρ0 := ρ) (w0 := w) (Nat.le_refl _) (d := a.defers) (Q := fun e a w => e = .normal ∧ Q .normal a w) (outsA := outs) (fun c a w x => by cases x.1) hQ' ops.toList 0 (Seg.at { m with nx := m.nx + ops.toList.length }) T { m with nx := m.nx + ops.toList.length } outs h (by simp) (Nat.zero_le _) hf (fun _ hq => hq) 0 ⟨fun _ => T, fun _ => { m with nx := m.nx + ops.toList.length }, fun _ => undef, fun _ => false⟩ (Nat.le_refl _) rfl rfl (fun k a1 a2 => by omega) ⟨.nil _ (Nat.le_refl _) (fun e a1 a2 => by omega), fun r o a1 a2 => by omega, fun c a1 a2 => by omega⟩ ops.size (Array.replicate ops.size false) a w.drew ρ []
      ⟨hsz, fun i hi => absurd hi (hno i), fun k hk => by omega, fun k _ hk => .inl ?_, hcn, Nat.le_refl _, by simp, fun q hq => (by cases hq), fun c o _ hl => absurd hl (hno c), fun c _ _ _ => ?_, fun t v hv => .inr (st.tmps t v hv), st.size, fun c o d _ hl => absurd hl (hno c)⟩ ⟨Ren.le_refl ρ, fun _ _ => rfl, hhb⟩ rfl ?_
    · exact this
    · rcases done_or hsz hk with e | e
      · exact absurd e (hno k)
      · exact e
    · cases e : ρ (m.nx + c) with
      | none => rfl
      | some q => have := (st.conc.dom _ _ e).1; omega
    · unfold left; simp
end
end Go.Proofs.YtgmdbfackbdnlaaGreatDoor
