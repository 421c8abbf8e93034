/- RefView: what was seen at a time goes along; rows of rows. -/
import Derived.Test.YtmdganpealbmpaaGreatDoorRefOrder
namespace Go.Proofs.YtmdganpealbmpaaGreatDoor
open Go.RowKit Bl Th
set_option maxRecDepth 10000

/-- From a time on, rows go along with the transactions. -/
theorem PlayX.board {W : World} {X : List Nat} {pa pb pp g : Nat} {cells : List Nat} {L : List (List Op13)} {lv bv ev tv ov : Value} {its : List It} {Bs : List (List Nat)} {y : Th.Sys} {w : World}
    (h : PlayX W X pa pb pp g cells L lv bv ev tv ov its (fun _ => pass0) Bs y w) (K : Nat → Pass)
    (hK : ∀ (k : Nat) t, its[k]? = some t → (K k).P w ∧ ∀ b ∈ (K k).Q, (∃ tv, w.cell? ⟨t.po, 0, none⟩ = some tv ∧ tv.ownBlock = some b) ∨ (k = 0 ∧ b ∈ X)) :
    ∃ Bs', PlayX W [] pa pb pp g cells L lv bv ev tv ov its K Bs' y w := by
  have hX : ∀ b ∈ X, b ∈ fixR X pp g bv ev tv ov its := fun b hb => List.mem_append_left _ hb
  have hsub : (fixR [] pp g bv ev tv ov its).Sublist (fixR X pp g bv ev tv ov its) := List.sublist_append_right _ _
  have hXf : ∀ b ∈ X, b ∉ fixR [] pp g bv ev tv ov its := fun b hb hm => by
    have hn := h.nd
    unfold fixR at hn hm
    rw [List.nodup_append] at hn
    rw [List.nil_append] at hm
    exact hn.2.2 b hb b hm rfl
  have hit : ∀ (k : Nat) B, Bs[k]? = some B → ∃ t, its[k]? = some t := fun k B hB => by
    have h1 := (List.getElem?_eq_some_iff.1 hB).1
    have h2 := h.lens
    exact ⟨its[k]'(by omega), List.getElem?_eq_getElem _⟩
  have hmem : ∀ (k : Nat) B, Bs[k]? = some B → ∀ b ∈ (K k).Q, b ∈ B ∨ (k = 0 ∧ b ∈ X) := by
    intro k B hB b hb
    obtain ⟨t, ht⟩ := hit k B hB
    rcases (hK k t ht).2 b hb with ⟨tv', hc, ho⟩ | q
    · left
      obtain ⟨s, B', h1, h2, ⟨lv', ev', E, Q, rfl, hl⟩, -⟩ := h.item k t ht
      rw [hB] at h2
      obtain rfl := Option.some.inj h2
      obtain ⟨tv2, rfl, -, -, -, c, -, -⟩ := hl.aux
      have c0 := c.cell 0
      simp only [List.getElem?_cons_zero] at c0
      rw [hc] at c0
      obtain rfl := Option.some.inj c0
      simp [ho]
    · exact .inr q
  have hget : ∀ (k : Nat) C, (Bs.mapIdx fun k B => B ++ (K k).Q)[k]? = some C → ∃ B, Bs[k]? = some B ∧ C = B ++ (K k).Q := fun k C hC => by
    rw [List.getElem?_mapIdx, Option.map_eq_some_iff] at hC
    obtain ⟨B, h1, h2⟩ := hC
    exact ⟨B, h1, h2.symm⟩
  refine ⟨Bs.mapIdx fun k B => B ++ (K k).Q, h.held.less fun b hb => ?_, h.nd.sublist hsub, fun k C hC b hb hm => ?_, fun k j C D hkj hC hD b hb hm => ?_, h.new, h.main, h.arr, h.ts, h.outs, h.begs, h.fins, ⟨h.lens.1, h.lens.2.1, by simpa using h.lens.2.2⟩, fun k t ht => ?_⟩
  · rcases List.mem_append.1 hb with q | q
    · exact List.mem_append_left _ (hsub.subset q)
    · obtain ⟨C, hC, hbC⟩ := List.mem_flatten.1 q
      obtain ⟨k, hk, e⟩ := List.getElem_of_mem hC
      obtain ⟨B, h1, h2⟩ := hget k C (by rw [← e]; exact List.getElem?_eq_getElem hk)
      rw [h2] at hbC
      rcases List.mem_append.1 hbC with z | z
      · exact List.mem_append_right _ (mem_flatten' h1 z)
      · rcases hmem k B h1 b z with z | ⟨-, z⟩
        · exact List.mem_append_right _ (mem_flatten' h1 z)
        · exact List.mem_append_left _ (hX b z)
  · obtain ⟨B, h1, rfl⟩ := hget k C hC
    rcases List.mem_append.1 hb with z | z
    · exact h.bs k B h1 b z (hsub.subset hm)
    · rcases hmem k B h1 b z with z | ⟨-, z⟩
      · exact h.bs k B h1 b z (hsub.subset hm)
      · exact hXf b z hm
  · obtain ⟨B, h1, rfl⟩ := hget k C hC
    obtain ⟨B2, h2, rfl⟩ := hget j D hD
    have a1 : b ∈ B ∨ (k = 0 ∧ b ∈ X) := (List.mem_append.1 hb).elim .inl (hmem k B h1 b)
    have a2 : b ∈ B2 ∨ (j = 0 ∧ b ∈ X) := (List.mem_append.1 hm).elim .inl (hmem j B2 h2 b)
    rcases a1 with z | ⟨e1, z⟩
    · rcases a2 with q | ⟨e2, q⟩
      · exact h.bb k j B B2 hkj h1 h2 b z q
      · exact h.bs k B h1 b z (hX b q)
    · rcases a2 with q | ⟨e2, q⟩
      · exact h.bs j B2 h2 b q (hX b z)
      · omega
  · obtain ⟨s, B, h1, h2, ⟨lv', ev', E, Q, rfl, hl⟩, h4⟩ := h.item k t ht
    obtain ⟨tv2, rfl, n1, -, n2, c, r, -⟩ := hl.aux
    have c0 := c.cell 0
    simp only [List.getElem?_cons_zero] at c0
    have hq : ∀ b ∈ (K k).Q, b ∈ tv2.ownBlock.toList ∨ b ∈ X := fun b hb => by
      rcases (hK k t ht).2 b hb with ⟨tv', hc, ho⟩ | ⟨-, q⟩
      · rw [hc] at c0
        obtain rfl := Option.some.inj c0
        exact .inl (by simp [ho])
      · exact .inr q
    have hBX : ∀ b ∈ X, b ∉ t.pt :: (lv'.ownBlock.toList ++ (E ++ (t.po :: (tv2.ownBlock.toList ++ pass0.Q)))) := fun b hb hm => h.bs k _ h2 b hm (hX b hb)
    refine ⟨s, _, h1, by rw [List.getElem?_mapIdx, h2]; rfl, ⟨lv', ev', E, t.po :: (tv2.ownBlock.toList ++ (K k).Q), by simp [pass0], { hl with aux := ⟨tv2, rfl, n1, fun hm => ?_, n2, c, r, (hK k t ht).1⟩, ptR := fun hm => ?_, logR := fun b hb hm => ?_ }⟩, h4⟩
    · rcases hq _ hm with z | z
      · exact n1 z
      · exact hBX _ z (by simp)
    · have hp := hl.ptR
      simp only [List.mem_append, List.mem_cons, not_or] at hp hm
      rcases hm with z | z | z | z | z
      · exact hp.1 z
      · exact hp.2.1 z
      · exact hp.2.2.1 z
      · exact hp.2.2.2.1 z
      · rcases hq _ z with z | z
        · exact hp.2.2.2.1 z
        · exact hBX _ z (by simp)
    · have hp := hl.logR b hb
      simp only [List.mem_append, List.mem_cons, not_or] at hp hm
      rcases hm with z | z | z | z
      · exact hp.1 z
      · exact hp.2.1 z
      · exact hp.2.2.1 z
      · rcases hq _ z with z | z
        · exact hp.2.2.1 z
        · exact hBX _ z (by simp [hb])
/-- What goes along is there. -/
theorem PlayX.along {W : World} {X : List Nat} {pa pb pp g : Nat} {cells : List Nat} {L : List (List Op13)} {lv bv ev tv ov : Value} {its : List It} {sn : Nat → Pass} {Bs : List (List Nat)} {y : Th.Sys} {w : World}
    (h : PlayX W X pa pb pp g cells L lv bv ev tv ov its sn Bs y w) {k : Nat} {t : It} (ht : its[k]? = some t) : (sn k).P w := by
  obtain ⟨s, B, h1, h2, ⟨lv', ev', E, Q, rfl, hl⟩, -⟩ := h.item k t ht
  obtain ⟨tv2, -, -, -, -, -, -, q⟩ := hl.aux
  exact q
/-- A row's beginning. -/
theorem row_take {w : World} {base n m cap : Nat} {e : TypeId} {p : Option Addr} {xs : List Value} (h : w.ownsRow base e 1 (.slice p n cap) n xs) (hm : m ≤ n) : w.ownsRow base e 1 (.slice p m cap) m (xs.take m) := by
  have hl := h.1
  refine ⟨by simp only [Nat.mul_one, List.length_take] at hl ⊢; omega, ?_⟩
  rcases h.2 with ⟨q, hn⟩ | ⟨g, cap', cur, q, h1, h2, h3, h4, h5, h6⟩
  · simp only [Value.slice.injEq] at q
    obtain ⟨rfl, -, rfl⟩ := q
    exact .inl ⟨by rw [show m = 0 by omega], by omega⟩
  · simp only [Value.slice.injEq] at q
    obtain ⟨rfl, -, rfl⟩ := q
    refine .inr ⟨g, cap, cur, rfl, h1, h2, by omega, h4, h5, ?_⟩
    rw [← h6, List.take_take]
    congr 1
    omega
theorem row_cap {w : World} {base n cap : Nat} {e : TypeId} {p : Option Addr} {xs : List Value} (h : w.ownsRow base e 1 (.slice p n cap) n xs) : n ≤ cap := by
  rcases h.2 with ⟨q, hn⟩ | ⟨g, cap', cur, q, h1, h2, h3, h4, h5, h6⟩
  · omega
  · simp only [Value.slice.injEq] at q
    omega
theorem encT_take (l : List Nat) (m : Nat) : (encT l).take m = encT (l.take m) := by simp [encT, List.map_take]
theorem take_next {l : List Nat} {k x : Nat} (h : l[k]? = some x) : l.take (k + 1) = l.take k ++ [x] := by
  rw [List.take_add_one, h]; rfl
set_option maxHeartbeats 2000000 in
/-- Two rows of a length. -/
theorem same13b_ok {w : World} {b1 b2 : Nat} {v1 v2 : Value} {l1 l2 : List Nat} (h1 : w.ownsRow b1 41 1 v1 l1.length (encT l1)) (h2 : w.ownsRow b2 41 1 v2 l2.length (encT l2)) (hl : l1.length ≤ 1000) (he : l1.length = l2.length) :
    Calls Tryz.prog 15 #[v1, v2] w fun e w' => e = .returned (.bool (decide (l1 = l2))) ∧ ∃ m, w' = w.drewN m := by
  obtain ⟨p1, c1, rfl⟩ := ownsRow_shape h1
  obtain ⟨p2, c2, rfl⟩ := ownsRow_shape h2
  rw [← he] at h2 ⊢
  obtain ⟨len, hlen⟩ : ∃ len, l1.length = len := ⟨_, rfl⟩
  rw [hlen] at hl h1 h2 ⊢
  have he2 : l2.length = len := by rw [← he, hlen]
  have H1 := Lib.hid h1; have H2 := Lib.hid h2
  have HLEN := Lib.hid hlen; have HLE2 := Lib.hid he2
  clear h1 h2 hlen he he2
  have g0 : ((len : Int) != (len : Int)) = false := by simp
  have g1 : (len != len) = false := by simp
  go_enter Tryz.func15, Tryz.ntmps15
  go_wp2
  go_loopw [5] (fun i wr => ∃ k n : Nat, k ≤ len ∧ i = .int .i64 (k : Int) ∧ wr = w.drewN n ∧ l1.take k = l2.take k) (fun i _ => len - (intOf i).toNat)
  case atStart => exact ⟨0, 0, Nat.zero_le _, rfl, rfl, rfl⟩
  case round =>
    obtain ⟨k, n, hk, rfl, rfl, htk⟩ := hrel
    by_cases hlt : k < len
    · have hlt' : (k : Int) < (len : Int) := by omega
      obtain ⟨x, hx⟩ : ∃ x, l1[k]? = some x := ⟨l1[k]'(by rw [HLEN.out]; exact hlt), List.getElem?_eq_getElem _⟩
      obtain ⟨x2, hx2⟩ : ∃ x, l2[k]? = some x := ⟨l2[k]'(by rw [HLE2.out]; exact hlt), List.getElem?_eq_getElem _⟩
      obtain ⟨ga, rfl, ha⟩ := row_at H1.out hx
      obtain ⟨gb, rfl, hb⟩ := row_at H2.out hx2
      by_cases hxx : x = x2
      · subst hxx
        have HTK := Lib.hid (show l1.take (k + 1) = l2.take (k + 1) by rw [take_next hx, take_next hx2, htk])
        have g2 : ((x : Int) != (x : Int)) = false := by simp
        clear hx hx2 htk
        go_wp2
        go_quiet (fail)
        go_wp2
        go_roundw
        case rel => exact ⟨k + 1, _, by omega, by go_num, rfl, HTK.out⟩
        case measure => simp [intOf]; omega
      · have g2 : ((x : Int) != (x2 : Int)) = true := by simp; omega
        have HNE := Lib.hid (show decide (l1 = l2) = false from decide_eq_false fun e => hxx (by rw [e, hx2] at hx; exact (Option.some.inj hx).symm))
        clear hx hx2 htk hxx
        go_wp2
        go_quiet (fail)
        go_wp2
        go_ret
        rw [HNE.out]
        exact ⟨rfl, _, World.drewN_drewN _ _ _⟩
    · obtain rfl : k = len := by omega
      have g3 : decide ((k : Int) < (k : Int)) = false := by simp
      have HEQ := Lib.hid (show decide (l1 = l2) = true from decide_eq_true (by rw [← List.take_length (l := l1), ← List.take_length (l := l2), HLEN.out, HLE2.out]; exact htk))
      clear htk
      go_wp2
      go_ret
      rw [HEQ.out]
      exact ⟨rfl, _, rfl⟩
/-- A row of rows of a length. -/
def RowsAt (base n : Nat) (v : Value) (nls : List (List Nat)) (w : World) : Prop :=
  ∃ vs : List Value, vs.length = nls.length ∧ w.ownsRow base 31 1 v vs.length vs ∧ ∀ (j : Nat) u l, vs[j]? = some u → nls[j]? = some l → l.length = n ∧ (∀ b, u.ownBlock = some b → v.ownBlock ≠ some b) ∧ w.ownsRow base 41 1 u n (encT l)
theorem RowsAt.under {base n : Nat} {v : Value} {nls : List (List Nat)} {w w' : World} (h : RowsAt base n v nls w) (hb : Below w.heap.size w w') : RowsAt base n v nls w' := by
  obtain ⟨vs, h1, h2, h3⟩ := h
  refine ⟨vs, h1, ownsRow_kept h2 (Kept.of_below hb) (fun b hb' e => by have := (h2.lt b hb').2; omega), fun j u l hu hl => ?_⟩
  obtain ⟨a, b, c⟩ := h3 j u l hu hl
  exact ⟨a, b, ownsRow_kept c (Kept.of_below hb) (fun b hb' e => by have := (c.lt b hb').2; omega)⟩
/-- One row more. -/
theorem rows_add {base n gg cap cap8 N : Nat} {p : Option Addr} {nls : List (List Nat)} {vs : List Value} {l : List Nat} {u : Value} {w wa w8 : World} (h : w.ownsRow base 31 1 (.slice p N cap) N vs) (h1 : N = nls.length) (hN : N = vs.length) (h3 : ∀ (j : Nat) u l, vs[j]? = some u → nls[j]? = some l → l.length = n ∧ (∀ b, u.ownBlock = some b → (Value.slice p N cap).ownBlock ≠ some b) ∧ w.ownsRow base 41 1 u n (encT l))
    (hb : Below w.heap.size w wa) (hu : wa.ownsRow w.heap.size 41 1 u n (encT l)) (hl : l.length = n) (hbase : base ≤ w.heap.size)
    (ho : w8.ownsRow base 31 1 (.slice (some ⟨gg, 0, none⟩) (N + 1) cap8) (N + 1) (vs ++ [u])) (hg : wa.grownBy w8 (Value.slice p N cap).ownBlock) (hat : (Value.slice p N cap).ownBlock = some gg ∨ gg = wa.heap.size) :
    RowsAt base n (.slice (some ⟨gg, 0, none⟩) (N + 1) cap8) (nls ++ [l]) w8 := by
  have old : ∀ (v : Value) (x : List Nat), wa.ownsRow base 41 1 v n (encT x) → (∀ b, v.ownBlock = some b → (Value.slice p N cap).ownBlock ≠ some b) → (∀ b, v.ownBlock = some b → (Value.slice (some ⟨gg, 0, none⟩) (N + 1) cap8).ownBlock ≠ some b) ∧ w8.ownsRow base 41 1 v n (encT x) := fun v x hv hne => by
    refine ⟨fun b hb' e => ?_, hv.kept hg ?_⟩
    · simp only [Value.ownBlock, Option.some.injEq] at e
      subst e
      rcases hat with q | q
      · exact hne _ hb' q
      · have := (hv.lt _ hb').2
        omega
    · cases e : v.ownBlock with
      | none => exact .inl rfl
      | some b => exact .inr fun z => hne b e z.symm
  refine ⟨vs ++ [u], by simp [← h1, ← hN], by simpa [← hN] using ho, fun j v x hv hx => ?_⟩
  by_cases e : j < vs.length
  · rw [List.getElem?_append_left e] at hv
    rw [List.getElem?_append_left (by omega)] at hx
    obtain ⟨a, b, c⟩ := h3 j v x hv hx
    exact ⟨a, old v x (ownsRow_kept c (Kept.of_below hb) (fun b hb' e => by have := (c.lt b hb').2; omega)) b⟩
  · rw [List.getElem?_append_right (by omega)] at hv hx
    have ej : j - vs.length = 0 := by
      have := (List.getElem?_eq_some_iff.1 hv).1
      simp only [List.length_singleton] at this
      omega
    rw [ej] at hv
    rw [show j - nls.length = 0 by omega] at hx
    simp only [List.getElem?_cons_zero, Option.some.injEq] at hv hx
    subst hv hx
    refine ⟨hl, old u l (ownsRow_mono hu hbase) fun b hb' e => ?_⟩
    have h4 := (hu.lt b hb').1
    have h5 := (h.lt b e).2
    omega
theorem statesO_len (D : Nat → (Nat → Nat) → List Nat × (Nat → Nat)) : ∀ (ks : List Nat) (f : Nat → Nat), (statesO D ks f).length = ks.length + 1
  | [], _ => rfl
  | k :: r, f => by
    show (statesO D r (D k f).2).length + 1 = _
    rw [statesO_len D r]
    rfl
theorem statesO_zero (D : Nat → (Nat → Nat) → List Nat × (Nat → Nat)) (ks : List Nat) (f : Nat → Nat) : (statesO D ks f)[0]? = some f := by
  cases ks <;> rfl
theorem statesO_next (D : Nat → (Nat → Nat) → List Nat × (Nat → Nat)) : ∀ (ks : List Nat) (f : Nat → Nat) (k i : Nat) (s : Nat → Nat), ks[k]? = some i → (statesO D ks f)[k]? = some s → (statesO D ks f)[k + 1]? = some (D i s).2
  | [], _, _, _, _, h, _ => by simp at h
  | a :: r, f, 0, i, s, h, hs => by
    simp only [List.getElem?_cons_zero, Option.some.injEq] at h
    subst h
    have e : s = f := by
      simp only [statesO, List.getElem?_cons_zero, Option.some.injEq] at hs
      exact hs.symm
    subst e
    show (s :: statesO D r (D a s).2)[0 + 1]? = _
    rw [List.getElem?_cons_succ]
    exact statesO_zero D r _
  | a :: r, f, k + 1, i, s, h, hs => by
    have h' : r[k]? = some i := by simpa using h
    have hs' : (statesO D r (D a f).2)[k]? = some s := by
      simp only [statesO] at hs
      rw [List.getElem?_cons_succ] at hs
      exact hs
    show (f :: statesO D r (D a f).2)[k + 1 + 1]? = _
    rw [List.getElem?_cons_succ]
    exact statesO_next D r _ k i s h' hs'
/-- What was told begins with what was seen. -/
def fits (a b : List Nat) : Bool := decide (a.length ≤ b.length) && decide (b.take a.length = a)
theorem fits_of {a b : List Nat} (h : a <+: b) : fits a b = true := by
  unfold fits
  rw [decide_eq_true h.length_le, decide_eq_true (List.prefix_iff_eq_take.1 h).symm]
  rfl
end Go.Proofs.YtmdganpealbmpaaGreatDoor
