/- The executor: what is not run, but known. -/
import Derived.Test.YtgmdbfackbdnlaaGreatDoorSxExec
namespace Go.Proofs.YtgmdbfackbdnlaaGreatDoor
open Go.RowKit Bl Th Go.Sx
set_option maxRecDepth 10000

variable {E : Env} {G : Gh} {ρ : Ren} {m : Mem} {w : World}
theorem small_some {x : Int} {n : Nat} (h : small x = some n) : x = (n : Int) ∧ 1 ≤ n ∧ n ≤ 17 := by
  unfold small at h
  split at h
  · obtain ⟨h1, h2⟩ := ifo_some h
    cases h2
    rw [Bool.and_eq_true] at h1
    exact ⟨rfl, Nat.le_of_ble_eq_true h1.1, Nat.le_of_ble_eq_true h1.2⟩
  · cases h
theorem i64v_some {β : Type} {f : Int → Option β} {v : Value} {r : β} (h : i64v f v = some r) : ∃ n, v = .int .i64 n ∧ f n = some r := by
  unfold i64v at h
  split at h
  · exact ⟨_, rfl, h⟩
  · cases h
/-- A row that is all there. -/
theorem row_at (hc : Conc E G ρ m w) {b n : Nat} {c : Tr Value} {d : Option Value} {e : TypeId} {op ro : Bool} (h : m.tr.get? b = some (.row n c d e op ro)) :
    ∃ q arr, ρ b = some q ∧ Cells w q.1 arr e ∧ n ≤ arr.length ∧ (op = false → arr.length = n) ∧ ∀ i v, cellAt n c d i = some v → ∃ v', arr[i]? = some v' ∧ Rel ρ v v' := by
  obtain ⟨q, a1, a2, _⟩ := hc.rows b _ h
  obtain ⟨arr, b1, b2, _, b4, _, b6⟩ := a2
  exact ⟨q, arr, a1, b1, b2, b4, b6⟩
def InMem (ρ : Ren) (m : Mem) (B : List Nat) : Prop := ∀ b ∈ B, ∃ i o q, m.tr.get? i = some o ∧ chg o = true ∧ ρ i = some q ∧ q.1 = b
theorem eno_ok (hc : Conc E G ρ m w) : ∀ (k : Nat) (v v' : Value) (n : Nat), eno xt m k v = some n → Rel ρ v v' → ∃ B, Err w v' n B ∧ InMem ρ m B
  | 0, _, _, _, h, _ => by cases h
  | k + 1, v, v', n, h, r => by
    unfold eno at h
    split at h
    · cases h
      cases r
      exact ⟨[], .none, fun b hb => by cases hb⟩
    · rename_i t x
      split at h
      · rename_i z
        obtain ⟨h1, h2⟩ := ifo_some h
        have ht : t = 102 := Nat.eq_of_beq_eq_true h1
        subst ht
        obtain ⟨rfl, a1, a2⟩ := small_some h2
        cases r with
        | iface _ _ y ry =>
        rw [rel_int ry]
        exact ⟨[], .no n a1 a2, fun b hb => by cases hb⟩
      · rename_i b
        obtain ⟨n', hn1, h3⟩ := ob_some h
        clear h
        obtain ⟨h4, h5⟩ := ifo_some h3
        cases h5
        rw [Nat.blt_eq] at h4
        cases r with
        | iface _ _ y ry =>
        cases ry with
        | ptr _ _ q hq =>
        obtain ⟨n0, c, d, e, op, ro, g1, hx1⟩ := row_some hn1
        obtain ⟨g2, hx2⟩ := ifo_some hx1
        rw [Bool.and_eq_true] at g2
        have hop : op = false := by cases op with | false => rfl | true => cases g2.1
        have hro : ro = false := by cases ro with | false => rfl | true => cases g2.2
        subst hop hro
        clear hn1 hx1
        have h := hx2
        clear hx2
        obtain ⟨q', arr, a1, a2, a3, a4, a5⟩ := row_at hc g1
        rw [hq] at a1; cases a1
        have hlen := a4 rfl
        have me : ∃ i o q', m.tr.get? i = some o ∧ chg o = true ∧ ρ i = some q' ∧ q'.1 = q.1 := ⟨b, _, q, g1, rfl, hq, rfl⟩
        rw [bif_eq] at h
        split at h
        · rename_i ht
          have ht : t = 334 := Nat.eq_of_beq_eq_true ht
          subst ht
          obtain ⟨h1, h⟩ := ifo_some h
          rw [Bool.and_eq_true] at h1
          have e1 : n0 = 2 := Nat.eq_of_beq_eq_true h1.1
          have e2 : e = 336 := Nat.eq_of_beq_eq_true h1.2
          subst e1; subst e2
          obtain ⟨v0, k1, h⟩ := ob_some h
          obtain ⟨z0, rfl, h⟩ := i64v_some h
          obtain ⟨v1, k2, h⟩ := ob_some h
          obtain ⟨z1, rfl, h⟩ := i64v_some h
          obtain ⟨rfl, s1, s2⟩ := small_some h
          obtain ⟨u0, x0, y0⟩ := a5 0 _ k1
          obtain ⟨u1, x1, y1⟩ := a5 1 _ k2
          rw [rel_int y0] at x0
          rw [rel_int y1] at x1
          have harr : arr = [.int .i64 z0, .int .i64 (n : Int)] := by
            match arr, hlen with
            | [p, r], _ => simp only [List.getElem?_cons_zero, List.getElem?_cons_succ, Option.some.injEq] at x0 x1; rw [x0, x1]
          subst harr
          exact ⟨[q.1], .fault q.1 z0 n s1 s2 a2, fun b hb => by simp only [List.mem_singleton] at hb; subst hb; exact me⟩
        · rw [bif_eq] at h
          split at h
          · rename_i ht
            have ht : t = 436 := Nat.eq_of_beq_eq_true ht
            subst ht
            cases h
            exact ⟨[q.1], .unfit q.1 a2.lt, fun b hb => by simp only [List.mem_singleton] at hb; subst hb; exact me⟩
          · rw [bif_eq] at h
            split at h
            · rename_i ht
              have ht : t = 309 := Nat.eq_of_beq_eq_true ht
              subst ht
              obtain ⟨h1, h⟩ := ifo_some h
              rw [Bool.and_eq_true] at h1
              have e1 : n0 = 2 := Nat.eq_of_beq_eq_true h1.1
              have e2 : e = 311 := Nat.eq_of_beq_eq_true h1.2
              subst e1; subst e2
              obtain ⟨v1, k2, h⟩ := ob_some h
              obtain ⟨u1, x1, y1⟩ := a5 1 _ k2
              obtain ⟨B, f1, f2⟩ := eno_ok hc k v1 u1 n h y1
              have harr : ∃ s, arr = [s, u1] := by
                match arr, hlen with
                | [p, r], _ => simp only [List.getElem?_cons_zero, List.getElem?_cons_succ, Option.some.injEq] at x1; exact ⟨p, by rw [x1]⟩
              obtain ⟨s, rfl⟩ := harr
              exact ⟨q.1 :: B, .doing q.1 s u1 n B (by omega) a2 f1, fun b hb => by
                rcases List.mem_cons.1 hb with e | e
                · rw [e]; exact me
                · exact f2 b e⟩
            · obtain ⟨j1, j2⟩ := ifo_some h
              clear h
              simp only [Bool.and_eq_true] at j1
              have e0 : t = 400 := Nat.eq_of_beq_eq_true j1.1.1
              have e1 : n0 = 1 := Nat.eq_of_beq_eq_true j1.1.2
              have e2 : e = 402 := Nat.eq_of_beq_eq_true j1.2
              subst e0; subst e1; subst e2
              obtain ⟨v0, k2, j3⟩ := ob_some j2
              clear j2
              obtain ⟨ad, kk, cap, hv0, j4⟩ := slc_some j3
              clear j3
              subst hv0
              obtain ⟨h2, h⟩ := ifo_some j4
              clear j4
              have hkk : kk = 1 := Nat.eq_of_beq_eq_true h2
              subst hkk
              obtain ⟨ad, rfl, h⟩ := ob_some h
              obtain ⟨h3, h⟩ := ifo_some h
              have hoff : ad.off = 0 := Nat.eq_of_beq_eq_true h3
              obtain ⟨n1, c1, d1, e1, op1, ro1, g3, h⟩ := row_some h
              obtain ⟨g4, h⟩ := ifo_some h
              have hro1 : ro1 = false := by cases ro1 with | false => rfl | true => cases g4
              subst hro1
              obtain ⟨v1, k3, h⟩ := ob_some h
              obtain ⟨q1, arr1, b1, b2, b3, b4, b5⟩ := row_at hc g3
              obtain ⟨u0, x0, y0⟩ := a5 0 _ k2
              obtain ⟨u1, x1, y1⟩ := b5 0 _ k3
              obtain ⟨B, f1, f2⟩ := eno_ok hc k v1 u1 n h y1
              have hu0 : ∃ cap', u0 = .slice (some ⟨q1.1, 0, none⟩) 1 cap' := by
                cases y0 with
                | sl i o _ _ q2 hq2 hcb =>
                  have b1 : ρ i = some q1 := b1
                  have hoff : o = 0 := hoff
                  rw [hq2] at b1; cases b1
                  subst hoff
                  exact ⟨_, rfl⟩
                | slo i o _ _ q2 hq2 _ =>
                  have b1 : ρ i = some q1 := b1
                  have hoff : o = 0 := hoff
                  rw [hq2] at b1; cases b1
                  subst hoff
                  exact ⟨_, rfl⟩
              obtain ⟨cap', rfl⟩ := hu0
              have harr : arr = [.slice (some ⟨q1.1, 0, none⟩) 1 cap'] := by
                match arr, hlen with
                | [p], _ => simp only [List.getElem?_cons_zero, Option.some.injEq] at x0; rw [x0]
              subst harr
              refine ⟨q.1 :: q1.1 :: B, .join q.1 q1.1 cap' u1 n B (by omega) a2 b2.lt (by rw [b2.cell]; exact x1) f1, fun b hb => ?_⟩
              rcases List.mem_cons.1 hb with e | e
              · rw [e]; exact me
              · rcases List.mem_cons.1 e with e | e
                · rw [e]; exact ⟨_, _, q1, g3, rfl, b1, rfl⟩
                · exact f2 b e
      · cases h
    · cases h
theorem eff_self {v v' : Value} (hc : Conc E G ρ m w) (hv : Rel ρ v v') : EffPost E G ρ m w v m v' w := eff_same hv hc (HeldBy.refl _ _) (Nat.le_refl _)
theorem pNo_ok {args : List Value} {v : Value} {m' : Mem} (h : pNo xt args m = some (v, m')) {args' : List Value} (hc : Conc E G ρ m w) (hr : RelL ρ args args') :
    Calls Tryz.prog 13 ⟨args'⟩ w fun e w' => ∃ v', e = .returned v' ∧ EffPost E G ρ m w v m' v' w' := by
  unfold pNo at h
  split at h
  · obtain ⟨n, h1, h2⟩ := ob_some h
    cases h2
    obtain ⟨x', c, rfl, r1, k⟩ := hr.cons_inv
    obtain rfl := k.nil_inv
    obtain ⟨B, f1, _⟩ := eno_ok hc 20 _ _ n h1 r1
    refine (no_any f1).mono ?_
    rintro e w' ⟨rfl, rfl⟩
    exact ⟨_, rfl, eff_self hc (.int _ _)⟩
  · cases h
theorem pIs_ok {args : List Value} {v : Value} {m' : Mem} (h : pIs xt args m = some (v, m')) {args' : List Value} (hc : Conc E G ρ m w) (hr : RelL ρ args args') :
    Calls Tryz.prog 61 ⟨args'⟩ w fun e w' => ∃ v', e = .returned v' ∧ EffPost E G ρ m w v m' v' w' := by
  unfold pIs at h
  split at h
  · rename_i x t k
    obtain ⟨h1, h4⟩ := ifo_some h
    clear h
    rw [Bool.and_eq_true] at h1
    have ht : t = 102 := Nat.eq_of_beq_eq_true h1.1
    have hk : 1 ≤ k := Nat.le_of_ble_eq_true h1.2
    subst ht
    obtain ⟨n, h2, h3⟩ := ob_some h4
    cases h3
    obtain ⟨x', y', rfl, r1, r2⟩ := hr.two
    cases r2 with
    | iface _ _ y ry =>
    rw [rel_int ry]
    obtain ⟨B, f1, _⟩ := eno_ok hc 20 _ _ n h2 r1
    refine (is_any f1 k hk).mono ?_
    rintro e w' ⟨rfl, rfl⟩
    rw [beq_dec]
    exact ⟨_, rfl, eff_self hc (.bool _)⟩
  · cases h
/-- The blocks change, or the accesses go on: what is held stays. -/
theorem Conc.moved (h : Conc E G ρ m w) {R : List Nat} (r1 : ∀ b ∈ G.X, b ∈ R) (r2 : ∀ i o q, m.tr.get? i = some o → isObj o = true → ρ i = some q → q.1 ∈ R) {m' : Mem} (htr : m'.tr = m.tr) (hids : m'.nx = m.nx ∧ m'.ib = m.ib ∧ m'.ic = m.ic) (hmode : m'.mode ≠ 0 → m.mode ≠ 0) {w' : World} (hb : HeldBy R w w') (hbel : Below G.W.heap.size G.W w') (hlay : Lay' G ρ m' R w') :
    Conc E G ρ m' w' ∧ HeldBy G.X w w' := by
  refine ⟨⟨hbel, by rw [hids.1]; exact h.dom, fun i o ho => ?_, by rw [htr]; exact h.inj, ⟨R, r1, by rw [htr]; exact r2, hlay⟩, fun b hb' => Nat.lt_of_lt_of_le (h.xlt b hb') hb.1, fun hm => by rw [hids.2.1]; exact h.ib (hmode hm), fun hm => by rw [hids.2.2]; exact h.ic (hmode hm), by rw [htr]; exact h.off, fun b hb' => h.new b (Nat.le_trans hb.1 hb'), h.hand⟩, hb.less r1⟩
  rw [htr] at ho
  obtain ⟨q, a, b, c⟩ := h.rows i o ho
  exact ⟨q, a, b.to (Ren.le_refl ρ) fun hi => hb.2 _ (r2 i o q ho hi a), c⟩
theorem opLoad_snd (ref : Nat) (i : Int) (S : BS) : (opLoad ref i S).2 = S := by
  unfold opLoad; split <;> rfl
theorem pBLoad_ok {args : List Value} {v : Value} {m' : Mem} (h : pBLoad args m = some (v, m')) {args' : List Value} (hc : Conc E G ρ m w) (hr : RelL ρ args args') :
    Calls Tryz.prog 151 ⟨args'⟩ w fun e w' => ∃ v', e = .returned v' ∧ EffPost E G ρ m w v m' v' w' := by
  unfold pBLoad at h
  split at h
  · rename_i b ref i
    obtain ⟨S, h1, h⟩ := ob_some h
    obtain ⟨h2, h⟩ := ifo_some h
    cases h
    simp only [Bool.and_eq_true] at h2
    obtain ⟨⟨⟨e1, e2⟩, e3⟩, e4⟩ := h2
    have e1 : b = m.ib := Nat.eq_of_beq_eq_true e1
    rw [Nat.blt_eq] at e2
    have e3 : (opLoad ref i S).1.err = 0 := Nat.eq_of_beq_eq_true e3
    have e4 : m.mode = 0 := Nat.eq_of_beq_eq_true e4
    obtain ⟨x', c1, rfl, p1, k⟩ := hr.cons_inv
    obtain ⟨y', c2, rfl, p2, k⟩ := k.cons_inv
    obtain ⟨z', c3, rfl, p3, k⟩ := k.cons_inv
    obtain rfl := k.nil_inv
    rw [rel_int p2, rel_int p3]
    obtain ⟨R, r1, r2, r3⟩ := hc.lay
    rcases r3 with ⟨a, _⟩ | ⟨S', pa, q, a, _, hq, hh⟩ | ⟨a, _⟩
    · rw [a] at h1; cases h1
    · rw [a] at h1; cases h1
      subst e1
      cases p1 with
      | ptr _ _ q' hq' =>
      rw [hq] at hq'; cases hq'
      refine (held_load hh e2 i).mono ?_
      rintro e w' ⟨v, rfl, E', he, _, hd, hb⟩
      rw [e3] at he
      obtain ⟨rfl, rfl⟩ := he.isNil rfl
      rw [opLoad_snd] at hd
      obtain ⟨c1, c2⟩ := hc.moved r1 r2 (m' := m) rfl ⟨rfl, rfl, rfl⟩ id hb hd.below (.inr (.inl ⟨S, pa, q, a, e4, hq, hd⟩))
      exact ⟨_, rfl, eff_same (.tuple _ _ rfl (RelL.cons (.int _ _) (RelL.cons .nilIface (RelL.nil ρ))).2) c1 c2 (Nat.le_refl _)⟩
    · exact absurd e4 a
  · cases h
theorem pBAlloc_ok {args : List Value} {v : Value} {m' : Mem} (h : pBAlloc args m = some (v, m')) {args' : List Value} (hc : Conc E G ρ m w) (hr : RelL ρ args args') :
    Calls Tryz.prog 141 ⟨args'⟩ w fun e w' => ∃ v', e = .returned v' ∧ EffPost E G ρ m w v m' v' w' := by
  unfold pBAlloc at h
  split at h
  · rename_i b i
    obtain ⟨S, h1, h⟩ := ob_some h
    obtain ⟨h2, h⟩ := ifo_some h
    cases h
    simp only [Bool.and_eq_true] at h2
    obtain ⟨⟨e1, e3⟩, e4⟩ := h2
    have e1 : b = m.ib := Nat.eq_of_beq_eq_true e1
    have e3 : (opAlloc i S).1.err = 0 := Nat.eq_of_beq_eq_true e3
    have e4 : m.mode = 0 := Nat.eq_of_beq_eq_true e4
    obtain ⟨x', c1, rfl, p1, k⟩ := hr.cons_inv
    obtain ⟨z', c3, rfl, p3, k⟩ := k.cons_inv
    obtain rfl := k.nil_inv
    rw [rel_int p3]
    obtain ⟨R, r1, r2, r3⟩ := hc.lay
    rcases r3 with ⟨a, _⟩ | ⟨S', pa, q, a, _, hq, hh⟩ | ⟨a, _⟩
    · rw [a] at h1; cases h1
    · rw [a] at h1; cases h1
      subst e1
      cases p1 with
      | ptr _ _ q' hq' =>
      rw [hq] at hq'; cases hq'
      refine (held_alloc hh i).mono ?_
      rintro e w' ⟨v, rfl, E', he, _, hd, hb⟩
      rw [e3] at he
      obtain ⟨rfl, rfl⟩ := he.isNil rfl
      obtain ⟨c1, c2⟩ := hc.moved r1 r2 (m' := { m with bs := some (opAlloc i S).2 }) rfl ⟨rfl, rfl, rfl⟩ id hb hd.below (.inr (.inl ⟨_, pa, q, rfl, e4, hq, hd⟩))
      exact ⟨_, rfl, eff_same (.tuple _ _ rfl (RelL.cons (.int _ _) (RelL.cons .nilIface (RelL.nil ρ))).2) c1 c2 (Nat.le_refl _)⟩
    · exact absurd e4 a
  · cases h
theorem pBFree_ok {args : List Value} {v : Value} {m' : Mem} (h : pBFree args m = some (v, m')) {args' : List Value} (hc : Conc E G ρ m w) (hr : RelL ρ args args') :
    Calls Tryz.prog 112 ⟨args'⟩ w fun e w' => ∃ v', e = .returned v' ∧ EffPost E G ρ m w v m' v' w' := by
  unfold pBFree at h
  split at h
  · rename_i b i
    obtain ⟨S, h1, h⟩ := ob_some h
    obtain ⟨h2, h⟩ := ifo_some h
    cases h
    simp only [Bool.and_eq_true] at h2
    obtain ⟨⟨⟨e1, e0⟩, e3⟩, e4⟩ := h2
    rw [Nat.blt_eq] at e0
    have e1 : b = m.ib := Nat.eq_of_beq_eq_true e1
    have e3 : (opFree i S).1.err = 0 := Nat.eq_of_beq_eq_true e3
    have e4 : m.mode = 0 := Nat.eq_of_beq_eq_true e4
    obtain ⟨x', c1, rfl, p1, k⟩ := hr.cons_inv
    obtain ⟨z', c3, rfl, p3, k⟩ := k.cons_inv
    obtain rfl := k.nil_inv
    rw [rel_int p3]
    obtain ⟨R, r1, r2, r3⟩ := hc.lay
    rcases r3 with ⟨a, _⟩ | ⟨S', pa, q, a, _, hq, hh⟩ | ⟨a, _⟩
    · rw [a] at h1; cases h1
    · rw [a] at h1; cases h1
      subst e1
      cases p1 with
      | ptr _ _ q' hq' =>
      rw [hq] at hq'; cases hq'
      refine (held_free hh e0).mono ?_
      rintro e w' ⟨v, rfl, E', he, _, hd, hb⟩
      rw [e3] at he
      obtain ⟨rfl, rfl⟩ := he.isNil rfl
      obtain ⟨c1, c2⟩ := hc.moved r1 r2 (m' := { m with bs := some (opFree i S).2 }) rfl ⟨rfl, rfl, rfl⟩ id hb hd.below (.inr (.inl ⟨_, pa, q, rfl, e4, hq, hd⟩))
      exact ⟨_, rfl, eff_same .nilIface c1 c2 (Nat.le_refl _)⟩
    · exact absurd e4 a
  · cases h
theorem RelL.three {ρ : Ren} {x y z : Value} {l : List Value} (h : RelL ρ [x, y, z] l) : ∃ x' y' z', l = [x', y', z'] ∧ Rel ρ x x' ∧ Rel ρ y y' ∧ Rel ρ z z' := by
  obtain ⟨x', l1, rfl, p1, k⟩ := h.cons_inv
  obtain ⟨y', z', rfl, p2, p3⟩ := k.two
  exact ⟨x', y', z', rfl, p1, p2, p3⟩
theorem pBStore_ok {args : List Value} {v : Value} {m' : Mem} (h : pBStore args m = some (v, m')) {args' : List Value} (hc : Conc E G ρ m w) (hr : RelL ρ args args') :
    Calls Tryz.prog 145 ⟨args'⟩ w fun e w' => ∃ v', e = .returned v' ∧ EffPost E G ρ m w v m' v' w' := by
  unfold pBStore at h
  split at h
  · rename_i b i j x
    obtain ⟨S, h1, h⟩ := ob_some h
    obtain ⟨h2, h⟩ := ifo_some h
    cases h
    simp only [Bool.and_eq_true] at h2
    obtain ⟨⟨⟨⟨e1, e0⟩, ex⟩, e3⟩, e4⟩ := h2
    rw [Nat.blt_eq] at e0 ex
    have e1 : b = m.ib := Nat.eq_of_beq_eq_true e1
    have e3 : (opStore i j x S).1.err = 0 := Nat.eq_of_beq_eq_true e3
    have e4 : m.mode = 0 := Nat.eq_of_beq_eq_true e4
    obtain ⟨x', c1, rfl, p1, k⟩ := hr.cons_inv
    obtain ⟨y', z', u', rfl, p2, p3, p5⟩ := k.three
    rw [rel_int p2, rel_int p3, rel_int p5]
    obtain ⟨R, r1, r2, r3⟩ := hc.lay
    rcases r3 with ⟨a, _⟩ | ⟨S', pa, q, a, _, hq, hh⟩ | ⟨a, _⟩
    · rw [a] at h1; cases h1
    · rw [a] at h1; cases h1
      subst e1
      cases p1 with
      | ptr _ _ q' hq' =>
      rw [hq] at hq'; cases hq'
      refine (held_store hh e0 j ex).mono ?_
      rintro e w' ⟨v, rfl, E', he, _, hd, hb⟩
      rw [e3] at he
      obtain ⟨rfl, rfl⟩ := he.isNil rfl
      obtain ⟨c1, c2⟩ := hc.moved r1 r2 (m' := { m with bs := some (opStore i j x S).2 }) rfl ⟨rfl, rfl, rfl⟩ id hb hd.below (.inr (.inl ⟨_, pa, q, rfl, e4, hq, hd⟩))
      exact ⟨_, rfl, eff_same .nilIface c1 c2 (Nat.le_refl _)⟩
    · exact absurd e4 a
  · cases h
theorem pBCAS_ok {args : List Value} {v : Value} {m' : Mem} (h : pBCAS args m = some (v, m')) {args' : List Value} (hc : Conc E G ρ m w) (hr : RelL ρ args args') :
    Calls Tryz.prog 207 ⟨args'⟩ w fun e w' => ∃ v', e = .returned v' ∧ EffPost E G ρ m w v m' v' w' := by
  unfold pBCAS at h
  split at h
  · rename_i b i j old x
    obtain ⟨S, h1, h⟩ := ob_some h
    obtain ⟨h2, h⟩ := ifo_some h
    cases h
    simp only [Bool.and_eq_true] at h2
    obtain ⟨⟨⟨⟨e1, e0⟩, ex⟩, e3⟩, e4⟩ := h2
    rw [Nat.blt_eq] at e0 ex
    have e1 : b = m.ib := Nat.eq_of_beq_eq_true e1
    have e3 : (opCAS i j old x S).1.err = 0 := Nat.eq_of_beq_eq_true e3
    have e4 : m.mode = 0 := Nat.eq_of_beq_eq_true e4
    obtain ⟨x', c1, rfl, p1, k⟩ := hr.cons_inv
    obtain ⟨y', c2, rfl, p2, k⟩ := k.cons_inv
    obtain ⟨z', o', u', rfl, p3, p5, p6⟩ := k.three
    rw [rel_int p2, rel_int p3, rel_int p5, rel_int p6]
    obtain ⟨R, r1, r2, r3⟩ := hc.lay
    rcases r3 with ⟨a, _⟩ | ⟨S', pa, q, a, _, hq, hh⟩ | ⟨a, _⟩
    · rw [a] at h1; cases h1
    · rw [a] at h1; cases h1
      subst e1
      cases p1 with
      | ptr _ _ q' hq' =>
      rw [hq] at hq'; cases hq'
      refine (held_cas hh e0 j old ex).mono ?_
      rintro e w' ⟨v, rfl, E', he, _, hd, hb⟩
      rw [e3] at he
      obtain ⟨rfl, rfl⟩ := he.isNil rfl
      obtain ⟨c1, c2⟩ := hc.moved r1 r2 (m' := { m with bs := some (opCAS i j old x S).2 }) rfl ⟨rfl, rfl, rfl⟩ id hb hd.below (.inr (.inl ⟨_, pa, q, rfl, e4, hq, hd⟩))
      exact ⟨_, rfl, eff_same (.tuple _ _ rfl (RelL.cons (.bool _) (RelL.cons .nilIface (RelL.nil ρ))).2) c1 c2 (Nat.le_refl _)⟩
    · exact absurd e4 a
  · cases h
theorem pOn_ok {args : List Value} {v : Value} {m' : Mem} (h : pOn args m = some (v, m')) {args' : List Value} (hc : Conc E G ρ m w) (hr : RelL ρ args args') :
    Calls Tryz.prog 129 ⟨args'⟩ w fun e w' => ∃ v', e = .returned v' ∧ EffPost E G ρ m w v m' v' w' := by
  unfold pOn at h
  split at h
  · rename_i n f
    obtain ⟨h1, h⟩ := ifo_some h
    cases h
    simp only [Bool.and_eq_true] at h1
    obtain ⟨⟨⟨⟨e1, e2⟩, e3⟩, e4⟩, e5⟩ := h1
    have e1 : 1 ≤ n := Nat.le_of_ble_eq_true e1
    have e2 : n ≤ 16384 := Nat.le_of_ble_eq_true e2
    have e3 : f ≤ n := Nat.le_of_ble_eq_true e3
    have e4 : m.mode = 0 := Nat.eq_of_beq_eq_true e4
    rw [Nat.blt_eq] at e5
    obtain ⟨x', y', rfl, p1, p2⟩ := hr.two
    rw [rel_int p1, rel_int p2]
    refine (on_held n f e1 e2 e3 w).mono ?_
    rintro e w' ⟨pa, pb, rfl, hh⟩
    obtain ⟨hu, hx⟩ := hc.under hh.below
    have hi : ρ m.nx = none := hc.fresh
    have hi2 : (ρ.put m.nx (pa, 0)) (m.nx + 1) = none := by
      rw [Ren.put_ne _ _ (by omega)]
      cases e : ρ (m.nx + 1) with
      | none => rfl
      | some q => have := (hc.dom _ _ e).1; omega
    have hle : ρ.le ((ρ.put m.nx (pa, 0)).put (m.nx + 1) (pb, 0)) := Ren.le_trans (Ren.le_put hi) (Ren.le_put hi2)
    have hget : ∀ j, (Tr.set 20 (Tr.set 20 m.tr m.nx SObj.abs) (m.nx + 1) .abs).get? j = if j = m.nx + 1 then some .abs else if j = m.nx then some .abs else m.tr.get? j := fun j => by
      rw [Tr.get_set20 _ _ _ _ (by omega), Tr.get_set20 _ _ _ _ (by omega)]
    have hold : ∀ j q, ((ρ.put m.nx (pa, 0)).put (m.nx + 1) (pb, 0)) j = some q → (j = m.nx + 1 ∧ q = (pb, 0)) ∨ (j = m.nx ∧ q = (pa, 0)) ∨ ρ j = some q := by
      intro j q e
      by_cases h1 : j = m.nx + 1
      · subst h1; rw [Ren.put_self] at e; cases e; exact .inl ⟨rfl, rfl⟩
      · rw [Ren.put_ne _ _ h1] at e
        by_cases h2 : j = m.nx
        · subst h2; rw [Ren.put_self] at e; cases e; exact .inr (.inl ⟨rfl, rfl⟩)
        · rw [Ren.put_ne _ _ h2] at e; exact .inr (.inr e)
    have hobj : ∀ j o q, (Tr.set 20 (Tr.set 20 m.tr m.nx SObj.abs) (m.nx + 1) .abs).get? j = some o → isObj o = true → ((ρ.put m.nx (pa, 0)).put (m.nx + 1) (pb, 0)) j = some q → m.tr.get? j = some o ∧ ρ j = some q := by
      intro j o q h1 h2 h3
      rw [hget] at h1
      split at h1
      · cases h1; cases h2
      · split at h1
        · cases h1; cases h2
        · rename_i n1 n2
          rcases hold j q h3 with ⟨e, _⟩ | ⟨e, _⟩ | e
          · exact absurd e n1
          · exact absurd e n2
          · exact ⟨h1, e⟩
    refine ⟨_, rfl, (ρ.put m.nx (pa, 0)).put (m.nx + 1) (pb, 0), ⟨hle, fun j hj => by rw [Ren.put_ne _ _ (by omega), Ren.put_ne _ _ (by omega)], hx⟩, Nat.le_add_right _ _,
      .tuple _ _ rfl (RelL.cons (.ptr m.nx 0 (pa, 0) (by rw [Ren.put_ne _ _ (by omega), Ren.put_self])) (RelL.cons (.ptr (m.nx + 1) 0 (pb, 0) (Ren.put_self _ _ _)) (RelL.nil _))).2, ?_⟩
    refine ⟨hu.below, fun j q e => ?_, fun j o ho => ?_, fun i j oi oj qi qj h1 h2 h3 h4 h5 h6 => ?_, ⟨List.range w.heap.size, fun b hb => List.mem_range.2 (hc.xlt b hb), fun i o q h1 h2 h3 => ?_, .inr (.inl ⟨_, pa, (pb, 0), rfl, e4, Ren.put_self _ _ _, ?_⟩)⟩, hu.xlt, fun hm => absurd e4 hm, fun hm => absurd e4 hm, fun i o q h1 h2 h3 => ?_, hu.new, hu.hand⟩
    · show j < m.nx + 2 ∧ j < lim
      rcases hold j q e with ⟨rfl, _⟩ | ⟨rfl, _⟩ | e
      · unfold lim; omega
      · unfold lim; omega
      · have := hc.dom j q e; omega
    · have ho : (Tr.set 20 (Tr.set 20 m.tr m.nx SObj.abs) (m.nx + 1) .abs).get? j = some o := ho
      rw [hget] at ho
      split at ho
      · rename_i e; cases ho; subst e
        exact ⟨_, Ren.put_self _ _ _, trivial, fun hm => by cases hm⟩
      · split at ho
        · rename_i e; cases ho; subst e
          exact ⟨_, by rw [Ren.put_ne _ _ (by omega), Ren.put_self], trivial, fun hm => by cases hm⟩
        · obtain ⟨q, a, b, c⟩ := hu.rows j o ho
          exact ⟨q, hle _ _ a, b.to hle fun _ => rfl, c⟩
    · obtain ⟨a1, a2⟩ := hobj i oi qi h1 h3 h5
      obtain ⟨b1, b2⟩ := hobj j oj qj h2 h4 h6
      exact hc.inj i j oi oj qi qj a1 b1 h3 h4 a2 b2
    · obtain ⟨a1, a2⟩ := hobj i o q h1 h2 h3
      obtain ⟨q', a, b, _⟩ := hc.rows i o a1
      rw [a2] at a; cases a
      exact List.mem_range.2 (b.lt h2)
    · obtain ⟨L, l1, l2, l3⟩ := hh.lay
      have := hc.below.size
      refine ⟨hh.uniq, hu.below, fun b hb => Nat.lt_of_lt_of_le (List.mem_range.1 hb) hh.below.size, L, l1, l2, fun b hb => ⟨Nat.le_trans this (l3 b hb).1, fun hm => ?_⟩⟩
      have := List.mem_range.1 hm
      have := (l3 b hb).1
      omega
    · obtain ⟨a1, a2⟩ := hobj i o q h1 h2 h3
      exact hc.off i o q a1 h2 a2
  · cases h
theorem sx_left {W : World} {R : List Nat} {pa pb pc : Nat} {c : CS} {w : World} (h : Ctx W R pa pb pc c w) : Calls Tryz.prog 116 #[.pointer (some ⟨pc, 0, none⟩)] w fun e w' => e = .returned (.int .i64 (6000 - (c.next : Int))) ∧ w = w' := by
  obtain ⟨lv, hl⟩ := h
  obtain ⟨p0, p1, p2, -⟩ := four hl.cells
  have hn : c.next ≤ 6000 := Nat.le_trans hl.next hl.few
  have g1 : IntKind.i64.wrap (6000 - (c.next : Int)) = 6000 - (c.next : Int) := IntWalk.i64_in _ (by omega)
  clear hl
  generalize c.next = nx at *
  go_enter Tryz.func116, Tryz.ntmps116
  go_wp2
  go_ret
  exact ⟨rfl, rfl⟩
theorem Cs.next {c : CS} (h : Cs G m c) : c.next = m.j := by
  rcases h.2 with ⟨_, _, rfl⟩ | ⟨e, rfl⟩
  · rfl
  · exact e.symm
theorem pLeft_ok {args : List Value} {v : Value} {m' : Mem} (h : pLeft args m = some (v, m')) {args' : List Value} (hc : Conc E G ρ m w) (hr : RelL ρ args args') :
    Calls Tryz.prog 116 ⟨args'⟩ w fun e w' => ∃ v', e = .returned v' ∧ EffPost E G ρ m w v m' v' w' := by
  unfold pLeft at h
  split at h
  · rename_i b
    obtain ⟨h1, h⟩ := ifo_some h
    cases h
    simp only [Bool.and_eq_true] at h1
    obtain ⟨⟨e1, e2⟩, e3⟩ := h1
    have e1 : b = m.ic := Nat.eq_of_beq_eq_true e1
    have e2 : 1 ≤ m.mode := Nat.le_of_ble_eq_true e2
    have e3 : m.j ≤ 6000 := Nat.le_of_ble_eq_true e3
    obtain ⟨x', c1, rfl, p1, k⟩ := hr.cons_inv
    obtain rfl := k.nil_inv
    subst e1
    obtain ⟨y, hy⟩ := hc.ic (by omega)
    cases p1 with
    | ptr _ _ q' hq' =>
    rw [hy] at hq'; cases hq'
    obtain ⟨R, r1, r2, r3⟩ := hc.lay
    rcases r3 with ⟨_, a⟩ | ⟨_, _, _, _, a, _⟩ | ⟨_, _, cc, hcs, hctx⟩
    · omega
    · omega
    · refine (sx_left hctx).mono ?_
      rintro e w' ⟨rfl, rfl⟩
      rw [hcs.next]
      have : (6000 - (m.j : Int)) = Int.ofNat (Nat.sub 6000 m.j) := by
        show _ = ((6000 - m.j : Nat) : Int)
        omega
      rw [this]
      exact ⟨_, rfl, eff_self hc (.int _ _)⟩
  · cases h
/-! Accesses. -/
theorem take_last {D : List (Ntry × BS)} {S0 : BS} {j : Nat} {x : Ntry × BS} (h : D[j]? = some x) : last S0 (D.take (j + 1)) = x.2 ∧ D.take (j + 1) = D.take j ++ [x] := by
  have hj := (List.getElem?_eq_some_iff.1 h).1
  have e : D.take (j + 1) = D.take j ++ [x] := by
    rw [List.take_add_one, h]; rfl
  refine ⟨?_, e⟩
  rw [e]
  unfold last
  simp
/-- What an access comes to, by what the Ctx says. -/
theorem access_ok {op : BS → Ntry × BS} {res : Ntry → Value} {outs : List (Value × Mem)} (h : access' m op res = .ok outs) (hf : ∀ q ∈ outs, FitM G q.2) (hc : Conc E G ρ m w) :
    ∃ R c, (∀ b ∈ G.X, b ∈ R) ∧ (∀ i o q, m.tr.get? i = some o → isObj o = true → ρ i = some q → q.1 ∈ R) ∧ Ctx G.W R G.pa G.pb G.pc c w ∧
      ∃ q ∈ outs, q.1 = res { (access op c).2.1 with err := (access op c).1 } ∧ ∀ w', Ctx G.W R G.pa G.pb G.pc (access op c).2.2 w' → HeldBy R w w' → Conc E G ρ q.2 w' ∧ HeldBy G.X w w' ∧ m.nx ≤ q.2.nx := by
  obtain ⟨S, h1, h⟩ := orb_ok h
  obtain ⟨R, r1, r2, r3⟩ := hc.lay
  have fin : ∀ {m' : Mem} {c' : CS} {w' : World}, m'.tr = m.tr → m'.nx = m.nx ∧ m'.ib = m.ib ∧ m'.ic = m.ic → (m'.mode ≠ 0 ∧ m.mode ≠ 0) → m'.bs = some (last G.S0 (G.D.take m'.j)) → Cs G m' c' → Ctx G.W R G.pa G.pb G.pc c' w' → HeldBy R w w' → Conc E G ρ m' w' ∧ HeldBy G.X w w' ∧ m.nx ≤ m'.nx := by
    intro m' c' w' a1 a2 a3 a4 a5 a6 a7
    obtain ⟨x, y⟩ := hc.moved r1 r2 a1 a2 (fun _ => a3.2) a7 a6.below (.inr (.inr ⟨a3.1, a4, c', a5, a6⟩))
    exact ⟨x, y, Nat.le_of_eq a2.1.symm⟩
  rcases r3 with ⟨_, a⟩ | ⟨_, _, _, _, a, _⟩ | ⟨hm0, hbs, c, hcs, hctx⟩
  · rw [a] at h; cases h
  · rw [a] at h; cases h
  · rw [h1] at hbs
    have hS := Option.some.inj hbs
    refine ⟨R, c, r1, r2, hctx, ?_⟩
    have hcs2 := hcs.2
    -- the step is over
    have over : m.j = G.k + 1 → c = ⟨(G.D.take (G.k + 1)).map (·.1), G.k + 1, true, last G.S0 (G.D.take (G.k + 1))⟩ → ∀ m' : Mem, m'.tr = m.tr → m'.nx = m.nx ∧ m'.ib = m.ib ∧ m'.ic = m.ic → m'.mode ≠ 0 → m'.bs = m.bs → m'.j = m.j → m'.tl = m.tl → (res ⟨0, 0, 0, 0, false, 11⟩, m') ∈ outs →
        ∃ q ∈ outs, q.1 = res { (access op c).2.1 with err := (access op c).1 } ∧ ∀ w', Ctx G.W R G.pa G.pb G.pc (access op c).2.2 w' → HeldBy R w w' → Conc E G ρ q.2 w' ∧ HeldBy G.X w w' ∧ m.nx ≤ q.2.nx := by
      intro e1 e2 m' a1 a2 a3 a4 a5 a6 hin
      have hacc : access op c = (11, Th.blank, c) := by
        unfold access
        have hn : c.log[c.next]? = none := by
          rw [e2]
          simp only
          rw [List.getElem?_eq_none]
          rw [List.length_map, List.length_take]
          omega
        rw [hn]
        simp only
        rw [if_pos (by rw [e2])]
      refine ⟨_, hin, by rw [hacc]; rfl, fun w' k1 k2 => ?_⟩
      rw [hacc] at k1
      refine fin a1 a2 ⟨a3, hm0⟩ (by rw [a4, a5, h1]; exact congrArg some hS) ?_ k1 k2
      refine ⟨by rw [a6, a5]; exact hcs.1, .inr ⟨by rw [a5]; exact e1, e2⟩⟩
    split at h
    · rename_i hmode
      rw [bif_eq] at h
      split at h
      · rename_i hj6
        rw [Nat.blt_eq] at hj6
        have h := Go.Sx.R.ok.inj h
        have hmain : ((res (op S).1, { m with bs := some (op S).2, j := m.j + 1, tl := op S :: m.tl }) : Value × Mem) ∈ outs := by rw [← h]; exact List.mem_cons_self ..
        have hfit : (op S :: m.tl).reverse <+: G.D := hf _ hmain hmode
        rw [List.reverse_cons, hcs.1] at hfit
        have hlen : (G.D.take m.j).length + 1 ≤ G.D.length := by
          have := hfit.length_le
          simpa using this
        have hjlt : m.j < G.D.length := by
          rw [List.length_take] at hlen; omega
        have hDj : G.D[m.j]? = some (op S) := by
          obtain ⟨r, hr⟩ := hfit
          rw [← hr, List.append_assoc, List.getElem?_append_right (by rw [List.length_take]; omega), List.length_take, show m.j - min m.j G.D.length = 0 by omega]
          rfl
        obtain ⟨hl1, hl2⟩ := take_last (S0 := G.S0) hDj
        have htl : (op S :: m.tl).reverse = G.D.take (m.j + 1) := by rw [List.reverse_cons, hcs.1, hl2]
        rcases hcs2 with ⟨_, hjk, hce⟩ | ⟨hjk, hce⟩
        · by_cases hjk2 : m.j < G.k
          · have hacc : access op c = ((op S).1.err, (op S).1, { c with next := m.j + 1 }) := by
              unfold access
              have hn : c.log[c.next]? = some (op S).1 := by
                rw [hce]
                simp only
                rw [List.getElem?_map, List.getElem?_take, if_pos hjk2, hDj]
                rfl
              rw [hn]
              simp only
              rw [hcs.next]
            refine ⟨_, hmain, by rw [hacc], fun w' k1 k2 => ?_⟩
            rw [hacc] at k1
            refine fin rfl ⟨rfl, rfl, rfl⟩ ⟨hm0, hm0⟩ (by show some (op S).2 = _; rw [hl1]) ⟨htl, .inl ⟨hmode, hjk2, ?_⟩⟩ k1 k2
            rw [hce]
          · have hjk3 : m.j = G.k := by omega
            have hlog : c.log.length = m.j := by
              rw [hce]; simp only [List.length_map, List.length_take]; omega
            have hcbs : c.bs = S := by rw [hce]; show last G.S0 (G.D.take G.k) = S; rw [← hjk3]; exact hS.symm
            have hacc : access op c = ((op S).1.err, (op S).1, ⟨c.log ++ [(op S).1], m.j + 1, true, (op S).2⟩) := by
              unfold access
              have hn : c.log[c.next]? = none := by
                rw [List.getElem?_eq_none]; rw [hcs.next, hlog]; exact Nat.le_refl _
              rw [hn]
              simp only
              rw [if_neg (by rw [hce]; simp), if_neg (by omega), hcbs, hcs.next]
            refine ⟨_, hmain, by rw [hacc], fun w' k1 k2 => ?_⟩
            rw [hacc] at k1
            refine fin rfl ⟨rfl, rfl, rfl⟩ ⟨hm0, hm0⟩ (by show some (op S).2 = _; rw [hl1]) ⟨htl, .inr ⟨by show m.j + 1 = G.k + 1; omega, ?_⟩⟩ k1 k2
            rw [hce]
            simp only
            rw [← hjk3, hl2, ← hl2, hl1, hl2, List.map_append]
            rfl
        · refine over hjk hce { m with mode := 2 } rfl ⟨rfl, rfl, rfl⟩ (by simp) rfl rfl rfl ?_
          rw [← h]
          have : Nat.beq m.j 0 = false := by rw [beq_dec]; exact decide_eq_false (by omega)
          rw [this]
          simp [bif']
      · cases h
    · rename_i hmode
      have h := Go.Sx.R.ok.inj h
      rcases hcs2 with ⟨e, _⟩ | ⟨hjk, hce⟩
      · rw [hmode] at e; cases e
      · exact over hjk hce m rfl ⟨rfl, rfl, rfl⟩ hm0 rfl rfl rfl (by rw [← h]; simp)
    · cases h
theorem errV_rel (n : Nat) : Rel ρ (errV' xt.errno n) (errV n) := by
  unfold errV
  cases n with
  | zero => rw [if_pos rfl]; exact .nilIface
  | succ n => rw [if_neg (by omega)]; exact .iface _ _ _ (.int _ _)
theorem if64_some {β : Type} {n : Nat} {x : Option β} {r : β} (h : if64 n x = some r) : n < 18446744073709551616 ∧ x = some r := by
  unfold if64 at h
  split at h
  · rename_i e; rw [Nat.blt_eq] at e; exact ⟨e, h⟩
  · cases h
theorem isP_rel (hc : Conc E G ρ m w) (hm : ∀ (op : BS → Ntry × BS) (res : Ntry → Value) (outs : List (Value × Mem)), access' m op res = .ok outs → m.mode ≠ 0) {op : BS → Ntry × BS} {res : Ntry → Value} {outs : List (Value × Mem)} (h : access' m op res = .ok outs) {x x' : Value} {l : List Value} (hi : isP m.ic (x :: l) = true) (r : Rel ρ x x') : x' = .pointer (some ⟨G.pc, 0, none⟩) := by
  unfold isP at hi
  split at hi
  · rename_i j l' e
    cases e
    have : m.ic = j := Nat.eq_of_beq_eq_true hi
    subst this
    obtain ⟨y, hy⟩ := hc.ic (hm op res outs h)
    cases r with
    | ptr _ _ q hq => rw [hy] at hq; cases hq; rfl
  · cases hi
theorem access_mode {op : BS → Ntry × BS} {res : Ntry → Value} {outs : List (Value × Mem)} (h : access' m op res = .ok outs) : m.mode ≠ 0 := by
  obtain ⟨S, h1, h⟩ := orb_ok h
  intro e
  rw [e] at h
  cases h
theorem acc_load (hg : Handle G.W) {args : List Value} {op : BS → Ntry × BS} {res : Ntry → Value} {outs : List (Value × Mem)} (hi : isP m.ic args = true) (hp : aLoad xt args = some (op, res)) (h : access' m op res = .ok outs) (hf : ∀ q ∈ outs, FitM G q.2) {args' : List Value} (hc : Conc E G ρ m w) (hr : RelL ρ args args') :
    Calls Tryz.prog 89 ⟨args'⟩ w fun e w' => ∃ v', e = .returned v' ∧ ∃ q ∈ outs, EffPost E G ρ m w q.1 q.2 v' w' := by
  unfold aLoad at hp
  split at hp
  · rename_i x ref i
    obtain ⟨b1, hp⟩ := if64_some hp
    cases hp
    obtain ⟨x', c1, rfl, p1, k⟩ := hr.cons_inv
    obtain ⟨y', c2, rfl, p2, k⟩ := k.cons_inv
    obtain ⟨z', c3, rfl, p3, k⟩ := k.cons_inv
    obtain rfl := k.nil_inv
    rw [isP_rel hc (fun _ _ _ => access_mode) h hi p1, rel_int p2, rel_int p3]
    obtain ⟨R, c, _, _, hctx, q, hq, e1, hfin⟩ := access_ok h hf hc
    refine (cload_ok hctx hg b1 i).mono ?_
    rintro e w' ⟨rfl, k1, k2⟩
    obtain ⟨f1, f2, f3⟩ := hfin w' k1 k2
    exact ⟨_, rfl, q, hq, by rw [e1]; exact eff_same (.tuple _ _ rfl (RelL.cons (.int _ _) (RelL.cons (errV_rel _) (RelL.nil ρ))).2) f1 f2 f3⟩
  · cases hp
theorem acc_store (hg : Handle G.W) {args : List Value} {op : BS → Ntry × BS} {res : Ntry → Value} {outs : List (Value × Mem)} (hi : isP m.ic args = true) (hp : aStore xt args = some (op, res)) (h : access' m op res = .ok outs) (hf : ∀ q ∈ outs, FitM G q.2) {args' : List Value} (hc : Conc E G ρ m w) (hr : RelL ρ args args') :
    Calls Tryz.prog 75 ⟨args'⟩ w fun e w' => ∃ v', e = .returned v' ∧ ∃ q ∈ outs, EffPost E G ρ m w q.1 q.2 v' w' := by
  unfold aStore at hp
  split at hp
  · rename_i x ref i y
    obtain ⟨b1, hp⟩ := if64_some hp
    obtain ⟨b2, hp⟩ := if64_some hp
    cases hp
    obtain ⟨x', c1, rfl, p1, k⟩ := hr.cons_inv
    obtain ⟨y', c2, rfl, p2, k⟩ := k.cons_inv
    obtain ⟨z', c3, rfl, p3, k⟩ := k.cons_inv
    obtain ⟨u', c4, rfl, p4, k⟩ := k.cons_inv
    obtain rfl := k.nil_inv
    rw [isP_rel hc (fun _ _ _ => access_mode) h hi p1, rel_int p2, rel_int p3, rel_int p4]
    obtain ⟨R, c, _, _, hctx, q, hq, e1, hfin⟩ := access_ok h hf hc
    refine (cstore_ok hctx hg b1 b2 i).mono ?_
    rintro e w' ⟨rfl, k1, k2⟩
    obtain ⟨f1, f2, f3⟩ := hfin w' k1 k2
    exact ⟨_, rfl, q, hq, by rw [e1]; exact eff_same (errV_rel _) f1 f2 f3⟩
  · rename_i x ref i y
    obtain ⟨b1, hp⟩ := if64_some hp
    cases hp
    obtain ⟨x', c1, rfl, p1, k⟩ := hr.cons_inv
    obtain ⟨y', c2, rfl, p2, k⟩ := k.cons_inv
    obtain ⟨z', c3, rfl, p3, k⟩ := k.cons_inv
    obtain ⟨u', c4, rfl, p4, k⟩ := k.cons_inv
    obtain rfl := k.nil_inv
    cases p4 with
    | wrd _ b2 =>
    rw [isP_rel hc (fun _ _ _ => access_mode) h hi p1, rel_int p2, rel_int p3]
    obtain ⟨R, c, _, _, hctx, q, hq, e1, hfin⟩ := access_ok h hf hc
    refine (cstore_ok hctx hg b1 b2 i).mono ?_
    rintro e w' ⟨rfl, k1, k2⟩
    obtain ⟨f1, f2, f3⟩ := hfin w' k1 k2
    exact ⟨_, rfl, q, hq, by rw [e1]; exact eff_same (errV_rel _) f1 f2 f3⟩
  · cases hp
theorem acc_cas (hg : Handle G.W) {args : List Value} {op : BS → Ntry × BS} {res : Ntry → Value} {outs : List (Value × Mem)} (hi : isP m.ic args = true) (hp : aCAS xt args = some (op, res)) (h : access' m op res = .ok outs) (hf : ∀ q ∈ outs, FitM G q.2) {args' : List Value} (hc : Conc E G ρ m w) (hr : RelL ρ args args') :
    Calls Tryz.prog 125 ⟨args'⟩ w fun e w' => ∃ v', e = .returned v' ∧ ∃ q ∈ outs, EffPost E G ρ m w q.1 q.2 v' w' := by
  unfold aCAS at hp
  split at hp
  · rename_i x ref i old y
    obtain ⟨b1, hp⟩ := if64_some hp
    obtain ⟨b2, hp⟩ := if64_some hp
    cases hp
    obtain ⟨x', c1, rfl, p1, k⟩ := hr.cons_inv
    obtain ⟨y', c2, rfl, p2, k⟩ := k.cons_inv
    obtain ⟨z', c3, rfl, p3, k⟩ := k.cons_inv
    obtain ⟨u', c4, rfl, p4, k⟩ := k.cons_inv
    obtain ⟨t', c5, rfl, p5, k⟩ := k.cons_inv
    obtain rfl := k.nil_inv
    rw [isP_rel hc (fun _ _ _ => access_mode) h hi p1, rel_int p2, rel_int p3, rel_int p4, rel_int p5]
    obtain ⟨R, c, _, _, hctx, q, hq, e1, hfin⟩ := access_ok h hf hc
    refine (ccas_ok hctx hg b1 b2 i old).mono ?_
    rintro e w' ⟨rfl, k1, k2⟩
    obtain ⟨f1, f2, f3⟩ := hfin w' k1 k2
    exact ⟨_, rfl, q, hq, by rw [e1]; exact eff_same (.tuple _ _ rfl (RelL.cons (.bool _) (RelL.cons (errV_rel _) (RelL.nil ρ))).2) f1 f2 f3⟩
  · cases hp
theorem acc_alloc (hg : Handle G.W) {args : List Value} {op : BS → Ntry × BS} {res : Ntry → Value} {outs : List (Value × Mem)} (hi : isP m.ic args = true) (hp : aAlloc xt args = some (op, res)) (h : access' m op res = .ok outs) (hf : ∀ q ∈ outs, FitM G q.2) {args' : List Value} (hc : Conc E G ρ m w) (hr : RelL ρ args args') :
    Calls Tryz.prog 73 ⟨args'⟩ w fun e w' => ∃ v', e = .returned v' ∧ ∃ q ∈ outs, EffPost E G ρ m w q.1 q.2 v' w' := by
  unfold aAlloc at hp
  split at hp
  · rename_i x n
    cases hp
    obtain ⟨x', y', rfl, p1, p2⟩ := hr.two
    rw [isP_rel hc (fun _ _ _ => access_mode) h hi p1, rel_int p2]
    obtain ⟨R, c, _, _, hctx, q, hq, e1, hfin⟩ := access_ok h hf hc
    refine (calloc_ok hctx hg n).mono ?_
    rintro e w' ⟨rfl, k1, k2⟩
    obtain ⟨f1, f2, f3⟩ := hfin w' k1 k2
    exact ⟨_, rfl, q, hq, by rw [e1]; exact eff_same (.tuple _ _ rfl (RelL.cons (.int _ _) (RelL.cons (errV_rel _) (RelL.nil ρ))).2) f1 f2 f3⟩
  · cases hp
theorem acc_free (hg : Handle G.W) {args : List Value} {op : BS → Ntry × BS} {res : Ntry → Value} {outs : List (Value × Mem)} (hi : isP m.ic args = true) (hp : aFree xt args = some (op, res)) (h : access' m op res = .ok outs) (hf : ∀ q ∈ outs, FitM G q.2) {args' : List Value} (hc : Conc E G ρ m w) (hr : RelL ρ args args') :
    Calls Tryz.prog 91 ⟨args'⟩ w fun e w' => ∃ v', e = .returned v' ∧ ∃ q ∈ outs, EffPost E G ρ m w q.1 q.2 v' w' := by
  unfold aFree at hp
  split at hp
  · rename_i x ref
    obtain ⟨b1, hp⟩ := if64_some hp
    cases hp
    obtain ⟨x', y', rfl, p1, p2⟩ := hr.two
    rw [isP_rel hc (fun _ _ _ => access_mode) h hi p1, rel_int p2]
    obtain ⟨R, c, _, _, hctx, q, hq, e1, hfin⟩ := access_ok h hf hc
    refine (cfree_ok hctx hg b1).mono ?_
    rintro e w' ⟨rfl, k1, k2⟩
    obtain ⟨f1, f2, f3⟩ := hfin w' k1 k2
    exact ⟨_, rfl, q, hq, by rw [e1]; exact eff_same (errV_rel _) f1 f2 f3⟩
  · cases hp
end Go.Proofs.YtgmdbfackbdnlaaGreatDoor
