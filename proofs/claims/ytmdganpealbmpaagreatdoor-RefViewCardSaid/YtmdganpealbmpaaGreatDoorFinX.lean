/- FinX: RefAlone, StepX, InitX, FinX. -/
import Derived.Test.YtmdganpealbmpaaGreatDoorBegins13
import Derived.Test.YtmdganpealbmpaaGreatDoorPlayX
import Derived.Test.YtmdganpealbmpaaGreatDoorIlvEnd2

/- RefAlone: the law's walk. -/
namespace Go.Proofs.YtmdganpealbmpaaGreatDoor
open Go.RowKit Bl Th
set_option maxRecDepth 10000

/-- 1, 2 or 3. -/
theorem three13 (a : Int) : ∃ n : Nat, 1 ≤ n ∧ n ≤ 3 ∧ IntKind.i64.wrap (a.tmod 3 + 3) = a.tmod 3 + 3 ∧ IntKind.i64.wrap (1 + (a.tmod 3 + 3).tmod 3) = (n : Int) := by
  have g1 : -(3 : Int) < a.tmod 3 := Int.lt_tmod_of_pos a (by omega)
  have g2 : a.tmod 3 < 3 := Int.tmod_lt_of_pos a (by omega)
  have g3 : 0 ≤ (a.tmod 3 + 3).tmod 3 := Int.tmod_nonneg _ (by omega)
  have g4 : (a.tmod 3 + 3).tmod 3 < 3 := Int.tmod_lt_of_pos _ (by omega)
  refine ⟨(1 + (a.tmod 3 + 3).tmod 3).toNat, by omega, by omega, IntWalk.i64_in _ (by omega), ?_⟩
  rw [IntWalk.i64_in _ (by omega)]
  omega
theorem ptr_at {w : World} {e : TypeId} {base n cap : Nat} {p : Option Addr} {xs : List Value} {k : Nat} {x : Value} (h : w.ownsRow base e 1 (.slice p n cap) n xs) (hx : xs[k]? = some x) : ∃ g, p = some ⟨g, 0, none⟩ ∧ w.cell? ⟨g, k, none⟩ = some x := by
  have hl := h.1
  have hk := (List.getElem?_eq_some_iff.1 hx).1
  rcases h.2 with ⟨-, h0⟩ | ⟨g, c, cur, hv, -, -⟩
  · omega
  · simp only [Value.slice.injEq] at hv
    obtain ⟨rfl, -, rfl⟩ := hv
    exact ⟨g, rfl, by rw [h.cellAt k (by omega), hx]⟩
set_option maxHeartbeats 1000000 in
theorem same13q_ok {w : World} {b1 b2 : Nat} {v1 v2 : Value} {l : List Nat} (h1 : w.ownsRow b1 41 1 v1 l.length (encT l)) (h2 : w.ownsRow b2 41 1 v2 l.length (encT l)) (hl : l.length ≤ 1000) :
    Calls Tryz.prog 15 #[v1, v2] w fun e w' => e = .returned (.bool true) ∧ ∃ m, w' = w.drewN m := by
  obtain ⟨p1, c1, rfl⟩ := ownsRow_shape h1
  obtain ⟨p2, c2, rfl⟩ := ownsRow_shape h2
  obtain ⟨len, hlen⟩ : ∃ len, l.length = len := ⟨_, rfl⟩
  rw [hlen] at hl h1 h2 ⊢
  have H1 := Lib.hid h1; have H2 := Lib.hid h2
  have HLEN := Lib.hid hlen
  clear h1 h2 hlen
  have g0 : ((len : Int) != (len : Int)) = false := by simp
  have g1 : (len != len) = false := by simp
  go_enter Tryz.func15, Tryz.ntmps15
  go_wp2
  go_loopw [5] (fun i wr => ∃ k n : Nat, k ≤ len ∧ i = .int .i64 (k : Int) ∧ wr = w.drewN n) (fun i _ => len - (intOf i).toNat)
  case atStart => exact ⟨0, 0, Nat.zero_le _, rfl, rfl⟩
  case round =>
    obtain ⟨k, n, hk, rfl, rfl⟩ := hrel
    by_cases hlt : k < len
    · have hlt' : (k : Int) < (len : Int) := by omega
      obtain ⟨x, hx⟩ : ∃ x, l[k]? = some x := ⟨l[k]'(by rw [HLEN.out]; exact hlt), List.getElem?_eq_getElem _⟩
      obtain ⟨ga, rfl, ha⟩ := row_at H1.out hx
      obtain ⟨gb, rfl, hb⟩ := row_at H2.out hx
      have g2 : ((x : Int) != (x : Int)) = false := by simp
      clear hx
      go_wp2
      go_quiet (fail)
      go_wp2
      go_roundw
      case rel => exact ⟨k + 1, _, by omega, by go_num, rfl⟩
      case measure => simp [intOf]; omega
    · obtain rfl : k = len := by omega
      have g3 : decide ((k : Int) < (k : Int)) = false := by simp
      go_wp2
      go_ret
      exact ⟨rfl, _, rfl⟩

theorem doOps_length (n : Nat) : ∀ (l : List Op13) (acc : Nat) (now : Nat → Nat) (told : List Nat), (doOps n l acc now told).1.length ≤ told.length + l.length
  | [], _, _, _ => Nat.le_refl _
  | o :: l, acc, now, told => by
    unfold doOps
    split
    · have := doOps_length n l ((acc + now (o.a % (n : Int)).toNat) % 18446744073709551616) now (told ++ [now (o.a % (n : Int)).toNat])
      simp only [List.length_append, List.length_cons, List.length_nil] at this ⊢
      omega
    · split
      · have := doOps_length n l acc (Th.upd now (o.a % (n : Int)).toNat ((acc + o.x) % 18446744073709551616)) told
        simp only [List.length_cons]
        omega
      · have := doOps_length n l acc now told
        simp only [List.length_cons]
        omega
/-- What holds at each round's head. -/
def RunJ (W : World) (pa pb pp g n : Nat) (L : List (List Op13)) (lv bv ev tv ov : Value) (its : List It) (nv cv i : Value) (wr : World) : Prop :=
  ∃ (k clk : Nat) (nl : List Nat) (ver : Nat → Nat) (S : BS), k ≤ L.length ∧ i = .int .i64 (k : Int) ∧ cv = .int .i64 (clk : Int) ∧ clk ≤ k ∧ (∀ j, j < n → ver j ≤ clk) ∧ nl.length = n ∧ Sc n S clk (fun j => rest (ver j)) (listFn nl) ∧
    wr.ownsRow W.heap.size 41 1 nv n (encT nl) ∧ PlayAt W nv.ownBlock.toList pa pb pp g (sceneCells n) L lv bv ev tv ov its k S wr
end Go.Proofs.YtmdganpealbmpaaGreatDoor

/- RefOrder, RefView: one of several transactions goes on. -/
namespace Go.Proofs.YtmdganpealbmpaaGreatDoor
open Go.RowKit Bl Th
set_option maxRecDepth 10000

theorem modN (a : Int) {n : Nat} (hn : 1 ≤ n) : (a.tmod (n : Int) + (n : Int)).tmod (n : Int) = a % (n : Int) := by
  have h1 : -(n : Int) < a.tmod n := Int.lt_tmod_of_pos a (by omega)
  rw [Int.tmod_eq_emod_of_nonneg (by omega), Int.tmod_def]
  rw [show a - (n : Int) * a.tdiv n + n = a + (n : Int) * (1 - a.tdiv n) by rw [Int.mul_sub]; omega]
  exact Int.add_mul_emod_self_left _ _ _
/-- Places modulo. -/
theorem mod_wraps (a : Int) {n : Nat} (hn : 1 ≤ n) (h4 : n ≤ 1000) : ∃ k : Nat, k = (a % (n : Int)).toNat ∧ k < n ∧ IntKind.i64.wrap (a.tmod (n : Int)) = a.tmod (n : Int) ∧ IntKind.i64.wrap (a.tmod (n : Int) + (n : Int)) = a.tmod (n : Int) + (n : Int) ∧ (a.tmod (n : Int) + (n : Int)).tmod (n : Int) = (k : Int) ∧ IntKind.i64.wrap (k : Int) = (k : Int) := by
  have b1 : -(n : Int) < a.tmod n := Int.lt_tmod_of_pos a (by omega)
  have b2 : a.tmod n < (n : Int) := Int.tmod_lt_of_pos a (by omega)
  have b3 : 0 ≤ a % (n : Int) := Int.emod_nonneg _ (by omega)
  have b4 : a % (n : Int) < n := Int.emod_lt_of_pos _ (by omega)
  refine ⟨(a % (n : Int)).toNat, rfl, by omega, IntWalk.i64_in _ (by omega), IntWalk.i64_in _ (by omega), ?_, IntWalk.i64_in _ (by omega)⟩
  rw [modN a hn]
  omega
theorem PlayX.facts {W : World} {X : List Nat} {pa pb pp g gb cb ge ce len k : Nat} {cells : List Nat} {L : List (List Op13)} {lv tv ov : Value} {its : List It} {sn : Nat → Pass} {Bs : List (List Nat)} {y : Th.Sys} {w : World} (h : PlayX W X pa pb pp g cells L lv (.slice (some ⟨gb, 0, none⟩) len cb) (.slice (some ⟨ge, 0, none⟩) len ce) tv ov its sn Bs y w) (hil : its.length = len) (hk : k < len) :
    w.cell? ⟨pp, 6, none⟩ = some (.slice (some ⟨gb, 0, none⟩) len cb) ∧ w.cell? ⟨pp, 7, none⟩ = some (.slice (some ⟨ge, 0, none⟩) len ce) ∧ w.cell? ⟨pp, 8, none⟩ = some (.int .i64 (y.now : Int)) ∧ (∃ v, w.cell? ⟨gb, k, none⟩ = some v) ∧ w.frozen? ⟨gb, k, none⟩ = false ∧ (∃ v, w.cell? ⟨ge, k, none⟩ = some v) ∧ w.frozen? ⟨ge, k, none⟩ = false := by
  subst hil
  have b1 := h.begs.1
  have b2 := h.fins.1
  refine ⟨h.main.cell 6, h.main.cell 7, h.main.cell 8, ?_, h.begs.frozenAt k, ?_, h.fins.frozenAt k⟩
  · rw [h.begs.cellAt k (by omega)]
    exact ⟨(encN y.beg)[k]'(by omega), List.getElem?_eq_getElem _⟩
  · rw [h.fins.cellAt k (by omega)]
    exact ⟨(encN y.fin)[k]'(by omega), List.getElem?_eq_getElem _⟩
theorem PlayX.thr {W : World} {X : List Nat} {pa pb pp g k : Nat} {cells : List Nat} {L : List (List Op13)} {lv bv ev tv ov : Value} {its : List It} {sn : Nat → Pass} {Bs : List (List Nat)} {y : Th.Sys} {w : World} {t : It} {s : TS Out13} (h : PlayX W X pa pb pp g cells L lv bv ev tv ov its sn Bs y w) (ht : its[k]? = some t) (hs : y.ts[k]? = some s) : ∃ B, Thr W pb t.pt t.fv (outS W (sn k) t.po) s B w := by
  obtain ⟨s', B, h1, h2, h3, _⟩ := h.item k t ht
  rw [hs] at h1
  obtain rfl := Option.some.inj h1
  exact ⟨B, h3⟩
set_option maxHeartbeats 8000000 in
theorem pstepX_ok {W : World} {X : List Nat} {pa pb pp g : Nat} {cells : List Nat} {L : List (List Op13)} {lv bv ev tv ov : Value} {its : List It} {sn : Nat → Pass} {Bs : List (List Nat)} {y : Th.Sys} {w : World} (hT : Handle W) (h : PlayX W X pa pb pp g cells L lv bv ev tv ov its sn Bs y w) (a : Int) (hl1 : 1 ≤ L.length) (hl4 : L.length ≤ 4) (hn1 : 1 ≤ cells.length) (hn3 : cells.length ≤ 3) (hcells : ∀ x ∈ cells, x < 18446744073709551616) (hst : ∀ (k : Nat) s, y.ts[k]? = some s → s.steps ≤ y.now) (hnow : y.now ≤ 1000000) :
    Calls Tryz.prog 10 #[.pointer (some ⟨pp, 0, none⟩), .int .i64 a] w fun e w' => ∃ Bs' v, e = .returned v ∧ PlayX W X pa pb pp g cells L lv bv ev tv ov its sn Bs' (pstep L cells (a % (L.length : Int)).toNat y) w' := by
  obtain ⟨len, hlen⟩ : ∃ len, L.length = len := ⟨_, rfl⟩
  have hil : its.length = len := h.lens.1.trans hlen
  rw [hlen] at hl1 hl4 ⊢
  obtain ⟨k, hk, hkl, g1, g2, g3, g4⟩ := mod_wraps a hl1 (by omega)
  rw [← hk]
  clear hk
  have g0 : ¬ (len : Int) = 0 := by omega
  have g5 : IntKind.i64.wrap ((y.now : Int) + 1) = ((y.now + 1 : Nat) : Int) := by rw [IntWalk.i64_in _ (by omega)]; rfl
  have g6 : IntKind.i64.wrap (((y.now + 1 : Nat) : Int) + 1) = ((y.now + 2 : Nat) : Int) := by rw [IntWalk.i64_in _ (by omega)]; rfl
  obtain ⟨pt', ct, etv⟩ := ownsRow_shape h.ts
  obtain ⟨pb', cb, ebv⟩ := ownsRow_shape h.begs
  obtain ⟨pe', ce, eev⟩ := ownsRow_shape h.fins
  subst etv ebv eev
  rw [hil] at h ⊢
  have hts := h.ts; have hbs := h.begs; have hfs := h.fins
  rw [hil] at hts hbs hfs
  obtain ⟨t, ht⟩ : ∃ t, its[k]? = some t := ⟨its[k]'(by omega), List.getElem?_eq_getElem _⟩
  obtain ⟨s, B, hs, hB, hthr, -⟩ := h.item k t ht
  obtain ⟨gv, hgv, q2⟩ := ptr_at (k := k) (x := .pointer (some ⟨t.pt, 0, none⟩)) hts (by rw [thrV, List.getElem?_map, ht]; rfl)
  subst hgv
  have hbl : k < y.beg.length := by have := hbs.1; simp [encN] at this; omega
  have hfl : k < y.fin.length := by have := hfs.1; simp [encN] at this; omega
  obtain ⟨gb, hgb, r2⟩ := ptr_at (k := k) (x := .int .i64 ((y.beg[k] : Nat) : Int)) hbs (by simp [encN, hbl])
  obtain ⟨ge, hge, e2⟩ := ptr_at (k := k) (x := .int .i64 ((y.fin[k] : Nat) : Int)) hfs (by simp [encN, hfl])
  subst hgb hge
  have q1 := h.main.cell 3
  have q8 := h.main.cell 8
  have f8 := h.main.free 8
  simp only [List.getElem?_cons_succ, List.getElem?_cons_zero] at q1 q8
  skip
  have hkl' : (k : Int) < (len : Int) := by omega
  have HP := Lib.hid h; have HT := Lib.hid hT; have HIL := Lib.hid hil; have HIT := Lib.hid ht; have HS := Lib.hid hs; have HST := Lib.hid (hst k s hs)
  have HCL := Lib.hid hcells
  have hpst : pstep L cells k y = if s.done = true then { y with now := y.now + 1 } else ⟨y.ts.set k (Th.step (prog13 (L.getD k []) cells k) s y.S).2.1, if (Th.step (prog13 (L.getD k []) cells k) s y.S).2.1.round ≠ s.round then (if s.steps = 0 then y.beg.set k (y.now + 1) else y.beg).set k (y.now + 2) else (if s.steps = 0 then y.beg.set k (y.now + 1) else y.beg), if (Th.step (prog13 (L.getD k []) cells k) s y.S).2.1.done = true then y.fin.set k (y.now + 1) else y.fin, y.now + 1, (Th.step (prog13 (L.getD k []) cells k) s y.S).2.2⟩ := by
    unfold pstep; rw [hs]
  obtain ⟨r, hr⟩ : ∃ r, Th.step (prog13 (L.getD k []) cells k) s y.S = r := ⟨_, rfl⟩
  obtain ⟨b1, hb1⟩ : ∃ b1, (if s.steps = 0 then y.beg.set k (y.now + 1) else y.beg) = b1 := ⟨_, rfl⟩
  obtain ⟨b2, hb2⟩ : ∃ b2, (if r.2.1.round ≠ s.round then b1.set k (y.now + 2) else b1) = b2 := ⟨_, rfl⟩
  rw [hr, hb1, hb2] at hpst
  have hkT : k < y.ts.length := (List.getElem?_eq_some_iff.1 hs).1
  have g7 : ((y.now + 1 : Nat) : Int) = (y.now : Int) + 1 := rfl
  have HPST := Lib.hid hpst; have HR := Lib.hid hr; have HB1 := Lib.hid hb1; have HB2 := Lib.hid hb2
  clear h hT hil ht hs hst hcells hlen hpst hr hb1 hb2 hthr hts hbs hfs
  go_enter Tryz.func10, Tryz.ntmps10
  go_wp2_with fail
  go_quiet (fail)
  go_wp2_with fail
  obtain ⟨w1, hw1⟩ : ∃ w1, (w.drewN nq).setCell ⟨pp, 8, none⟩ (.int .i64 ((y.now : Int) + 1)) = w1 := ⟨_, rfl⟩
  have HP1 := Lib.hid (show PlayX W X pa pb pp g cells L lv (.slice (some ⟨gb, 0, none⟩) len cb) (.slice (some ⟨ge, 0, none⟩) len ce) (.slice (some ⟨gv, 0, none⟩) len ct) ov its sn Bs ⟨y.ts, y.beg, y.fin, y.now + 1, y.S⟩ w1 by rw [← hw1]; exact (HP.out.under (below_drewN (Below.refl _ _) nq)).tick)
  rw [hw1]
  clear hw1 HP q1 q2 q8 f8 r2 e2
  obtain ⟨B1, hthr⟩ := HP1.out.thr HIT.out HS.out
  have HTH := Lib.hid hthr
  clear hthr
  refine (tdone_ok HTH.out).mono ?_
  rintro e w' ⟨rfl, rfl⟩
  cases hd : s.done with
  | true =>
    go_wp2_with fail
    (try simp only [Exit.inBlock, Exit.then]); first | refine bodyPost_ret (results_none rfl _ _ _) rfl ?_ | refine bodyPost_end (results_none rfl _ _ _) rfl ?_
    refine ⟨Bs, _, rfl, ?_⟩
    rw [HPST.out, if_pos hd]
    exact HP1.out
  | false =>
    go_wp2_with fail
    refine (tround_ok HTH.out).mono ?_
    rintro e w' ⟨rfl, rfl⟩
    go_wp2_with fail
    refine (tsteps_ok HTH.out).mono ?_
    rintro e w' ⟨rfl, rfl⟩
    clear HTH
    by_cases hs0 : s.steps = 0
    · have gs : ((s.steps : Int) == 0) = true := by simp [hs0]
      obtain ⟨c6, c7, c8, ⟨vb, cb1⟩, fb1, ⟨ve, ce1⟩, fe1⟩ := HP1.out.facts HIL.out hkl
      rw [g7] at c8
      have hp2 := HP1.out.begin (k := k) (x := y.now + 1) HIL.out.symm
      have HP2' := Lib.hid (hp2.under (w' := (w1.setCell ⟨gb, k, none⟩ (.int .i64 ((y.now + 1 : Nat) : Int))).drew) ⟨rfl, rfl, rfl, Nat.le_refl _, fun _ _ => rfl⟩)
      clear hp2
      go_wp2_with fail
      go_still_tail 10, (by kernel_rfl)
      go_wp2_with fail
      obtain ⟨w2, hw2⟩ : ∃ w2, (w1.setCell ⟨gb, k, none⟩ (.int .i64 ((y.now : Int) + 1))).drew = w2 := ⟨_, rfl⟩
      have HP2 := Lib.hid (show PlayX W X pa pb pp g cells L lv (.slice (some ⟨gb, 0, none⟩) len cb) (.slice (some ⟨ge, 0, none⟩) len ce) (.slice (some ⟨gv, 0, none⟩) len ct) ov its sn Bs ⟨y.ts, b1, y.fin, y.now + 1, y.S⟩ w2 by rw [← HB1.out, if_pos hs0, ← hw2]; exact HP2'.out)
      rw [hw2]
      clear c6 c7 c8 cb1 fb1 ce1 fe1 HP2' HP1 hw2
      have HSTEP := Lib.hid (HP2.out.tstep (k := k) HT.out HIT.out HS.out hd (by have := HST.out; omega) hn1 hn3 HCL.out)
      go_wp2_with fail
      refine HSTEP.out.mono ?_
      rintro e w3 ⟨v3, B3, rfl, hp3, ht3⟩
      clear HSTEP
      rw [HR.out] at hp3 ht3
      have HP3 := Lib.hid (show PlayX W X pa pb pp g cells L lv (.slice (some ⟨gb, 0, none⟩) len cb) (.slice (some ⟨ge, 0, none⟩) len ce) (.slice (some ⟨gv, 0, none⟩) len ct) ov its sn (Bs.set k B3) ⟨y.ts.set k r.2.1, b1, y.fin, y.now + 1, r.2.2⟩ w3 from hp3)
      have HT3 := Lib.hid ht3
      clear hp3 ht3
      go_wp2_with fail
      refine (tround_ok HT3.out).mono ?_
      rintro e w' ⟨rfl, rfl⟩
      clear HT3
      by_cases hrd : r.2.1.round = s.round
      · have gr : ((r.2.1.round : Int) != (s.round : Int)) = false := by rw [hrd]; simp
        have HP4 := Lib.hid (show PlayX W X pa pb pp g cells L lv (.slice (some ⟨gb, 0, none⟩) len cb) (.slice (some ⟨ge, 0, none⟩) len ce) (.slice (some ⟨gv, 0, none⟩) len ct) ov its sn (Bs.set k B3) ⟨y.ts.set k r.2.1, b2, y.fin, y.now + 1, r.2.2⟩ w3 by rw [← HB2.out, if_neg (by rw [hrd]; simp)]; exact HP3.out)
        obtain ⟨w4, hw4⟩ : ∃ w4, w3 = w4 := ⟨_, rfl⟩
        subst hw4
        clear HP3
        go_wp2_with fail
        obtain ⟨Bz, hz⟩ := HP4.out.thr HIT.out (List.getElem?_set_self hkT)
        have HZ := Lib.hid hz
        clear hz
        go_wp2_with fail
        refine (tdone_ok HZ.out).mono ?_
        rintro e w' ⟨rfl, rfl⟩
        clear HZ
        cases hdn : r.2.1.done with
        | true =>
          obtain ⟨c6, c7, c8, ⟨vb, cb1⟩, fb1, ⟨ve, ce1⟩, fe1⟩ := HP4.out.facts HIL.out hkl
          rw [g7] at c8
          have hp5 := HP4.out.ended (k := k) (x := y.now + 1) HIL.out.symm
          have HP5 := Lib.hid (hp5.under (w' := (w3.setCell ⟨ge, k, none⟩ (.int .i64 ((y.now + 1 : Nat) : Int))).drew) ⟨rfl, rfl, rfl, Nat.le_refl _, fun _ _ => rfl⟩)
          clear hp5
          go_wp2_with fail
          go_still_tail 10, (by kernel_rfl)
          go_wp2_with fail
          (try simp only [Exit.inBlock, Exit.then]); first | refine bodyPost_ret (results_none rfl _ _ _) rfl ?_ | refine bodyPost_end (results_none rfl _ _ _) rfl ?_
          refine ⟨Bs.set k B3, _, rfl, ?_⟩
          rw [HPST.out, if_neg (by rw [hd]; decide), if_pos hdn]
          exact HP5.out
        | false =>
          go_wp2_with fail
          (try simp only [Exit.inBlock, Exit.then]); first | refine bodyPost_ret (results_none rfl _ _ _) rfl ?_ | refine bodyPost_end (results_none rfl _ _ _) rfl ?_
          refine ⟨Bs.set k B3, _, rfl, ?_⟩
          rw [HPST.out, if_neg (by rw [hd]; decide), if_neg (by rw [hdn]; decide)]
          exact HP4.out
      · have gr : ((r.2.1.round : Int) != (s.round : Int)) = true := by simp; omega
        obtain ⟨c6, c7, c8, ⟨vb, cb1⟩, fb1, ⟨ve, ce1⟩, fe1⟩ := HP3.out.facts HIL.out hkl
        rw [g7] at c8
        have hp4 := HP3.out.begin (k := k) (x := y.now + 2) HIL.out.symm
        have HP4' := Lib.hid (hp4.under (w' := (w3.setCell ⟨gb, k, none⟩ (.int .i64 ((y.now + 2 : Nat) : Int))).drew) ⟨rfl, rfl, rfl, Nat.le_refl _, fun _ _ => rfl⟩)
        clear hp4
        go_wp2_with fail
        go_still_tail 11, (by kernel_rfl)
        go_wp2_with fail
        obtain ⟨w4, hw4⟩ : ∃ w4, (w3.setCell ⟨gb, k, none⟩ (.int .i64 ((y.now : Int) + 1 + 1))).drew = w4 := ⟨_, rfl⟩
        have HP4 := Lib.hid (show PlayX W X pa pb pp g cells L lv (.slice (some ⟨gb, 0, none⟩) len cb) (.slice (some ⟨ge, 0, none⟩) len ce) (.slice (some ⟨gv, 0, none⟩) len ct) ov its sn (Bs.set k B3) ⟨y.ts.set k r.2.1, b2, y.fin, y.now + 1, r.2.2⟩ w4 by rw [← HB2.out, if_pos hrd, ← hw4]; exact HP4'.out)
        rw [hw4]
        clear c6 c7 c8 cb1 fb1 ce1 fe1 HP4' HP3 hw4
        obtain ⟨Bz, hz⟩ := HP4.out.thr HIT.out (List.getElem?_set_self hkT)
        have HZ := Lib.hid hz
        clear hz
        go_wp2_with fail
        refine (tdone_ok HZ.out).mono ?_
        rintro e w' ⟨rfl, rfl⟩
        clear HZ
        cases hdn : r.2.1.done with
        | true =>
          obtain ⟨c6, c7, c8, ⟨vb, cb1⟩, fb1, ⟨ve, ce1⟩, fe1⟩ := HP4.out.facts HIL.out hkl
          rw [g7] at c8
          have hp5 := HP4.out.ended (k := k) (x := y.now + 1) HIL.out.symm
          have HP5 := Lib.hid (hp5.under (w' := (w4.setCell ⟨ge, k, none⟩ (.int .i64 ((y.now + 1 : Nat) : Int))).drew) ⟨rfl, rfl, rfl, Nat.le_refl _, fun _ _ => rfl⟩)
          clear hp5
          go_wp2_with fail
          go_still_tail 10, (by kernel_rfl)
          go_wp2_with fail
          (try simp only [Exit.inBlock, Exit.then]); first | refine bodyPost_ret (results_none rfl _ _ _) rfl ?_ | refine bodyPost_end (results_none rfl _ _ _) rfl ?_
          refine ⟨Bs.set k B3, _, rfl, ?_⟩
          rw [HPST.out, if_neg (by rw [hd]; decide), if_pos hdn]
          exact HP5.out
        | false =>
          go_wp2_with fail
          (try simp only [Exit.inBlock, Exit.then]); first | refine bodyPost_ret (results_none rfl _ _ _) rfl ?_ | refine bodyPost_end (results_none rfl _ _ _) rfl ?_
          refine ⟨Bs.set k B3, _, rfl, ?_⟩
          rw [HPST.out, if_neg (by rw [hd]; decide), if_neg (by rw [hdn]; decide)]
          exact HP4.out
    · have gs : ((s.steps : Int) == 0) = false := by simp; omega
      have HP2 := Lib.hid (show PlayX W X pa pb pp g cells L lv (.slice (some ⟨gb, 0, none⟩) len cb) (.slice (some ⟨ge, 0, none⟩) len ce) (.slice (some ⟨gv, 0, none⟩) len ct) ov its sn Bs ⟨y.ts, b1, y.fin, y.now + 1, y.S⟩ w1 by rw [← HB1.out, if_neg hs0]; exact HP1.out)
      clear HP1
      have HSTEP := Lib.hid (HP2.out.tstep (k := k) HT.out HIT.out HS.out hd (by have := HST.out; omega) hn1 hn3 HCL.out)
      go_wp2_with fail
      refine HSTEP.out.mono ?_
      rintro e w3 ⟨v3, B3, rfl, hp3, ht3⟩
      clear HSTEP
      rw [HR.out] at hp3 ht3
      have HP3 := Lib.hid (show PlayX W X pa pb pp g cells L lv (.slice (some ⟨gb, 0, none⟩) len cb) (.slice (some ⟨ge, 0, none⟩) len ce) (.slice (some ⟨gv, 0, none⟩) len ct) ov its sn (Bs.set k B3) ⟨y.ts.set k r.2.1, b1, y.fin, y.now + 1, r.2.2⟩ w3 from hp3)
      have HT3 := Lib.hid ht3
      clear hp3 ht3
      go_wp2_with fail
      refine (tround_ok HT3.out).mono ?_
      rintro e w' ⟨rfl, rfl⟩
      clear HT3
      by_cases hrd : r.2.1.round = s.round
      · have gr : ((r.2.1.round : Int) != (s.round : Int)) = false := by rw [hrd]; simp
        have HP4 := Lib.hid (show PlayX W X pa pb pp g cells L lv (.slice (some ⟨gb, 0, none⟩) len cb) (.slice (some ⟨ge, 0, none⟩) len ce) (.slice (some ⟨gv, 0, none⟩) len ct) ov its sn (Bs.set k B3) ⟨y.ts.set k r.2.1, b2, y.fin, y.now + 1, r.2.2⟩ w3 by rw [← HB2.out, if_neg (by rw [hrd]; simp)]; exact HP3.out)
        obtain ⟨w4, hw4⟩ : ∃ w4, w3 = w4 := ⟨_, rfl⟩
        subst hw4
        clear HP3
        go_wp2_with fail
        obtain ⟨Bz, hz⟩ := HP4.out.thr HIT.out (List.getElem?_set_self hkT)
        have HZ := Lib.hid hz
        clear hz
        go_wp2_with fail
        refine (tdone_ok HZ.out).mono ?_
        rintro e w' ⟨rfl, rfl⟩
        clear HZ
        cases hdn : r.2.1.done with
        | true =>
          obtain ⟨c6, c7, c8, ⟨vb, cb1⟩, fb1, ⟨ve, ce1⟩, fe1⟩ := HP4.out.facts HIL.out hkl
          rw [g7] at c8
          have hp5 := HP4.out.ended (k := k) (x := y.now + 1) HIL.out.symm
          have HP5 := Lib.hid (hp5.under (w' := (w3.setCell ⟨ge, k, none⟩ (.int .i64 ((y.now + 1 : Nat) : Int))).drew) ⟨rfl, rfl, rfl, Nat.le_refl _, fun _ _ => rfl⟩)
          clear hp5
          go_wp2_with fail
          go_still_tail 10, (by kernel_rfl)
          go_wp2_with fail
          (try simp only [Exit.inBlock, Exit.then]); first | refine bodyPost_ret (results_none rfl _ _ _) rfl ?_ | refine bodyPost_end (results_none rfl _ _ _) rfl ?_
          refine ⟨Bs.set k B3, _, rfl, ?_⟩
          rw [HPST.out, if_neg (by rw [hd]; decide), if_pos hdn]
          exact HP5.out
        | false =>
          go_wp2_with fail
          (try simp only [Exit.inBlock, Exit.then]); first | refine bodyPost_ret (results_none rfl _ _ _) rfl ?_ | refine bodyPost_end (results_none rfl _ _ _) rfl ?_
          refine ⟨Bs.set k B3, _, rfl, ?_⟩
          rw [HPST.out, if_neg (by rw [hd]; decide), if_neg (by rw [hdn]; decide)]
          exact HP4.out
      · have gr : ((r.2.1.round : Int) != (s.round : Int)) = true := by simp; omega
        obtain ⟨c6, c7, c8, ⟨vb, cb1⟩, fb1, ⟨ve, ce1⟩, fe1⟩ := HP3.out.facts HIL.out hkl
        rw [g7] at c8
        have hp4 := HP3.out.begin (k := k) (x := y.now + 2) HIL.out.symm
        have HP4' := Lib.hid (hp4.under (w' := (w3.setCell ⟨gb, k, none⟩ (.int .i64 ((y.now + 2 : Nat) : Int))).drew) ⟨rfl, rfl, rfl, Nat.le_refl _, fun _ _ => rfl⟩)
        clear hp4
        go_wp2_with fail
        go_still_tail 11, (by kernel_rfl)
        go_wp2_with fail
        obtain ⟨w4, hw4⟩ : ∃ w4, (w3.setCell ⟨gb, k, none⟩ (.int .i64 ((y.now : Int) + 1 + 1))).drew = w4 := ⟨_, rfl⟩
        have HP4 := Lib.hid (show PlayX W X pa pb pp g cells L lv (.slice (some ⟨gb, 0, none⟩) len cb) (.slice (some ⟨ge, 0, none⟩) len ce) (.slice (some ⟨gv, 0, none⟩) len ct) ov its sn (Bs.set k B3) ⟨y.ts.set k r.2.1, b2, y.fin, y.now + 1, r.2.2⟩ w4 by rw [← HB2.out, if_pos hrd, ← hw4]; exact HP4'.out)
        rw [hw4]
        clear c6 c7 c8 cb1 fb1 ce1 fe1 HP4' HP3 hw4
        obtain ⟨Bz, hz⟩ := HP4.out.thr HIT.out (List.getElem?_set_self hkT)
        have HZ := Lib.hid hz
        clear hz
        go_wp2_with fail
        refine (tdone_ok HZ.out).mono ?_
        rintro e w' ⟨rfl, rfl⟩
        clear HZ
        cases hdn : r.2.1.done with
        | true =>
          obtain ⟨c6, c7, c8, ⟨vb, cb1⟩, fb1, ⟨ve, ce1⟩, fe1⟩ := HP4.out.facts HIL.out hkl
          rw [g7] at c8
          have hp5 := HP4.out.ended (k := k) (x := y.now + 1) HIL.out.symm
          have HP5 := Lib.hid (hp5.under (w' := (w4.setCell ⟨ge, k, none⟩ (.int .i64 ((y.now + 1 : Nat) : Int))).drew) ⟨rfl, rfl, rfl, Nat.le_refl _, fun _ _ => rfl⟩)
          clear hp5
          go_wp2_with fail
          go_still_tail 10, (by kernel_rfl)
          go_wp2_with fail
          (try simp only [Exit.inBlock, Exit.then]); first | refine bodyPost_ret (results_none rfl _ _ _) rfl ?_ | refine bodyPost_end (results_none rfl _ _ _) rfl ?_
          refine ⟨Bs.set k B3, _, rfl, ?_⟩
          rw [HPST.out, if_neg (by rw [hd]; decide), if_pos hdn]
          exact HP5.out
        | false =>
          go_wp2_with fail
          (try simp only [Exit.inBlock, Exit.then]); first | refine bodyPost_ret (results_none rfl _ _ _) rfl ?_ | refine bodyPost_end (results_none rfl _ _ _) rfl ?_
          refine ⟨Bs.set k B3, _, rfl, ?_⟩
          rw [HPST.out, if_neg (by rw [hd]; decide), if_neg (by rw [hdn]; decide)]
          exact HP4.out
end Go.Proofs.YtmdganpealbmpaaGreatDoor

/- RefOrder, RefView: when they begin. -/
namespace Go.Proofs.YtmdganpealbmpaaGreatDoor
open Go.RowKit Bl Th
set_option maxRecDepth 10000

theorem flat_cons (t : It) (r : List It) : flat (t :: r) = t.blocks ++ flat r := by simp [flat]
theorem stats_sub : ∀ its : List It, (stats its).Sublist (flat its)
  | [] => List.Sublist.refl _
  | t :: r => by
    rw [flat_cons]
    show (t.stat ++ stats r).Sublist _
    refine List.Sublist.append ?_ (stats_sub r)
    exact List.Sublist.cons _ (List.Sublist.cons _ (List.Sublist.refl _))
theorem flat_item {its : List It} (h : (flat its).Nodup) : ∀ {k : Nat} {t : It}, its[k]? = some t → t.blocks.Nodup ∧ ∀ {j : Nat} {u : It}, j ≠ k → its[j]? = some u → ∀ b ∈ t.blocks, b ∉ u.blocks := by
  induction its with
  | nil => intro k t ht; simp at ht
  | cons x r ih =>
    rw [flat_cons, List.nodup_append] at h
    obtain ⟨h1, h2, h3⟩ := h
    have hm : ∀ {j : Nat} {u : It}, r[j]? = some u → ∀ b ∈ u.blocks, b ∈ flat r := fun hj b hb => List.mem_flatMap.2 ⟨_, List.mem_of_getElem? hj, hb⟩
    intro k t ht
    cases k with
    | zero =>
      simp only [List.getElem?_cons_zero, Option.some.injEq] at ht
      subst ht
      refine ⟨h1, fun {j u} hj hu b hb hb' => ?_⟩
      cases j with
      | zero => exact hj rfl
      | succ j => exact h3 b hb b (hm (by simpa using hu) b hb') rfl
    | succ k =>
      have ht' : r[k]? = some t := by simpa using ht
      obtain ⟨a, b⟩ := ih h2 ht'
      refine ⟨a, fun {j u} hj hu c hc hc' => ?_⟩
      cases j with
      | zero =>
        simp only [List.getElem?_cons_zero, Option.some.injEq] at hu
        subst hu
        exact h3 c hc' c (hm ht' c hc) rfl
      | succ j => exact b (j := j) (fun e => hj (by rw [e])) (by simpa using hu) c hc hc'
def startS (N : Nat) (S : BS) : Th.Sys := ⟨List.replicate N (Th.start ⟨[], false, false, 0⟩), List.replicate N 0, List.replicate N 0, 0, S⟩
theorem thr_pass {W : World} {pb pt po : Nat} {fv : Value} {s : TS Out13} {B : List Nat} {w : World} (h : Thr W pb pt fv (outAux W po) s B w) : Thr W pb pt fv (outS W pass0 po) s B w := by
  obtain ⟨lv, ev, E, Q, rfl, hl⟩ := h
  exact ⟨lv, ev, E, Q, rfl, { hl with aux := outS_of hl.aux }⟩
theorem encN_zero (N : Nat) : encN (List.replicate N 0) = List.replicate N (.int .i64 0) := by simp [encN]
theorem PlayAt.begun {W : World} {pa pb pp g : Nat} {cells : List Nat} {L : List (List Op13)} {lv bv ev tv ov : Value} {its : List It} {S : BS} {w : World} (h : PlayAt W (bv.ownBlock.toList ++ ev.ownBlock.toList) pa pb pp g cells L lv bv ev tv ov its 0 S w) (hil : its.length = L.length) (hb : zeroRow W L.length bv w) (he : zeroRow W L.length ev w) :
    PlayX W [] pa pb pp g cells L lv bv ev tv ov its (fun _ => pass0) (its.map fun t => [t.pt, t.po]) (startS L.length S) w := by
  have hnd := h.nd
  have hheld := h.held
  simp only [playR, List.drop_zero] at hnd hheld
  have hsub : (stats its).Sublist (flat its) := stats_sub its
  have nd1 : (fixR [] pp g bv ev tv ov its).Nodup := by
    have h1 : ((bv.ownBlock.toList ++ ev.ownBlock.toList) ++ (pp :: g :: (tv.ownBlock.toList ++ (ov.ownBlock.toList ++ stats its)))).Nodup :=
      hnd.sublist (List.Sublist.append_left (List.Sublist.cons_cons _ (List.Sublist.cons_cons _ (List.Sublist.append_left (List.Sublist.append_left hsub _) _))) _)
    have p : ((bv.ownBlock.toList ++ ev.ownBlock.toList) ++ (pp :: g :: (tv.ownBlock.toList ++ (ov.ownBlock.toList ++ stats its)))).Perm (fixR [] pp g bv ev tv ov its) := by
      refine List.perm_middle.trans (List.Perm.cons _ (List.perm_middle.trans (List.Perm.cons _ ?_)))
      rw [List.append_assoc]
    exact p.nodup_iff.1 h1
  rw [List.nodup_append] at hnd
  obtain ⟨n1, n2, n3⟩ := hnd
  rw [List.nodup_cons, List.nodup_cons, List.nodup_append] at n2
  obtain ⟨m1, m2, m3, m4, m5⟩ := n2
  rw [List.nodup_append] at m4
  obtain ⟨l1, l2, l3⟩ := m4
  have hmf : ∀ {k : Nat} {t : It}, its[k]? = some t → ∀ b ∈ t.blocks, b ∈ flat its := fun hj b hb => List.mem_flatMap.2 ⟨_, List.mem_of_getElem? hj, hb⟩
  have hB : ∀ (k : Nat) B, (its.map fun t => [t.pt, t.po])[k]? = some B → ∃ t, its[k]? = some t ∧ B = [t.pt, t.po] := fun k B hk => by
    rw [List.getElem?_map, Option.map_eq_some_iff] at hk
    obtain ⟨t, h1, h2⟩ := hk
    exact ⟨t, h1, h2.symm⟩
  refine ⟨hheld.less fun b hb => ?_, nd1, fun k B hk b hb hm => ?_, fun k j B C hkj hk hj b hb hm => ?_, h.new, h.main, h.arr, h.ts, h.outs, ?_, ?_, ⟨hil, by simp [startS], by simpa using hil⟩, fun k t ht => ?_⟩
  · have hst : ∀ b ∈ stats its, b ∈ flat its := fun b hb => hsub.subset hb
    rcases List.mem_append.1 hb with q | q
    · simp only [fixR, List.nil_append, List.mem_cons, List.mem_append] at q ⊢
      rcases q with q | q | q | q | q | q | q
      · exact .inr (.inl q)
      · exact .inr (.inr (.inl q))
      · exact .inl (.inl q)
      · exact .inl (.inr q)
      · exact .inr (.inr (.inr (.inl q)))
      · exact .inr (.inr (.inr (.inr (.inl q))))
      · exact .inr (.inr (.inr (.inr (.inr (hst b q)))))
    · obtain ⟨B, hBm, hbB⟩ := List.mem_flatten.1 q
      obtain ⟨t, ht, rfl⟩ := List.mem_map.1 hBm
      have : b ∈ flat its := List.mem_flatMap.2 ⟨t, ht, by simp only [It.blocks, List.mem_cons, List.not_mem_nil, or_false] at hbB ⊢; rcases hbB with e | e <;> simp [e]⟩
      simp [this]
  · obtain ⟨t, ht, rfl⟩ := hB k B hk
    have hbb : b ∈ t.blocks := by simp only [It.blocks, List.mem_cons, List.not_mem_nil, or_false] at hb ⊢; rcases hb with e | e <;> simp [e]
    have hbf := hmf ht b hbb
    simp only [fixR, List.nil_append, List.mem_cons, List.mem_append] at hm
    rcases hm with q | q | q | q | q | q | q
    · subst q; exact m1 (by simp [hbf])
    · subst q; exact m2 (by simp [hbf])
    · exact n3 b (by simp [q]) b (by simp [hbf]) rfl
    · exact n3 b (by simp [q]) b (by simp [hbf]) rfl
    · exact m5 b q b (by simp [hbf]) rfl
    · exact l3 b q b hbf rfl
    · obtain ⟨u, hu, hbu⟩ := List.mem_flatMap.1 q
      obtain ⟨j, hj, e⟩ := List.getElem_of_mem hu
      have huj : its[j]? = some u := by rw [← e]; exact List.getElem?_eq_getElem hj
      have hbu' : b ∈ u.blocks := by simp only [It.stat, It.blocks, List.mem_cons, List.not_mem_nil, or_false] at hbu ⊢; exact .inr (.inr hbu)
      by_cases ejk : j = k
      · subst ejk
        rw [ht] at huj
        obtain rfl := Option.some.inj huj
        have hn := (flat_item l2 ht).1
        simp only [It.blocks, List.nodup_cons, List.mem_cons, List.not_mem_nil, or_false, not_or] at hn
        simp only [It.stat, List.mem_cons, List.not_mem_nil, or_false] at hbu hb
        omega
      · exact (flat_item l2 ht).2 ejk huj b hbb hbu'
  · obtain ⟨t, ht, rfl⟩ := hB k B hk
    obtain ⟨u, hu, rfl⟩ := hB j C hj
    exact (flat_item l2 ht).2 (fun e => hkj e.symm) hu b (by simp only [It.blocks, List.mem_cons, List.not_mem_nil, or_false] at hb ⊢; rcases hb with e | e <;> simp [e]) (by simp only [It.blocks, List.mem_cons, List.not_mem_nil, or_false] at hm ⊢; rcases hm with e | e <;> simp [e])
  · simp only [startS]
    rw [encN_zero, hil]
    exact hb
  · simp only [startS]
    rw [encN_zero, hil]
    exact he
  · obtain ⟨l, h1, h2⟩ := h.item k t (Nat.zero_le _) ht
    have hk : k < L.length := (List.getElem?_eq_some_iff.1 h1).1
    have eL : L.getD k [] = l := by rw [List.getD_eq_getElem?_getD, h1]; rfl
    refine ⟨_, [t.pt, t.po], by simp [startS, hk], by rw [List.getElem?_map, ht]; rfl, thr_pass h2.thr, ?_⟩
    rw [eL]
    exact h2.sh

/-! The ghost at first. -/
def ow13 (k : Nat) : Nat := min (k + 1) 255
def gh0 (S : BS) : Gh := ⟨S, 0, fun _ => 0, fun _ => 0, fun _ => none, fun _ _ => none, fun _ => .void, fun _ => 0⟩
theorem sys_start {n : Nat} {cells : List Nat} {L : List (List Op13)} {S : BS} (hs : Sc n S 0 (fun _ => rest 0) (fun j => 10 + j)) : SysI n (fun j => 10 + j) ow13 cells L (startS L.length S) (fun _ => 0) (gh0 S) (fun _ => 40040) := by
  refine ⟨rfl, ⟨hs.cast (fun _ _ => rfl) (fun _ _ => rfl), fun _ _ => ⟨Nat.le_refl _, Nat.le_refl _⟩, fun _ _ _ => rfl, fun _ _ => .inl rfl, fun s j h1 h2 => by simp only [gh0] at h2; omega⟩, Nat.le_refl _, rfl, fun _ _ _ _ => Nat.le_refl _, by simp [startS], fun s h1 h2 => by simp only [gh0] at h2; omega, fun j i _ h => (by cases h), fun k t ht => ?_⟩
  simp only [startS, List.getElem?_replicate] at ht
  split at ht
  · obtain rfl := Option.some.inj ht
    exact ⟨.fresh rfl rfl (by simp [Th.start]) (by simp [Th.start]) ⟨fun s h1 h2 => by simp only [gh0] at h2; omega, fun j _ h => (by cases h)⟩ (.inl rfl), seen_nil _⟩
  · cases ht
end Go.Proofs.YtmdganpealbmpaaGreatDoor

/- RefOrder, RefView: all go on to their ends. -/
namespace Go.Proofs.YtmdganpealbmpaaGreatDoor
open Go.RowKit Bl Th
set_option maxRecDepth 10000

theorem step_stepsX {σ : Type} (F : Prog σ) (t : TS σ) (S : BS) : (Th.step F t S).2.1.steps ≤ t.steps + 1 := by
  unfold Th.step
  split
  · exact Nat.le_succ _
  · simp only
    repeat' split
    all_goals exact Nat.le_refl _
theorem step_done {σ : Type} (F : Prog σ) (t : TS σ) (S : BS) (h : t.done = true) : (Th.step F t S).2.1.done = true := by
  unfold Th.step
  rw [if_pos h]; exact h
def IniF (j : Nat) : Nat := 10 + j
/-- The transactions at a time, in memory and as the ghost has them. -/
def AtX (W : World) (X : List Nat) (pa pb pp g n : Nat) (L : List (List Op13)) (lv bv ev tv ov : Value) (its : List It) (sn : Nat → Pass) (g0 : Gh) (P : Nat → Nat) (y : Th.Sys) (w : World) : Prop :=
  ∃ Bs H gh, PlayX W X pa pb pp g (sceneCells n) L lv bv ev tv ov its sn Bs y w ∧ SysI n IniF ow13 (sceneCells n) L y H gh P ∧ GV n g0 gh ∧ ∀ (k : Nat) s, y.ts[k]? = some s → s.steps ≤ y.now
theorem pstep_now {L : List (List Op13)} {cells : List Nat} {k : Nat} {y : Th.Sys} (hk : k < y.ts.length) : (pstep L cells k y).now = y.now + 1 := by
  unfold pstep
  rw [List.getElem?_eq_getElem hk]
  simp only
  split <;> rfl
theorem pstep_steps {L : List (List Op13)} {cells : List Nat} {k : Nat} {y : Th.Sys} (h : ∀ (k : Nat) s, y.ts[k]? = some s → s.steps ≤ y.now) : ∀ (j : Nat) s, (pstep L cells k y).ts[j]? = some s → s.steps ≤ (pstep L cells k y).now := by
  intro j s hs
  unfold pstep at *
  cases ht : y.ts[k]? with
  | none => rw [ht] at hs; exact h j s hs
  | some t =>
    rw [ht] at hs
    simp only at hs ⊢
    split at hs
    · rename_i e
      rw [if_pos e]
      exact Nat.le_succ_of_le (h j s hs)
    · rename_i e
      rw [if_neg e]
      simp only at hs ⊢
      by_cases q : k = j
      · subst q
        rw [List.getElem?_set_self (List.getElem?_eq_some_iff.1 ht).1] at hs
        obtain rfl := Option.some.inj hs
        have := step_stepsX (prog13 (L.getD k []) cells k) t y.S
        have := h k t ht
        omega
      · rw [List.getElem?_set_ne q] at hs
        exact Nat.le_succ_of_le (h j s hs)
/-- Who is at its end stays so. -/
theorem pstep_done {L : List (List Op13)} {cells : List Nat} {k : Nat} {y : Th.Sys} {j : Nat} {s : TS Out13} (hs : y.ts[j]? = some s) (hd : s.done = true) : ∃ s', (pstep L cells k y).ts[j]? = some s' ∧ s'.done = true := by
  unfold pstep
  cases ht : y.ts[k]? with
  | none => exact ⟨s, hs, hd⟩
  | some t =>
    simp only
    split
    · exact ⟨s, hs, hd⟩
    · rename_i e
      simp only
      by_cases q : k = j
      · subst q
        rw [ht] at hs
        obtain rfl := Option.some.inj hs
        exact absurd hd e
      · exact ⟨s, by rw [List.getElem?_set_ne q]; exact hs, hd⟩
theorem pstep_len {L : List (List Op13)} {cells : List Nat} {k : Nat} {y : Th.Sys} : (pstep L cells k y).ts.length = y.ts.length := by
  unfold pstep
  cases ht : y.ts[k]? with
  | none => rfl
  | some t =>
    simp only
    split
    · rfl
    · simp
theorem ow_le (i : Nat) : ow13 i ≤ 255 := by unfold ow13; omega
section
variable {W : World} {X : List Nat} {pa pb pp g n : Nat} {L : List (List Op13)} {lv bv ev tv ov : Value} {its : List It} {sn : Nat → Pass} {g0 : Gh} {P : Nat → Nat} {y : Th.Sys} {w : World}
/-- One goes on. -/
theorem stepX_ok (hT : Handle W) (h : AtX W X pa pb pp g n L lv bv ev tv ov its sn g0 P y w) (hn1 : 1 ≤ n) (hn3 : n ≤ 3) (hL : ∀ l ∈ L, l.length ≤ 10) (hl1 : 1 ≤ L.length) (hl4 : L.length ≤ 4) (hnow : y.now ≤ 1000000) (a : Int) :
    Calls Tryz.prog 10 #[.pointer (some ⟨pp, 0, none⟩), .int .i64 a] w fun e w' => ∃ v, e = .returned v ∧ AtX W X pa pb pp g n L lv bv ev tv ov its sn g0 (less1 P (a % (L.length : Int)).toNat) (pstep L (sceneCells n) (a % (L.length : Int)).toNat y) w' := by
  obtain ⟨Bs, H, gh, hp, hs, hv, hst⟩ := h
  have hk : (a % (L.length : Int)).toNat < L.length := by
    have h1 := Int.emod_nonneg a (b := (L.length : Int)) (by omega)
    have h2 := Int.emod_lt_of_pos a (b := (L.length : Int)) (by omega)
    omega
  obtain ⟨H', g', hs', hv'⟩ := hs.step ow_le hn1 (scene_cell hn1 hn3) (fun k => by
    rw [List.getD_eq_getElem?_getD]
    cases q : L[k]? with
    | none => simp
    | some l => exact hL l (List.mem_of_getElem? q)) (fun k hk => by unfold ow13; omega) (by omega) hk
  refine (pstepX_ok hT hp a hl1 hl4 (by rw [len_scene]; exact hn1) (by rw [len_scene]; exact hn3) (fun x hx => by
    obtain ⟨i, hi, rfl⟩ := List.mem_map.1 hx
    have := List.mem_range.1 hi
    omega) hst hnow).mono ?_
  rintro e w' ⟨Bs', v, rfl, hp'⟩
  exact ⟨v, rfl, Bs', H', g', hp', hs', hv.trans hv', pstep_steps hst⟩
end
/-- How long they can go on. -/
def FinI (N i : Nat) (P : Nat → Nat) (y : Th.Sys) : Prop := (∀ k, P k ≤ 40040) ∧ ∀ (k : Nat) t, y.ts[k]? = some t → t.done = true ∨ i ≤ (40040 - P k) * N + k
theorem fin_step {n : Nat} {ini ow : Nat → Nat} {cells : List Nat} {L : List (List Op13)} {y : Th.Sys} {H : Nat → Nat} {gh : Gh} {P : Nat → Nat} {i : Nat} (hs : SysI n ini ow cells L y H gh P) (hN : 1 ≤ L.length) (h : FinI L.length i P y) : FinI L.length (i + 1) (less1 P (i % L.length)) (pstep L cells (i % L.length) y) := by
  have hk0 : i % L.length < L.length := Nat.mod_lt _ hN
  refine ⟨fun k => ?_, fun k t ht => ?_⟩
  · unfold less1
    have := h.1 k
    split <;> omega
  · have hkl : k < L.length := by
      have := (List.getElem?_eq_some_iff.1 ht).1
      rw [pstep_len, hs.lens.1] at this
      exact this
    obtain ⟨s, hsk⟩ : ∃ s, y.ts[k]? = some s := ⟨y.ts[k]'(by rw [hs.lens.1]; exact hkl), List.getElem?_eq_getElem _⟩
    rcases h.2 k s hsk with q | q
    · obtain ⟨s', e1, e2⟩ := pstep_done (L := L) (cells := cells) (k := i % L.length) hsk q
      rw [ht] at e1
      obtain rfl := Option.some.inj e1
      exact .inl e2
    · by_cases hd : s.done = true
      · obtain ⟨s', e1, e2⟩ := pstep_done (L := L) (cells := cells) (k := i % L.length) hsk hd
        rw [ht] at e1
        obtain rfl := Option.some.inj e1
        exact .inl e2
      · right
        unfold less1
        have hP := h.1 k
        by_cases e : k = i % L.length
        · rw [if_pos e]
          have hP1 : 1 ≤ P k := by
            obtain ⟨hT, _⟩ := hs.thr k s hsk
            cases hT with
            | fresh _ _ hr hP _ _ =>
              have : 1 ≤ (40 - s.round) := by omega
              have := Nat.mul_le_mul_right 1001 this
              omega
            | runs _ _ _ m _ _ hP _ _ _ _ =>
              have := Nat.zero_le ((39 - s.round) * 1001)
              omega
            | over hd' _ _ => exact absurd hd' hd
          have e1 : 40040 - (P k - 1) = (40040 - P k) + 1 := by omega
          rw [e1, Nat.add_mul, Nat.one_mul]
          omega
        · rw [if_neg e]
          rcases Nat.lt_or_ge i ((40040 - P k) * L.length + k) with z | z
          · omega
          · exfalso
            have ei : i = (40040 - P k) * L.length + k := by omega
            apply e
            rw [ei, Nat.mul_comm, Nat.mul_add_mod, Nat.mod_eq_of_lt hkl]
/-- What holds at each round's head. -/
def FinJ (W : World) (X : List Nat) (pa pb pp g n : Nat) (L : List (List Op13)) (lv bv ev tv ov : Value) (its : List It) (sn : Nat → Pass) (g0 : Gh) (iv : Value) (wr : World) : Prop :=
  ∃ (i : Nat) (P : Nat → Nat) (y : Th.Sys), i ≤ 170000 ∧ iv = .int .i64 (i : Int) ∧ y.now ≤ 500 + i ∧ FinI L.length i P y ∧ AtX W X pa pb pp g n L lv bv ev tv ov its sn g0 P y wr
set_option maxHeartbeats 8000000 in
theorem finishX_ok {W : World} {X : List Nat} {pa pb pp g n : Nat} {L : List (List Op13)} {lv bv ev tv ov : Value} {its : List It} {sn : Nat → Pass} {g0 : Gh} {P : Nat → Nat} {y : Th.Sys} {w : World} (hT : Handle W) (h : AtX W X pa pb pp g n L lv bv ev tv ov its sn g0 P y w) (hn1 : 1 ≤ n) (hn3 : n ≤ 3) (hL : ∀ l ∈ L, l.length ≤ 10) (hl1 : 1 ≤ L.length) (hl4 : L.length ≤ 4) (hnow : y.now ≤ 500) (hP : ∀ k, P k ≤ 40040) :
    Calls Tryz.prog 11 #[.pointer (some ⟨pp, 0, none⟩)] w fun e w' => e = .returned (.bool true) ∧ ∃ y' P', AtX W X pa pb pp g n L lv bv ev tv ov its sn g0 P' y' w' ∧ (∀ t ∈ y'.ts, t.done = true) ∧ y'.now ≤ 1000000 := by
  obtain ⟨len, hlen⟩ : ∃ len, L.length = len := ⟨_, rfl⟩
  have HJ := Lib.hid (show FinJ W X pa pb pp g n L lv bv ev tv ov its sn g0 (.int .i64 0) w from ⟨0, P, y, by omega, rfl, by omega, ⟨hP, fun k t _ => .inr (Nat.zero_le _)⟩, h⟩)
  have HT := Lib.hid hT; have HL := Lib.hid hL; have HLN := Lib.hid hlen
  rw [hlen] at hl1 hl4
  clear h hT hL hP hnow hlen
  go_enter Tryz.func11, Tryz.ntmps11
  go_wp2
  go_loopw [3] (FinJ W X pa pb pp g n L lv bv ev tv ov its sn g0) (fun i _ => 400000 - (intOf i).toNat)
  case atStart => exact HJ.out
  case round =>
    clear HJ
    obtain ⟨i, P, y, hi, rfl, hnow, hfin, hat⟩ := hrel
    have hi' : (i : Int) < 400000 := by omega
    obtain ⟨Bs, H, gh, hp, hs, hv, hst⟩ := id hat
    have hil : its.length = len := hp.lens.1.trans HLN.out
    have hyl : y.ts.length = len := hp.lens.2.1.trans HLN.out
    obtain ⟨pt', ct, etv⟩ := ownsRow_shape hp.ts
    subst etv
    have q1 := hp.main.cell 3
    simp only [List.getElem?_cons_succ, List.getElem?_cons_zero] at q1
    rw [hil] at q1
    have hts := hp.ts
    rw [hil] at hts
    obtain ⟨gv, hgv⟩ : ∃ gv, pt' = some ⟨gv, 0, none⟩ := by
      obtain ⟨t0, ht0⟩ : ∃ t, its[0]? = some t := ⟨its[0]'(by omega), List.getElem?_eq_getElem _⟩
      obtain ⟨gv, h1, _⟩ := ptr_at (k := 0) (x := .pointer (some ⟨t0.pt, 0, none⟩)) hts (by rw [thrV, List.getElem?_map, ht0]; rfl)
      exact ⟨gv, h1⟩
    subst hgv
    have HP := Lib.hid hp; have HS := Lib.hid hs; have HAT := Lib.hid hat; have HFI := Lib.hid hfin; have HIL := Lib.hid hil; have HYL := Lib.hid hyl; have HTS := Lib.hid hts
    clear hp hs hv hst hat hfin hil hyl hts
    go_wp2
    go_loopw [4, 16] (fun ob jv wr' => ∃ j : Nat, j ≤ len ∧ jv = .int .i64 (j : Int) ∧ ob = .bool ((y.ts.take j).all (·.done)) ∧ wr' = wr) (fun _ jv _ => len - (intOf jv).toNat)
    case atStart => exact ⟨0, Nat.zero_le _, rfl, rfl, rfl⟩
    case round =>
      obtain ⟨j, hj, rfl, rfl, rfl⟩ := hrel
      by_cases hlt : j < len
      · have hlt' : (j : Int) < (len : Int) := by omega
        obtain ⟨t, ht⟩ : ∃ t, its[j]? = some t := ⟨its[j]'(by rw [HIL.out]; exact hlt), List.getElem?_eq_getElem _⟩
        obtain ⟨s, hs⟩ : ∃ s, y.ts[j]? = some s := ⟨y.ts[j]'(by rw [HYL.out]; exact hlt), List.getElem?_eq_getElem _⟩
        obtain ⟨gv', hgv', q2⟩ := ptr_at (k := j) (x := .pointer (some ⟨t.pt, 0, none⟩)) HTS.out (by rw [thrV, List.getElem?_map, ht]; rfl)
        obtain rfl : gv = gv' := by simpa using hgv'
        obtain ⟨B, hz⟩ := HP.out.thr ht hs
        have HZ := Lib.hid hz
        have ht1 : (y.ts.take (j + 1)).all (·.done) = ((y.ts.take j).all (·.done) && s.done) := by
          rw [List.take_add_one, hs, List.all_append]
          simp
        have HT1 := Lib.hid ht1
        clear hz ht hs hgv' ht1
        cases hb : (y.ts.take j).all (·.done) with
        | true =>
          go_wp2_with (go_at_call 32; refine (tdone_ok HZ.out).mono ?_; rintro e w' ⟨rfl, rfl⟩)
          go_roundw
          case rel => exact ⟨j + 1, by omega, by go_num, by rw [HT1.out, hb, Bool.true_and], trivial⟩
          case measure => simp [intOf]; omega
        | false =>
          go_wp2
          go_roundw
          case rel => exact ⟨j + 1, by omega, by go_num, by rw [HT1.out, hb, Bool.false_and], trivial⟩
          case measure => simp [intOf]; omega
      · obtain rfl : j = len := by omega
        have g3 : decide ((j : Int) < (j : Int)) = false := by simp
        have htk : y.ts.take j = y.ts := by rw [← HYL.out, List.take_length]
        rw [htk]
        cases hb : y.ts.all (·.done) with
        | true =>
          go_wp2
          go_ret
          exact ⟨rfl, y, P, HAT.out, fun t ht => by rw [List.all_eq_true] at hb; exact hb t ht, by omega⟩
        | false =>
          obtain ⟨k, t, hkt, hdt⟩ : ∃ (k : Nat) (t : TS Out13), y.ts[k]? = some t ∧ ¬ t.done = true := by
            rw [List.all_eq_false] at hb
            obtain ⟨t, ht, hd⟩ := hb
            obtain ⟨k, hk, e⟩ := List.getElem_of_mem ht
            exact ⟨k, t, by rw [← e]; exact List.getElem?_eq_getElem hk, by simpa using hd⟩
          have hb2 : i ≤ 160170 := by
            have h1 := (HFI.out.2 k t hkt).resolve_left hdt
            have h2 := (List.getElem?_eq_some_iff.1 hkt).1
            rw [HYL.out] at h2
            rw [HLN.out] at h1
            have h3 := HFI.out.1 k
            have h4 : (40040 - P k) * j ≤ 40040 * 4 := Nat.mul_le_mul (by omega) hl4
            omega
          have hem : ((i : Int) % (L.length : Int)).toNat = i % L.length := by omega
          have hst := stepX_ok HT.out HAT.out hn1 hn3 HL.out (by rw [HLN.out]; exact hl1) (by rw [HLN.out]; exact hl4) (by omega) (i : Int)
          rw [hem] at hst
          have HST := Lib.hid hst
          have HF2 := Lib.hid (fin_step HS.out (by rw [HLN.out]; exact hl1) HFI.out)
          have hn2 : (pstep L (sceneCells n) (i % L.length) y).now = y.now + 1 := pstep_now (by rw [HYL.out, ← HLN.out]; exact Nat.mod_lt _ (by rw [HLN.out]; exact hl1))
          have HN2 := Lib.hid hn2
          clear hkt hdt hst hem hn2 htk
          go_wp2_with fail
          refine HST.out.mono ?_
          rintro e w2 ⟨v2, rfl, hat2⟩
          go_wp2
          go_roundw
          case rel => exact ⟨i + 1, _, _, by omega, by go_num, by rw [HN2.out]; omega, HF2.out, hat2⟩
          case measure => simp [intOf]; omega
end Go.Proofs.YtmdganpealbmpaaGreatDoor
