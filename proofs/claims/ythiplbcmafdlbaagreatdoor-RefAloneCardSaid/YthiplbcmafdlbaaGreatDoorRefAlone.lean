/- RefAlone: the law's walk. -/
import Derived.Test.YthiplbcmafdlbaaGreatDoorBegins13
namespace Go.Proofs.YthiplbcmafdlbaaGreatDoor
open Go.RowKit Bl Th
set_option maxRecDepth 10000

/-- 1, 2 or 3. -/
theorem three13 (a : Int) : ∃ n : Nat, 1 ≤ n ∧ n ≤ 3 ∧ IntKind.i64.wrap (a.tmod 3 + 3) = a.tmod 3 + 3 ∧ IntKind.i64.wrap (1 + (a.tmod 3 + 3).tmod 3) = (n : Int) := by
  have g1 : -(3 : Int) < a.tmod 3 := Int.lt_tmod_of_pos a (by omega)
  have g2 : a.tmod 3 < 3 := Int.tmod_lt_of_pos a (by omega)
  have g3 : 0 ≤ (a.tmod 3 + 3).tmod 3 := Int.tmod_nonneg _ (by omega)
  have g4 : (a.tmod 3 + 3).tmod 3 < 3 := Int.tmod_lt_of_pos _ (by omega)
  refine ⟨(1 + (a.tmod 3 + 3).tmod 3).toNat, by omega, by omega, IntWalk.i64_in _ (by omega), ?_⟩
  rw [IntWalk.i64_in _ (by omega)]
  omega
theorem ptr_at {w : World} {e : TypeId} {base n cap : Nat} {p : Option Addr} {xs : List Value} {k : Nat} {x : Value} (h : w.ownsRow base e 1 (.slice p n cap) n xs) (hx : xs[k]? = some x) : ∃ g, p = some ⟨g, 0, none⟩ ∧ w.cell? ⟨g, k, none⟩ = some x := by
  have hl := h.1
  have hk := (List.getElem?_eq_some_iff.1 hx).1
  rcases h.2 with ⟨-, h0⟩ | ⟨g, c, cur, hv, -, -⟩
  · omega
  · simp only [Value.slice.injEq] at hv
    obtain ⟨rfl, -, rfl⟩ := hv
    exact ⟨g, rfl, by rw [h.cellAt k (by omega), hx]⟩
set_option maxHeartbeats 1000000 in
theorem same13q_ok {w : World} {b1 b2 : Nat} {v1 v2 : Value} {l : List Nat} (h1 : w.ownsRow b1 24 1 v1 l.length (encT l)) (h2 : w.ownsRow b2 24 1 v2 l.length (encT l)) (hl : l.length ≤ 1000) :
    Calls Tryz.prog 19 #[v1, v2] w fun e w' => e = .returned (.bool true) ∧ ∃ m, w' = w.drewN m := by
  obtain ⟨p1, c1, rfl⟩ := ownsRow_shape h1
  obtain ⟨p2, c2, rfl⟩ := ownsRow_shape h2
  obtain ⟨len, hlen⟩ : ∃ len, l.length = len := ⟨_, rfl⟩
  rw [hlen] at hl h1 h2 ⊢
  have H1 := Lib.hid h1; have H2 := Lib.hid h2
  have HLEN := Lib.hid hlen
  clear h1 h2 hlen
  have g0 : ((len : Int) != (len : Int)) = false := by simp
  have g1 : (len != len) = false := by simp
  go_enter Tryz.func19, Tryz.ntmps19
  go_wp2
  go_loopw [5] (fun i wr => ∃ k n : Nat, k ≤ len ∧ i = .int .i64 (k : Int) ∧ wr = w.drewN n) (fun i _ => len - (intOf i).toNat)
  case atStart => exact ⟨0, 0, Nat.zero_le _, rfl, rfl⟩
  case round =>
    obtain ⟨k, n, hk, rfl, rfl⟩ := hrel
    by_cases hlt : k < len
    · have hlt' : (k : Int) < (len : Int) := by omega
      obtain ⟨x, hx⟩ : ∃ x, l[k]? = some x := ⟨l[k]'(by rw [HLEN.out]; exact hlt), List.getElem?_eq_getElem _⟩
      obtain ⟨ga, rfl, ha⟩ := row_at H1.out hx
      obtain ⟨gb, rfl, hb⟩ := row_at H2.out hx
      have g2 : ((x : Int) != (x : Int)) = false := by simp
      clear hx
      go_wp2
      go_quiet (fail)
      go_wp2
      go_roundw
      case rel => exact ⟨k + 1, _, by omega, by go_num, rfl⟩
      case measure => simp [intOf]; omega
    · obtain rfl : k = len := by omega
      have g3 : decide ((k : Int) < (k : Int)) = false := by simp
      go_wp2
      go_ret
      exact ⟨rfl, _, rfl⟩

theorem doOps_length (n : Nat) : ∀ (l : List Op13) (acc : Nat) (now : Nat → Nat) (told : List Nat), (doOps n l acc now told).1.length ≤ told.length + l.length
  | [], _, _, _ => Nat.le_refl _
  | o :: l, acc, now, told => by
    unfold doOps
    split
    · have := doOps_length n l ((acc + now (o.a % (n : Int)).toNat) % 18446744073709551616) now (told ++ [now (o.a % (n : Int)).toNat])
      simp only [List.length_append, List.length_cons, List.length_nil] at this ⊢
      omega
    · split
      · have := doOps_length n l acc (Th.upd now (o.a % (n : Int)).toNat ((acc + o.x) % 18446744073709551616)) told
        simp only [List.length_cons]
        omega
      · have := doOps_length n l acc now told
        simp only [List.length_cons]
        omega
/-- What holds at each round's head. -/
def RunJ (W : World) (pa pb pp g n : Nat) (L : List (List Op13)) (lv bv ev tv ov : Value) (its : List It) (nv cv i : Value) (wr : World) : Prop :=
  ∃ (k clk : Nat) (nl : List Nat) (ver : Nat → Nat) (S : BS), k ≤ L.length ∧ i = .int .i64 (k : Int) ∧ cv = .int .i64 (clk : Int) ∧ clk ≤ k ∧ (∀ j, j < n → ver j ≤ clk) ∧ nl.length = n ∧ Sc n S clk (fun j => rest (ver j)) (listFn nl) ∧
    wr.ownsRow W.heap.size 24 1 nv n (encT nl) ∧ PlayAt W nv.ownBlock.toList pa pb pp g (sceneCells n) L lv bv ev tv ov its k S wr
set_option maxHeartbeats 8000000 in
theorem refAlone_ok (v : Value) (a1 : Int) (L : List (List Op13)) (W : World) (hT : Handle W) (hL : OpssAt W v L) :
    Calls Tryz.prog 4 #[v, .int .i64 a1] W fun e w' => e = .returned (.bool true) ∧ Below W.heap.size W w' := by
  obtain ⟨p, cap, hv, hm, hp⟩ := id hL
  subst hv
  obtain ⟨n, hn1, hn3, e1, e2⟩ := three13 a1
  have HT := Lib.hid hT; have HL := Lib.hid hL
  have HN1 := Lib.hid hn1; have HN3 := Lib.hid hn3
  obtain ⟨len, hlen⟩ : ∃ len, L.length = len := ⟨_, rfl⟩
  have HLN := Lib.hid hlen; have HPP := Lib.hid hp
  obtain ⟨fb, hfb⟩ : ∃ fb, fewB L = fb := ⟨_, rfl⟩
  have HFW := Lib.hid (few13_ok hL)
  rw [hlen] at hm
  rw [hlen, hfb] at HFW
  rw [hlen] at HL ⊢
  clear hL hp hT hn1 hn3 hlen
  go_enter Tryz.func4, Tryz.ntmps4
  go_wp2_with fail
  refine HFW.out.mono ?_
  rintro e w' ⟨rfl, rfl⟩
  cases fb with
  | false =>
    go_wp2_with (go_at_call 6; refine (alive13_ok _ HT.out).mono ?_; rintro e w' ⟨rfl, hb⟩)
    go_ret
    exact ⟨rfl, hb⟩
  | true =>
    obtain ⟨hall, hl1, hl4⟩ := few_all hfb
    obtain ⟨g0, o0, rfl, -⟩ := HPP.out (fun e => by simp [e] at hl1)
    have HBEG := Lib.hid (begins13_ok HT.out HL.out hfb HN1.out HN3.out)
    rw [HLN.out] at hl1 hl4
    have HALL := Lib.hid hall
    clear hall hfb HPP HFW hm
    go_wp2_with fail
    refine HBEG.out.mono ?_
    rintro e w1 ⟨pa, pb, pp, g, lv, bv, ev, tv, ov, its, rfl, hp, hil⟩
    have HF := Lib.hid (first13_ok (n := n) (Nat.le_trans HN3.out (by omega)) w1)
    have HP := Lib.hid hp; have HIL := Lib.hid hil
    clear hp hil HBEG
    go_wp2_with fail
    refine HF.out.mono ?_
    rintro e w2 ⟨nv, rfl, hr, hb⟩
    have hbW := HP.out.held.below.size
    have hp2 := HP.out.came hb nv.ownBlock.toList (fun b hb => hr.lt b (by simpa using hb)) (own_nodup _)
    rw [List.append_nil] at hp2
    have HJ := Lib.hid (show RunJ W pa pb pp g n L lv bv ev tv ov its nv (.int .i64 0) (.int .i64 0) w2 from
      ⟨0, 0, (List.range n).map (10 + ·), fun _ => 0, sceneS n, Nat.zero_le _, rfl, rfl, Nat.le_refl _, fun _ _ => Nat.le_refl _, by simp, (scene_sc HN1.out HN3.out).cast (fun _ _ => rfl) (fun i hi => by simp [listFn, List.getD_eq_getElem?_getD, hi]), ownsRow_mono hr hbW, hp2⟩)
    clear hr hb hbW hp2 HF HP
    go_wp2
    go_loopw [6, 7, 30] (RunJ W pa pb pp g n L lv bv ev tv ov its) (fun _ _ i _ => len - (intOf i).toNat)
    case atStart => exact HJ.out
    case round =>
      clear HJ
      obtain ⟨k, clk, nl, ver, S, hk, rfl, rfl, hck, hv, hnl, hsc, hr, hp⟩ := hrel
      rw [HLN.out] at hk
      by_cases hlt : k < len
      · have hlt' : (k : Int) < (len : Int) := by omega
        obtain ⟨pn, cn, rfl⟩ := ownsRow_shape hr
        obtain ⟨l, hx⟩ : ∃ l, L[k]? = some l := ⟨L[k]'(by rw [HLN.out]; exact hlt), List.getElem?_eq_getElem _⟩
        obtain ⟨t, ht⟩ : ∃ t, its[k]? = some t := ⟨its[k]'(by rw [HIL.out, HLN.out]; exact hlt), List.getElem?_eq_getElem _⟩
        have hl10 := HALL.out l (List.mem_of_getElem? hx)
        obtain ⟨S', ver', f, hgo, hf, hsc', hv'⟩ := body_goes (own := k + 1) (cells := sceneCells n) HN1.out (scene_cell HN1.out HN3.out) hsc hv (by omega) (by omega) hl10
        have HRUN := Lib.hid (hp.run HT.out ht hx (by rw [len_scene]; exact HN1.out) (by rw [len_scene]; exact HN3.out) (fun x hx => by
          obtain ⟨i, hi, rfl⟩ := List.mem_map.1 hx
          have := List.mem_range.1 hi
          have := HN3.out
          omega) hgo)
        have q1 := hp.main.cell 3
        simp only [List.getElem?_cons_succ, List.getElem?_cons_zero] at q1
        obtain ⟨pv, cv, rfl⟩ := ownsRow_shape hp.ts
        obtain ⟨gv, rfl, q2⟩ := ptr_at (k := k) (x := .pointer (some ⟨t.pt, 0, none⟩)) hp.ts (by rw [thrV, List.getElem?_map, ht]; rfl)
        have hlt2 : (k : Int) < (its.length : Int) := by rw [HIL.out, HLN.out]; omega
        obtain ⟨ilen, hie⟩ : ∃ ilen, its.length = ilen := ⟨_, rfl⟩
        rw [hie] at q1 hlt2
        have HSC' := Lib.hid hsc'; have HV' := Lib.hid hv'; have HFF := Lib.hid hf; have HX := Lib.hid hx; have HIT := Lib.hid ht; have HNL := Lib.hid hnl; have HR := Lib.hid hr; have HL10 := Lib.hid hl10; have HIE := Lib.hid hie
        clear hp hsc hv hgo hf hsc' hv' hx ht hnl hr hl10 hie
        go_wp2_with fail
        refine HRUN.out.mono ?_
        rintro e w3 ⟨s', Lg, nn, B', rfl, hp3, ht3, hk3⟩
        have HRO := Lib.hid (show Calls Tryz.prog 24 #[.pointer (some ⟨t.pt, 0, none⟩)] w3 fun e w' => e = .returned (.int .i64 0) ∧ w3 = w' from tround_ok ht3)
        have q3 := hp3.main.cell 3
        have q5 := hp3.main.cell 4
        simp only [List.getElem?_cons_succ, List.getElem?_cons_zero] at q3 q5
        rw [HIE.out] at q3
        obtain ⟨gv', hgv', q4⟩ := ptr_at (k := k) (x := .pointer (some ⟨t.pt, 0, none⟩)) hp3.ts (by rw [thrV, List.getElem?_map, HIT.out]; rfl)
        obtain rfl : gv = gv' := by simpa using hgv'
        obtain ⟨go', oo', q, c, he, q6, hops⟩ := opss_at (p := some ⟨g0, o0, none⟩) (m := len) (cap := cap) HL.out hp3.held.below HX.out
        obtain ⟨rfl, rfl⟩ : g0 = go' ∧ o0 = oo' := by simpa using he
        obtain ⟨lv3, ev3, E3, Q3, -, hl3⟩ := ht3
        have hau := hl3.aux
        rw [HFF.out] at hau
        obtain ⟨tv3, -, -, -, a1, a2⟩ := hau
        simp only at a1 a2
        have hn3 := ownsRow_heldBy HR.out hk3 (fun b hb => by simp [hb])
        have hdo := do13_ok (W := W) (hops.2.2 w3 [] (by have := HL10.out; omega)) hp3.held.below (by simp) (now := nl) (by rw [HNL.out]; exact hn3) (by rw [HNL.out]; exact HN1.out) (by rw [HNL.out]; have := HN3.out; omega)
        rw [HNL.out] at hdo
        have HDO := Lib.hid hdo; have HP3 := Lib.hid hp3; have HA1 := Lib.hid a1; have HA2 := Lib.hid a2
        have HWR := Lib.hid (fun (w' : World) (hb' : Below W.heap.size W w') => writes13_ok (W := W) (w := w') (hops.2.2 w' [] (by have := HL10.out; omega)) hb')
        obtain ⟨pl, hpl⟩ : ∃ pl, l.length = pl := ⟨_, rfl⟩
        rw [hpl] at q6 HDO HWR
        clear HRUN hp3 hl3 a1 a2 hn3 hdo hops hk3 HR q1 q2 hgv' he hpl
        go_wp2_with (first
          | (go_at_call 16; refine (no_nil _).mono ?_; rintro e w' ⟨rfl, rfl⟩)
          | (go_at_call 24; refine HRO.out.mono ?_; rintro e w' ⟨rfl, rfl⟩))
        refine HDO.out.mono ?_
        rintro e w4 ⟨v1, v2, next, rfl, r1, r2, hnx, hfn, hb4⟩
        have hbW4 : Below W.heap.size W w4 := HP3.out.held.below.trans (hb4.mono HP3.out.held.below.size)
        have hp4 := (HP3.out.came hb4 v2.ownBlock.toList (fun b hb => r2.lt b (by simpa using hb)) (own_nodup _)).sub (List.sublist_append_left _ _)
        have a1 := HA1.out.heldBy (R := [t.po]) (HeldBy.of_below hb4 (by simpa using HA1.out.lt)) (by simp)
        have a2 := ownsRow_heldBy HA2.out (HeldBy.of_below (R := tv3.ownBlock.toList) hb4 (fun b hb => (HA2.out.lt b (by simpa using hb)).2)) (fun b hb => by simp [hb])
        have HSAME := Lib.hid (fun m => same13q_ok (w := w4.drewN m) (b1 := W.heap.size) (b2 := w3.heap.size) (v1 := tv3) (v2 := v1) (l := (doOps n l 0 (listFn nl) []).1) a2 r1 (by have h1 := doOps_length n l 0 (listFn nl) []; have := HL10.out; simp only [List.length_nil] at h1; omega))
        obtain ⟨pov, cov, rfl⟩ := ownsRow_shape hp4.outs
        obtain ⟨gov, rfl, q8⟩ := ptr_at (k := k) (x := .pointer (some ⟨t.po, 0, none⟩)) hp4.outs (by rw [outV, List.getElem?_map, HIT.out]; rfl)
        have q7 := hp4.main.cell 4
        simp only [List.getElem?_cons_succ, List.getElem?_cons_zero] at q7
        rw [HIE.out] at q7
        have q9 := (hb4.cell (p := ⟨g0, o0 + k, none⟩) (World.block_lt_of_cell? w3 _ q6)).trans q6
        have hsc4 : Sc n S' (if Th.wr l = true then clk + 1 else clk) (fun j => rest (ver' j)) (listFn next) := by rw [← hfn]; exact HSC'.out
        obtain ⟨p0, p1, p2, p3, -⟩ := four a1
        have HP4 := Lib.hid hp4; have HR2 := Lib.hid r2; have HBW4 := Lib.hid hbW4; have HSC4 := Lib.hid hsc4; have HNX := Lib.hid hnx; have HW3 := Lib.hid HP3.out.held.below.size
        clear q3 q4 q5 q6 HDO HP3 HA1 HA2 hp4 a1 a2 r1 r2 hnx hfn hb4 hbW4 hsc4 HRO HSC'
        go_wp2_with fail
        refine (HWR.out _ HBW4.out).mono ?_
        rintro e w' ⟨rfl, rfl⟩
        cases hwr : Th.wr l with
        | true =>
          have HV2 := Lib.hid (show ∀ j, j < n → ver' j ≤ clk + 1 by have := HV'.out; rw [hwr] at this; simpa using this)
          have HSC5 := Lib.hid (show Sc n S' (clk + 1) (fun j => rest (ver' j)) (listFn next) by have := HSC4.out; rw [hwr] at this; simpa using this)
          have p2' : w4.cell? ⟨t.po, 2, none⟩ = some (.bool true) := by rw [p2, hwr]
          have p3' : w4.cell? ⟨t.po, 3, none⟩ = some (.int .i64 ((clk + 1 : Nat) : Int)) := by rw [p3, hwr]; simp
          have g8 : (((clk + 1 : Nat) : Int) != ((clk + 1 : Nat) : Int)) = false := by simp
          have HWR5 := Lib.hid (fun (m : Nat) => (show Calls Tryz.prog 26 #[.slice q pl c] (w4.drewN m) fun e w' => e = .returned (.bool true) ∧ w4.drewN m = w' from by have := HWR.out (w4.drewN m) (below_drewN HBW4.out _); rwa [hwr] at this))
          have g9 : IntKind.i64.wrap ((clk : Int) + 1) = ((clk + 1 : Nat) : Int) := by rw [IntWalk.i64_in _ (by omega)]; rfl
          clear p2 p3 HV' HSC4 hwr
          go_wp2
          go_quiet (first
            | (go_at_call 19; exact Calls.quiet_of (HSAME.out _))
            | (go_at_call 26; exact quiet_left (HWR5.out _)))
          go_wp2
          go_roundw
          case rel => exact ⟨k + 1, clk + 1, next, ver', S', by rw [HLN.out]; omega, by go_num, by go_num, by omega, HV2.out, HNX.out, HSC5.out, ownsRow_mono HR2.out HW3.out, HP4.out.under (below_drewN (Below.refl _ _) _)⟩
          case measure => simp [intOf]; omega
        | false =>
          have HV2 := Lib.hid (show ∀ j, j < n → ver' j ≤ clk by have := HV'.out; rw [hwr] at this; simpa using this)
          have HSC5 := Lib.hid (show Sc n S' (clk) (fun j => rest (ver' j)) (listFn next) by have := HSC4.out; rw [hwr] at this; simpa using this)
          have p2' : w4.cell? ⟨t.po, 2, none⟩ = some (.bool false) := by rw [p2, hwr]
          have p3' : w4.cell? ⟨t.po, 3, none⟩ = some (.int .i64 ((clk : Nat) : Int)) := by rw [p3, hwr]; simp
          have g8 : (((clk : Nat) : Int) != ((clk : Nat) : Int)) = false := by simp
          have HWR5 := Lib.hid (fun (m : Nat) => (show Calls Tryz.prog 26 #[.slice q pl c] (w4.drewN m) fun e w' => e = .returned (.bool false) ∧ w4.drewN m = w' from by have := HWR.out (w4.drewN m) (below_drewN HBW4.out _); rwa [hwr] at this))
          clear p2 p3 HV' HSC4 hwr
          go_wp2
          go_quiet (first
            | (go_at_call 19; exact Calls.quiet_of (HSAME.out _))
            | (go_at_call 26; exact quiet_left (HWR5.out _)))
          go_wp2
          go_roundw
          case rel => exact ⟨k + 1, clk, next, ver', S', by rw [HLN.out]; omega, by go_num, by go_num, by omega, HV2.out, HNX.out, HSC5.out, ownsRow_mono HR2.out HW3.out, HP4.out.under (below_drewN (Below.refl _ _) _)⟩
          case measure => simp [intOf]; omega
      · obtain rfl : k = len := by omega
        have g3 : decide ((k : Int) < (k : Int)) = false := by simp
        have HB := Lib.hid hp.held.below
        have HTB := Lib.hid (HT.out.below HT.out.lt HB.out)
        clear hp hr hsc hv hnl
        go_wp2_with (go_at_call 6; refine (alive13_ok _ HTB.out).mono ?_; rintro e w' ⟨rfl, hb⟩)
        go_ret
        exact ⟨rfl, HB.out.trans (hb.mono HB.out.size)⟩
end Go.Proofs.YthiplbcmafdlbaaGreatDoor
