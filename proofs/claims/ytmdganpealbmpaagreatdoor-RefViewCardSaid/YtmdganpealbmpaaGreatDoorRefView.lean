/- RefView: the law's walk. -/
import Derived.Test.YtmdganpealbmpaaGreatDoorViewA
namespace Go.Proofs.YtmdganpealbmpaaGreatDoor
open Go.RowKit Bl Th
set_option maxRecDepth 10000

/-- What goes along: what each was told till then, and the row of that. -/
def seenK (W w1 : World) (U : Nat → Value) (td : Nat → List Nat) (sv : Value) (len : Nat) (k : Nat) : Pass where
  Q := (U k).ownBlock.toList ++ (if k = 0 then sv.ownBlock.toList else [])
  P w := w.ownsRow W.heap.size 41 1 (U k) (td k).length (encT (td k)) ∧ (k = 0 → w.ownsRow w1.heap.size 31 1 sv len ((List.range len).map U))
  loc w w' hk h := ⟨ownsRow_heldBy h.1 hk (fun b hb => by simp [hb]), fun e => ownsRow_heldBy (h.2 e) hk (fun b hb => by simp [e, hb])⟩
/-- What each was told till then. -/
def ToldAt (W w1 : World) (its : List It) (U : Nat → Value) (td : Nat → List Nat) : Prop := ∀ (k : Nat) t, its[k]? = some t → w1.cell? ⟨t.po, 0, none⟩ = some (U k) ∧ w1.ownsRow W.heap.size 41 1 (U k) (td k).length (encT (td k))
theorem told_at {W : World} {X : List Nat} {pa pb pp g : Nat} {cells : List Nat} {L : List (List Op13)} {lv bv ev tv ov : Value} {its : List It} {sn : Nat → Pass} {Bs : List (List Nat)} {y : Th.Sys} {w : World} (h : PlayX W X pa pb pp g cells L lv bv ev tv ov its sn Bs y w) : ∃ U, ToldAt W w its U (tdK y) := by
  have : ∀ k, ∃ uv : Value, ∀ t, its[k]? = some t → w.cell? ⟨t.po, 0, none⟩ = some uv ∧ w.ownsRow W.heap.size 41 1 uv (tdK y k).length (encT (tdK y k)) := fun k => by
    cases e : its[k]? with
    | none => exact ⟨.slice none 0 0, fun t h => (by cases h)⟩
    | some t =>
      obtain ⟨uv, h1, h2⟩ := h.outAt e
      have c0 := h1.cell 0
      simp only [List.getElem?_cons_zero] at c0
      exact ⟨uv, fun t' h => by obtain rfl := Option.some.inj h; exact ⟨c0, h2⟩⟩
  obtain ⟨U, hU⟩ := Classical.skolem.1 this
  exact ⟨U, hU⟩
theorem row_sub {w w' : World} {base n : Nat} {e : TypeId} {v : Value} {xs : List Value} (h : w.ownsRow base e 1 v n xs) (hb : Below w.heap.size w w') : w'.ownsRow base e 1 v n xs :=
  ownsRow_kept h (Kept.of_below hb) (fun b hb' e => by have := (h.lt b hb').2; omega)
def SeenJ (w1 : World) (len : Nat) (U : Nat → Value) (sv iv : Value) (wr : World) : Prop :=
  ∃ k : Nat, k ≤ len ∧ iv = .int .i64 (k : Int) ∧ Below w1.heap.size w1 wr ∧ wr.ownsRow w1.heap.size 31 1 sv k ((List.range k).map U)
/-- What holds at each round's head of the states' loop. -/
def ViewJ (n : Nat) (w3 : World) (D : Nat → (Nat → Nat) → List Nat × (Nat → Nat)) (ord : List Nat) (sv iv : Value) (wr : World) : Prop :=
  ∃ (k : Nat) (nls : List (List Nat)), k ≤ ord.length ∧ iv = .int .i64 (k : Int) ∧ nls.length = k + 1 ∧ RowsAt w3.heap.size n sv nls wr ∧ Below w3.heap.size w3 wr ∧ ∀ (j : Nat) nl, nls[j]? = some nl → ∃ f, (statesO D ord IniF)[j]? = some f ∧ ∀ i, i < n → listFn nl i = f i
theorem row_one {w : World} {base : Nat} {t : TypeId} (x : Value) (hb : base ≤ w.heap.size) : (w.alloc (.cells #[x] t)).ownsRow base t 1 (.slice (some ⟨w.heap.size, 0, none⟩) 1 1) 1 [x] :=
  ⟨by simp, .inr ⟨w.heap.size, 1, #[x], rfl, hb, heap_alloc_new w _, Nat.le_refl _, by unfold maxLen; omega, by simp, by simp⟩⟩
/-- The first state. -/
theorem rows_first {w3 w4 : World} {n : Nat} {nv : Value} {l : List Nat} (hn : w4.ownsRow w3.heap.size 41 1 nv n (encT l)) (hl : l.length = n) (hz : w3.heap.size ≤ w4.heap.size) : RowsAt w3.heap.size n (.slice (some ⟨w4.heap.size, 0, none⟩) 1 1) [l] (w4.alloc (.cells #[nv] 31)) := by
  refine ⟨[nv], rfl, row_one nv hz, fun j u x hu hx => ?_⟩
  have hj := (List.getElem?_eq_some_iff.1 hu).1
  obtain rfl : j = 0 := by simpa using hj
  simp only [List.getElem?_cons_zero, Option.some.injEq] at hu hx
  subst hu hx
  refine ⟨hl, fun b hb e => ?_, hn.alloc _⟩
  simp only [Value.ownBlock, Option.some.injEq] at e
  have := (hn.lt b hb).2
  omega
theorem view_found {D : Nat → (Nat → Nat) → List Nat × (Nat → Nat)} {n : Nat} {ord : List Nat} {nls : List (List Nat)} {td : List Nat} {l : List Op13} (hn : 1 ≤ n) (hlen : nls.length = ord.length + 1) (hag : ∀ (j : Nat) nl, nls[j]? = some nl → ∃ f, (statesO D ord IniF)[j]? = some f ∧ ∀ i, i < n → listFn nl i = f i) (hs : ∃ s ∈ statesO D ord IniF, td <+: (doOps n l 0 s []).1) : nls.any (fun nl => fits td (doOps n l 0 (listFn nl) []).1) = true := by
  obtain ⟨s, hm, hp⟩ := hs
  obtain ⟨e, he, hse⟩ := List.getElem_of_mem hm
  rw [statesO_len] at he
  have hx : nls[e]? = some (nls[e]'(by omega)) := List.getElem?_eq_getElem _
  obtain ⟨f, hf, hfa⟩ := hag e _ hx
  rw [List.getElem?_eq_getElem (by rw [statesO_len]; exact he), hse] at hf
  obtain rfl := Option.some.inj hf
  rw [List.any_eq_true]
  exact ⟨_, List.mem_of_getElem? hx, fits_of (by rw [(doOps_congr hn l 0 _ s [] hfa).1]; exact hp)⟩
theorem any_next {α : Type} {l : List α} {q : Nat} {x : α} (p : α → Bool) (h : l[q]? = some x) : (l.take (q + 1)).any p = ((l.take q).any p || p x) := by
  rw [List.take_add_one, h, List.any_append]
  simp
theorem slinfo : (Tryz.prog.info? 31).map (fun i => (i.zero, i.size, i.bytes)) = some (some (.slice none 0 0), 1, 24) := by kernel_rfl
set_option maxHeartbeats 16000000 in
theorem refView_ok (v pv : Value) (a1 : Int) (L : List (List Op13)) (ps : List Int) (W : World) (hT : Handle W) (hL : OpssAt W v L) (hps : CameL W pv (ps.map (.int .i64))) :
    Calls Tryz.prog 4 #[v, .int .i64 a1, pv] W fun e w' => e = .returned (.bool true) ∧ Below W.heap.size W w' := by
  obtain ⟨p, cap, hv, hm, hp⟩ := id hL
  subst hv
  obtain ⟨pp', pc, hpv, hpm⟩ := hps.shape
  rw [List.length_map] at hpv hpm
  subst hpv
  obtain ⟨n, hn1, hn3, e1, e2⟩ := three13 a1
  have HT := Lib.hid hT; have HL := Lib.hid hL; have HPS := Lib.hid hps
  have HN1 := Lib.hid hn1; have HN3 := Lib.hid hn3
  obtain ⟨len, hlen⟩ : ∃ len, L.length = len := ⟨_, rfl⟩
  obtain ⟨pl, hpl⟩ : ∃ pl, ps.length = pl := ⟨_, rfl⟩
  have HLN := Lib.hid hlen; have HPL := Lib.hid hpl; have HPP := Lib.hid hp
  obtain ⟨fb, hfb⟩ : ∃ fb, fewB L = fb := ⟨_, rfl⟩
  have HFW := Lib.hid (few13_ok hL)
  rw [hlen] at hm
  rw [hlen, hfb] at HFW
  rw [hlen] at HL ⊢
  rw [hpl] at HPS hpm ⊢
  clear hL hp hT hn1 hn3 hlen hpl hps
  go_enter Tryz.func4, Tryz.ntmps4
  go_wp2_with fail
  refine HFW.out.mono ?_
  rintro e w' ⟨rfl, rfl⟩
  cases fb with
  | false =>
    go_wp2_with (go_at_call 8; refine (alive13_ok _ HT.out).mono ?_; rintro e w' ⟨rfl, hb⟩)
    go_ret
    exact ⟨rfl, hb⟩
  | true =>
    by_cases h300 : pl ≤ 300
    · have g300 : decide (300 < (pl : Int)) = false := by simp; omega
      obtain ⟨hall, hl1, hl4⟩ := few_all hfb
      obtain ⟨g0, o0, rfl, -⟩ := HPP.out (fun e => by simp [e] at hl1)
      have HBEG := Lib.hid (begins13x_ok HT.out HL.out hfb HN1.out HN3.out)
      have HALL := Lib.hid hall
      rw [HLN.out] at hl1 hl4
      clear hall hfb HPP HFW hm
      go_wp2_with fail
      refine HBEG.out.mono ?_
      rintro e w1 ⟨pa, pb, pp, g, lv, bv, ev, tv, ov, its, rfl, hp, hil, hzb, hze⟩
      have HJ := Lib.hid (show PickJ W pa pb pp g n L lv bv ev tv ov its (fun _ => pass0) (gh0 (sceneS n)) pl (.int .i64 0) w1 from ⟨0, _, _, Nat.zero_le _, rfl, rfl, fun _ => Nat.le_refl _, begun_at HN1.out HN3.out hp hil hzb hze⟩)
      clear hp hil hzb hze HBEG
      go_wp2
      go_loopw [46] (PickJ W pa pb pp g n L lv bv ev tv ov its (fun _ => pass0) (gh0 (sceneS n)) pl) (fun i _ => pl - (intOf i).toNat)
      case atStart => exact HJ.out
      case round =>
        clear HJ
        obtain ⟨k, P, y, hk, rfl, hnow, hP, hat⟩ := hrel
        obtain ⟨Bs, H, gh, hp, hs, hv, hst⟩ := id hat
        have HAT := Lib.hid hat
        by_cases hlt : k < pl
        · have hlt' : (k : Int) < (pl : Int) := by omega
          obtain ⟨x, hx⟩ : ∃ x, ps[k]? = some x := ⟨ps[k]'(by rw [HPL.out]; exact hlt), List.getElem?_eq_getElem _⟩
          obtain ⟨ad, rfl, hcell⟩ := HPS.out.cell hp.held.below (i := k) (x := .int .i64 x) (by rw [List.getElem?_map, hx]; rfl)
          have hyl : y.ts.length = len := hp.lens.2.1.trans HLN.out
          have hkn : (x % (L.length : Int)).toNat < y.ts.length := by
            rw [hyl, HLN.out]
            have h1 := Int.emod_nonneg x (b := (len : Int)) (by omega)
            have h2 := Int.emod_lt_of_pos x (b := (len : Int)) (by omega)
            omega
          have hn2 : (pstep L (sceneCells n) (x % (L.length : Int)).toNat y).now = y.now + 1 := pstep_now hkn
          have HST := Lib.hid (stepX_ok HT.out HAT.out HN1.out HN3.out HALL.out (by rw [HLN.out]; exact hl1) (by rw [HLN.out]; exact hl4) (by omega) x)
          have HN2 := Lib.hid hn2; have HPQ := Lib.hid hP
          clear hp hs hv hst hx hyl hkn hn2 hP
          go_wp2_with fail
          refine HST.out.mono ?_
          rintro e w2 ⟨v2, rfl, hat2⟩
          go_wp2
          go_roundw
          case rel => exact ⟨k + 1, _, _, by omega, by go_num, by rw [HN2.out, hnow], fun j => by unfold less1; have := HPQ.out j; split <;> omega, hat2⟩
          case measure => simp [intOf]; omega
        · obtain rfl : k = pl := by omega
          have g3 : decide ((k : Int) < (k : Int)) = false := by simp
          obtain ⟨wq, rfl⟩ : ∃ wq, wq = wr := ⟨_, rfl⟩
          obtain ⟨U, hU⟩ := told_at hp
          have hseen : ∀ (k : Nat), k < len → SeenT n IniF (L.getD k []) (tdK y k) gh := fun k hk => by
            have hyl : y.ts.length = len := hp.lens.2.1.trans HLN.out
            have e1 : y.ts[k]? = some (y.ts[k]'(by omega)) := List.getElem?_eq_getElem _
            have := (hs.thr k _ e1).2
            unfold tdK outK
            rw [e1]
            exact this
          obtain ⟨td, htd⟩ : ∃ td, tdK y = td := ⟨_, rfl⟩
          rw [htd] at hU hseen
          have HU := Lib.hid hU; have HSEEN := Lib.hid hseen; have HP1 := Lib.hid hp; have HS1 := Lib.hid hs; have HST1 := Lib.hid hst; have HPQ := Lib.hid hP
          have hil : its.length = len := hp.lens.1.trans HLN.out
          have HIL := Lib.hid hil
          obtain ⟨i0, hi0, zi0, si0, bi0⟩ := info_parts slinfo
          have HJ := Lib.hid (show SeenJ wq len U (.slice none 0 0) (.int .i64 0) wq from ⟨0, Nat.zero_le _, rfl, Below.refl _ _, World.ownsRow_nil _ _ _ _⟩)
          clear hU hseen htd hp hs hst hP hv hil HAT
          go_wp2
          go_loopw [10, 56] (SeenJ wq len U) (fun _ i _ => len - (intOf i).toNat)
          case atStart => exact HJ.out
          case round =>
            clear HJ
            obtain ⟨j, hj, rfl, hb, hrow⟩ := hrel
            obtain ⟨psv, csv, rfl⟩ := ownsRow_shape hrow
            by_cases hlt2 : j < len
            · have hlt2' : (j : Int) < (len : Int) := by omega
              have hp5 := HP1.out.under hb
              obtain ⟨t, ht⟩ : ∃ t, its[j]? = some t := ⟨its[j]'(by rw [HIL.out]; exact hlt2), List.getElem?_eq_getElem _⟩
              obtain ⟨cu, ru⟩ := HU.out j t ht
              have q9 := (hb.cell (World.block_lt_of_cell? _ _ cu)).trans cu
              obtain ⟨pu, cpu, eu⟩ := ownsRow_shape ru
              rw [eu] at q9
              obtain ⟨nu, hnu⟩ : ∃ nu, (td j).length = nu := ⟨_, rfl⟩
              rw [hnu] at q9 eu
              have HEU := Lib.hid eu
              obtain ⟨pov, cov, eov⟩ := ownsRow_shape hp5.outs
              have hpo := hp5.outs
              rw [eov] at hpo
              obtain ⟨gov, hgov, q8⟩ := ptr_at (k := j) (x := .pointer (some ⟨t.po, 0, none⟩)) hpo (by rw [outV, List.getElem?_map, ht]; rfl)
              subst hgov
              have q7 := hp5.main.cell 4
              simp only [List.getElem?_cons_succ, List.getElem?_cons_zero] at q7
              rw [eov] at q7
              have hitl : (j : Int) < (its.length : Int) := by rw [HIL.out]; exact hlt2'
              have HROW := Lib.hid (hrow.alloc (.cells #[.slice pu nu cpu] 31))
              have HB := Lib.hid (hb.alloc hb.size (.cells #[.slice pu nu cpu] 31))
              have HN1' := Lib.hid (news1 (Cells.new wr [.slice pu nu cpu] 31))
              have hbz := hb.size
              clear hp5 hpo hb hrow cu ru eu hnu ht
              go_wp2_with (at_builtin; refine wpList_append_lies _ rfl _ _ 52 rfl wq.heap.size 31 i0 _ 1 24 Tryz.underlying52 hi0 zi0 si0 bi0 rfl (by omega) _ j _ rfl HROW.out ⟨wr.heap.size, 0, none⟩ 1 1 [.slice pu nu cpu] rfl rfl HN1'.out (by intro u hu; simp at hu; subst hu; rfl) (by omega) (by unfold maxLen; omega) (by omega) HB.out.size _ rfl ?_; intro gg cap8 w8 hown8 hgrow8 hat8 hlt8)
              go_roundw
              case rel => exact ⟨j + 1, by omega, by go_num, HB.out.grown hgrow8 HB.out.size (fun q hq => (HROW.out.lt q hq).1), by rw [List.range_succ, List.map_append]; simpa [HEU.out] using hown8⟩
              case measure => simp [intOf]; omega
            · obtain rfl : j = len := by omega
              have g4 : decide ((j : Int) < (j : Int)) = false := by simp
              obtain ⟨sv, hsv⟩ : ∃ sv, Value.slice psv j csv = sv := ⟨_, rfl⟩
              rw [hsv] at hrow
              have hp5 := HP1.out.came hb sv.ownBlock.toList (fun b hb' => hrow.lt b (by simpa using hb')) (own_nodup _)
              rw [List.append_nil] at hp5
              obtain ⟨Bs5, hp6⟩ := hp5.board (seenK W wq U td sv j) (fun k t ht => by
                obtain ⟨cu, ru⟩ := HU.out k t ht
                refine ⟨⟨row_sub ru hb, fun _ => hrow⟩, fun b hb' => ?_⟩
                rcases List.mem_append.1 hb' with z | z
                · exact .inl ⟨U k, (hb.cell (World.block_lt_of_cell? _ _ cu)).trans cu, by simpa using z⟩
                · split at z
                  · rename_i e; exact .inr ⟨e, z⟩
                  · cases z)
              have HFIN := Lib.hid (finishX_ok HT.out (show AtX W [] pa pb pp g n L lv bv ev tv ov its (seenK W wq U td sv j) gh P y wr from ⟨Bs5, H, gh, hp6, HS1.out, GV.refl _, HST1.out⟩) HN1.out HN3.out HALL.out (by rw [HLN.out]; exact hl1) (by rw [HLN.out]; exact hl4) (by omega) HPQ.out)
              clear hp5 hp6 hrow hb
              rw [hsv]
              go_wp2_with fail
              refine HFIN.out.mono ?_
              rintro e w2 ⟨rfl, y2, P2, ⟨Bs2, H2, gh2, hp2, hs2, hv2, -⟩, hd2, -⟩
              have hfair := hs2.fair hd2
              have HORD := Lib.hid (orderX_ok hp2 hfair (by rw [HLN.out]; exact hl1) (by rw [HLN.out]; exact hl4))
              have hstate : ∀ k, k < j → ∃ s ∈ statesO (fun k f => doOps n (L.getD k []) 0 f []) (orderK y2 L.length) IniF, td k <+: (doOps n (L.getD k []) 0 s []).1 := fun k hk => Th.SeenT.state hs2 hd2 ((HSEEN.out k hk).gv hv2)
              obtain ⟨ord, hord⟩ : ∃ ord, orderK y2 L.length = ord := ⟨_, rfl⟩
              have hom : ∀ i ∈ ord, i < j := fun i hi => by rw [← hord] at hi; have h := (order_mem.1 hi).1; rw [HLN.out] at h; exact h
              have hol : ord.length ≤ 4 := by rw [← hord]; exact Nat.le_trans (order_le y2 L.length) (by rw [HLN.out]; exact hl4)
              rw [hord] at HORD hstate
              obtain ⟨D, hD⟩ : ∃ D : Nat → (Nat → Nat) → List Nat × (Nat → Nat), (fun k f => doOps n (L.getD k []) 0 f []) = D := ⟨_, rfl⟩
              rw [hD] at hstate
              have HD := Lib.hid hD; have HSTATE := Lib.hid hstate; have HP2 := Lib.hid hp2; have HOM := Lib.hid hom
              clear hp2 hs2 hd2 hv2 hfair hord hom hD hstate HFIN HSEEN HS1 HST1 HPQ HP1 HU HIL
              go_wp2_with fail
              refine HORD.out.mono ?_
              rintro e w3 ⟨ordv, rfl, hor, hb3⟩
              have HF := Lib.hid (first13_ok (n := n) (Nat.le_trans HN3.out (by omega)) w3)
              have HOR := Lib.hid hor; have HB3 := Lib.hid hb3
              clear hor hb3 HORD
              go_wp2_with fail
              refine HF.out.mono ?_
              rintro e w4 ⟨nv, rfl, hnr, hb4⟩
              obtain ⟨m, hm⟩ : ∃ m, ord.length = m := ⟨_, rfl⟩
              have HJ := Lib.hid (show ViewJ n w3 D ord (.slice (some ⟨w4.heap.size, 0, none⟩) 1 1) (.int .i64 0) (w4.alloc (.cells #[nv] 31)) from ⟨0, [(List.range n).map (10 + ·)], Nat.zero_le _, rfl, rfl, rows_first hnr (by simp) hb4.size, hb4.alloc hb4.size _, fun q nl hq => by
                have h1 := (List.getElem?_eq_some_iff.1 hq).1
                obtain rfl : q = 0 := by simpa using h1
                simp only [List.getElem?_cons_zero, Option.some.injEq] at hq
                subst hq
                exact ⟨IniF, statesO_zero _ _ _, fun i hi => by simp [listFn, List.getD_eq_getElem?_getD, hi, IniF]⟩⟩)
              have hm4 : m ≤ 4 := by rw [← hm]; exact hol
              have HM := Lib.hid hm
              obtain ⟨pord, cord, rfl⟩ := ownsRow_shape HOR.out
              obtain ⟨pnv, cnv, rfl⟩ := ownsRow_shape hnr
              rw [hm]
              clear hnr hb4 HF hm hol
              go_wp2
              go_loopw [14, 88] (ViewJ n w3 D ord) (fun _ i _ => m - (intOf i).toNat)
              case atStart => exact HJ.out
              case round =>
                clear HJ
                obtain ⟨k2, nls, hk2, rfl, hnl, hra, hb, hag⟩ := hrel
                rw [HM.out] at hk2
                have hB2 := HB3.out.trans (hb.mono HB3.out.size)
                have HPL2 := Lib.hid (HP2.out.under hB2)
                obtain ⟨vs, hvl, hrow, hvs⟩ := id hra
                obtain ⟨psv, csv, rfl⟩ := ownsRow_shape hrow
                rw [hnl] at hvl
                rw [hvl] at hrow hra hvs ⊢
                by_cases hlt2 : k2 < m
                · have hlt2' : (k2 : Int) < (m : Int) := by omega
                  obtain ⟨i, hi⟩ : ∃ i, ord[k2]? = some i := ⟨ord[k2]'(by rw [HM.out]; exact hlt2), List.getElem?_eq_getElem _⟩
                  have hil := HOM.out i (List.mem_of_getElem? hi)
                  have hil' : (i : Int) < (j : Int) := by omega
                  have hor := ownsRow_kept HOR.out (Kept.of_below hb) (fun b hb e => by have := (HOR.out.lt b hb).2; omega)
                  rw [HM.out] at hor
                  obtain ⟨go1, rfl, q1⟩ := ptr_at (k := k2) (x := .int .i64 (i : Int)) hor (by simp [encN, hi])
                  obtain ⟨l, hx⟩ : ∃ l, L[i]? = some l := ⟨L[i]'(by rw [HLN.out]; exact hil), List.getElem?_eq_getElem _⟩
                  have hl10 := HALL.out l (List.mem_of_getElem? hx)
                  have eL : L.getD i [] = l := by rw [List.getD_eq_getElem?_getD, hx]; rfl
                  obtain ⟨u, hu⟩ : ∃ u, vs[k2]? = some u := ⟨vs[k2]'(by omega), List.getElem?_eq_getElem _⟩
                  obtain ⟨nl, hnl2⟩ : ∃ nl, nls[k2]? = some nl := ⟨nls[k2]'(by omega), List.getElem?_eq_getElem _⟩
                  obtain ⟨hlu, hne, hur⟩ := hvs k2 u nl hu hnl2
                  obtain ⟨f, hf, hfa⟩ := hag k2 nl hnl2
                  obtain ⟨pu, cu, rfl⟩ := ownsRow_shape hur
                  obtain ⟨gs, hgs, q9⟩ := ptr_at (k := k2) hrow hu
                  subst hgs
                  have HAG := Lib.hid (show ∀ next : List Nat, (doOps n l 0 (listFn nl) []).2 = listFn next → ∀ (q : Nat) nl', (nls ++ [next])[q]? = some nl' → ∃ f, (statesO D ord IniF)[q]? = some f ∧ ∀ i, i < n → listFn nl' i = f i from fun next hn q nl' hq => by
                    by_cases e : q < nls.length
                    · rw [List.getElem?_append_left e] at hq
                      exact hag q nl' hq
                    · rw [List.getElem?_append_right (by omega)] at hq
                      have e0 : q - nls.length = 0 := by
                        have := (List.getElem?_eq_some_iff.1 hq).1
                        simp only [List.length_singleton] at this
                        omega
                      rw [e0] at hq
                      simp only [List.getElem?_cons_zero, Option.some.injEq] at hq
                      subst hq
                      obtain rfl : q = k2 + 1 := by omega
                      refine ⟨(D i f).2, statesO_next D ord IniF k2 i f hi hf, fun b hb' => ?_⟩
                      rw [← hn, ← HD.out]
                      simp only [eL]
                      exact (doOps_congr HN1.out l 0 (listFn nl) f [] hfa).2 b hb')
                  obtain ⟨go', oo', q, c, he, q6, hops⟩ := opss_at (p := some ⟨g0, o0, none⟩) (m := j) (cap := cap) HL.out HPL2.out.held.below hx
                  obtain ⟨rfl, rfl⟩ : g0 = go' ∧ o0 = oo' := by simpa using he
                  have hdo := do13_ok (W := W) (w := wr.drew) (hops.2.2 wr.drew [] (by omega)) (HPL2.out.held.below.trans ⟨rfl, rfl, rfl, Nat.le_refl _, fun _ _ => rfl⟩) (by simp) (now := nl) (show wr.drew.ownsRow _ _ _ _ _ _ by rw [hlu]; exact hur) (by rw [hlu]; exact HN1.out) (by rw [hlu]; have := HN3.out; omega)
                  rw [hlu] at hdo
                  obtain ⟨lo, hlo⟩ : ∃ lo, l.length = lo := ⟨_, rfl⟩
                  rw [hlo] at q6 hdo
                  have HDO := Lib.hid hdo; have HROW := Lib.hid hrow; have HVS := Lib.hid hvs; have HVL := Lib.hid hvl; have HNL := Lib.hid hnl; have HB := Lib.hid hb
                  have hz := hb.size
                  obtain ⟨N, hN⟩ : ∃ N, k2 + 1 = N := ⟨_, rfl⟩
                  rw [hN] at HROW HVS HVL HNL ⊢
                  have HN := Lib.hid hN
                  have gw : IntKind.i64.wrap ((N : Int) - 1) = (k2 : Int) := by rw [IntWalk.i64_in _ (by omega)]; omega
                  have gb1 : (k2 : Int) < (N : Int) := by omega
                  have gb3 : k2 < N := by omega
                  have gb5 : N ≤ 5 := by omega
                  clear hN
                  clear hdo hops he hlo hx hi hur hne hlu hfa hf hag hrow hra hvs hu hnl2 hor hvl hnl hb hB2 HPL2 eL
                  go_wp2_with fail
                  go_region_held3 (fun wx => wx.cell? ⟨g0, o0 + i, none⟩ = some (.slice q lo c) ∧ wx.cell? ⟨gs, k2, none⟩ = some (.slice pu n cu))
                    (first | exact ⟨q6, q9⟩ | exact ⟨z6, z9⟩ | go_keep)
                    (first | (go_at_call 14; refine HDO.out.mono ?_; rintro e w5 ⟨v1, v2, next, rfl, r1, r2, hnx, hfn, hb5⟩; have z6 := (hb5.cell (p := ⟨g0, o0 + i, none⟩) (World.block_lt_of_cell? _ _ q6)).trans q6; have z9 := (hb5.cell (p := ⟨gs, k2, none⟩) (World.block_lt_of_cell? _ _ q9)).trans q9; have HR2 := Lib.hid r2; have HNX := Lib.hid hnx; have HFN := Lib.hid hfn; have HB5 := Lib.hid hb5; clear r1 r2 hnx hfn hb5))
                  have hb5 : Below wr.heap.size wr w5 := (show Below wr.heap.size wr wr.drew from ⟨rfl, rfl, rfl, Nat.le_refl _, fun _ _ => rfl⟩).trans HB5.out
                  have hr2 : w5.ownsRow wr.heap.size 41 1 v2 n (encT next) := HR2.out
                  obtain ⟨p2, c2, rfl⟩ := ownsRow_shape hr2
                  have hz5 := hb5.size
                  have HRA := Lib.hid ((row_sub HROW.out hb5).alloc (.cells #[.slice p2 n c2] 31))
                  have HBA := Lib.hid (hb5.alloc hz5 (.cells #[.slice p2 n c2] 31))
                  have HRU := Lib.hid (hr2.alloc (.cells #[.slice p2 n c2] 31))
                  have HNW := Lib.hid (news1 (Cells.new w5 [.slice p2 n c2] 31))
                  clear hb5 hr2 q1 q6 q9 z6 z9
                  go_wp2_with (at_builtin; refine wpList_append_lies _ rfl _ _ 52 rfl w3.heap.size 31 i0 _ 1 24 Tryz.underlying52 hi0 zi0 si0 bi0 rfl (by omega) _ N vs rfl HRA.out ⟨w5.heap.size, 0, none⟩ 1 1 [.slice p2 n c2] rfl rfl HNW.out (by intro u hu; simp at hu; subst hu; rfl) (by omega) (by unfold maxLen; omega) (by omega) (Nat.le_trans hz HBA.out.size) _ rfl ?_; intro gg cap8 w8 hown8 hgrow8 hat8 hlt8)
                  go_roundw
                  case rel => exact ⟨k2 + 1, nls ++ [next], by rw [HM.out]; omega, by go_num, by rw [List.length_append, HNL.out, ← HN.out]; rfl, rows_add HROW.out HNL.out.symm HVL.out.symm HVS.out HBA.out HRU.out HNX.out hz hown8 hgrow8 hat8, (HB.out.trans (HBA.out.mono hz)).grown hgrow8 (Nat.le_trans hz HBA.out.size) (fun b hb' => (HRA.out.lt b hb').1), HAG.out next HFN.out⟩
                  case measure => simp [intOf]; omega
                · obtain rfl : k2 = m := by omega
                  have g3 : decide ((k2 : Int) < (k2 : Int)) = false := by simp
                  obtain ⟨wv, rfl⟩ : ∃ wv, wv = wr := ⟨_, rfl⟩
                  have hpv := HP2.out.under hB2
                  have HPV := Lib.hid hpv
                  obtain ⟨N, hN⟩ : ∃ N, k2 + 1 = N := ⟨_, rfl⟩
                  have gb5 : N ≤ 5 := by omega
                  rw [hN] at hrow hra hvs hvl hnl ⊢
                  have HROW := Lib.hid hrow; have HVS := Lib.hid hvs; have HVL := Lib.hid hvl; have HNL := Lib.hid hnl; have HAG := Lib.hid hag
                  have HNM := Lib.hid (show nls.length = ord.length + 1 by rw [hnl, HM.out, hN])
                  have hsr : wv.ownsRow wq.heap.size 31 1 sv j ((List.range j).map U) := by
                    obtain ⟨t0, ht0⟩ : ∃ t, its[0]? = some t := ⟨its[0]'(by rw [hpv.lens.1, HLN.out]; omega), List.getElem?_eq_getElem _⟩
                    exact (hpv.along ht0).2 rfl
                  obtain ⟨psn, csn, esn⟩ := ownsRow_shape hsr
                  rw [esn] at hsr ⊢
                  have HSR := Lib.hid hsr
                  have HIV := Lib.hid (show its.length = j by rw [hpv.lens.1, HLN.out])
                  clear hpv hrow hra hvs hvl hnl hag hsr hN esn hb hB2 HPL2
                  go_wp2
                  go_loopw [113] (fun iv wz => ∃ i : Nat, i ≤ j ∧ iv = .int .i64 (i : Int) ∧ Below wv.heap.size wv wz) (fun i _ => j - (intOf i).toNat)
                  case atStart => exact ⟨0, Nat.zero_le _, rfl, Below.refl _ _⟩
                  case round =>
                    obtain ⟨i, hi, rfl, hbz⟩ := hrel
                    by_cases hlt2 : i < j
                    · have hlt2' : (i : Int) < (j : Int) := by omega
                      obtain ⟨l, hx⟩ : ∃ l, L[i]? = some l := ⟨L[i]'(by rw [HLN.out]; exact hlt2), List.getElem?_eq_getElem _⟩
                      have hl10 := HALL.out l (List.mem_of_getElem? hx)
                      have eL : L.getD i [] = l := by rw [List.getD_eq_getElem?_getD, hx]; rfl
                      obtain ⟨t, ht⟩ : ∃ t, its[i]? = some t := ⟨its[i]'(by rw [HIV.out]; exact hlt2), List.getElem?_eq_getElem _⟩
                      have hur := (HPV.out.along ht).1
                      have hfd := view_found HN1.out HNM.out HAG.out (HSTATE.out i hlt2)
                      rw [eL] at hfd
                      obtain ⟨pU, cU, eU⟩ := ownsRow_shape hur
                      obtain ⟨nu, hnu⟩ : ∃ nu, (td i).length = nu := ⟨_, rfl⟩
                      have hsi : ((List.range j).map U)[i]? = some (.slice pU nu cU) := by rw [List.getElem?_map, List.getElem?_range hlt2, ← hnu, ← eU]; rfl
                      obtain ⟨gsn, hgsn, qsn⟩ := ptr_at (k := i) HSR.out hsi
                      subst hgsn
                      rw [eU, hnu] at hur
                      obtain ⟨gop, oop, qo, co, heo, q6, hops⟩ := opss_at (p := some ⟨g0, o0, none⟩) (m := j) (cap := cap) HL.out HPV.out.held.below hx
                      obtain ⟨rfl, rfl⟩ : g0 = gop ∧ o0 = oop := by simpa using heo
                      obtain ⟨lo, hlo⟩ : ∃ lo, l.length = lo := ⟨_, rfl⟩
                      rw [hlo] at q6
                      have HFD := Lib.hid hfd; have HUR := Lib.hid hur; have HNU := Lib.hid hnu; have HQS := Lib.hid qsn; have HQ6 := Lib.hid q6; have HOPS := Lib.hid hops; have HLO := Lib.hid hlo; have HL10 := Lib.hid hl10
                      clear hx hl10 eL ht hur hfd eU hnu hsi qsn heo q6 hops hlo
                      go_wp2
                      go_loopw [20, 118] (fun fv qv wy => ∃ q : Nat, q ≤ N ∧ qv = .int .i64 (q : Int) ∧ fv = .bool ((nls.take q).any fun nl => fits (td i) (doOps n l 0 (listFn nl) []).1) ∧ Below wv.heap.size wv wy) (fun _ q _ => N - (intOf q).toNat)
                      case atStart => exact ⟨0, Nat.zero_le _, rfl, rfl, hbz⟩
                      case round =>
                        obtain ⟨q, hq, rfl, rfl, hby⟩ := hrel
                        by_cases hltq : q < N
                        · have hltq' : (q : Int) < (N : Int) := by omega
                          obtain ⟨u, hu⟩ : ∃ u, vs[q]? = some u := ⟨vs[q]'(by rw [HVL.out]; exact hltq), List.getElem?_eq_getElem _⟩
                          obtain ⟨nl, hnl2⟩ : ∃ nl, nls[q]? = some nl := ⟨nls[q]'(by rw [HNL.out]; exact hltq), List.getElem?_eq_getElem _⟩
                          obtain ⟨hlu, -, hru⟩ := HVS.out q u nl hu hnl2
                          obtain ⟨pu, cu, rfl⟩ := ownsRow_shape hru
                          obtain ⟨gs, hgs, q9v⟩ := ptr_at (k := q) HROW.out hu
                          subst hgs
                          have q9 := (hby.cell (World.block_lt_of_cell? _ _ q9v)).trans q9v
                          have q6 := (hby.cell (World.block_lt_of_cell? _ _ HQ6.out)).trans HQ6.out
                          have hdo := do13_ok (W := W) (w := wr) (HOPS.out.2.2 wr [] (by have := HL10.out; omega)) (HPV.out.under hby).held.below (by simp) (now := nl) (by rw [hlu]; exact row_sub hru hby) (by rw [hlu]; exact HN1.out) (by rw [hlu]; have := HN3.out; omega)
                          have hany := any_next (fun nl => fits (td i) (doOps n l 0 (listFn nl) []).1) hnl2
                          have htl10 := doOps_length n l 0 (listFn nl) []
                          rw [hlu, HLO.out] at hdo
                          obtain ⟨tl, htl⟩ : ∃ tl, (doOps n l 0 (listFn nl) []).1 = tl := ⟨_, rfl⟩
                          rw [htl] at hdo hany htl10
                          obtain ⟨a, ha⟩ : ∃ a, tl.length = a := ⟨_, rfl⟩
                          rw [ha] at hdo
                          have HTL := Lib.hid ha
                          have HT10 := Lib.hid (show tl.length ≤ 1000 by have := HL10.out; simp only [List.length_nil] at htl10; omega)
                          have HDO := Lib.hid hdo; have HANY := Lib.hid hany; have HBY := Lib.hid hby
                          obtain ⟨fb2, hfb2⟩ : ∃ fb2, (nls.take q).any (fun nl => fits (td i) (doOps n l 0 (listFn nl) []).1) = fb2 := ⟨_, rfl⟩
                          have HFB := Lib.hid hfb2
                          rw [hfb2]
                          clear hu hnl2 hlu hru q9v hdo hany htl10 htl ha hby hfb2
                          go_wp2_with fail
                          refine HDO.out.mono ?_
                          rintro e w5 ⟨v1, v2, next, rfl, r1, -, -, -, hb5⟩
                          have hb6 := HBY.out.trans (hb5.mono HBY.out.size)
                          obtain ⟨p1, c1, rfl⟩ := ownsRow_shape r1
                          have hca := row_cap r1
                          have HR1 := Lib.hid r1; have HB6 := Lib.hid hb6
                          have qs := (hb6.cell (World.block_lt_of_cell? _ _ HQS.out)).trans HQS.out
                          clear q6 q9 r1 hb5 hb6 HDO
                          cases fb2 with
                          | true =>
                            have HF2 := Lib.hid (show (nls.take (q + 1)).any (fun nl => fits (td i) (doOps n l 0 (listFn nl) []).1) = true by rw [HANY.out, HFB.out]; rfl)
                            clear qs
                            go_wp2_with fail
                            go_quiet (fail)
                            go_wp2
                            go_roundw
                            case rel => exact ⟨q + 1, by omega, by go_num, by rw [HF2.out], below_drewN HB6.out _⟩
                            case measure => simp [intOf]; omega
                          | false =>
                            by_cases hle : nu ≤ a
                            · have hle' : (nu : Int) ≤ (a : Int) := by omega
                              have hlc : nu ≤ c1 := by omega
                              have hlc' : (nu : Int) ≤ (c1 : Int) := by omega
                              have g7 : decide ((nu : Int) ≤ (a : Int)) = true := by simp; omega
                              obtain ⟨bb, hbb⟩ : ∃ bb, decide (tl.take nu = td i) = bb := ⟨_, rfl⟩
                              have hsm := same13b_ok (w := w5.drew) (b1 := wr.heap.size) (b2 := W.heap.size) (v1 := .slice p1 nu c1) (v2 := .slice pU nu cU) (l1 := tl.take nu) (l2 := td i) (by rw [List.length_take, HTL.out, Nat.min_eq_left hle, ← encT_take]; exact row_take HR1.out hle) (by rw [HNU.out]; exact (show w5.ownsRow _ _ _ _ _ _ from row_sub HUR.out HB6.out)) (Nat.le_trans (List.length_take_le _ _) (by have := HT10.out; rw [HTL.out] at this; omega)) (by rw [List.length_take, HTL.out, HNU.out]; omega)
                              rw [hbb] at hsm
                              have HSM := Lib.hid hsm
                              have HF2 := Lib.hid (show (nls.take (q + 1)).any (fun nl => fits (td i) (doOps n l 0 (listFn nl) []).1) = bb by
                                rw [HANY.out, HFB.out, Bool.false_or]
                                unfold fits
                                rw [HNU.out, HTL.out, decide_eq_true hle, Bool.true_and, hbb])
                              clear hsm hbb
                              go_wp2_with fail
                              go_region_held3 (fun wx => wx.cell? ⟨gsn, i, none⟩ = some (.slice pU nu cU))
                                (first | exact qs | exact z5 | go_keep)
                                (first | (go_at_call 15; refine HSM.out.mono ?_; rintro e w6 ⟨rfl, md, rfl⟩; have z5 : (w5.drew.drewN md).cell? ⟨gsn, i, none⟩ = some (.slice pU nu cU) := qs))
                              go_wp2
                              go_roundw
                              case rel => exact ⟨q + 1, by omega, by go_num, by rw [HF2.out], below_drewN HB6.out _⟩
                              case measure => simp [intOf]; omega
                            · have g7 : decide ((nu : Int) ≤ (a : Int)) = false := by simp; omega
                              have hle2 : ¬ (nu : Int) ≤ (a : Int) := by omega
                              have HF2 := Lib.hid (show (nls.take (q + 1)).any (fun nl => fits (td i) (doOps n l 0 (listFn nl) []).1) = false by
                                rw [HANY.out, HFB.out, Bool.false_or]
                                unfold fits
                                rw [HNU.out, HTL.out, decide_eq_false hle, Bool.false_and])
                              go_wp2_with fail
                              go_quiet (fail)
                              go_wp2
                              go_roundw
                              case rel => exact ⟨q + 1, by omega, by go_num, by rw [HF2.out], below_drewN HB6.out _⟩
                              case measure => simp [intOf]; omega
                        · obtain rfl : q = N := by omega
                          have g5 : decide ((q : Int) < (q : Int)) = false := by simp
                          have etk : nls.take q = nls := by rw [← HNL.out, List.take_length]
                          rw [etk, HFD.out]
                          clear etk
                          go_wp2
                          go_roundw
                          case rel => exact ⟨i + 1, by omega, by go_num, hby⟩
                          case measure => simp [intOf]; omega
                    · obtain rfl : i = j := by omega
                      have g4 : decide ((i : Int) < (i : Int)) = false := by simp
                      have HB := Lib.hid (HPV.out.under hbz).held.below
                      have HTB := Lib.hid (HT.out.below HT.out.lt HB.out)
                      clear hbz
                      go_wp2_with (go_at_call 8; refine (alive13_ok _ HTB.out).mono ?_; rintro e w' ⟨rfl, hb⟩; have HBE := Lib.hid (HB.out.trans (hb.mono HB.out.size)); clear hb)
                      go_ret
                      exact ⟨rfl, HBE.out⟩
    · have g300 : decide (300 < (pl : Int)) = true := by simp; omega
      go_wp2_with (go_at_call 8; refine (alive13_ok _ HT.out).mono ?_; rintro e w' ⟨rfl, hb⟩)
      go_ret
      exact ⟨rfl, hb⟩
end Go.Proofs.YtmdganpealbmpaaGreatDoor
