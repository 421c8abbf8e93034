/- RefNothing: the law's walk. -/
import Derived.Test.YthiplbcmafdlbaaGreatDoorDo13
import Derived.Test.YthiplbcmafdlbaaGreatDoorOps13
import Derived.Test.YthiplbcmafdlbaaGreatDoorAloneScene13
import Derived.Test.YthiplbcmafdlbaaGreatDoorBodyN13a
import Derived.Test.YthiplbcmafdlbaaGreatDoorAlive13
namespace Go.Proofs.YthiplbcmafdlbaaGreatDoor
open Go.RowKit Bl Th
set_option maxRecDepth 10000

theorem Held.root {W W' : World} {R : List Nat} {pa pb : Nat} {S : BS} {w : World} (h : Held W' R pa pb S w) (hb : Below W.heap.size W W') (N : List Nat) (hN : ∀ b ∈ N, b < W'.heap.size) : Held W (N ++ R) pa pb S w := by
  obtain ⟨L, h0, h1, h2⟩ := h.lay
  have hz := hb.size
  have hz' := h.below.size
  refine ⟨h.uniq, hb.trans (h.below.mono hz), fun b hb' => ?_, L, h0, h1, fun b hb' => ⟨by have := (h2 b hb').1; omega, fun hm => ?_⟩⟩
  · rcases List.mem_append.1 hb' with q | q
    · have := hN b q; omega
    · exact h.held b q
  · rcases List.mem_append.1 hm with q | q
    · have := hN b q
      have := (h2 b hb').1
      omega
    · exact (h2 b hb').2 q
/-- What both words of some blocks are told. -/
def wordsOf (S : BS) (l : List Nat) : List Nat := l.flatMap fun r => [(opLoad r 0 S).1.word, (opLoad r 1 S).1.word]
theorem wordsOf_length (S : BS) : ∀ l : List Nat, (wordsOf S l).length = 2 * l.length
  | [] => rfl
  | x :: l => by
    have := wordsOf_length S l
    simp only [wordsOf, List.flatMap_cons, List.length_append, List.length_cons, List.length_nil] at this ⊢
    omega
theorem wordsOf_take (S : BS) {l : List Nat} {k r : Nat} (h : l[k]? = some r) : encT (wordsOf S (l.take (k + 1))) = encT (wordsOf S (l.take k)) ++ [.int .u64 ((opLoad r 0 S).1.word : Int), .int .u64 ((opLoad r 1 S).1.word : Int)] := by
  rw [List.take_add_one, h]
  simp [wordsOf, encT]
theorem opLoad_same (r : Nat) (i : Int) (S : BS) : (opLoad r i S).2 = S := by
  unfold opLoad
  split <;> rfl
/-- What holds at each round of the law's two loops over words. -/
def WordsJ (W : World) (R : List Nat) (pa pb : Nat) (S : BS) (refs : List Nat) (m : Nat) (w0 : World) (v i : Value) (wr : World) : Prop :=
  ∃ k : Nat, k ≤ m ∧ i = .int .i64 (k : Int) ∧ wr.ownsRow w0.heap.size 24 1 v (2 * k) (encT (wordsOf S (refs.take k))) ∧ Held W (v.ownBlock.toList ++ R) pa pb S wr ∧ HeldBy R w0 wr
theorem words_next {W : World} {R : List Nat} {pa pb : Nat} {S : BS} {w0 w w1 w2 w3 : World} {v v2 : Value} {cs : List Value} {n m : Nat} {xs ys : List Value} (hR : ∀ b ∈ R, b < w0.heap.size) (h0 : HeldBy R w0 w) (ho : w.ownsRow w0.heap.size 24 1 v n xs) (hh : Held W (v.ownBlock.toList ++ R) pa pb S w1) (k1 : HeldBy (v.ownBlock.toList ++ R) w w1)
    (e : w2 = w1.alloc (.cells cs.toArray 24)) (hg : w2.grownBy w3 v.ownBlock) (ho3 : w3.ownsRow w0.heap.size 24 1 v2 m ys) (hW : W.heap.size ≤ w0.heap.size) (hs : v2.ownBlock = v.ownBlock ∨ v2.ownBlock = some w2.heap.size) : Held W (v2.ownBlock.toList ++ R) pa pb S w3 ∧ HeldBy R w0 w3 := by
  subst e
  have hz0 := h0.1
  have hz1 := k1.1
  have hWW := hh.below.size
  have k : Kept (fun b => b ∈ v.ownBlock.toList) w1 w3 := by
    have := (Kept.refl (fun b => some b = v.ownBlock) w1).alloc (.cells cs.toArray 24) |>.trans (Kept.of_grown hg)
    exact this.mono fun b _ e => by rw [← e]; simp
  have hd : ∀ b ∈ v.ownBlock.toList, b ∉ R := fun b hb hm => by
    have := (ho.lt b (by simpa using hb)).1
    have := hR b hm
    omega
  refine ⟨hh.step (k.mono fun b _ e => List.mem_append_left _ e) ?_ ?_, ?_⟩
  · refine hh.below.trans (k.below hWW fun b hb e => ?_)
    have h1 := (ho.lt b (by simpa using e)).1
    omega
  · intro b hb
    rcases List.mem_append.1 hb with q | q
    · have hb3 := (ho3.lt b (by simpa using q)).2
      refine ⟨?_, hb3⟩
      rcases hs with e | e
      · exact .inl (List.mem_append_left _ (by rw [← e]; exact q))
      · rw [e] at q
        simp only [Option.toList_some, List.mem_singleton, World.size_alloc] at q
        exact .inr (by omega)
    · exact ⟨.inl (List.mem_append_right _ q), Nat.lt_of_lt_of_le (hh.held b (List.mem_append_right _ q)) k.size⟩
  · refine (h0.trans (k1.less fun b hb => List.mem_append_right _ hb)).trans ⟨k.size, fun b hb => k.block b (hh.held b (List.mem_append_right _ hb)) fun hm => hd b hm hb⟩

theorem sameReads_nil (w : World) : Calls Tryz.prog 20 #[.slice none 0 0, .slice none 0 0] w fun e w' => e = .returned (.bool true) ∧ w = w' := by
  go_enter Tryz.func20, Tryz.ntmps20
  go_wp2
  go_loopw [5] (fun i wr => i = .int .i64 0 ∧ wr = w) (fun _ _ => 0)
  case atStart => exact ⟨rfl, rfl⟩
  case round =>
    obtain ⟨rfl, rfl⟩ := hrel
    go_wp2
    go_ret
    exact ⟨rfl, rfl⟩
/-- 1, 2 or 3. -/
theorem three (a : Int) : ∃ n : Nat, 1 ≤ n ∧ n ≤ 3 ∧ IntKind.i64.wrap (a.tmod 3 + 3) = a.tmod 3 + 3 ∧ IntKind.i64.wrap (1 + (a.tmod 3 + 3).tmod 3) = (n : Int) := by
  have g1 : -(3 : Int) < a.tmod 3 := Int.lt_tmod_of_pos a (by omega)
  have g2 : a.tmod 3 < 3 := Int.tmod_lt_of_pos a (by omega)
  have g3 : 0 ≤ (a.tmod 3 + 3).tmod 3 := Int.tmod_nonneg _ (by omega)
  have g4 : (a.tmod 3 + 3).tmod 3 < 3 := Int.tmod_lt_of_pos _ (by omega)
  refine ⟨(1 + (a.tmod 3 + 3).tmod 3).toNat, by omega, by omega, IntWalk.i64_in _ (by omega), ?_⟩
  rw [IntWalk.i64_in _ (by omega)]
  omega

set_option maxHeartbeats 4000000 in
theorem refNothing_ok (v : Value) (a1 : Int) (l : List Op13) (W : World) (hT : Handle W) (hl : OpsAt W v l) :
    Calls Tryz.prog 3 #[v, .int .i64 a1] W fun e w' => e = .returned (.bool true) ∧ Below W.heap.size W w' := by
  obtain ⟨⟨lp, lcap, rfl⟩, hlm, hops⟩ := hl
  obtain ⟨n, hn1, hn3, e1, e2⟩ := three a1
  obtain ⟨len, hlen⟩ : ∃ len, l.length = len := ⟨_, rfl⟩
  have HLEN := Lib.hid hlen
  rw [hlen] at hlm ⊢
  obtain ⟨i0, hi0, hz0, hz1, hz2⟩ := info_parts u64info
  have HOPS := Lib.hid hops; have HT := Lib.hid hT
  have HN1 := Lib.hid hn1; have HN3 := Lib.hid hn3
  have BA := ((Below.refl W.heap.size W).alloc (Nat.le_refl _) (.cells #[.slice lp len lcap] 22)).alloc (by simp) (.cells #[.int .i64 (n : Int)] 3)
  have CL := (Cells.new W [.slice lp len lcap] 22).alloc (.cells #[.int .i64 (n : Int)] 3)
  have CN := Cells.new (W.alloc (.cells #[.slice lp len lcap] 22)) [.int .i64 (n : Int)] 3
  rw [World.size_alloc] at CN
  obtain ⟨wA, hwA⟩ : ∃ wA, (W.alloc (.cells #[.slice lp len lcap] 22)).alloc (.cells #[.int .i64 (n : Int)] 3) = wA := ⟨_, rfl⟩
  rw [hwA] at BA CL CN
  have HA := Lib.hid hwA
  have hzA : wA.heap.size = W.heap.size + 2 := by rw [← hwA]; simp
  have HBA := Lib.hid BA; have HCL := Lib.hid CL; have HCN := Lib.hid CN
  have HZA := Lib.hid hzA
  have HTA := Lib.hid (hT.below hT.lt BA)
  clear hops hT hlen BA CL CN hwA hzA
  go_enter Tryz.func3, Tryz.ntmps3
  go_wp2_with fail
  rw [HA.out]
  refine (scene_ok HTA.out HN1.out (Nat.le_trans HN3.out (by omega)) wA rfl).mono ?_
  rintro e w1 ⟨pa, pb, g, rfl, hh, hc, hgw⟩
  have hz1 := hh.below.size
  have HB1 := Lib.hid hh.below
  have HH1 := Lib.hid (hh.root HBA.out [W.heap.size, W.heap.size + 1] (by have := HZA.out; intro b hb; simp at hb; omega))
  have B2 := ((Below.refl w1.heap.size w1).alloc (Nat.le_refl _) (.cells #[.int .u64 1] 24)).alloc (by simp) (.cells #[.slice (some ⟨g, 0, none⟩) n n] 25)
  have CC := (Cells.new w1 [.int .u64 1] 24).alloc (.cells #[.slice (some ⟨g, 0, none⟩) n n] 25)
  have CS' := Cells.new (w1.alloc (.cells #[.int .u64 1] 24)) [.slice (some ⟨g, 0, none⟩) n n] 25
  rw [World.size_alloc] at CS'
  obtain ⟨w2, hw2⟩ : ∃ w2, (w1.alloc (.cells #[.int .u64 1] 24)).alloc (.cells #[.slice (some ⟨g, 0, none⟩) n n] 25) = w2 := ⟨_, rfl⟩
  rw [hw2] at B2 CC CS'
  have hz2' : w2.heap.size = w1.heap.size + 2 := by rw [← hw2]; simp
  have hbA : HeldBy [W.heap.size, W.heap.size + 1] wA w2 := (HeldBy.of_below HB1.out (by have := HZA.out; intro b hb; simp at hb; omega)).trans (HeldBy.of_below B2 (by have := HZA.out; intro b hb; simp at hb; omega))
  have CL2 := HCL.out.heldBy hbA (by simp)
  have CN2 := HCN.out.heldBy hbA (by simp)
  have CG2 := hc.heldBy (R := [g]) (HeldBy.of_below B2 (by simpa using hc.lt)) (by simp)
  have HB2 := Lib.hid (show Below W.heap.size W w2 from (HBA.out.trans (HB1.out.mono HBA.out.size)).trans (B2.mono (Nat.le_trans HBA.out.size hz1)))
  have HH2 := Lib.hid (show Held W [w1.heap.size, w1.heap.size + 1, W.heap.size, W.heap.size + 1, g] pa pb (sceneS n) w2 from HH1.out.came B2 [w1.heap.size, w1.heap.size + 1] (by intro b hb; simp at hb ⊢; omega))
  have HND := Lib.hid (show W.heap.size + 2 ≤ w1.heap.size ∧ g < w1.heap.size ∧ W.heap.size + 2 ≤ g from ⟨by rw [← HZA.out]; exact hz1, hc.lt, by rw [← HZA.out]; exact hgw⟩)
  have q39 := CL2.cell 0
  have q48 := CC.cell 0
  have q50 := CS'.cell 0
  simp only [List.getElem?_cons_zero] at q39 q48 q50
  have HCL2 := Lib.hid CL2; have HCN2 := Lib.hid CN2; have HCG2 := Lib.hid CG2; have HCC2 := Lib.hid CC; have HCS2 := Lib.hid CS'; have HZ2 := Lib.hid hz2'
  have HT2 := Lib.hid (HT.out.below HT.out.lt HB2.out)
  clear hh hc hgw hz1 HB1 HH1 B2 CC CS' hbA CL2 CN2 CG2 hz2' HA HBA HCL HCN HZA HTA
  by_cases h10 : 10 < len
  · have g10 : (10 : Int) < (len : Int) := by omega
    go_wp2_with (go_at_call 6; refine (alive13_ok _ HT2.out).mono ?_; rintro e w' ⟨rfl, hb⟩)
    go_ret
    exact ⟨rfl, HB2.out.trans (hb.mono HB2.out.size)⟩
  · have g10 : decide ((10 : Int) < (len : Int)) = false := by simp; omega
    have HFEW := Lib.hid (show len ≤ 10 by omega)
    have HCS := Lib.hid (show (sceneCells n).length = n by simp [sceneCells])
    have HSC := Lib.hid (scene_sc HN1.out HN3.out)
    have HCELL := Lib.hid (scene_cell HN1.out HN3.out)
    have HCLT := Lib.hid (show ∀ x ∈ sceneCells n, x < 1000 by
      intro x hx
      obtain ⟨i, hi, rfl⟩ := List.mem_map.1 hx
      have := List.mem_range.1 hi
      have := HN3.out
      omega)
    obtain ⟨S, hS⟩ : ∃ S, sceneS n = S := ⟨_, rfl⟩
    obtain ⟨cs, hcs⟩ : ∃ cs, sceneCells n = cs := ⟨_, rfl⟩
    rw [hS] at HH2 HSC
    rw [hcs] at HCG2 HCS HCELL HCLT
    have HOW := Lib.hid (show (w2.alloc (.cells #[.int .u64 1] 24)).ownsRow w2.heap.size 24 1 (.slice (some ⟨w2.heap.size, 0, none⟩) 1 1) 1 [.int .u64 1] from World.ownsRow_lit w2 #[.int .u64 1] 1 (Nat.le_refl _) (by unfold maxLen; omega) rfl)
    have HNEWS := Lib.hid (show ∀ j u, (encT cs)[j]? = some u → (w2.alloc (.cells #[.int .u64 1] 24)).cell? ((⟨g, 0, none⟩ : Addr).add j) = some u by
      intro j u hj
      rw [show (⟨g, 0, none⟩ : Addr).add j = ⟨g, j, none⟩ by unfold Addr.add; split <;> simp_all, (HCG2.out.alloc _).cell j]
      exact hj)
    have HEL := Lib.hid (show (encT cs).length = n * 1 by simp [encT, HCS.out])
    have HONE := Lib.hid (show ∀ u ∈ encT cs, u.oneCell' = true by
      intro u hu
      obtain ⟨x, _, rfl⟩ := List.mem_map.1 hu
      rfl)
    have HB3 := Lib.hid ((Below.refl w2.heap.size w2).alloc (Nat.le_refl _) (.cells #[.int .u64 1] 24))
    have q50' := (HCS2.out.alloc (.cells #[.int .u64 1] 24)).cell 0
    simp only [List.getElem?_cons_zero] at q50'
    obtain ⟨m, hm⟩ : ∃ m, 1 + n = m := ⟨_, rfl⟩
    have HMN := Lib.hid hm
    clear hS hcs h10 hm
    go_wp2_with (first
      | (at_builtin; refine wpList_append_own _ rfl _ _ 25 rfl w2.heap.size 24 i0 (.int .u64 0) 1 8 Tryz.underlying25 hi0 hz0 hz1 hz2 rfl (by omega) (.slice (some ⟨w2.heap.size, 0, none⟩) 1 1) 1 [.int .u64 1] rfl HOW.out ⟨g, 0, none⟩ n n (encT cs) rfl HEL.out HNEWS.out HONE.out (by have := HN3.out; unfold maxLen; omega) (by have := HN3.out; omega) (by simp) ?_; intro nv w0 hown3 hgrow3 hnil3; have hB3 := HB3.out.grown hgrow3 (by simp) (by intro b hb; simp [Value.ownBlock] at hb; omega); rw [HMN.out] at hown3; obtain ⟨p3, cap3, hv3⟩ := ownsRow_shape hown3; subst hv3)
      | go_in)
    have HN3B := Lib.hid hB3
    obtain ⟨wb, hwb⟩ : ∃ wb, w2 = wb := ⟨_, rfl⟩
    rw [hwb] at hown3
    have hm4 : m ≤ 4 := by have := HN3.out; have := HMN.out; omega
    obtain ⟨gr, rfl⟩ : ∃ gr, p3 = some ⟨gr, 0, none⟩ := by
      rcases hown3.2 with ⟨-, q⟩ | ⟨g', c', cur', hv', -, -⟩
      · have := HN1.out; have := HMN.out; omega
      · simp only [Value.slice.injEq] at hv'
        exact ⟨g', hv'.1⟩
    have hgr := hown3.lt gr rfl
    have HROW := Lib.hid (show w0.ownsRow wb.heap.size 24 1 (.slice (some ⟨gr, 0, none⟩) m cap3) m (encT (1 :: cs)) by simpa [encT] using hown3)
    have HM := Lib.hid (show (1 :: cs).length = m by rw [List.length_cons, HCS.out]; have := HMN.out; omega)
    have HRS := Lib.hid (show ∀ r ∈ 1 :: cs, r < 18446744073709551616 by
      intro r hr
      rcases List.mem_cons.1 hr with rfl | q
      · omega
      · have := HCLT.out r q; omega)
    rw [← hwb] at hgr
    have HH0 := Lib.hid (show Held W ([gr] ++ [w1.heap.size, w1.heap.size + 1, W.heap.size, W.heap.size + 1, g]) pa pb S w0 from HH2.out.came hB3 [gr] (by simpa using hgr))
    have HNG := Lib.hid hgr.1
    obtain ⟨R, hR⟩ : ∃ R, [gr] ++ [w1.heap.size, w1.heap.size + 1, W.heap.size, W.heap.size + 1, g] = R := ⟨_, rfl⟩
    rw [hR] at HH0
    have HRM := Lib.hid (show ∀ b ∈ [w1.heap.size, w1.heap.size + 1, W.heap.size, W.heap.size + 1, g], b ∈ R from fun b hb => by rw [← hR]; exact List.mem_append_right _ hb)
    have HRM2 := Lib.hid (show ∀ b ∈ R, b < w0.heap.size from HH0.out.held)
    have HGRM := Lib.hid (show gr ∈ R by rw [← hR]; simp)
    have HRW := Lib.hid (show ∀ wr, HeldBy R w0 wr → ∀ (k r : Nat), (1 :: cs)[k]? = some r → wr.cell? ⟨gr, k, none⟩ = some (.int .u64 (r : Int)) from fun wr hq k r hr => by
      have h := ownsRow_heldBy HROW.out hq (fun b hb => by simp only [Value.ownBlock, Option.some.injEq] at hb; subst hb; exact HGRM.out)
      obtain ⟨g', hg', hc'⟩ := row_at h hr
      obtain rfl : gr = g' := by simpa using hg'
      exact hc')
    obtain ⟨refs, hrefs⟩ : ∃ refs, 1 :: cs = refs := ⟨_, rfl⟩
    rw [hrefs] at HM HRS HRW
    have HREFS := Lib.hid hrefs
    clear hrefs hown3 HROW
    have HRL := Lib.hid HH0.out.held
    have HW0 := Lib.hid (show W.heap.size ≤ w0.heap.size from Nat.le_trans HB2.out.size hB3.size)
    clear hwb hR hgr hB3 q48 q50 q50' HB3 HNEWS HOW hnil3 hgrow3 hw2 q39 hn1 hn3
    go_wp2
    go_loopw [8, 53] (WordsJ W R pa pb S refs m w0) (fun _ i _ => m - (intOf i).toNat)
    case atStart => exact ⟨0, Nat.zero_le _, rfl, World.ownsRow_nil _ _ _ _, HH0.out, HeldBy.refl _ _⟩
    case round =>
      obtain ⟨k, hk, rfl, ho, hh, hq⟩ := hrel
      obtain ⟨p, cap, rfl⟩ := ownsRow_shape ho
      by_cases hlt : k < m
      · have hlt' : (k : Int) < (m : Int) := by omega
        obtain ⟨r, hr⟩ : ∃ r, refs[k]? = some r := ⟨_, List.getElem?_eq_getElem (by rw [HM.out]; exact hlt)⟩
        have q51 := HRW.out wr hq k r hr
        have hrl := HRS.out r (List.mem_of_getElem? hr)
        have HL0 := Lib.hid (held_load hh hrl 0)
        have HO := Lib.hid ho; have HQ := Lib.hid hq; have HRE := Lib.hid (wordsOf_take S hr); have HRLT := Lib.hid hrl
        obtain ⟨x, hx⟩ : ∃ x, (opLoad r 0 S).1.word = x := ⟨_, rfl⟩
        obtain ⟨y, hy⟩ : ∃ y, (opLoad r 1 S).1.word = y := ⟨_, rfl⟩
        rw [hx] at HL0 HRE
        rw [hy] at HRE
        have HY := Lib.hid hy
        clear ho hh hq hr hrl hx hy
        go_wp2_with fail
        refine HL0.out.mono ?_
        rintro e w4 ⟨v4, rfl, E4, -, -, hh4, hk4⟩
        rw [opLoad_same] at hh4
        have hh4' := hh4.less (R' := (Value.slice p (2 * k) cap).ownBlock.toList ++ R) (fun b hb => List.mem_append_right _ hb)
        have hl1 := held_load hh4' HRLT.out 1
        rw [HY.out] at hl1
        have HL1 := Lib.hid hl1
        have HK4 := Lib.hid hk4
        clear HL0 hh4 hh4' hl1 hk4 q51
        go_wp2_with fail
        refine HL1.out.mono ?_
        rintro e w5 ⟨v5, rfl, E5, -, -, hh5, hk5⟩
        rw [opLoad_same] at hh5
        have HH5 := Lib.hid (hh5.less (R' := (Value.slice p (2 * k) cap).ownBlock.toList ++ R) (fun b hb => List.mem_append_right _ hb))
        have HK5 := Lib.hid (HK4.out.trans hk5)
        have HO5 := Lib.hid (ownsRow_heldBy HO.out HK5.out (fun b hb => by simp [hb]))
        have HS5 := Lib.hid (show w0.heap.size ≤ (w5.alloc (.cells #[.int .u64 (x : Int), .int .u64 (y : Int)] 24)).heap.size by have := HQ.out.1; have := HK5.out.1; simp; omega)
        obtain ⟨xs, hxs⟩ : ∃ xs, encT (wordsOf S (refs.take k)) = xs := ⟨_, rfl⟩
        rw [hxs] at HO HO5 HRE
        have HM4 := Lib.hid hm4
        clear HL1 hh5 hk5 hxs
        go_wp2_with (first
          | (at_builtin; refine wpList_append_own_at _ rfl _ _ 25 rfl w0.heap.size 24 i0 (.int .u64 0) 1 8 Tryz.underlying25 hi0 hz0 hz1 hz2 rfl (by omega) (.slice p (2 * k) cap) (2 * k) xs rfl (HO5.out.alloc _) ⟨w5.heap.size, 0, none⟩ 2 2 [.int .u64 (x : Int), .int .u64 (y : Int)] rfl rfl (cells_news w5 [.int .u64 (x : Int), .int .u64 (y : Int)] _) (by intro u hu; simp at hu; rcases hu with rfl | rfl <;> rfl) (by have := HM4.out; unfold maxLen; omega) (by have := HM4.out; omega) HS5.out ?_; intro v2 w6 hown6 hgrow6 hnil6 hat6; have HN := Lib.hid (words_next HRL.out HQ.out HO.out HH5.out HK5.out rfl hgrow6 hown6 HW0.out hat6); have HO6 := Lib.hid hown6; clear hown6 hgrow6 hnil6 hat6)
          | go_in)
        go_roundw
        case rel => exact ⟨k + 1, by omega, by go_num, by rw [HRE.out]; exact HO6.out, HN.out.1, HN.out.2⟩
        case measure => simp [intOf]; omega
      · have hkm : k = m := by omega
        subst hkm
        have g3 : decide ((k : Int) < (k : Int)) = false := by simp
        have htk : refs.take k = refs := by rw [← HM.out]; exact List.take_length
        rw [htk] at ho
        have HO := Lib.hid ho; have HQ := Lib.hid hq
        have B5 := ((Below.refl wr.heap.size wr).alloc (Nat.le_refl _) (.cells #[.slice none 0 0] 33)).alloc (by simp) (.cells #[.slice none 0 0] 34)
        have CR := (Cells.new wr [.slice none 0 0] 33).alloc (.cells #[.slice none 0 0] 34)
        have CW := Cells.new (wr.alloc (.cells #[.slice none 0 0] 33)) [.slice none 0 0] 34
        rw [World.size_alloc] at CW
        obtain ⟨w5, hw5⟩ : ∃ w5, (wr.alloc (.cells #[.slice none 0 0] 33)).alloc (.cells #[.slice none 0 0] 34) = w5 := ⟨_, rfl⟩
        rw [hw5] at B5 CR CW

        have hWr := hh.below.size
        have hz5 : w5.heap.size = wr.heap.size + 2 := by rw [← hw5]; simp
        have HH5 := Lib.hid (hh.came B5 [wr.heap.size, wr.heap.size + 1] (by intro b hb; simp at hb; omega))
        have HAUX := Lib.hid (show (nothAux W wr.heap.size (wr.heap.size + 1)).at' Sets.empty [wr.heap.size, wr.heap.size + 1] w5 from ⟨rfl, by omega, by omega, by omega, ⟨none, 0, CR⟩, none, 0, CW⟩)
        have HN5 := Lib.hid (tnew_new HH5.out (nothAux W wr.heap.size (wr.heap.size + 1)) Sets.empty HAUX.out (by intro b hb; exact List.mem_append_left _ hb) 9 #[.pointer (some ⟨w1.heap.size, 0, none⟩), .pointer (some ⟨W.heap.size, 0, none⟩), .pointer (some ⟨w1.heap.size + 1, 0, none⟩), .pointer (some ⟨W.heap.size + 1, 0, none⟩), .pointer (some ⟨wr.heap.size, 0, none⟩), .pointer (some ⟨wr.heap.size + 1, 0, none⟩)])
        have HB5 := Lib.hid B5
        have HOW5 := Lib.hid (show ∀ b, (Value.slice p (2 * k) cap).ownBlock = some b → w0.heap.size ≤ b ∧ b < wr.heap.size from ho.lt)
        clear ho hq hh htk B5 CR CW hWr hz5
        go_wp2_with fail
        refine HN5.out.mono ?_
        rintro e w6 ⟨pt, rfl, ht, hh6, hb6, hpt⟩
        obtain ⟨bR, hbR⟩ : ∃ bR, wr.heap.size = bR := ⟨_, rfl⟩
        rw [hbR] at ht hh6 HH5 ⊢
        have HBR := Lib.hid hbR
        have hk06 : HeldBy R w0 w6 := (HQ.out.trans (HeldBy.of_below HB5.out (fun b hb => by have := HRM2.out b hb; have := HQ.out.1; omega))).trans (HeldBy.of_below hb6 (fun b hb => HH5.out.held b (by simp [hb])))
        have hk26 : HeldBy [w1.heap.size, w1.heap.size + 1, W.heap.size, W.heap.size + 1, g] w2 w6 := (HeldBy.of_below HN3B.out HH2.out.held).trans (hk06.less HRM.out)
        have HP6 := Lib.hid (show SharedN W w1.heap.size W.heap.size (w1.heap.size + 1) (W.heap.size + 1) g (.slice lp l.length lcap) [] l 1 cs w6 from
          ⟨HCC2.out.heldBy hk26 (by simp), by rw [HLEN.out]; exact HCL2.out.heldBy hk26 (by simp), by rw [HCS.out]; exact HCS2.out.heldBy hk26 (by simp), by rw [HCS.out]; exact HCN2.out.heldBy hk26 (by simp), HCG2.out.heldBy hk26 (by simp), HOPS.out _ _ (by rw [HLEN.out]; have := HFEW.out; omega)⟩)
        obtain ⟨ss, hgo, hsr, hsw⟩ := noth_goes (own := 1) HN1.out HCELL.out HSC.out (fun _ _ => Nat.zero_le _) (by omega) (l := l) (by rw [HLEN.out]; exact HFEW.out)
        obtain ⟨s', L, nn, erun⟩ := goes_run hgo (by omega) 200 (by omega) (by omega) Sets.empty
        have erun' : Th.run (treeBody fun _ => nothT l 1 cs 1) 200 ((Th.start Sets.empty).err, Th.start Sets.empty, S) = (0, ⟨L, 0, nn, true, 0, ss⟩, S) := erun
        have hrun := trun_ok (R := (Value.slice p (2 * k) cap).ownBlock.toList ++ R) (S := S) (noth_body (pa := pa) (Qo := []) (g := g) (lp := lp) (lcap := lcap) (l := l) (clock := 1) (cells := cs) HT.out (by rw [HCS.out]; exact HN1.out) (by rw [HCS.out]; have := HN3.out; omega) (by omega) (fun x hx => by have := HCLT.out x hx; omega)) ht hh6 (by
          intro b hb hm
          have hz6 := HB5.out.size
          rcases List.mem_append.1 hm with q | q
          · have := (HOW5.out b (by simpa using q)).2
            simp only [List.mem_cons, List.not_mem_nil, or_false] at hb
            rcases hb with q | q | q <;> omega
          · have := HRM2.out b q
            have := HQ.out.1
            simp only [List.mem_cons, List.not_mem_nil, or_false] at hb
            rcases hb with q | q | q <;> omega) (by
          intro b hb
          refine List.mem_append_right _ (HRM.out b ?_)
          simp [shN] at hb ⊢
          rcases hb with q | q | q | q | q <;> simp [q]) HP6.out 200 (by show 0 + 200 ≤ 3000000000; omega)
        rw [erun'] at hrun
        have HRUN := Lib.hid hrun
        obtain ⟨sr, hsr'⟩ : ∃ sr, ss.reads.length = sr := ⟨_, rfl⟩
        obtain ⟨sw, hsw'⟩ : ∃ sw, ss.writes.length = sw := ⟨_, rfl⟩
        have HSRW := Lib.hid (show sr ≤ n ∧ sw ≤ n from ⟨by rw [← hsr']; exact hsr, by rw [← hsw']; exact hsw⟩)
        have HSR := Lib.hid hsr'; have HSW := Lib.hid hsw'
        have HK26 := Lib.hid hk26; have HK06 := Lib.hid hk06
        have HK56 := Lib.hid (HeldBy.of_below (R := (Value.slice p (2 * k) cap).ownBlock.toList ++ R) hb6 (fun b hb => HH5.out.held b (List.mem_append_right _ hb)))
        clear ht hh6 hb6 hpt hbR hk06 hk26 hgo hsr hsw erun erun' hrun hsr' hsw' HN5 HAUX
        go_wp2_with fail
        refine HRUN.out.mono ?_
        rintro e w7 ⟨v, E, B', rfl, he, ht7, hh7, hk7, -, -⟩
        simp only at he ht7 hh7
        obtain ⟨rfl, rfl⟩ := he.isNil rfl
        have HD := Lib.hid (tdone_ok ht7)
        obtain ⟨lv, ev, E2, Q2, rfl, hl⟩ := ht7
        obtain ⟨rfl, -, -, -, ⟨pR, cR, aR⟩, pW, cW, aW⟩ := hl.aux
        have hk27 := HK26.out.trans (hk7.less (fun b hb => List.mem_append_right _ (HRM.out b hb)))
        have q91 := (HCC2.out.heldBy hk27 (by simp)).cell 0
        have q93 := (HCS2.out.heldBy hk27 (by simp)).cell 0
        have CS7 := HCS2.out.heldBy hk27 (by simp)
        have CG7 := HCG2.out.heldBy hk27 (by simp)
        simp only [List.getElem?_cons_zero] at q91 q93
        have hk67 := hk7
        have hz7 := hk7.1
        have ho7 := ownsRow_heldBy HO.out ((HeldBy.of_below (R := (Value.slice p (2 * k) cap).ownBlock.toList) HB5.out (fun b hb => (HOW5.out b (by simpa using hb)).2)).trans ((HK56.out.less fun b hb => by simp [hb]).trans (hk7.less fun b hb => List.mem_append_left _ hb))) (fun b hb => by simpa using hb)
        obtain ⟨R1, hR1⟩ : ∃ R1, [bR, bR + 1] ++ ((Value.slice p (2 * k) cap).ownBlock.toList ++ [w1.heap.size, w1.heap.size + 1, W.heap.size, W.heap.size + 1, g]) = R1 := ⟨_, rfl⟩
        have HH7 := Lib.hid (show Held W R1 pa pb S w7 from hh7.less (fun b hb => by
          rw [← hR1] at hb
          rcases List.mem_append.1 hb with q | q
          · exact List.mem_append_left _ (by simp only [List.mem_cons, List.mem_append, List.not_mem_nil, or_false] at q ⊢; rcases q with q | q <;> simp [q])
          · rcases List.mem_append.1 q with q | q
            · exact List.mem_append_right _ (List.mem_append_left _ q)
            · exact List.mem_append_right _ (List.mem_append_right _ (HRM.out b q))))
        have HR1 := Lib.hid hR1
        have HO7 := Lib.hid ho7
        have HAR := Lib.hid aR; have HAW := Lib.hid aW
        have HCN7 := Lib.hid (HCN2.out.heldBy hk27 (by simp))
        have HW7 := Lib.hid (show Below W.heap.size W w7 from hh7.below)
        have HOW := Lib.hid (show (w7.alloc (.cells #[.int .u64 1] 24)).ownsRow w7.heap.size 24 1 (.slice (some ⟨w7.heap.size, 0, none⟩) 1 1) 1 [.int .u64 1] from World.ownsRow_lit w7 #[.int .u64 1] 1 (Nat.le_refl _) (by unfold maxLen; omega) rfl)
        have HNEWS := Lib.hid (show ∀ j u, (encT cs)[j]? = some u → (w7.alloc (.cells #[.int .u64 1] 24)).cell? ((⟨g, 0, none⟩ : Addr).add j) = some u by
          intro j u hj
          rw [show (⟨g, 0, none⟩ : Addr).add j = ⟨g, j, none⟩ by unfold Addr.add; split <;> simp_all, (CG7.alloc _).cell j]
          exact hj)
        have HB3 := Lib.hid ((Below.refl w7.heap.size w7).alloc (Nat.le_refl _) (.cells #[.int .u64 1] 24))
        have q93' := (CS7.alloc (.cells #[.int .u64 1] 24)).cell 0
        simp only [List.getElem?_cons_zero] at q93'
        rw [HSR.out] at HAR
        rw [HSW.out] at HAW
        clear he hl hh7 hk7 hk27 aR aW CS7 CG7 hR1 ho7 hk67 hz7 HRUN HK26 HK06 HP6 HH0 HRW HRS HM HRL HW0 HRM HRM2 HGRM HNG HN3B HO HQ HOW5 HB5 HH5 HSR HSW HK56 q93
        go_wp2_with (first
          | (go_at_call 16; refine (no_nil _).mono ?_; rintro e w' ⟨rfl, rfl⟩)
          | (go_at_call 18; refine HD.out.mono ?_; rintro e w' ⟨rfl, rfl⟩)
          | (at_builtin; refine wpList_append_own _ rfl _ _ 25 rfl w7.heap.size 24 i0 (.int .u64 0) 1 8 Tryz.underlying25 hi0 hz0 hz1 hz2 rfl (by omega) (.slice (some ⟨w7.heap.size, 0, none⟩) 1 1) 1 [.int .u64 1] rfl HOW.out ⟨g, 0, none⟩ n n (encT cs) rfl HEL.out HNEWS.out HONE.out (by have := HN3.out; unfold maxLen; omega) (by have := HN3.out; omega) (by simp) ?_; intro nv w0 hown3 hgrow3 hnil3; have hB3 := HB3.out.grown hgrow3 (by simp) (by intro b hb; simp [Value.ownBlock] at hb; omega); rw [HMN.out] at hown3; obtain ⟨p3, cap3, hv3⟩ := ownsRow_shape hown3; subst hv3)
          | go_in)
        have HK70 := Lib.hid (HeldBy.of_below hB3 HH7.out.held)
        obtain ⟨wv, hwv⟩ : ∃ wv, Value.slice p (2 * k) cap = wv := ⟨_, rfl⟩
        obtain ⟨m, rfl⟩ : ∃ m, m = k := ⟨_, rfl⟩
        obtain ⟨wb, hwb⟩ : ∃ wb, w7 = wb := ⟨_, rfl⟩
        have HWV := Lib.hid (show ∀ b ∈ wv.ownBlock.toList, b ∈ R1 from fun b hb => by rw [← HR1.out]; exact List.mem_append_right _ (List.mem_append_left _ (by rw [hwv]; exact hb)))
        have HRM1 := Lib.hid (show ∀ b ∈ [bR, bR + 1, W.heap.size + 1], b ∈ R1 from fun b hb => by
          rw [← HR1.out]
          simp only [List.mem_cons, List.mem_append, List.not_mem_nil, or_false] at hb ⊢
          rcases hb with q | q | q <;> simp [q])
        rw [hwv] at HO7 ⊢
        rw [← HREFS.out] at HO7
        clear HREFS
        rw [hwb] at hown3
        have hm4 : m ≤ 4 := by have := HN3.out; have := HMN.out; omega
        obtain ⟨gr, rfl⟩ : ∃ gr, p3 = some ⟨gr, 0, none⟩ := by
          rcases hown3.2 with ⟨-, q⟩ | ⟨g', c', cur', hv', -, -⟩
          · have := HN1.out; have := HMN.out; omega
          · simp only [Value.slice.injEq] at hv'
            exact ⟨g', hv'.1⟩
        have hgr := hown3.lt gr rfl
        have HROW := Lib.hid (show w0.ownsRow wb.heap.size 24 1 (.slice (some ⟨gr, 0, none⟩) m cap3) m (encT (1 :: cs)) by simpa [encT] using hown3)
        have HM := Lib.hid (show (1 :: cs).length = m by rw [List.length_cons, HCS.out]; have := HMN.out; omega)
        have HRS := Lib.hid (show ∀ r ∈ 1 :: cs, r < 18446744073709551616 by
          intro r hr
          rcases List.mem_cons.1 hr with rfl | q
          · omega
          · have := HCLT.out r q; omega)
        rw [← hwb] at hgr
        have HH0 := Lib.hid (show Held W ([gr] ++ R1) pa pb S w0 from HH7.out.came hB3 [gr] (by simpa using hgr))
        obtain ⟨R, hR⟩ : ∃ R, [gr] ++ R1 = R := ⟨_, rfl⟩
        rw [hR] at HH0
        have HRM := Lib.hid (show ∀ b ∈ R1, b ∈ R from fun b hb => by rw [← hR]; exact List.mem_append_right _ hb)
        have HGRM := Lib.hid (show gr ∈ R by rw [← hR]; simp)
        have HRW := Lib.hid (show ∀ wr, HeldBy R w0 wr → ∀ (k r : Nat), (1 :: cs)[k]? = some r → wr.cell? ⟨gr, k, none⟩ = some (.int .u64 (r : Int)) from fun wr hq k r hr => by
          have h := ownsRow_heldBy HROW.out hq (fun b hb => by simp only [Value.ownBlock, Option.some.injEq] at hb; subst hb; exact HGRM.out)
          obtain ⟨g', hg', hc'⟩ := row_at h hr
          obtain rfl : gr = g' := by simpa using hg'
          exact hc')
        obtain ⟨refs, hrefs⟩ : ∃ refs, 1 :: cs = refs := ⟨_, rfl⟩
        rw [hrefs] at HM HRS HRW
        have HREFS := Lib.hid hrefs
        clear hrefs hown3 HROW
        rw [HREFS.out] at HO7
        have HRL := Lib.hid HH0.out.held
        have HW0 := Lib.hid (show W.heap.size ≤ w0.heap.size from HH0.out.below.size)
        clear hwb hR hgr hB3 q91 q93' HB3 HNEWS HOW hnil3 hgrow3 hwv HD HR1 HH7
        go_wp2
        go_loopw [18, 96] (WordsJ W R pa pb S refs m w0) (fun _ i _ => m - (intOf i).toNat)
        case atStart => exact ⟨0, Nat.zero_le _, rfl, World.ownsRow_nil _ _ _ _, HH0.out, HeldBy.refl _ _⟩
        case round =>
          obtain ⟨k, hk, rfl, ho, hh, hq⟩ := hrel
          obtain ⟨p, cap, rfl⟩ := ownsRow_shape ho
          by_cases hlt : k < m
          · have hlt' : (k : Int) < (m : Int) := by omega
            obtain ⟨r, hr⟩ : ∃ r, refs[k]? = some r := ⟨_, List.getElem?_eq_getElem (by rw [HM.out]; exact hlt)⟩
            have q51 := HRW.out wr hq k r hr
            have hrl := HRS.out r (List.mem_of_getElem? hr)
            have HL0 := Lib.hid (held_load hh hrl 0)
            have HO := Lib.hid ho; have HQ := Lib.hid hq; have HRE := Lib.hid (wordsOf_take S hr); have HRLT := Lib.hid hrl
            obtain ⟨x, hx⟩ : ∃ x, (opLoad r 0 S).1.word = x := ⟨_, rfl⟩
            obtain ⟨y, hy⟩ : ∃ y, (opLoad r 1 S).1.word = y := ⟨_, rfl⟩
            rw [hx] at HL0 HRE
            rw [hy] at HRE
            have HY := Lib.hid hy
            clear ho hh hq hr hrl hx hy
            go_wp2_with fail
            refine HL0.out.mono ?_
            rintro e w4 ⟨v4, rfl, E4, -, -, hh4, hk4⟩
            rw [opLoad_same] at hh4
            have hh4' := hh4.less (R' := (Value.slice p (2 * k) cap).ownBlock.toList ++ R) (fun b hb => List.mem_append_right _ hb)
            have hl1 := held_load hh4' HRLT.out 1
            rw [HY.out] at hl1
            have HL1 := Lib.hid hl1
            have HK4 := Lib.hid hk4
            clear HL0 hh4 hh4' hl1 hk4 q51
            go_wp2_with fail
            refine HL1.out.mono ?_
            rintro e w5 ⟨v5, rfl, E5, -, -, hh5, hk5⟩
            rw [opLoad_same] at hh5
            have HH5 := Lib.hid (hh5.less (R' := (Value.slice p (2 * k) cap).ownBlock.toList ++ R) (fun b hb => List.mem_append_right _ hb))
            have HK5 := Lib.hid (HK4.out.trans hk5)
            have HO5 := Lib.hid (ownsRow_heldBy HO.out HK5.out (fun b hb => by simp [hb]))
            have HS5 := Lib.hid (show w0.heap.size ≤ (w5.alloc (.cells #[.int .u64 (x : Int), .int .u64 (y : Int)] 24)).heap.size by have := HQ.out.1; have := HK5.out.1; simp; omega)
            obtain ⟨xs, hxs⟩ : ∃ xs, encT (wordsOf S (refs.take k)) = xs := ⟨_, rfl⟩
            rw [hxs] at HO HO5 HRE
            have HM4 := Lib.hid hm4
            clear HL1 hh5 hk5 hxs
            go_wp2_with (first
              | (at_builtin; refine wpList_append_own_at _ rfl _ _ 25 rfl w0.heap.size 24 i0 (.int .u64 0) 1 8 Tryz.underlying25 hi0 hz0 hz1 hz2 rfl (by omega) (.slice p (2 * k) cap) (2 * k) xs rfl (HO5.out.alloc _) ⟨w5.heap.size, 0, none⟩ 2 2 [.int .u64 (x : Int), .int .u64 (y : Int)] rfl rfl (cells_news w5 [.int .u64 (x : Int), .int .u64 (y : Int)] _) (by intro u hu; simp at hu; rcases hu with rfl | rfl <;> rfl) (by have := HM4.out; unfold maxLen; omega) (by have := HM4.out; omega) HS5.out ?_; intro v2 w6 hown6 hgrow6 hnil6 hat6; have HN := Lib.hid (words_next HRL.out HQ.out HO.out HH5.out HK5.out rfl hgrow6 hown6 HW0.out hat6); have HO6 := Lib.hid hown6; clear hown6 hgrow6 hnil6 hat6)
              | go_in)
            go_roundw
            case rel => exact ⟨k + 1, by omega, by go_num, by rw [HRE.out]; exact HO6.out, HN.out.1, HN.out.2⟩
            case measure => simp [intOf]; omega
          · have hkm : k = m := by omega
            subst hkm
            have g3 : decide ((k : Int) < (k : Int)) = false := by simp
            have htk : refs.take k = refs := by rw [← HM.out]; exact List.take_length
            rw [htk] at ho
            have hk7r := HK70.out.trans (hq.less HRM.out)
            have hwl : (wordsOf S refs).length = 2 * k := by rw [wordsOf_length, HM.out]
            have HSAME := Lib.hid (same13_ok (l := wordsOf S refs) (by rw [hwl]; exact ownsRow_heldBy HO7.out hk7r (fun b hb => HWV.out b (by simpa using hb))) (by rw [hwl]; exact ho) (by rw [hwl]; omega))
            have HKEEP := Lib.hid (show ∀ w9, Below wr.heap.size wr w9 → w9.cell? ⟨bR, 0, none⟩ = some (.slice pR sr cR) ∧ w9.cell? ⟨bR + 1, 0, none⟩ = some (.slice pW sw cW) ∧ w9.cell? ⟨W.heap.size + 1, 0, none⟩ = some (.int .i64 (n : Int)) from fun w9 hb => by
              have h9 := hk7r.trans (HeldBy.of_below (R := R1) hb (fun b hb' => hh.held b (List.mem_append_right _ (HRM.out b hb'))))
              exact ⟨(HAR.out.heldBy h9 (HRM1.out _ (by simp))).cell 0, (HAW.out.heldBy h9 (HRM1.out _ (by simp))).cell 0, (HCN7.out.heldBy h9 (HRM1.out _ (by simp))).cell 0⟩)
            have HBW := Lib.hid hh.below
            have HTW := Lib.hid (show ∀ w9, Below wr.heap.size wr w9 → Handle w9 from fun w9 hb => HT.out.below HT.out.lt (hh.below.trans (hb.mono hh.below.size)))
            have gr1 : (sr : Int) ≤ (n : Int) := by have := HSRW.out.1; omega
            have gr2 : (sw : Int) ≤ (n : Int) := by have := HSRW.out.2; omega
            clear ho hq hh htk hk7r hwl
            go_wp2_with (first
              | (go_at_call 19; refine HSAME.out.mono ?_; rintro e w9 ⟨rfl, hb9⟩; have HB9 := Lib.hid hb9; obtain ⟨k1, k2, k3⟩ := HKEEP.out w9 hb9; clear hb9)
              | (go_at_call 20; refine (sameReads_nil _).mono ?_; rintro e w' ⟨rfl, rfl⟩)
              | (go_at_call 6; refine (alive13_ok _ (HTW.out _ HB9.out)).mono ?_; rintro e w10 ⟨rfl, hb10⟩))
            go_ret
            exact ⟨rfl, (HBW.out.trans (HB9.out.mono HBW.out.size)).trans (hb10.mono (HBW.out.trans (HB9.out.mono HBW.out.size)).size)⟩
end Go.Proofs.YthiplbcmafdlbaaGreatDoor
