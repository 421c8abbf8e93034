/- TqAlive: TqScene, TqAlive. -/
import Derived.Test.YtkpdacfiglpgeaaGreatDoorTqNew
import Derived.Test.YtkpdacfiglpgeaaGreatDoorTqRun
import Derived.BigQuiet
import Derived.Deep.QuietTactic

/- Layer 29's laws: the scene. -/
namespace Go.Proofs.YtkpdacfiglpgeaaGreatDoor
open Go.RowKit Bl Th
set_option maxRecDepth 10000

theorem Held.root {W W' : World} {R : List Nat} {pa pb : Nat} {S : BS} {w : World} (h : Held W' R pa pb S w) (hb : Below W.heap.size W W') (N : List Nat) (hN : ∀ b ∈ N, b < W'.heap.size) : Held W (N ++ R) pa pb S w := by
  obtain ⟨L, h0, h1, h2⟩ := h.lay
  have hz := hb.size
  have hz' := h.below.size
  refine ⟨h.uniq, hb.trans (h.below.mono hz), fun b hb' => ?_, L, h0, h1, fun b hb' => ⟨by have := (h2 b hb').1; omega, fun hm => ?_⟩⟩
  · rcases List.mem_append.1 hb' with q | q
    · have := hN b q; omega
    · exact h.held b q
  · rcases List.mem_append.1 hm with q | q
    · have := hN b q
      have := (h2 b hb').1
      omega
    · exact (h2 b hb').2 q
/-- What the scene's body keeps: the variables. -/
def scAux (W : World) (bk bn bm br n m : Nat) : Aux (Nat × Ring × Ring) where
  at' s Q w := ∃ l0 l1, Q = bk :: bn :: bm :: br :: (l0.ownBlock.toList ++ l1.ownBlock.toList) ∧ (bk ≠ bn ∧ bk ≠ bm ∧ bk ≠ br ∧ br ≠ bn ∧ br ≠ bm) ∧ (bk ∉ l0.ownBlock.toList ++ l1.ownBlock.toList) ∧ (br ∉ l0.ownBlock.toList ++ l1.ownBlock.toList) ∧ (W.heap.size ≤ bk ∧ W.heap.size ≤ br) ∧ Cells w bk [.int .u64 (s.1 : Int)] 25 ∧ Cells w bn [.int .i64 (n : Int)] 3 ∧ Cells w bm [.int .i64 (m : Int)] 3 ∧ Cells w br [.int .u64 (s.2.1.ins : Int), .int .u64 (s.2.1.outs : Int), l0, .int .u64 (s.2.2.ins : Int), .int .u64 (s.2.2.outs : Int), l1] 29 ∧ w.ownsRow W.heap.size 25 1 l0 s.2.1.places.length (encU s.2.1.places) ∧ w.ownsRow W.heap.size 25 1 l1 s.2.2.places.length (encU s.2.2.places)
  loc := by
    rintro s Q w w' ⟨l0, l1, rfl, h1, h2, h3, h4, h5, h6, h7, h8, h9, h10⟩ k
    exact ⟨l0, l1, rfl, h1, h2, h3, h4, h5.heldBy k (by simp), h6.heldBy k (by simp), h7.heldBy k (by simp), h8.heldBy k (by simp), ownsRow_heldBy h9 k (fun b hb => by simp [hb]), ownsRow_heldBy h10 k (fun b hb => by simp [hb])⟩
theorem ef_sceneQ (args : Array Value) (w : World) : (callFunc 32 args).run Tryz.prog w = .ok (.enter 32 args) w := enters_of Tryz.func32 (by kernel_rfl) rfl args w
def sceneFQ (n m : Nat) (s : Nat × Ring × Ring) (c : CS) : Nat × CS × (Nat × Ring × Ring) := treeBody (fun _ => sceneQ n m) s 0 c
theorem six6 {w : World} {b : Nat} {t : TypeId} {a0 a1 a2 a3 a4 a5 : Value} (h : Cells w b [a0, a1, a2, a3, a4, a5] t) : (w.cell? ⟨b, 0, none⟩ = some a0 ∧ w.cell? ⟨b, 1, none⟩ = some a1 ∧ w.cell? ⟨b, 2, none⟩ = some a2 ∧ w.cell? ⟨b, 3, none⟩ = some a3 ∧ w.cell? ⟨b, 4, none⟩ = some a4 ∧ w.cell? ⟨b, 5, none⟩ = some a5) ∧ w.frozen? ⟨b, 0, none⟩ = false ∧ w.frozen? ⟨b, 1, none⟩ = false ∧ w.frozen? ⟨b, 2, none⟩ = false ∧ w.frozen? ⟨b, 3, none⟩ = false ∧ w.frozen? ⟨b, 4, none⟩ = false ∧ w.frozen? ⟨b, 5, none⟩ = false := ⟨⟨h.cell 0, h.cell 1, h.cell 2, h.cell 3, h.cell 4, h.cell 5⟩, h.free 0, h.free 1, h.free 2, h.free 3, h.free 4, h.free 5⟩
theorem mem_swap (X U : List Nat) (bk bn bm br b : Nat) : b ∈ bk :: (bn :: bm :: br :: U ++ X) ↔ b ∈ X ++ bk :: bn :: bm :: br :: U := by
  simp only [List.mem_cons, List.mem_append, List.cons_append]
  constructor
  · rintro (q | q | q | q | q | q) <;> simp [q]
  · rintro (q | q | q | q | q | q) <;> simp [q]
/-- Six stores into one block. -/
def set6 (w : World) (b : Nat) (a0 a1 a2 a3 a4 a5 : Value) : World := (((((w.setCell ⟨b, 0, none⟩ a0).setCell ⟨b, 1, none⟩ a1).setCell ⟨b, 2, none⟩ a2).setCell ⟨b, 3, none⟩ a3).setCell ⟨b, 4, none⟩ a4).setCell ⟨b, 5, none⟩ a5
theorem set6_kept (w : World) (b : Nat) (a0 a1 a2 a3 a4 a5 : Value) : Kept (fun i => i = b) w (set6 w b a0 a1 a2 a3 a4 a5) :=
  (((((((Kept.refl (fun i => i = b) w).setCell (p := ⟨b, 0, none⟩) (fun _ => rfl) _).setCell (p := ⟨b, 1, none⟩) (fun _ => rfl) _).setCell (p := ⟨b, 2, none⟩) (fun _ => rfl) _).setCell (p := ⟨b, 3, none⟩) (fun _ => rfl) _).setCell (p := ⟨b, 4, none⟩) (fun _ => rfl) _).setCell (p := ⟨b, 5, none⟩) (fun _ => rfl) _)
theorem set6_cells {w : World} {b : Nat} {t : TypeId} {c0 c1 c2 c3 c4 c5 : Value} (h : Cells w b [c0, c1, c2, c3, c4, c5] t) (a0 a1 a2 a3 a4 a5 : Value) : Cells (set6 w b a0 a1 a2 a3 a4 a5) b [a0, a1, a2, a3, a4, a5] t := (((((h.set 0 a0).set 1 a1).set 2 a2).set 3 a3).set 4 a4).set 5 a5
set_option maxHeartbeats 8000000 in
theorem sceneQ1_ok {W : World} (hg : Handle W) {pa pb bk bn bm br n m : Nat} (hn : 1 ≤ n ∧ n ≤ 40) (hm : 1 ≤ m ∧ m ≤ 40) : DoOk W pa pb 32 #[.pointer (some ⟨bk, 0, none⟩), .pointer (some ⟨bn, 0, none⟩), .pointer (some ⟨bm, 0, none⟩), .pointer (some ⟨br, 0, none⟩)] (scAux W bk bn bm br n m) (sceneFQ n m) where
  enters := ef_sceneQ
  does s X Q wr pc c ha hc hx := by
    obtain ⟨l0, l1, rfl, dn, dk, dr, dW, a1, a2, a3, a4, a5, a6⟩ := ha
    obtain ⟨T, hT⟩ : ∃ T, bn :: bm :: br :: (l0.ownBlock.toList ++ l1.ownBlock.toList) ++ X = T := ⟨_, rfl⟩
    have HG := Lib.hid hg; have HXQ := Lib.hid hx; have HC := Lib.hid hc; have HTT := Lib.hid hT
    have HNK := Lib.hid (newClock_ok hc hg)
    have D := Lib.hid (show (bk ≠ bn ∧ bk ≠ bm ∧ bk ≠ br ∧ br ≠ bn ∧ br ≠ bm) ∧ (bk ∉ l0.ownBlock.toList ++ l1.ownBlock.toList) ∧ (br ∉ l0.ownBlock.toList ++ l1.ownBlock.toList) ∧ (W.heap.size ≤ bk ∧ W.heap.size ≤ br) from ⟨dn, dk, dr, dW⟩)
    have A1 := Lib.hid a1; have A2 := Lib.hid a2; have A3 := Lib.hid a3; have A4 := Lib.hid a4; have A5 := Lib.hid a5; have A6 := Lib.hid a6
    have HLO := Lib.hid hc.heldR
    have HN := Lib.hid hn; have HM := Lib.hid hm
    have HKT := Lib.hid (show bk ∉ T from fun hm' => by
      rw [← hT] at hm'
      simp only [List.mem_append, List.mem_cons] at hm'
      rcases hm' with (q | q | q | q) | q
      · exact dn.1 q
      · exact dn.2.1 q
      · exact dn.2.2.1 q
      · exact dk (by simpa using q)
      · exact hx bk q (by simp))
    have HTM := Lib.hid (show ∀ b, b ∈ bk :: T ↔ b ∈ X ++ bk :: bn :: bm :: br :: (l0.ownBlock.toList ++ l1.ownBlock.toList) from fun b => by
      rw [← hT]
      exact mem_swap X _ bk bn bm br b)
    clear hg hc hx dn dk dr dW a1 a2 a3 a4 a5 a6 hT hn hm
    show Calls Tryz.prog 32 #[.pointer (some ⟨pc, 0, none⟩), .pointer (some ⟨bk, 0, none⟩), .pointer (some ⟨bn, 0, none⟩), .pointer (some ⟨bm, 0, none⟩), .pointer (some ⟨br, 0, none⟩)] wr (BodyPost W pa pb pc (scAux W bk bn bm br n m) X (bk :: bn :: bm :: br :: (l0.ownBlock.toList ++ l1.ownBlock.toList)) wr (sceneFQ n m s c))
    go_enter Tryz.func32, Tryz.ntmps32
    go_wp2_with fail
    refine HNK.out.mono ?_
    rintro e w1 ⟨n1, x, c1, v1, E1, hx1, hx0, rfl, he1, hc1, hh1, hE1⟩
    have b1 := A1.out.heldBy hh1 (by simp)
    have q0 := b1.cell 0
    have f0 := b1.free 0
    simp only [List.getElem?_cons_zero] at q0
    obtain ⟨s1, s2⟩ := ctx_set (rb := bk) (i := 0) (Z := E1 ++ T) (hc1.less fun b hb => by
      rcases List.mem_cons.1 hb with q | q
      · exact List.mem_append_right _ ((HTM.out b).1 (by simp [q]))
      · rcases List.mem_append.1 q with q | q
        · exact List.mem_append_left _ q
        · exact List.mem_append_right _ ((HTM.out b).1 (List.mem_cons_of_mem _ q))) D.out.2.2.2.1 (fun hm => by
      rcases List.mem_append.1 hm with q | q
      · have := hE1 _ q
        have := HLO.out bk (by simp)
        omega
      · exact HKT.out q) (.int .u64 (x : Int))
    have c1' := b1.set 0 (.int .u64 (x : Int))
    obtain ⟨w2, hw2⟩ : ∃ w2, w1.setCell ⟨bk, 0, none⟩ (.int .u64 (x : Int)) = w2 := ⟨_, rfl⟩
    rw [hw2] at s1 s2 c1'
    have hh2 : HeldBy T wr w2 := (hh1.less fun b hb => (HTM.out b).1 (List.mem_cons_of_mem _ hb)).trans (s2.less fun b hb => List.mem_append_right _ hb)
    have he2 := he1.heldBy s2 (fun b hb => by simp [hb])
    have HW2 := Lib.hid hw2
    have hmemT : ∀ b, b ∈ bn :: bm :: br :: (l0.ownBlock.toList ++ l1.ownBlock.toList) ++ X → b ∈ T := fun b hb => by rw [← HTT.out]; exact hb
    have HMT := Lib.hid hmemT
    have HAT := Lib.hid (fun (w' : World) (hk : HeldBy (bk :: T) w2 w') => (show (scAux W bk bn bm br n m).at' (x, s.2) (bk :: bn :: bm :: br :: (l0.ownBlock.toList ++ l1.ownBlock.toList)) w' from
      (scAux W bk bn bm br n m).loc (x, s.2) _ w2 w' ⟨l0, l1, rfl, D.out.1, D.out.2.1, D.out.2.2.1, D.out.2.2.2, c1', A2.out.heldBy hh2 (hmemT _ (by simp)), A3.out.heldBy hh2 (hmemT _ (by simp)), A4.out.heldBy hh2 (hmemT _ (by simp)), ownsRow_heldBy A5.out hh2 (fun b hb => hmemT _ (by simp [hb])), ownsRow_heldBy A6.out hh2 (fun b hb => hmemT _ (by simp [hb]))⟩ (hk.less fun b hb => by
        rcases List.mem_cons.1 hb with q | q
        · simp [q]
        · exact List.mem_cons_of_mem _ (hmemT b (List.mem_append_left _ q)))))
    have HFE := Lib.hid (fun (w' : World) (n' : Nat) (c' : CS) (v : Value) (E : List Nat) (he : Err w' v n' E) (hk : HeldBy (bk :: T) w2 w') (hc' : Ctx W (E ++ (bk :: T)) pa pb pc c' w') (hE : ∀ b ∈ E, wr.heap.size ≤ b) => (show BodyPost W pa pb pc (scAux W bk bn bm br n m) X (bk :: bn :: bm :: br :: (l0.ownBlock.toList ++ l1.ownBlock.toList)) wr (n', c', (x, s.2)) (.returned v) w' from
      ⟨v, E, _, rfl, he, HAT.out w' hk, hc'.less (fun b hb => by
        rcases List.mem_append.1 hb with q | q
        · exact List.mem_append_right _ ((HTM.out b).2 (List.mem_append_left _ q))
        · rcases List.mem_append.1 q with q | q
          · exact List.mem_append_left _ q
          · exact List.mem_append_right _ ((HTM.out b).2 (List.mem_append_right _ q))), (hh2.less fun b hb => hmemT b (List.mem_append_right _ hb)).trans (hk.less fun b hb => List.mem_cons_of_mem _ (hmemT b (List.mem_append_right _ hb))), fun b hb => by
        rcases List.mem_append.1 hb with q | q
        · exact .inr (hE b q)
        · exact .inl q⟩))
    have HTR := Lib.hid (fun (w' : World) (n' : Nat) (f : Nat × Ring × Ring → Nat × Ring × Ring) (c' : CS) (v : Value) (hr : exec (sceneQ n m) c = ((n', f), c')) (hb : BodyPost W pa pb pc (scAux W bk bn bm br n m) X (bk :: bn :: bm :: br :: (l0.ownBlock.toList ++ l1.ownBlock.toList)) wr (n', c', f s) (.returned v) w') => (show BodyPost W pa pb pc (scAux W bk bn bm br n m) X (bk :: bn :: bm :: br :: (l0.ownBlock.toList ++ l1.ownBlock.toList)) wr (sceneFQ n m s c) (.returned v) w' from by unfold sceneFQ treeBody; rw [hr]; exact hb))
    go_upto_region 2 with (fail)
    try rw [HW2.out]
    by_cases h0 : n1 = 0
    · subst h0
      obtain ⟨rfl, rfl⟩ := he1.isNil rfl
      have hcz : Ctx W (bk :: T) pa pb pc c1 w2 := s1.less fun b hb => by simpa using hb
      have HN1 := Lib.hid (qnew_ok hcz HG.out HN.out.1 HN.out.2)
      have hWz := hcz.below.size
      have an := (A2.out.heldBy hh2 (HMT.out bn (by simp))).cell 0
      simp only [List.getElem?_cons_zero] at an
      have HX1 := Lib.hid hx1; have HH2 := Lib.hid hh2; have HC1 := Lib.hid c1'; have HCZ := Lib.hid hcz; have HWZ := Lib.hid hWz
      clear hx1 hx0 he1 hc1 hh1 hE1 b1 q0 f0 s1 s2 c1' hh2 he2 hw2 hcz hWz hmemT HNK
      go_wp2_with fail
      refine HN1.out.mono ?_
      rintro e w3 ⟨n2, r0, c2, k0, v2, E2, hx2, rfl, he2, hr2, hc2, hh3, hE2, hEk2⟩
      obtain ⟨p0, cp0, rfl⟩ := ownsRow_shape hr2
      obtain ⟨len0, hlen0⟩ : ∃ len0, r0.places.length = len0 := ⟨_, rfl⟩
      rw [hlen0] at hr2 hc2 hEk2 ⊢
      have B4 := (Below.refl w3.heap.size w3).alloc (Nat.le_refl _) (.cells #[.int .u64 (r0.ins : Int), .int .u64 (r0.outs : Int), .slice p0 len0 cp0] 28)
      have C7 := Cells.new w3 [.int .u64 (r0.ins : Int), .int .u64 (r0.outs : Int), .slice p0 len0 cp0] 28
      obtain ⟨b7, hb7⟩ : ∃ b7, w3.heap.size = b7 := ⟨_, rfl⟩
      obtain ⟨w4, hw4⟩ : ∃ w4, w3.alloc (.cells #[.int .u64 (r0.ins : Int), .int .u64 (r0.outs : Int), .slice p0 len0 cp0] 28) = w4 := ⟨_, rfl⟩
      have hz4 : w4.heap.size = b7 + 1 := by rw [← hw4, ← hb7]; simp
      rw [hw4] at B4 C7
      rw [hb7] at C7
      have hkk := HeldBy.of_below B4 hc2.heldR
      have hT4 : HeldBy (bk :: T) w2 w4 := hh3.trans (hkk.less fun b hb => by simp only [List.mem_append]; exact .inr (.inr hb))
      have HW4 := Lib.hid hw4; have HB7 := Lib.hid hb7
      by_cases h2 : n2 = 0
      · subst h2
        obtain ⟨rfl, rfl⟩ := he2.isNil rfl
        obtain ⟨o0, ho0⟩ : ∃ o0, (Value.slice p0 len0 cp0).ownBlock.toList = o0 := ⟨_, rfl⟩
        rw [ho0] at hc2 hkk
        have hr4 := ownsRow_heldBy hr2 hkk (fun b hb => by
          have : b ∈ o0 := by rw [← ho0]; simpa using hb
          simp [this])
        have hlo0 : ∀ b ∈ o0, w2.heap.size ≤ b := fun b hb => by
          rw [← ho0] at hb
          exact (hr2.lt b (by simpa using hb)).1
        have hc4 : Ctx W (b7 :: (o0 ++ (bk :: T))) pa pb pc c2 w4 := (hc2.came B4 [b7] (by simp; omega)).less fun b hb => by simpa using hb
        have HN2 := Lib.hid (qnew_ok hc4 HG.out HM.out.1 HM.out.2)
        have am := (A3.out.heldBy (HH2.out.trans (hT4.less fun b hb => List.mem_cons_of_mem _ hb)) (HMT.out bm (by simp))).cell 0
        simp only [List.getElem?_cons_zero] at am
        have HX2 := Lib.hid hx2; have HR4 := Lib.hid hr4; have HC7 := Lib.hid C7; have HT4 := Lib.hid hT4; have HLO0 := Lib.hid hlo0; have HO0 := Lib.hid ho0; have HL0 := Lib.hid hlen0; have HZ4 := Lib.hid hz4
        have HL7 := Lib.hid (show w2.heap.size ≤ b7 by rw [← hb7]; exact hh3.1)
        have HC4 := Lib.hid hc4
        clear hx2 he2 hr2 hc2 hh3 hE2 hEk2 B4 C7 hkk hT4 hw4 hb7 hr4 hlo0 hc4 ho0 hlen0 hz4 an HN1
        go_upto_region 5 with (fail)
        rw [HW4.out, HB7.out]
        go_wp2_with fail
        refine HN2.out.mono ?_
        rintro e w5 ⟨n3, r1, c3, k1, v3, E3, hx3, rfl, he3, hr3, hc3, hh5, hE3, hEk3⟩
        obtain ⟨p1, cp1, rfl⟩ := ownsRow_shape hr3
        obtain ⟨len1, hlen1⟩ : ∃ len1, r1.places.length = len1 := ⟨_, rfl⟩
        rw [hlen1] at hr3 hc3 hEk3 ⊢
        obtain ⟨o1, ho1⟩ : ∃ o1, (Value.slice p1 len1 cp1).ownBlock.toList = o1 := ⟨_, rfl⟩
        have B6 := (Below.refl w5.heap.size w5).alloc (Nat.le_refl _) (.cells #[.int .u64 (r1.ins : Int), .int .u64 (r1.outs : Int), .slice p1 len1 cp1] 28)
        have C8 := Cells.new w5 [.int .u64 (r1.ins : Int), .int .u64 (r1.outs : Int), .slice p1 len1 cp1] 28
        obtain ⟨b8, hb8⟩ : ∃ b8, w5.heap.size = b8 := ⟨_, rfl⟩
        obtain ⟨w6, hw6⟩ : ∃ w6, w5.alloc (.cells #[.int .u64 (r1.ins : Int), .int .u64 (r1.outs : Int), .slice p1 len1 cp1] 28) = w6 := ⟨_, rfl⟩
        rw [hw6] at B6 C8
        rw [hb8] at C8
        rw [ho1] at hc3 hEk3
        have hk56 := HeldBy.of_below B6 hc3.heldR
        have hk46 : HeldBy (b7 :: (o0 ++ (bk :: T))) w4 w6 := hh5.trans (hk56.less fun b hb => by simp only [List.mem_append]; exact .inr (.inr hb))
        have hk26 : HeldBy (bk :: T) w2 w6 := HT4.out.trans (hk46.less fun b hb => by simp only [List.mem_cons, List.mem_append] at hb ⊢; exact .inr (.inr hb))
        have C76 := HC7.out.heldBy hk46 (by simp)
        have C46 := A4.out.heldBy (HH2.out.trans (hk26.less fun b hb => List.mem_cons_of_mem _ hb)) (HMT.out br (by simp))
        obtain ⟨y0, y1, y2, -⟩ := three C76
        obtain ⟨u0, u1, u2, -⟩ := three C8
        obtain ⟨⟨d0, d1, d2, d3, d4, d5⟩, e0, e1, e2, e3, e4, e5⟩ := six6 C46
        have hlo1 : ∀ b ∈ o1, w4.heap.size ≤ b := fun b hb => by
          rw [← ho1] at hb
          exact (hr3.lt b (by simpa using hb)).1
        have hr36 := ownsRow_heldBy hr3 hk56 (fun b hb => by
          have : b ∈ o1 := by rw [← ho1]; simpa using hb
          simp [this])
        have hr06 := ownsRow_heldBy HR4.out hk46 (fun b hb => by
          have : b ∈ o0 := by rw [← HO0.out]; simpa using hb
          simp [this])
        have HW6 := Lib.hid hw6; have HB8 := Lib.hid hb8
        have hTlo : ∀ b ∈ bk :: T, b < w2.heap.size := HCZ.out.heldR
        have hbrT : br ∈ T := HMT.out br (by simp)
        have h46 := HT4.out.1
        have HF := Lib.hid (HTR.out (set6 w6 br (.int .u64 (r0.ins : Int)) (.int .u64 (r0.outs : Int)) (.slice p0 len0 cp0) (.int .u64 (r1.ins : Int)) (.int .u64 (r1.outs : Int)) (.slice p1 len1 cp1)) n3 (fun _ => (x, r0, r1)) c3 v3 (by simp only [sceneQ, exec_bind, HX1.out, HX2.out, if_true, hx3, exec]) (by
          have k := set6_kept w6 br (.int .u64 (r0.ins : Int)) (.int .u64 (r0.outs : Int)) (.slice p0 len0 cp0) (.int .u64 (r1.ins : Int)) (.int .u64 (r1.outs : Int)) (.slice p1 len1 cp1)
          have hS := set6_cells C46 (.int .u64 (r0.ins : Int)) (.int .u64 (r0.outs : Int)) (.slice p0 len0 cp0) (.int .u64 (r1.ins : Int)) (.int .u64 (r1.outs : Int)) (.slice p1 len1 cp1)
          have hbr := hTlo br (List.mem_cons_of_mem _ hbrT)
          have hbk := hTlo bk (by simp)
          obtain ⟨q1, q2⟩ := Ctx.objs (B := [br]) (B' := [br]) (R := E3 ++ (o1 ++ (o0 ++ (bk :: bn :: bm :: X)))) ((hc3.under B6).less fun b hb => by
            have hm := HMT.out b
            simp only [List.mem_append, List.mem_cons, List.not_mem_nil, or_false] at hb hm ⊢
            rcases hb with z | z | z | z | z | z | z | z
            · exact .inr (.inr (.inr (.inr (.inr (by rw [z]; exact hbrT)))))
            · exact .inl z
            · exact .inr (.inl z)
            · exact .inr (.inr (.inr (.inl z)))
            · exact .inr (.inr (.inr (.inr (.inl z))))
            · exact .inr (.inr (.inr (.inr (.inr (hm (.inl (.inl z)))))))
            · exact .inr (.inr (.inr (.inr (.inr (hm (.inl (.inr (.inl z))))))))
            · exact .inr (.inr (.inr (.inr (.inr (hm (.inr z))))))) (k.mono fun b _ e => by simp [e]) (by simpa using D.out.2.2.2.2) (by
            intro b hb hm
            simp only [List.mem_singleton] at hb
            subst hb
            simp only [List.mem_append, List.mem_cons] at hm
            rcases hm with z | z | z | z | z | z | z
            · have := hE3 b z; omega
            · have := hlo1 b z; omega
            · have := HLO0.out b z; omega
            · exact D.out.1.2.2.1 z.symm
            · exact D.out.1.2.2.2.1 z
            · exact D.out.1.2.2.2.2 z
            · exact HXQ.out b z (by simp)) (by
            intro b hb
            simp only [List.mem_singleton] at hb
            subst hb
            exact ⟨.inl (by simp), Nat.lt_of_lt_of_le C46.lt k.size⟩)
          have hwz : W.heap.size ≤ w2.heap.size := HWZ.out
          have hwr : wr.heap.size ≤ w2.heap.size := HH2.out.1
          refine ⟨v3, E3, bk :: bn :: bm :: br :: ((Value.slice p0 len0 cp0).ownBlock.toList ++ (Value.slice p1 len1 cp1).ownBlock.toList), rfl, (he3.heldBy hk56 (fun b hb => by simp [hb])).heldBy q2 (fun b hb => by simp [hb]), ⟨.slice p0 len0 cp0, .slice p1 len1 cp1, rfl, D.out.1, ?_, ?_, D.out.2.2.2, ((HC1.out.heldBy hk26 (by simp)).heldBy q2 (by simp)), ((A2.out.heldBy (HH2.out.trans (hk26.less fun b hb => List.mem_cons_of_mem _ hb)) (HMT.out bn (by simp))).heldBy q2 (by simp)), ((A3.out.heldBy (HH2.out.trans (hk26.less fun b hb => List.mem_cons_of_mem _ hb)) (HMT.out bm (by simp))).heldBy q2 (by simp)), hS, row_mono (by rw [HL0.out]; exact ownsRow_heldBy hr06 q2 (fun b hb => by
              have : b ∈ o0 := by rw [← HO0.out]; simpa using hb
              simp [this])) hwz, row_mono (by rw [hlen1]; exact ownsRow_heldBy hr36 q2 (fun b hb => by
              have : b ∈ o1 := by rw [← ho1]; simpa using hb
              simp [this])) (by omega)⟩, q1.less (fun b hb => ?_), ((HH2.out.less fun b hb => HMT.out b (List.mem_append_right _ hb)).trans (hk26.less fun b hb => List.mem_cons_of_mem _ (HMT.out b (List.mem_append_right _ hb)))).trans (q2.less fun b hb => by simp [hb]), fun b hb => ?_⟩
          · rw [HO0.out, ho1]
            intro hm
            rcases List.mem_append.1 hm with z | z
            · have := HLO0.out bk z; omega
            · have := hlo1 bk z; omega
          · rw [HO0.out, ho1]
            intro hm
            rcases List.mem_append.1 hm with z | z
            · have := HLO0.out br z; omega
            · have := hlo1 br z; omega
          · rw [HO0.out, ho1] at hb
            simp only [List.mem_append, List.mem_cons, List.not_mem_nil, or_false] at hb ⊢
            rcases hb with z | z | z | z | z | z | z | z
            · simp [z]
            · simp [z]
            · simp [z]
            · simp [z]
            · simp [z]
            · simp [z]
            · simp [z]
            · simp [z]
          · rw [HO0.out, ho1] at hb
            simp only [List.mem_append, List.mem_cons] at hb ⊢
            rcases hb with z | z | z | z | z | z | z
            · exact .inr (by have := hE3 b z; omega)
            · exact .inl (.inl z)
            · exact .inl (.inr (.inl z))
            · exact .inl (.inr (.inr (.inl z)))
            · exact .inl (.inr (.inr (.inr (.inl z))))
            · exact .inr (by have := HLO0.out b z; omega)
            · exact .inr (by have := hlo1 b z; omega)))
        have hsh := he3.shape
        clear hx3 he3 hr3 hc3 hh5 hE3 hEk3 B6 C8 hk56 hk46 hk26 C76 C46 hlo1 hr36 hr06 hTlo hbrT h46 hw6 hb8 ho1 hlen1 HN2 am
        go_upto_region 8 with (fail)
        rw [HW6.out, HB8.out]
        rcases hsh with rfl | ⟨tt, xx, rfl⟩
        all_goals
          go_wp2
          go_ret
          exact HF.out
      · have HF := Lib.hid (HTR.out w4 n2 (fun s => (x, s.2)) c2 v2 (by simp only [sceneQ, exec_bind, HX1.out, if_true, hx2, if_neg h2, exec]) (HFE.out w4 n2 c2 v2 E2 (he2.heldBy hkk (fun b hb => by simp [hb])) hT4 ((hc2.under B4).less fun b hb => by
          rcases List.mem_append.1 hb with q | q
          · exact List.mem_append_left _ q
          · exact List.mem_append_right _ (List.mem_append_right _ q)) (fun b hb => Nat.le_trans HH2.out.1 (hE2 b hb))))
        obtain ⟨tt, xx, rfl⟩ := he2.iface h2
        clear hx2 he2 hr2 hc2 hh3 hE2 hEk2 B4 C7 hkk hT4 hw4 hb7 h2 an HN1 hlen0 hz4
        go_upto_region 5 with (fail)
        rw [HW4.out]
        go_wp2
        go_ret
        exact HF.out
    · have HF := Lib.hid (HTR.out w2 n1 (fun s => (x, s.2)) c1 v1 (by simp only [sceneQ, exec_bind, hx1, if_neg h0, exec]) (HFE.out w2 n1 c1 v1 E1 he2 (HeldBy.refl _ _) (s1.less fun b hb => by
        simp only [List.mem_append, List.mem_cons] at hb ⊢
        rcases hb with q | q | q <;> simp [q]) hE1))
      obtain ⟨tt, xx, rfl⟩ := he1.iface h0
      clear hx1 hx0 he1 hc1 hh1 hE1 b1 q0 f0 s1 s2 c1' hh2 he2 hw2 hmemT HNK h0
      go_wp2
      go_ret
      exact HF.out
/-- A place's slice is not none. -/
theorem row_some {w : World} {base n : Nat} {v : Value} {l : List Nat} (h : w.ownsRow base 25 1 v n (encU l)) (hl : l.length = n) (hn : 1 ≤ n) : ∃ g cap, v = .slice (some ⟨g, 0, none⟩) n cap ∧ CellsIn w g l ∧ base ≤ g ∧ g < w.heap.size := by
  obtain ⟨p, cap, rfl⟩ := ownsRow_shape h
  rcases h.2 with ⟨-, h0⟩ | ⟨g, c, cur, hv, -, -⟩
  · omega
  · simp only [Value.slice.injEq] at hv
    obtain ⟨rfl, -, -⟩ := hv
    refine ⟨g, cap, rfl, fun k x hx => ?_, h.lt g rfl⟩
    have hk := (List.getElem?_eq_some_iff.1 hx).1
    rw [h.cellAt k (by omega)]
    simp [encU, List.getElem?_map, hx]
set_option maxHeartbeats 8000000 in
theorem sceneQ_ok {w : World} (hg : Handle w) {n m : Nat} (hn : 1 ≤ n ∧ n ≤ 40) (hm : 1 ≤ m ∧ m ≤ 40) (hnm : n + m ≤ 56) :
    Calls Tryz.prog 8 #[.int .i64 (n : Int), .int .i64 (m : Int)] w fun e w' => ∃ pa pb g0 cap0 g1 cap1 S, e = .returned (.tuple #[.pointer (some ⟨pb, 0, none⟩), .int .u64 1, ringsV (ringQ (plOf n m) false) g0 n cap0 (ringQ (plOf n m) true) g1 m cap1]) ∧ Held w [g0, g1] pa pb S w' ∧ CellsIn w' g0 (ringQ (plOf n m) false).places ∧ CellsIn w' g1 (ringQ (plOf n m) true).places ∧ Play (plOf n m) 0 0 (fun _ => []) S := by
  obtain ⟨S', f, hgo, hf, hsc⟩ := sceneQ_goes (ws := List.replicate 4000 0) List.length_replicate (n := n) (m := m) (by omega)
  obtain ⟨s', L, nn, erun⟩ := goes_run hgo (by omega) 7000 (by omega) (by omega) ((0 : Nat), Ring.none, Ring.none)
  have HPL := Lib.hid (show Play (plOf n m) 0 0 (fun _ => []) S' from ⟨⟨fun _ => 0, fun _ => 0, hsc, fun _ _ => Nat.le_refl _, qsAt_none _⟩, by simp [cellsQ, plOf]; omega, fun k => by cases k <;> simp [plOf] <;> omega, by omega⟩)
  have HER := Lib.hid (show Th.run (fun s _ c => sceneFQ n m s c) 7000 (0, Th.start ((0 : Nat), Ring.none, Ring.none), ⟨List.replicate 4000 0, 1, [], []⟩) = (0, ⟨L, 0, nn, true, 0, f s'⟩, S') from erun)
  have HFF := Lib.hid (hf s')
  have HG := Lib.hid hg
  have hmf : ∀ (fn : Fn) (first cap : Array Value) (w : World), (Instr.makeFunc fn first cap).run Tryz.prog w = .ok (.func fn first cap) w := fun _ _ _ _ => rfl
  obtain ⟨z, hz⟩ : ∃ z, w.heap.size = z := ⟨_, rfl⟩
  have B0 := (((Below.refl w.heap.size w).alloc (Nat.le_refl _) (.cells #[.int .i64 (n : Int)] 3)).alloc (by simp) (.cells #[.int .i64 (m : Int)] 3)).alloc (by simp; omega) (.cells #[.int .u64 0, .int .u64 0, .slice none 0 0, .int .u64 0, .int .u64 0, .slice none 0 0] 29)
  have C0 := ((Cells.new w [.int .i64 (n : Int)] 3).alloc (.cells #[.int .i64 (m : Int)] 3)).alloc (.cells #[.int .u64 0, .int .u64 0, .slice none 0 0, .int .u64 0, .int .u64 0, .slice none 0 0] 29)
  have C1 := (Cells.new (w.alloc (.cells #[.int .i64 (n : Int)] 3)) [.int .i64 (m : Int)] 3).alloc (.cells #[.int .u64 0, .int .u64 0, .slice none 0 0, .int .u64 0, .int .u64 0, .slice none 0 0] 29)
  have C2 := Cells.new ((w.alloc (.cells #[.int .i64 (n : Int)] 3)).alloc (.cells #[.int .i64 (m : Int)] 3)) [.int .u64 0, .int .u64 0, .slice none 0 0, .int .u64 0, .int .u64 0, .slice none 0 0] 29
  simp only [World.size_alloc] at C1 C2
  obtain ⟨wb, hwb⟩ : ∃ wb, ((w.alloc (.cells #[.int .i64 (n : Int)] 3)).alloc (.cells #[.int .i64 (m : Int)] 3)).alloc (.cells #[.int .u64 0, .int .u64 0, .slice none 0 0, .int .u64 0, .int .u64 0, .slice none 0 0] 29) = wb := ⟨_, rfl⟩
  have hzb : wb.heap.size = z + 3 := by rw [← hwb, ← hz]; simp
  rw [hwb] at B0 C1 C2
  have C0' : Cells wb z [.int .i64 (n : Int)] 3 := by rw [← hwb, ← hz]; exact C0
  rw [hz] at C1 C2
  have HB0 := Lib.hid B0; have HC0 := Lib.hid C0'; have HC1 := Lib.hid C1; have HC2 := Lib.hid C2; have HZ := Lib.hid hz; have HZB := Lib.hid hzb; have HWB := Lib.hid hwb; have HN := Lib.hid hn; have HM := Lib.hid hm
  clear hgo hf hsc erun hg B0 C0 C0' C1 C2 hzb hwb hnm hn hm hz
  go_enter Tryz.func8, Tryz.ntmps8
  go_wp2_with fail
  rw [HWB.out, HZ.out]
  refine (on_held 4000 1 (by omega) (by omega) (by omega) _).mono ?_
  rintro e w1 ⟨pa, pb, rfl, hh⟩
  have hb1 := hh.below
  have hr1 := hh.root (W := w) HB0.out [z, z + 1, z + 1 + 1] (by intro b hb; have := HZB.out; simp at hb; omega)
  have hk1 : HeldBy [z, z + 1, z + 1 + 1] wb w1 := HeldBy.of_below hb1 (by intro b hb; have := HZB.out; simp at hb; omega)
  obtain ⟨y, hy⟩ : ∃ y, w1.heap.size = y := ⟨_, rfl⟩
  have hyz : z + 3 ≤ y := by rw [← hy, ← HZB.out]; exact hb1.size
  have B2 := ((Below.refl w1.heap.size w1).alloc (Nat.le_refl _) (.cells #[.int .u64 0] 25)).alloc (by simp) (.cells #[.int .u64 0, .int .u64 0, .slice none 0 0, .int .u64 0, .int .u64 0, .slice none 0 0] 29)
  have c0 := (Cells.new w1 [.int .u64 0] 25).alloc (.cells #[.int .u64 0, .int .u64 0, .slice none 0 0, .int .u64 0, .int .u64 0, .slice none 0 0] 29)
  have c1 := Cells.new (w1.alloc (.cells #[.int .u64 0] 25)) [.int .u64 0, .int .u64 0, .slice none 0 0, .int .u64 0, .int .u64 0, .slice none 0 0] 29
  rw [World.size_alloc] at c1
  obtain ⟨w2, hw2⟩ : ∃ w2, (w1.alloc (.cells #[.int .u64 0] 25)).alloc (.cells #[.int .u64 0, .int .u64 0, .slice none 0 0, .int .u64 0, .int .u64 0, .slice none 0 0] 29) = w2 := ⟨_, rfl⟩
  have hz2 : w2.heap.size = y + 2 := by rw [← hw2, ← hy]; simp
  rw [hw2] at B2 c0 c1
  rw [hy] at c1
  have c0' : Cells w2 y [.int .u64 0] 25 := by rw [← hy]; exact c0
  have hk2 : HeldBy [z, z + 1, z + 1 + 1] w1 w2 := HeldBy.of_below B2 (by intro b hb; simp at hb; omega)
  have hk := hk1.trans hk2
  have h2 : Held w ([y, z, z + 1, y + 1] ++ [z + 1 + 1]) pa pb ⟨List.replicate 4000 0, 1, [], []⟩ w2 := (hr1.came B2 [y, y + 1] (by intro b hb; simp at hb; omega)).less (by intro b hb; simp at hb ⊢; omega)
  have hq : (scAux w y z (z + 1) (y + 1) n m).at' ((0 : Nat), Ring.none, Ring.none) [y, z, z + 1, y + 1] w2 := ⟨.slice none 0 0, .slice none 0 0, rfl, ⟨by omega, by omega, by omega, by omega, by omega⟩, by simp [Value.ownBlock], by simp [Value.ownBlock], ⟨by have := HZ.out; omega, by have := HZ.out; omega⟩, c0', HC0.out.heldBy hk (by simp), HC1.out.heldBy hk (by simp), c1, World.ownsRow_nil _ _ _ _, World.ownsRow_nil _ _ _ _⟩
  have HAL := Lib.hid (alone_ok (sceneQ1_ok HG.out HN.out HM.out) h2 hq (by intro b hb hm; simp at hb hm; omega) HER.out rfl)
  have C6 := HC2.out.heldBy hk (by simp)
  have HC6 := Lib.hid C6; have HW2 := Lib.hid hw2; have HY := Lib.hid hy; have HYZ := Lib.hid hyz
  clear hh hb1 hr1 hk1 hyz B2 c0 c1 hw2 hz2 c0' hk2 hk h2 hq C6 hy
  go_wp2_with fail
  rw [HW2.out, HY.out]
  refine HAL.out.mono ?_
  rintro e w3 ⟨Q', rfl, ha, hh, hk3, a8⟩
  simp only [HFF.out] at ha
  obtain ⟨l0, l1, rfl, -, -, -, -, a1, -, -, a4, a5, a6⟩ := ha
  have hp0 : (ringQ (plOf n m) false).places.length = n := by simp [ringQ, ringAt, plOf]
  have hp1 : (ringQ (plOf n m) true).places.length = m := by simp [ringQ, ringAt, plOf]
  simp only [hp0] at a5
  simp only [hp1] at a6
  obtain ⟨g0, cap0, rfl, i0, lo0, -⟩ := row_some a5 hp0 HN.out.1
  obtain ⟨g1, cap1, rfl, i1, lo1, -⟩ := row_some a6 hp1 HM.out.1
  have C7 := HC6.out.heldBy hk3 (by simp)
  obtain ⟨⟨d0, d1, d2, d3, d4, d5⟩, e0, e1, e2, e3, e4, e5⟩ := six6 C7
  obtain ⟨⟨y0, y1, y2, y3, y4, y5⟩, -⟩ := six6 a4
  have y6 := a1.cell 0
  simp only [List.getElem?_cons_zero] at y6
  have hzf : z + 1 + 1 < w3.heap.size := C7.lt
  have HF := Lib.hid (fun (w4 : World) (k : Kept (fun b => b = z + 1 + 1) w3 w4) => (show Held w [g0, g1] pa pb S' w4 ∧ CellsIn w4 g0 (ringQ (plOf n m) false).places ∧ CellsIn w4 g1 (ringQ (plOf n m) true).places from by
    have hw : w.heap.size = z := HZ.out
    have hg0 : g0 ∈ (y :: z :: (z + 1) :: (y + 1) :: ((Value.slice (some ⟨g0, 0, none⟩) n cap0).ownBlock.toList ++ (Value.slice (some ⟨g1, 0, none⟩) m cap1).ownBlock.toList)) := by simp [Value.ownBlock]
    have hg1 : g1 ∈ (y :: z :: (z + 1) :: (y + 1) :: ((Value.slice (some ⟨g0, 0, none⟩) n cap0).ownBlock.toList ++ (Value.slice (some ⟨g1, 0, none⟩) m cap1).ownBlock.toList)) := by simp [Value.ownBlock]
    have n0 : g0 ≠ z + 1 + 1 := fun e => a8 g0 hg0 (by simp [e])
    have n1 : g1 ≠ z + 1 + 1 := fun e => a8 g1 hg1 (by simp [e])
    refine ⟨hh.step (k.mono fun b _ e => by simp [e]) (hh.below.trans (k.below hh.below.size fun b hb e => by omega)) (fun b hb => ?_), fun i x hx => cell_kept (i0 i x hx) k n0, fun i x hx => cell_kept (i1 i x hx) k n1⟩
    simp only [List.mem_cons, List.not_mem_nil, or_false] at hb
    rcases hb with q | q
    · subst q
      exact ⟨.inl (List.mem_append_left _ hg0), Nat.lt_of_lt_of_le (hh.held _ (List.mem_append_left _ hg0)) k.size⟩
    · subst q
      exact ⟨.inl (List.mem_append_left _ hg1), Nat.lt_of_lt_of_le (hh.held _ (List.mem_append_left _ hg1)) k.size⟩))
  clear hh hk3 a1 a4 a5 a6 i0 i1 lo0 lo1 C7 a8 HAL
  go_wp2
  go_still_tail 5, (by kernel_rfl)
  go_wp2
  have HF2 := Lib.hid (HF.out (set6 w3 (z + 1 + 1) (.int .u64 ((ringQ (plOf n m) false).ins : Int)) (.int .u64 ((ringQ (plOf n m) false).outs : Int)) (.slice (some ⟨g0, 0, none⟩) n cap0) (.int .u64 ((ringQ (plOf n m) true).ins : Int)) (.int .u64 ((ringQ (plOf n m) true).outs : Int)) (.slice (some ⟨g1, 0, none⟩) m cap1)).drew ((set6_kept w3 (z + 1 + 1) (.int .u64 ((ringQ (plOf n m) false).ins : Int)) (.int .u64 ((ringQ (plOf n m) false).outs : Int)) (.slice (some ⟨g0, 0, none⟩) n cap0) (.int .u64 ((ringQ (plOf n m) true).ins : Int)) (.int .u64 ((ringQ (plOf n m) true).outs : Int)) (.slice (some ⟨g1, 0, none⟩) m cap1)).drew))
  unfold set6 at HF2
  refine bodyPost_ret (v := .tuple #[.pointer (some ⟨pb, 0, none⟩), .int .u64 1, ringsV (ringQ (plOf n m) false) g0 n cap0 (ringQ (plOf n m) true) g1 m cap1]) (by simp [results, Tryz.results8, go_sem, ringsV, d0, d1, d2, d3, d4, d5]) rfl ?_
  exact ⟨pa, pb, g0, cap0, g1, cap1, S', rfl, HF2.out.1, HF2.out.2.1, HF2.out.2.2, HPL.out⟩
end Go.Proofs.YtkpdacfiglpgeaaGreatDoor

/- Layer 29's laws: several transactions one behind the other; the chapter's example. -/
namespace Go.Proofs.YtkpdacfiglpgeaaGreatDoor
open Go.RowKit Bl Th
set_option maxRecDepth 10000

set_option maxHeartbeats 1000000 in
theorem sameQ_ok {w : World} {v1 v2 : Value} {l : List Nat} (h1 : SomeAt w v1 l) (h2 : SomeAt w v2 l) (hl : l.length ≤ 200000) :
    Calls Tryz.prog 12 #[v1, v2] w fun e w' => e = .returned (.bool true) ∧ ∃ m, w' = w.drewN m := by
  obtain ⟨p1, c1, rfl, e1⟩ := h1
  obtain ⟨p2, c2, rfl, e2⟩ := h2
  obtain ⟨len, hlen⟩ : ∃ len, l.length = len := ⟨_, rfl⟩
  rw [hlen] at hl ⊢
  have H1 := Lib.hid e1; have H2 := Lib.hid e2
  have HLEN := Lib.hid hlen
  clear e1 e2 hlen
  have g0 : ((len : Int) != (len : Int)) = false := by simp
  have g1 : (len != len) = false := by simp
  go_enter Tryz.func12, Tryz.ntmps12
  go_wp2
  go_loopw [5] (fun i wr => ∃ k n : Nat, k ≤ len ∧ i = .int .i64 (k : Int) ∧ wr = w.drewN n) (fun i _ => len - (intOf i).toNat)
  case atStart => exact ⟨0, 0, Nat.zero_le _, rfl, rfl⟩
  case round =>
    obtain ⟨k, n, hk, rfl, rfl⟩ := hrel
    by_cases hlt : k < len
    · have hlt' : (k : Int) < (len : Int) := by omega
      obtain ⟨x, hx⟩ : ∃ x, l[k]? = some x := ⟨l[k]'(by rw [HLEN.out]; exact hlt), List.getElem?_eq_getElem _⟩
      have hne : l ≠ [] := fun e => by simp [e] at hx
      obtain ⟨ga, rfl, qa⟩ := H1.out hne
      obtain ⟨gb, rfl, qb⟩ := H2.out hne
      have ha := qa k x hx
      have hb := qb k x hx
      have g2 : ((x : Int) != (x : Int)) = false := by simp
      clear hx hne qa qb
      go_wp2
      go_quiet (fail)
      go_wp2
      go_roundw
      case rel => exact ⟨k + 1, _, by omega, by go_num, rfl⟩
      case measure => simp [intOf]; omega
    · obtain rfl : k = len := by omega
      have g3 : decide ((k : Int) < (k : Int)) = false := by simp
      go_wp2
      go_ret
      exact ⟨rfl, _, rfl⟩
theorem SomeAt.below {w w' : World} {v : Value} {x : List Nat} (h : SomeAt w v x) (hb : Below w.heap.size w w') : SomeAt w' v x := by
  obtain ⟨p, c, e, h⟩ := h
  refine ⟨p, c, e, fun hn => ?_⟩
  obtain ⟨g, hg, hc⟩ := h hn
  exact ⟨g, hg, fun k y hy => (hb.cell (p := ⟨g, k, none⟩) (World.block_lt_of_cell? _ _ (hc k y hy))).trans (hc k y hy)⟩
theorem SomeAt.new {w : World} {b cap : Nat} {l : List Nat} {t : TypeId} (h : Cells w b (encU l) t) : SomeAt w (.slice (some ⟨b, 0, none⟩) l.length cap) l := ⟨_, cap, rfl, fun _ => ⟨b, rfl, fun k x hx => by
  rw [h.cell k]
  simp [encU, List.getElem?_map, hx]⟩⟩
/-- Two queues in memory, between transactions. -/
structure QP (W : World) (R : List Nat) (pa pb g0 cap0 g1 cap1 : Nat) (pl : Bool → Nat) (K clk : Nat) (q : Bool → List Nat) (S : BS) (w : World) : Prop where
  held : Held W R pa pb S w
  i0 : g0 ∈ R
  i1 : g1 ∈ R
  a0 : CellsIn w g0 (ringQ pl false).places
  a1 : CellsIn w g1 (ringQ pl true).places
  play : Play pl K clk q S
section
variable {W : World} {R : List Nat} {pa pb g0 cap0 g1 cap1 : Nat} {pl : Bool → Nat} {K clk : Nat} {q : Bool → List Nat} {S : BS} {w w' : World}
theorem QP.came (h : QP W R pa pb g0 cap0 g1 cap1 pl K clk q S w) (hb : Below w.heap.size w w') (N : List Nat) (hN : ∀ b ∈ N, w.heap.size ≤ b ∧ b < w'.heap.size) : QP W (N ++ R) pa pb g0 cap0 g1 cap1 pl K clk q S w' := by
  have k := HeldBy.of_below (R := R) hb h.held.held
  exact ⟨h.held.came hb N hN, by simp [h.i0], by simp [h.i1], h.a0.heldBy k h.i0, h.a1.heldBy k h.i1, h.play⟩
theorem QP.less {R' : List Nat} (h : QP W R pa pb g0 cap0 g1 cap1 pl K clk q S w) (hr : ∀ b ∈ R', b ∈ R) (h0 : g0 ∈ R') (h1 : g1 ∈ R') : QP W R' pa pb g0 cap0 g1 cap1 pl K clk q S w := ⟨h.held.less hr, h0, h1, h.a0, h.a1, h.play⟩
theorem run_next (hg : Handle W) (h : QP W R pa pb g0 cap0 g1 cap1 pl K clk q S w) {lp : Option Addr} {lcap M : Nat} {l : List ActQ} {Qo : List Nat} (hl : ActsIn W w (.slice lp l.length lcap) Qo l) (hQ : ∀ b ∈ Qo, b ∈ R) (hM : ∀ k, pl k ≤ M) (hK : K ≤ 9000) (hlen : l.length ≤ 100) (hcost : (l.map (costA M)).sum ≤ 1500) {told : List Nat} {q' : Bool → List Nat} {ok : Bool} (hm : mdl pl l [] q = (told, q', ok)) :
    Calls Tryz.prog 11 #[.pointer (some ⟨pb, 0, none⟩), .int .u64 1, ringsV (ringQ pl false) g0 (pl false) cap0 (ringQ pl true) g1 (pl true) cap1, .slice lp l.length lcap] w fun e w' =>
      ∃ clk' lv S', e = .returned (.tuple #[lv, .int .i64 (if ok = true then 1 else 3), .int .i64 0]) ∧ QP W (lv.ownBlock.toList ++ R) pa pb g0 cap0 g1 cap1 pl (K + l.length + 1) clk' (if ok = true then q' else q) S' w' ∧ HeldBy R w w' ∧ SomeAt w' lv told ∧ ∃ p c, lv = .slice p told.length c := by
  refine (run_ok hg h.held h.i0 h.i1 hQ h.a0 h.a1 hl h.play hM hK hlen hcost).mono ?_
  rintro e w1 ⟨S', clk', lv, rfl, hh, hk, hr, hp⟩
  rw [hm] at hr hp ⊢
  exact ⟨clk', lv, S', rfl, ⟨hh, by simp [h.i0], by simp [h.i1], h.a0.heldBy hk h.i0, h.a1.heldBy hk h.i1, hp⟩, hk, .row hr, ownsRow_shape hr⟩
end
/-- Calls in a block of their own. -/
theorem ActsIn.new (W : World) (l : List ActQ) (cap : Nat) (t : TypeId) (hl : l.length ≤ 1000) (hx : ∀ a ∈ l, a.x < 18446744073709551616) {b : Nat} {w' : World} (h : Cells w' b (l.flatMap encAct) t) : ActsIn W w' (.slice (some ⟨b, 0, none⟩) l.length cap) [b] l := by
  refine ⟨⟨_, cap, rfl, fun _ => ⟨b, 0, rfl, fun k m hk => ⟨hx m (List.mem_of_getElem? hk), fun j hj => .inl ⟨by simp, ?_⟩⟩⟩⟩, hl⟩
  have key : ∀ (l : List ActQ) (k : Nat) (m : ActQ), l[k]? = some m → (l.flatMap encAct)[k * 3 + j]? = (encAct m)[j]? := by
    intro l
    induction l with
    | nil => intro k m hk; simp at hk
    | cons a l ih =>
      intro k m hk
      cases k with
      | zero =>
        simp only [List.getElem?_cons_zero, Option.some.injEq] at hk
        subst hk
        rw [List.flatMap_cons, List.getElem?_append_left (by simp [encAct]; omega)]
        simp
      | succ k =>
        simp only [List.getElem?_cons_succ] at hk
        rw [List.flatMap_cons, List.getElem?_append_right (by simp [encAct]; omega)]
        simp only [encAct, List.length_cons, List.length_nil]
        rw [show (k + 1) * 3 + j - (0 + 1 + 1 + 1) = k * 3 + j by omega]
        exact ih k m hk
  have h1 := h.cell (0 + k * 3 + j)
  rw [Nat.zero_add, key l k m hk] at h1
  rw [Nat.zero_add]
  exact h1
def acts1 : List ActQ := [⟨1, 1, false⟩, ⟨1, 2, false⟩, ⟨1, 3, false⟩]
def acts2 : List ActQ := [⟨1, 1, false⟩, ⟨1, 2, false⟩]
def acts3 : List ActQ := [⟨4, 0, false⟩, ⟨1, 3, false⟩, ⟨6, 0, false⟩]
def alq : Bool → List Nat := (mdl (plOf 2 1) acts2 [] (fun _ => [])).2.1
theorem mdl_1 : mdl (plOf 2 1) acts1 [] (fun _ => []) = ((mdl (plOf 2 1) acts1 [] (fun _ => [])).1, (mdl (plOf 2 1) acts1 [] (fun _ => [])).2.1, false) := by
  have h : (mdl (plOf 2 1) acts1 [] (fun _ => [])).2.2 = false := by decide +kernel
  rw [← h]
theorem mdl_2 : mdl (plOf 2 1) acts2 [] (fun _ => []) = ((mdl (plOf 2 1) acts2 [] (fun _ => [])).1, alq, true) := by
  have h : (mdl (plOf 2 1) acts2 [] (fun _ => [])).2.2 = true := by decide +kernel
  rw [← h]
  rfl
theorem mdl_3 : mdl (plOf 2 1) acts3 [] alq = ([1, 2, 3], (mdl (plOf 2 1) acts3 [] alq).2.1, true) := by
  have h : (mdl (plOf 2 1) acts3 [] alq).2.2 = true := by decide +kernel
  have h1 : (mdl (plOf 2 1) acts3 [] alq).1 = [1, 2, 3] := by decide +kernel
  rw [← h, ← h1]
theorem pl21 (k : Bool) : plOf 2 1 k ≤ 2 := by cases k <;> simp [plOf]
set_option maxHeartbeats 8000000 in
/-- The chapter's example: true. -/
theorem alive29_ok (w : World) (hg : Handle w) : Calls Tryz.prog 9 #[] w fun e w' => e = .returned (.bool true) ∧ Below w.heap.size w w' := by
  have HSC := Lib.hid (sceneQ_ok hg (n := 2) (m := 1) (by omega) (by omega) (by omega))
  have HG := Lib.hid hg
  clear hg
  go_enter Tryz.func9, Tryz.ntmps9
  go_wp2_with fail
  refine HSC.out.mono ?_
  rintro e w1 ⟨pa, pb, g0, cap0, g1, cap1, S, rfl, hh, ha0, ha1, hp⟩
  have hp0 : QP w [g0, g1] pa pb g0 cap0 g1 cap1 (plOf 2 1) 0 0 (fun _ => []) S w1 := ⟨hh, by simp, by simp, ha0, ha1, hp⟩
  obtain ⟨rb, hrb⟩ : ∃ rb, w1.heap.size = rb := ⟨_, rfl⟩
  have B2 := (Below.refl w1.heap.size w1).alloc (Nat.le_refl _) (.cells #[.int .u64 ((ringQ (plOf 2 1) false).ins : Int), .int .u64 ((ringQ (plOf 2 1) false).outs : Int), .slice (some ⟨g0, 0, none⟩) 2 cap0, .int .u64 ((ringQ (plOf 2 1) true).ins : Int), .int .u64 ((ringQ (plOf 2 1) true).outs : Int), .slice (some ⟨g1, 0, none⟩) 1 cap1] 29)
  have C2 := Cells.new w1 (ringV (ringQ (plOf 2 1) false) g0 2 cap0 ++ ringV (ringQ (plOf 2 1) true) g1 1 cap1) 29
  obtain ⟨w2, hw2⟩ : ∃ w2, w1.alloc (.cells #[.int .u64 ((ringQ (plOf 2 1) false).ins : Int), .int .u64 ((ringQ (plOf 2 1) false).outs : Int), .slice (some ⟨g0, 0, none⟩) 2 cap0, .int .u64 ((ringQ (plOf 2 1) true).ins : Int), .int .u64 ((ringQ (plOf 2 1) true).outs : Int), .slice (some ⟨g1, 0, none⟩) 1 cap1] 29) = w2 := ⟨_, rfl⟩
  have C2' : Cells w2 rb (ringV (ringQ (plOf 2 1) false) g0 2 cap0 ++ ringV (ringQ (plOf 2 1) true) g1 1 cap1) 29 := by rw [← hw2, ← hrb]; exact C2
  rw [hw2] at B2
  have hp2 := hp0.came B2 [rb] (by have := C2'.lt; simp; omega)
  have HW2 := Lib.hid hw2; have HRB := Lib.hid hrb
  have HP1 := Lib.hid hp2; have HCR1 := Lib.hid C2'
  clear hh ha0 ha1 hp hp0 HSC B2 C2 C2' hw2 hrb hp2
  unfold ringsV
  go_upto_region 4 with (fail)
  rw [HW2.out, HRB.out]
  clear HW2 HRB
  have B1 := (Below.refl w2.heap.size w2).alloc (Nat.le_refl _) (.cells (acts1.flatMap encAct).toArray 92)
  have CA1 := Cells.new w2 (acts1.flatMap encAct) 92
  obtain ⟨ba1, hba1⟩ : ∃ ba, w2.heap.size = ba := ⟨_, rfl⟩
  obtain ⟨wa1, hwa1⟩ : ∃ wa, w2.alloc (.cells (acts1.flatMap encAct).toArray 92) = wa := ⟨_, rfl⟩
  rw [hwa1] at B1 CA1
  rw [hba1] at CA1
  have hpa1 := HP1.out.came B1 [ba1] (by have := CA1.lt; simp; omega)
  have hl1 := ActsIn.new w acts1 3 _ (by decide) (by decide) CA1
  have HRN1 := Lib.hid (run_next HG.out hpa1 (M := 2) hl1 (by simp) pl21 (by decide) (by decide) (by decide) mdl_1)
  have HCA1 := Lib.hid (HCR1.out.heldBy (HeldBy.of_below (R := [rb]) B1 (by have := HCR1.out.lt; simp; omega)) (by simp))
  have HWA1 := Lib.hid (show w2.alloc (.cells #[.int .i64 1, .int .u64 1, .bool false, .int .i64 1, .int .u64 2, .bool false, .int .i64 1, .int .u64 3, .bool false] 92) = wa1 from hwa1); have HBA1 := Lib.hid hba1
  clear B1 CA1 hwa1 hba1 hpa1 hl1
  obtain ⟨⟨y0, y1, y2, y3, y4, y5⟩, -⟩ := six6 HCR1.out
  go_wp2_with fail
  rw [HWA1.out, HBA1.out]
  refine HRN1.out.mono ?_
  rintro e wx1 ⟨clk1, lv1, S1, rfl, hpx1, hk1, hs1, p1, cc1, rfl⟩
  have HCR2 := Lib.hid (HCA1.out.heldBy hk1 (by simp))
  have HP2 := Lib.hid hpx1
  have HS1 := Lib.hid hs1; have HK1 := Lib.hid hk1
  clear hpx1 hk1 hs1 y0 y1 y2 y3 y4 y5 HRN1 HCA1
  have HP2 := Lib.hid (show QP w _ pa pb g0 cap0 g1 cap1 (plOf 2 1) (0 + acts1.length + 1) clk1 (fun _ => []) S1 wx1 from HP2.out)
  have B2 := (Below.refl wx1.heap.size wx1).alloc (Nat.le_refl _) (.cells (acts2.flatMap encAct).toArray 92)
  have CA2 := Cells.new wx1 (acts2.flatMap encAct) 92
  obtain ⟨ba2, hba2⟩ : ∃ ba, wx1.heap.size = ba := ⟨_, rfl⟩
  obtain ⟨wa2, hwa2⟩ : ∃ wa, wx1.alloc (.cells (acts2.flatMap encAct).toArray 92) = wa := ⟨_, rfl⟩
  rw [hwa2] at B2 CA2
  rw [hba2] at CA2
  have hpa2 := HP2.out.came B2 [ba2] (by have := CA2.lt; simp; omega)
  have hl2 := ActsIn.new w acts2 2 _ (by decide) (by decide) CA2
  have HRN2 := Lib.hid (run_next HG.out hpa2 (M := 2) hl2 (by simp) pl21 (by decide) (by decide) (by decide) mdl_2)
  have HCA2 := Lib.hid (HCR2.out.heldBy (HeldBy.of_below (R := [rb]) B2 (by have := HCR2.out.lt; simp; omega)) (by simp))
  have HWA2 := Lib.hid (show wx1.alloc (.cells #[.int .i64 1, .int .u64 1, .bool false, .int .i64 1, .int .u64 2, .bool false] 92) = wa2 from hwa2); have HBA2 := Lib.hid hba2
  clear B2 CA2 hwa2 hba2 hpa2 hl2
  obtain ⟨⟨y0, y1, y2, y3, y4, y5⟩, -⟩ := six6 HCR2.out
  go_wp2_with fail
  rw [HWA2.out, HBA2.out]
  refine HRN2.out.mono ?_
  rintro e wx2 ⟨clk2, lv2, S2, rfl, hpx2, hk2, hs2, p2, cc2, rfl⟩
  have HCR3 := Lib.hid (HCA2.out.heldBy hk2 (by simp))
  have HP3 := Lib.hid hpx2
  have HS2 := Lib.hid hs2; have HK2 := Lib.hid hk2
  clear hpx2 hk2 hs2 y0 y1 y2 y3 y4 y5 HRN2 HCA2
  have HP3 := Lib.hid (show QP w _ pa pb g0 cap0 g1 cap1 (plOf 2 1) (0 + acts1.length + 1 + acts2.length + 1) clk2 alq S2 wx2 from HP3.out)
  have B3 := (Below.refl wx2.heap.size wx2).alloc (Nat.le_refl _) (.cells (acts3.flatMap encAct).toArray 92)
  have CA3 := Cells.new wx2 (acts3.flatMap encAct) 92
  obtain ⟨ba3, hba3⟩ : ∃ ba, wx2.heap.size = ba := ⟨_, rfl⟩
  obtain ⟨wa3, hwa3⟩ : ∃ wa, wx2.alloc (.cells (acts3.flatMap encAct).toArray 92) = wa := ⟨_, rfl⟩
  rw [hwa3] at B3 CA3
  rw [hba3] at CA3
  have hpa3 := HP3.out.came B3 [ba3] (by have := CA3.lt; simp; omega)
  have hl3 := ActsIn.new w acts3 3 _ (by decide) (by decide) CA3
  have HRN3 := Lib.hid (run_next HG.out hpa3 (M := 2) hl3 (by simp) pl21 (by decide) (by decide) (by decide) mdl_3)
  have HCA3 := Lib.hid (HCR3.out.heldBy (HeldBy.of_below (R := [rb]) B3 (by have := HCR3.out.lt; simp; omega)) (by simp))
  have HWA3 := Lib.hid (show wx2.alloc (.cells #[.int .i64 4, .int .u64 0, .bool false, .int .i64 1, .int .u64 3, .bool false, .int .i64 6, .int .u64 0, .bool false] 92) = wa3 from hwa3); have HBA3 := Lib.hid hba3
  clear B3 CA3 hwa3 hba3 hpa3 hl3
  obtain ⟨⟨y0, y1, y2, y3, y4, y5⟩, -⟩ := six6 HCR3.out
  go_wp2_with fail
  rw [HWA3.out, HBA3.out]
  refine HRN3.out.mono ?_
  rintro e wx3 ⟨clk3, lv3, S3, rfl, hpx3, hk3, hs3, p3, cc3, rfl⟩
  have HCR4 := Lib.hid (HCA3.out.heldBy hk3 (by simp))
  have HP4 := Lib.hid hpx3
  have HS3 := Lib.hid hs3; have HK3 := Lib.hid hk3
  clear hpx3 hk3 hs3 y0 y1 y2 y3 y4 y5 HRN3 HCA3
  have BZ := (Below.refl wx3.heap.size wx3).alloc (Nat.le_refl _) (.cells #[.int .u64 1, .int .u64 2, .int .u64 3] 25)
  have HSB := Lib.hid (SomeAt.new (cap := 3) (l := [1, 2, 3]) (Cells.new wx3 (encU [1, 2, 3]) 25))
  have HSA := Lib.hid (HS3.out.below BZ)
  have HTOP := Lib.hid (HP4.out.held.below.trans (BZ.mono HP4.out.held.below.size))
  clear BZ HP1 HP2 HP3 HP4 HCR1 HCR2 HCR3 HCR4 HS1 HS2 HS3 HK1 HK2 HK3 HWA1 HWA2 HWA3 HBA1 HBA2 HBA3
  go_wp2_with (go_at_call 12; refine (sameQ_ok (l := [1, 2, 3]) HSA.out HSB.out (by decide)).mono ?_; rintro e w' ⟨rfl, k, rfl⟩)
  go_ret
  exact ⟨rfl, HTOP.out.trans (below_drewN (Below.refl _ _) _ |>.mono HTOP.out.size)⟩
end Go.Proofs.YtkpdacfiglpgeaaGreatDoor
