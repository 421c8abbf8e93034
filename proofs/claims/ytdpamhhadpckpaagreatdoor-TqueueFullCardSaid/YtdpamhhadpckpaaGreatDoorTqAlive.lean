/- Layer 29's laws: several transactions one behind the other; the chapter's example. -/
import Derived.Test.YtdpamhhadpckpaaGreatDoorTqScene
namespace Go.Proofs.YtdpamhhadpckpaaGreatDoor
open Go.RowKit Bl Th
set_option maxRecDepth 10000

set_option maxHeartbeats 1000000 in
theorem sameQ_ok {w : World} {v1 v2 : Value} {l : List Nat} (h1 : SomeAt w v1 l) (h2 : SomeAt w v2 l) (hl : l.length ≤ 200000) :
    Calls Tryz.prog 10 #[v1, v2] w fun e w' => e = .returned (.bool true) ∧ ∃ m, w' = w.drewN m := by
  obtain ⟨p1, c1, rfl, e1⟩ := h1
  obtain ⟨p2, c2, rfl, e2⟩ := h2
  obtain ⟨len, hlen⟩ : ∃ len, l.length = len := ⟨_, rfl⟩
  rw [hlen] at hl ⊢
  have H1 := Lib.hid e1; have H2 := Lib.hid e2
  have HLEN := Lib.hid hlen
  clear e1 e2 hlen
  have g0 : ((len : Int) != (len : Int)) = false := by simp
  have g1 : (len != len) = false := by simp
  go_enter Tryz.func10, Tryz.ntmps10
  go_wp2
  go_loopw [5] (fun i wr => ∃ k n : Nat, k ≤ len ∧ i = .int .i64 (k : Int) ∧ wr = w.drewN n) (fun i _ => len - (intOf i).toNat)
  case atStart => exact ⟨0, 0, Nat.zero_le _, rfl, rfl⟩
  case round =>
    obtain ⟨k, n, hk, rfl, rfl⟩ := hrel
    by_cases hlt : k < len
    · have hlt' : (k : Int) < (len : Int) := by omega
      obtain ⟨x, hx⟩ : ∃ x, l[k]? = some x := ⟨l[k]'(by rw [HLEN.out]; exact hlt), List.getElem?_eq_getElem _⟩
      have hne : l ≠ [] := fun e => by simp [e] at hx
      obtain ⟨ga, rfl, qa⟩ := H1.out hne
      obtain ⟨gb, rfl, qb⟩ := H2.out hne
      have ha := qa k x hx
      have hb := qb k x hx
      have g2 : ((x : Int) != (x : Int)) = false := by simp
      clear hx hne qa qb
      go_wp2
      go_quiet (fail)
      go_wp2
      go_roundw
      case rel => exact ⟨k + 1, _, by omega, by go_num, rfl⟩
      case measure => simp [intOf]; omega
    · obtain rfl : k = len := by omega
      have g3 : decide ((k : Int) < (k : Int)) = false := by simp
      go_wp2
      go_ret
      exact ⟨rfl, _, rfl⟩
theorem SomeAt.below {w w' : World} {v : Value} {x : List Nat} (h : SomeAt w v x) (hb : Below w.heap.size w w') : SomeAt w' v x := by
  obtain ⟨p, c, e, h⟩ := h
  refine ⟨p, c, e, fun hn => ?_⟩
  obtain ⟨g, hg, hc⟩ := h hn
  exact ⟨g, hg, fun k y hy => (hb.cell (p := ⟨g, k, none⟩) (World.block_lt_of_cell? _ _ (hc k y hy))).trans (hc k y hy)⟩
theorem SomeAt.new {w : World} {b cap : Nat} {l : List Nat} {t : TypeId} (h : Cells w b (encU l) t) : SomeAt w (.slice (some ⟨b, 0, none⟩) l.length cap) l := ⟨_, cap, rfl, fun _ => ⟨b, rfl, fun k x hx => by
  rw [h.cell k]
  simp [encU, List.getElem?_map, hx]⟩⟩
/-- Two queues in memory, between transactions. -/
structure QP (W : World) (R : List Nat) (pa pb g0 cap0 g1 cap1 : Nat) (pl : Bool → Nat) (K clk : Nat) (q : Bool → List Nat) (S : BS) (w : World) : Prop where
  held : Held W R pa pb S w
  i0 : g0 ∈ R
  i1 : g1 ∈ R
  a0 : CellsIn w g0 (ringQ pl false).places
  a1 : CellsIn w g1 (ringQ pl true).places
  play : Play pl K clk q S
section
variable {W : World} {R : List Nat} {pa pb g0 cap0 g1 cap1 : Nat} {pl : Bool → Nat} {K clk : Nat} {q : Bool → List Nat} {S : BS} {w w' : World}
theorem QP.came (h : QP W R pa pb g0 cap0 g1 cap1 pl K clk q S w) (hb : Below w.heap.size w w') (N : List Nat) (hN : ∀ b ∈ N, w.heap.size ≤ b ∧ b < w'.heap.size) : QP W (N ++ R) pa pb g0 cap0 g1 cap1 pl K clk q S w' := by
  have k := HeldBy.of_below (R := R) hb h.held.held
  exact ⟨h.held.came hb N hN, by simp [h.i0], by simp [h.i1], h.a0.heldBy k h.i0, h.a1.heldBy k h.i1, h.play⟩
theorem QP.less {R' : List Nat} (h : QP W R pa pb g0 cap0 g1 cap1 pl K clk q S w) (hr : ∀ b ∈ R', b ∈ R) (h0 : g0 ∈ R') (h1 : g1 ∈ R') : QP W R' pa pb g0 cap0 g1 cap1 pl K clk q S w := ⟨h.held.less hr, h0, h1, h.a0, h.a1, h.play⟩
theorem run_next (hg : Handle W) (h : QP W R pa pb g0 cap0 g1 cap1 pl K clk q S w) {lp : Option Addr} {lcap M : Nat} {l : List ActQ} {Qo : List Nat} (hl : ActsIn W w (.slice lp l.length lcap) Qo l) (hQ : ∀ b ∈ Qo, b ∈ R) (hM : ∀ k, pl k ≤ M) (hK : K ≤ 9000) (hlen : l.length ≤ 100) (hcost : (l.map (costA M)).sum ≤ 1500) (h9 : ∀ a ∈ l, a.kind ≠ 9) {told : List Nat} {q' : Bool → List Nat} {ok : Bool} (hm : mdl pl l [] q = (told, q', ok)) :
    Calls Tryz.prog 9 #[.pointer (some ⟨pb, 0, none⟩), .int .u64 1, ringsV (ringQ pl false) g0 (pl false) cap0 (ringQ pl true) g1 (pl true) cap1, .slice lp l.length lcap] w fun e w' =>
      ∃ clk' lv S', e = .returned (.tuple #[lv, .int .i64 (if ok = true then 1 else 3), .int .i64 0]) ∧ QP W (lv.ownBlock.toList ++ R) pa pb g0 cap0 g1 cap1 pl (K + l.length + 1) clk' (if ok = true then q' else q) S' w' ∧ HeldBy R w w' ∧ SomeAt w' lv told ∧ ∃ p c, lv = .slice p told.length c := by
  refine (run_ok hg h.held h.i0 h.i1 hQ h.a0 h.a1 hl h.play hM hK hlen hcost h9).mono ?_
  rintro e w1 ⟨S', clk', lv, rfl, hh, hk, hr, hp⟩
  rw [hm] at hr hp ⊢
  exact ⟨clk', lv, S', rfl, ⟨hh, by simp [h.i0], by simp [h.i1], h.a0.heldBy hk h.i0, h.a1.heldBy hk h.i1, hp⟩, hk, .row hr, ownsRow_shape hr⟩
end
/-- Calls in a block of their own. -/
theorem ActsIn.new (W : World) (l : List ActQ) (cap : Nat) (t : TypeId) (hl : l.length ≤ 1000) (hx : ∀ a ∈ l, a.x < 18446744073709551616) {b : Nat} {w' : World} (h : Cells w' b (l.flatMap encAct) t) : ActsIn W w' (.slice (some ⟨b, 0, none⟩) l.length cap) [b] l := by
  refine ⟨⟨_, cap, rfl, fun _ => ⟨b, 0, rfl, fun k m hk => ⟨hx m (List.mem_of_getElem? hk), fun j hj => .inl ⟨by simp, ?_⟩⟩⟩⟩, hl⟩
  have key : ∀ (l : List ActQ) (k : Nat) (m : ActQ), l[k]? = some m → (l.flatMap encAct)[k * 3 + j]? = (encAct m)[j]? := by
    intro l
    induction l with
    | nil => intro k m hk; simp at hk
    | cons a l ih =>
      intro k m hk
      cases k with
      | zero =>
        simp only [List.getElem?_cons_zero, Option.some.injEq] at hk
        subst hk
        rw [List.flatMap_cons, List.getElem?_append_left (by simp [encAct]; omega)]
        simp
      | succ k =>
        simp only [List.getElem?_cons_succ] at hk
        rw [List.flatMap_cons, List.getElem?_append_right (by simp [encAct]; omega)]
        simp only [encAct, List.length_cons, List.length_nil]
        rw [show (k + 1) * 3 + j - (0 + 1 + 1 + 1) = k * 3 + j by omega]
        exact ih k m hk
  have h1 := h.cell (0 + k * 3 + j)
  rw [Nat.zero_add, key l k m hk] at h1
  rw [Nat.zero_add]
  exact h1
def acts1 : List ActQ := [⟨1, 1, false⟩, ⟨1, 2, false⟩, ⟨1, 3, false⟩]
def acts2 : List ActQ := [⟨1, 1, false⟩, ⟨1, 2, false⟩]
def acts3 : List ActQ := [⟨4, 0, false⟩, ⟨1, 3, false⟩, ⟨6, 0, false⟩]
def alq : Bool → List Nat := (mdl (plOf 2 1) acts2 [] (fun _ => [])).2.1
theorem mdl_1 : mdl (plOf 2 1) acts1 [] (fun _ => []) = ((mdl (plOf 2 1) acts1 [] (fun _ => [])).1, (mdl (plOf 2 1) acts1 [] (fun _ => [])).2.1, false) := by
  have h : (mdl (plOf 2 1) acts1 [] (fun _ => [])).2.2 = false := by decide +kernel
  rw [← h]
theorem mdl_2 : mdl (plOf 2 1) acts2 [] (fun _ => []) = ((mdl (plOf 2 1) acts2 [] (fun _ => [])).1, alq, true) := by
  have h : (mdl (plOf 2 1) acts2 [] (fun _ => [])).2.2 = true := by decide +kernel
  rw [← h]
  rfl
theorem mdl_3 : mdl (plOf 2 1) acts3 [] alq = ([1, 2, 3], (mdl (plOf 2 1) acts3 [] alq).2.1, true) := by
  have h : (mdl (plOf 2 1) acts3 [] alq).2.2 = true := by decide +kernel
  have h1 : (mdl (plOf 2 1) acts3 [] alq).1 = [1, 2, 3] := by decide +kernel
  rw [← h, ← h1]
theorem pl21 (k : Bool) : plOf 2 1 k ≤ 2 := by cases k <;> simp [plOf]
set_option maxHeartbeats 8000000 in
/-- The chapter's example: true. -/
theorem alive29_ok (w : World) (hg : Handle w) : Calls Tryz.prog 11 #[] w fun e w' => e = .returned (.bool true) ∧ Below w.heap.size w w' := by
  have HSC := Lib.hid (sceneQ_ok hg (n := 2) (m := 1) (by omega) (by omega) (by omega))
  have HG := Lib.hid hg
  clear hg
  go_enter Tryz.func11, Tryz.ntmps11
  go_wp2_with fail
  refine HSC.out.mono ?_
  rintro e w1 ⟨pa, pb, g0, cap0, g1, cap1, S, rfl, hh, ha0, ha1, hp⟩
  have hp0 : QP w [g0, g1] pa pb g0 cap0 g1 cap1 (plOf 2 1) 0 0 (fun _ => []) S w1 := ⟨hh, by simp, by simp, ha0, ha1, hp⟩
  obtain ⟨rb, hrb⟩ : ∃ rb, w1.heap.size = rb := ⟨_, rfl⟩
  have B2 := (Below.refl w1.heap.size w1).alloc (Nat.le_refl _) (.cells #[.int .u64 ((ringQ (plOf 2 1) false).ins : Int), .int .u64 ((ringQ (plOf 2 1) false).outs : Int), .slice (some ⟨g0, 0, none⟩) 2 cap0, .int .u64 ((ringQ (plOf 2 1) true).ins : Int), .int .u64 ((ringQ (plOf 2 1) true).outs : Int), .slice (some ⟨g1, 0, none⟩) 1 cap1] 27)
  have C2 := Cells.new w1 (ringV (ringQ (plOf 2 1) false) g0 2 cap0 ++ ringV (ringQ (plOf 2 1) true) g1 1 cap1) 27
  obtain ⟨w2, hw2⟩ : ∃ w2, w1.alloc (.cells #[.int .u64 ((ringQ (plOf 2 1) false).ins : Int), .int .u64 ((ringQ (plOf 2 1) false).outs : Int), .slice (some ⟨g0, 0, none⟩) 2 cap0, .int .u64 ((ringQ (plOf 2 1) true).ins : Int), .int .u64 ((ringQ (plOf 2 1) true).outs : Int), .slice (some ⟨g1, 0, none⟩) 1 cap1] 27) = w2 := ⟨_, rfl⟩
  have C2' : Cells w2 rb (ringV (ringQ (plOf 2 1) false) g0 2 cap0 ++ ringV (ringQ (plOf 2 1) true) g1 1 cap1) 27 := by rw [← hw2, ← hrb]; exact C2
  rw [hw2] at B2
  have hp2 := hp0.came B2 [rb] (by have := C2'.lt; simp; omega)
  have HW2 := Lib.hid hw2; have HRB := Lib.hid hrb
  have HP1 := Lib.hid hp2; have HCR1 := Lib.hid C2'
  clear hh ha0 ha1 hp hp0 HSC B2 C2 C2' hw2 hrb hp2
  unfold ringsV
  go_upto_region 4 with (fail)
  rw [HW2.out, HRB.out]
  clear HW2 HRB
  have B1 := (Below.refl w2.heap.size w2).alloc (Nat.le_refl _) (.cells (acts1.flatMap encAct).toArray 32)
  have CA1 := Cells.new w2 (acts1.flatMap encAct) 32
  obtain ⟨ba1, hba1⟩ : ∃ ba, w2.heap.size = ba := ⟨_, rfl⟩
  obtain ⟨wa1, hwa1⟩ : ∃ wa, w2.alloc (.cells (acts1.flatMap encAct).toArray 32) = wa := ⟨_, rfl⟩
  rw [hwa1] at B1 CA1
  rw [hba1] at CA1
  have hpa1 := HP1.out.came B1 [ba1] (by have := CA1.lt; simp; omega)
  have hl1 := ActsIn.new w acts1 3 _ (by decide) (by decide) CA1
  have HRN1 := Lib.hid (run_next HG.out hpa1 (M := 2) hl1 (by simp) pl21 (by decide) (by decide) (by decide) (by decide) mdl_1)
  have HCA1 := Lib.hid (HCR1.out.heldBy (HeldBy.of_below (R := [rb]) B1 (by have := HCR1.out.lt; simp; omega)) (by simp))
  have HWA1 := Lib.hid (show w2.alloc (.cells #[.int .i64 1, .int .u64 1, .bool false, .int .i64 1, .int .u64 2, .bool false, .int .i64 1, .int .u64 3, .bool false] 32) = wa1 from hwa1); have HBA1 := Lib.hid hba1
  clear B1 CA1 hwa1 hba1 hpa1 hl1
  obtain ⟨⟨y0, y1, y2, y3, y4, y5⟩, -⟩ := six6 HCR1.out
  go_wp2_with fail
  rw [HWA1.out, HBA1.out]
  refine HRN1.out.mono ?_
  rintro e wx1 ⟨clk1, lv1, S1, rfl, hpx1, hk1, hs1, p1, cc1, rfl⟩
  have HCR2 := Lib.hid (HCA1.out.heldBy hk1 (by simp))
  have HP2 := Lib.hid hpx1
  have HS1 := Lib.hid hs1; have HK1 := Lib.hid hk1
  clear hpx1 hk1 hs1 y0 y1 y2 y3 y4 y5 HRN1 HCA1
  have HP2 := Lib.hid (show QP w _ pa pb g0 cap0 g1 cap1 (plOf 2 1) (0 + acts1.length + 1) clk1 (fun _ => []) S1 wx1 from HP2.out)
  have B2 := (Below.refl wx1.heap.size wx1).alloc (Nat.le_refl _) (.cells (acts2.flatMap encAct).toArray 32)
  have CA2 := Cells.new wx1 (acts2.flatMap encAct) 32
  obtain ⟨ba2, hba2⟩ : ∃ ba, wx1.heap.size = ba := ⟨_, rfl⟩
  obtain ⟨wa2, hwa2⟩ : ∃ wa, wx1.alloc (.cells (acts2.flatMap encAct).toArray 32) = wa := ⟨_, rfl⟩
  rw [hwa2] at B2 CA2
  rw [hba2] at CA2
  have hpa2 := HP2.out.came B2 [ba2] (by have := CA2.lt; simp; omega)
  have hl2 := ActsIn.new w acts2 2 _ (by decide) (by decide) CA2
  have HRN2 := Lib.hid (run_next HG.out hpa2 (M := 2) hl2 (by simp) pl21 (by decide) (by decide) (by decide) (by decide) mdl_2)
  have HCA2 := Lib.hid (HCR2.out.heldBy (HeldBy.of_below (R := [rb]) B2 (by have := HCR2.out.lt; simp; omega)) (by simp))
  have HWA2 := Lib.hid (show wx1.alloc (.cells #[.int .i64 1, .int .u64 1, .bool false, .int .i64 1, .int .u64 2, .bool false] 32) = wa2 from hwa2); have HBA2 := Lib.hid hba2
  clear B2 CA2 hwa2 hba2 hpa2 hl2
  obtain ⟨⟨y0, y1, y2, y3, y4, y5⟩, -⟩ := six6 HCR2.out
  go_wp2_with fail
  rw [HWA2.out, HBA2.out]
  refine HRN2.out.mono ?_
  rintro e wx2 ⟨clk2, lv2, S2, rfl, hpx2, hk2, hs2, p2, cc2, rfl⟩
  have HCR3 := Lib.hid (HCA2.out.heldBy hk2 (by simp))
  have HP3 := Lib.hid hpx2
  have HS2 := Lib.hid hs2; have HK2 := Lib.hid hk2
  clear hpx2 hk2 hs2 y0 y1 y2 y3 y4 y5 HRN2 HCA2
  have HP3 := Lib.hid (show QP w _ pa pb g0 cap0 g1 cap1 (plOf 2 1) (0 + acts1.length + 1 + acts2.length + 1) clk2 alq S2 wx2 from HP3.out)
  have B3 := (Below.refl wx2.heap.size wx2).alloc (Nat.le_refl _) (.cells (acts3.flatMap encAct).toArray 32)
  have CA3 := Cells.new wx2 (acts3.flatMap encAct) 32
  obtain ⟨ba3, hba3⟩ : ∃ ba, wx2.heap.size = ba := ⟨_, rfl⟩
  obtain ⟨wa3, hwa3⟩ : ∃ wa, wx2.alloc (.cells (acts3.flatMap encAct).toArray 32) = wa := ⟨_, rfl⟩
  rw [hwa3] at B3 CA3
  rw [hba3] at CA3
  have hpa3 := HP3.out.came B3 [ba3] (by have := CA3.lt; simp; omega)
  have hl3 := ActsIn.new w acts3 3 _ (by decide) (by decide) CA3
  have HRN3 := Lib.hid (run_next HG.out hpa3 (M := 2) hl3 (by simp) pl21 (by decide) (by decide) (by decide) (by decide) mdl_3)
  have HCA3 := Lib.hid (HCR3.out.heldBy (HeldBy.of_below (R := [rb]) B3 (by have := HCR3.out.lt; simp; omega)) (by simp))
  have HWA3 := Lib.hid (show wx2.alloc (.cells #[.int .i64 4, .int .u64 0, .bool false, .int .i64 1, .int .u64 3, .bool false, .int .i64 6, .int .u64 0, .bool false] 32) = wa3 from hwa3); have HBA3 := Lib.hid hba3
  clear B3 CA3 hwa3 hba3 hpa3 hl3
  obtain ⟨⟨y0, y1, y2, y3, y4, y5⟩, -⟩ := six6 HCR3.out
  go_wp2_with fail
  rw [HWA3.out, HBA3.out]
  refine HRN3.out.mono ?_
  rintro e wx3 ⟨clk3, lv3, S3, rfl, hpx3, hk3, hs3, p3, cc3, rfl⟩
  have HCR4 := Lib.hid (HCA3.out.heldBy hk3 (by simp))
  have HP4 := Lib.hid hpx3
  have HS3 := Lib.hid hs3; have HK3 := Lib.hid hk3
  clear hpx3 hk3 hs3 y0 y1 y2 y3 y4 y5 HRN3 HCA3
  have BZ := (Below.refl wx3.heap.size wx3).alloc (Nat.le_refl _) (.cells #[.int .u64 1, .int .u64 2, .int .u64 3] 23)
  have HSB := Lib.hid (SomeAt.new (cap := 3) (l := [1, 2, 3]) (Cells.new wx3 (encU [1, 2, 3]) 23))
  have HSA := Lib.hid (HS3.out.below BZ)
  have HTOP := Lib.hid (HP4.out.held.below.trans (BZ.mono HP4.out.held.below.size))
  clear BZ HP1 HP2 HP3 HP4 HCR1 HCR2 HCR3 HCR4 HS1 HS2 HS3 HK1 HK2 HK3 HWA1 HWA2 HWA3 HBA1 HBA2 HBA3
  go_wp2_with (go_at_call 10; refine (sameQ_ok (l := [1, 2, 3]) HSA.out HSB.out (by decide)).mono ?_; rintro e w' ⟨rfl, k, rfl⟩)
  go_ret
  exact ⟨rfl, HTOP.out.trans (below_drewN (Below.refl _ _) _ |>.mono HTOP.out.size)⟩
end Go.Proofs.YtdpamhhadpckpaaGreatDoor
