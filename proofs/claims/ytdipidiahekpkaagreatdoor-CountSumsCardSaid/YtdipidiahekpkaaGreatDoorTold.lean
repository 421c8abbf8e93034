/- Layer 18's laws: one transaction alone (told). -/
import Derived.Test.YtdipidiahekpkaaGreatDoorCntScene
namespace Go.Proofs.YtdipidiahekpkaaGreatDoor
open Go.RowKit Bl Th
set_option maxRecDepth 10000

/-- The world behind body. -/
def bodyWC (w : World) (clock g gcap : Nat) (lv : Value) (abort : Bool) (ps : Nat) : World := ((((w.alloc (.cells #[.int .u64 (clock : Int)] 25)).alloc (.cells #[.slice (some ⟨g, 0, none⟩) 4 gcap] 26)).alloc (.cells #[lv] 30)).alloc (.cells #[.bool abort] 4)).alloc (.cells #[.pointer (some ⟨ps, 0, none⟩)] 49)
theorem body18_ok (clock g gcap : Nat) (lp : Option Addr) (n lcap : Nat) (abort : Bool) (ps : Nat) (w : World) : Calls Tryz.prog 13 #[.int .u64 (clock : Int), .slice (some ⟨g, 0, none⟩) 4 gcap, .slice lp n lcap, .bool abort, .pointer (some ⟨ps, 0, none⟩)] w fun e w' =>
    ∃ fv, e = .returned fv ∧ fv = .func (.func 22) #[] #[.pointer (some ⟨w.heap.size, 0, none⟩), .pointer (some ⟨w.heap.size + 1, 0, none⟩), .pointer (some ⟨w.heap.size + 2, 0, none⟩), .pointer (some ⟨w.heap.size + 3, 0, none⟩), .pointer (some ⟨w.heap.size + 4, 0, none⟩)] ∧ w' = bodyWC w clock g gcap (.slice lp n lcap) abort ps := by
  have hmf : ∀ (fn : Fn) (first cap : Array Value) (w : World), (Instr.makeFunc fn first cap).run Tryz.prog w = .ok (.func fn first cap) w := fun _ _ _ _ => rfl
  go_enter Tryz.func13, Tryz.ntmps13
  go_wp2
  go_ret
  exact ⟨_, rfl, rfl, rfl⟩
theorem body18_set {W : World} {R : List Nat} {pa pb g gcap ps clock : Nat} {S : BS} {w : World} {lv : Value} {Qo : List Nat} {adds : List (Int × Int)} {abort : Bool} (h : Held W R pa pb S w) (hg : g ∈ R) (hQ : ∀ b ∈ Qo, b ∈ R) (hc : CellsIn w g cnt4) (hl : AddsIn W w lv Qo adds) :
    Below w.heap.size w (bodyWC w clock g gcap lv abort ps) ∧ Held W ([w.heap.size, w.heap.size + 1, w.heap.size + 2, w.heap.size + 3, w.heap.size + 4] ++ R) pa pb S (bodyWC w clock g gcap lv abort ps) ∧ SharedC W w.heap.size (w.heap.size + 1) (w.heap.size + 2) (w.heap.size + 3) (w.heap.size + 4) ps g 4 gcap lv Qo adds abort clock cnt4 (bodyWC w clock g gcap lv abort ps) := by
  have B : Below w.heap.size w (bodyWC w clock g gcap lv abort ps) := (((((Below.refl w.heap.size w).alloc (Nat.le_refl _) _).alloc (by simp) _).alloc (by simp; omega) _).alloc (by simp; omega) _).alloc (by simp; omega) _
  have k := HeldBy.of_below (R := R) B h.held
  have hz : (bodyWC w clock g gcap lv abort ps).heap.size = w.heap.size + 5 := by simp [bodyWC]
  refine ⟨B, h.came B _ (by intro b hb; rw [hz]; simp at hb; omega), ?_, ?_, ?_, ?_, ?_, hc.heldBy k hg, hl.heldBy k hQ⟩
  · exact (((((Cells.new w [.int .u64 (clock : Int)] 25).alloc _).alloc _).alloc _).alloc _)
  · have := (((Cells.new (w.alloc (.cells #[.int .u64 (clock : Int)] 25)) [.slice (some ⟨g, 0, none⟩) 4 gcap] 26).alloc (.cells #[lv] 30)).alloc (.cells #[.bool abort] 4)).alloc (.cells #[.pointer (some ⟨ps, 0, none⟩)] 49)
    simpa [bodyWC] using this
  · have := ((Cells.new ((w.alloc (.cells #[.int .u64 (clock : Int)] 25)).alloc (.cells #[.slice (some ⟨g, 0, none⟩) 4 gcap] 26)) [lv] 30).alloc (.cells #[.bool abort] 4)).alloc (.cells #[.pointer (some ⟨ps, 0, none⟩)] 49)
    simpa [bodyWC] using this
  · have := (Cells.new (((w.alloc (.cells #[.int .u64 (clock : Int)] 25)).alloc (.cells #[.slice (some ⟨g, 0, none⟩) 4 gcap] 26)).alloc (.cells #[lv] 30)) [.bool abort] 4).alloc (.cells #[.pointer (some ⟨ps, 0, none⟩)] 49)
    simpa [bodyWC] using this
  · have := Cells.new ((((w.alloc (.cells #[.int .u64 (clock : Int)] 25)).alloc (.cells #[.slice (some ⟨g, 0, none⟩) 4 gcap] 26)).alloc (.cells #[lv] 30)).alloc (.cells #[.bool abort] 4)) [.pointer (some ⟨ps, 0, none⟩)] 49
    simpa [bodyWC] using this
/-- What one transaction leaves. -/
def ToldPost (W : World) (R : List Nat) (pa pb : Nat) (adds : List (Int × Int)) (abort : Bool) (clk : Nat) (val : Nat → Nat) (w : World) (e : Ending) (w' : World) : Prop :=
  ∃ (S' : BS) (clk' : Nat) (ver' : Nat → Nat), e = .returned (.tuple #[.agg #[.int .i64 (toI (sumJ val (List.range 4) 0)), .int .i64 (toI (sumJ (addJ 4 adds val) (List.range 4) 0))], .bool true]) ∧ Held W R pa pb S' w' ∧ HeldBy R w w' ∧ Sc 4 S' clk' (fun i => rest (ver' i)) (if abort = true then val else addJ 4 adds val) ∧ (∀ i, i < 4 → ver' i ≤ clk') ∧ clk' ≤ clk + 1
set_option maxHeartbeats 4000000 in
theorem told_ok {W : World} (hg : Handle W) {R : List Nat} {pa pb g gcap clk lcap : Nat} {lp : Option Addr} {S : BS} {w : World} {Qo : List Nat} {adds : List (Int × Int)} {ver val : Nat → Nat} (abort : Bool) (h : Held W R pa pb S w) (hgR : g ∈ R) (hQ : ∀ b ∈ Qo, b ∈ R) (hci : CellsIn w g cnt4) (hl : AddsIn W w (.slice lp adds.length lcap) Qo adds) (hsc : Sc 4 S clk (fun i => rest (ver i)) val) (hv : ∀ i, i < 4 → ver i ≤ clk) (hc : clk + 1 ≤ 281474976710655) (hlen : adds.length ≤ 20) :
    Calls Tryz.prog 6 #[.pointer (some ⟨pb, 0, none⟩), .int .u64 1, .slice (some ⟨g, 0, none⟩) 4 gcap, .slice lp adds.length lcap, .bool abort] w (ToldPost W R pa pb adds abort clk val w) := by
  obtain ⟨S', clk', ver', f, hgo, hf, hsc', hv', hclk⟩ := bodyC_goes (cells := cnt4) (by omega) (by omega) cnt4_map cnt4_stripe hsc hv hc hlen abort
  obtain ⟨s', L, nn, erun⟩ := goes_run hgo (by omega) 7000 (by omega) (by omega) ((0 : Int), (0 : Int))
  obtain ⟨rb, hrb⟩ : ∃ rb, w.heap.size = rb := ⟨_, rfl⟩
  have B0 := ((Below.refl w.heap.size w).alloc (Nat.le_refl _) (.cells #[.int .i64 0, .int .i64 0] 33)).alloc (by simp) (.cells #[.int .i64 0, .int .i64 0] 33)
  have C0 := (Cells.new w [.int .i64 0, .int .i64 0] 33).alloc (.cells #[.int .i64 0, .int .i64 0] 33)
  have C1 := Cells.new (w.alloc (.cells #[.int .i64 0, .int .i64 0] 33)) [.int .i64 0, .int .i64 0] 33
  rw [World.size_alloc] at C1
  obtain ⟨w0, hw0⟩ : ∃ w0, (w.alloc (.cells #[.int .i64 0, .int .i64 0] 33)).alloc (.cells #[.int .i64 0, .int .i64 0] 33) = w0 := ⟨_, rfl⟩
  have hz0 : w0.heap.size = rb + 2 := by rw [← hw0, ← hrb]; simp
  rw [hw0] at B0 C0 C1
  have hk0 := HeldBy.of_below (R := R) B0 h.held
  have h0 := h.came B0 [rb, rb + 1] (by intro b hb; simp at hb; omega)
  have hW := h.below.size
  rw [hrb] at C0 C1 hW
  obtain ⟨S1, S2, S3⟩ := body18_set (ps := rb + 1) (clock := 1) (gcap := gcap) (abort := abort) h0 (by simp [hgR]) (fun b hb => by simp [hQ b hb]) (hci.heldBy hk0 hgR) (hl.heldBy hk0 hQ)
  have hq : (sumsAux W (rb + 1)).at' (0, 0) [rb + 1] (bodyWC w0 1 g gcap (.slice lp adds.length lcap) abort (rb + 1)) := ⟨rfl, by omega, C1.heldBy (R := [rb + 1]) (HeldBy.of_below S1 (by simp; omega)) (by simp)⟩
  have HN := Lib.hid (tnew_newC S2 (sumsAux W (rb + 1)) _ hq (by simp) 22 #[.pointer (some ⟨w0.heap.size, 0, none⟩), .pointer (some ⟨w0.heap.size + 1, 0, none⟩), .pointer (some ⟨w0.heap.size + 2, 0, none⟩), .pointer (some ⟨w0.heap.size + 3, 0, none⟩), .pointer (some ⟨w0.heap.size + 4, 0, none⟩)])
  have HG := Lib.hid hg; have HS1 := Lib.hid S1; have HS2 := Lib.hid S2; have HS3 := Lib.hid S3; have HC0 := Lib.hid C0; have HK0 := Lib.hid hk0; have HLT := Lib.hid (show ∀ b ∈ R, b < rb by rw [← hrb]; exact h.held); have HZ0 := Lib.hid hz0; have HWR := Lib.hid hW; have HB0 := Lib.hid B0; have HGR := Lib.hid hgR; have HQ := Lib.hid hQ
  have HFF := Lib.hid (show f s' = (toI (sumJ val (List.range 4) 0), toI (sumJ (addJ 4 adds val) (List.range 4) 0)) from hf s'); have HSC := Lib.hid hsc'; have HV := Lib.hid hv'; have HCK := Lib.hid hclk; have HRB := Lib.hid hrb
  have HER := Lib.hid (show Th.run (treeBody fun _ => bodyC adds abort 1 cnt4) 7000 ((Th.start ((0 : Int), (0 : Int))).err, Th.start ((0 : Int), (0 : Int)), S) = (0, ⟨L, 0, nn, true, 0, f s'⟩, S') from erun)
  have HW0 := Lib.hid hw0
  clear hgo hf hsc' hv' hclk erun hrb B0 C0 C1 hz0 hk0 h0 hW S1 S2 S3 hq h hgR hQ hci hl hsc hv hc hlen hg hw0
  go_enter Tryz.func6, Tryz.ntmps6
  go_wp2_with fail
  rw [HW0.out, HRB.out]
  refine (body18_ok 1 g gcap lp adds.length lcap abort (rb + 1) w0).mono ?_
  rintro e w1 ⟨fv, rfl, rfl, rfl⟩
  go_wp2_with fail
  refine HN.out.mono ?_
  rintro e w2 ⟨pt, rfl, ht, hh2, hb2, hpt⟩
  have hz1 : (bodyWC w0 1 g gcap (.slice lp adds.length lcap) abort (rb + 1)).heap.size = rb + 7 := by simp [bodyWC, HZ0.out]
  rw [hz1] at hpt
  have hk2 := HeldBy.of_below hb2 HS2.out.held
  have hP := HS3.out.heldBy hk2 (by
    intro b hb
    have := HGR.out
    have := HQ.out b
    simp [shC] at hb ⊢
    rcases hb with q | q | q | q | q | q | q <;> simp_all)
  obtain ⟨z, hz⟩ : ∃ z, w0.heap.size = z := ⟨_, rfl⟩
  have hze : z = rb + 2 := by rw [← hz, HZ0.out]
  rw [hz] at ht hh2 hP hk2
  have hR := trun_ok (R := [z, z + 1, z + 2, z + 3, z + 4] ++ (rb :: R)) (S := S) (bodyC_body (pa := pa) (g := g) (gcap := gcap) (Qo := Qo) (lp := lp) (lcap := lcap) (adds := adds) (abort := abort) (clock := 1) (cells := cnt4) (n := 4) HG.out rfl (by omega) (by omega) (by omega) (by simp [cnt4])) ht (hh2.less (by
    intro b hb
    simp at hb ⊢
    rcases hb with q | q | q | q | q | q | q | q | q <;> simp [q])) (by
    intro b hb hm
    simp at hb hm
    rcases hm with q | q | q | q | q | q | q
    all_goals first
      | omega
      | (have := HLT.out b q; omega)) (by
    intro b hb
    have := HGR.out
    have := HQ.out b
    simp [shC] at hb ⊢
    rcases hb with q | q | q | q | q | q | q <;> simp_all) hP 7000 (by show 0 + 7000 ≤ 3000000000; omega)
  rw [HER.out] at hR
  have HR := Lib.hid hR
  have hlo : ∀ b ∈ rb :: R, b < rb + 1 := fun b hb => by
    rcases List.mem_cons.1 hb with q | q
    · omega
    · have := HLT.out b q
      omega
  have HKW := Lib.hid (show HeldBy (rb :: R) w0 w2 from (HeldBy.of_below HS1.out (fun b hb => by have := hlo b hb; have := HZ0.out; omega)).trans (HeldBy.of_below hb2 (fun b hb => by have := hlo b hb; omega)))
  clear ht hh2 hb2 hpt hk2 hP hR HN HS1 HS2 HS3 hz1 hlo HER
  go_wp2_with fail
  refine HR.out.mono ?_
  rintro e w3 ⟨v, E, B', rfl, he, ht3, hh3, hk3, -, hB3⟩
  simp only at he ht3 hh3
  obtain ⟨rfl, rfl⟩ := he.isNil rfl
  have hd := tdone_ok ht3
  have HDD := Lib.hid hd
  obtain ⟨lv, ev, E2, Q2, rfl, hl⟩ := ht3
  have hau := hl.aux
  rw [HFF.out] at hau
  obtain ⟨rfl, -, a1⟩ := hau
  have q0 := a1.cell 0
  have q1 := a1.cell 1
  have r := HC0.out.heldBy (R := rb :: R) (HKW.out.trans (hk3.less fun b hb => List.mem_append_right _ hb)) (by simp)
  have r0 := r.cell 0
  have r1 := r.cell 1
  have f0 := r.free 0
  have f1 := r.free 1
  simp only [List.getElem?_cons_zero, List.getElem?_cons_succ] at q0 q1 r0 r1
  obtain ⟨sa, hsa⟩ : ∃ sa, toI (sumJ val (List.range 4) 0) = sa := ⟨_, rfl⟩
  obtain ⟨sb, hsb⟩ : ∃ sb, toI (sumJ (addJ 4 adds val) (List.range 4) 0) = sb := ⟨_, rfl⟩
  rw [hsa] at q0
  rw [hsb] at q1
  have k4 : Kept (fun b => b = rb) w3 ((w3.setCell ⟨rb, 0, none⟩ (.int .i64 sa)).setCell ⟨rb, 1, none⟩ (.int .i64 sb)) := ((Kept.refl (fun b => b = rb) w3).setCell (p := ⟨rb, 0, none⟩) (fun _ => rfl) _).setCell (p := ⟨rb, 1, none⟩) (fun _ => rfl) _
  have hh4 : Held W (rb :: R) pa pb S' w3 := hh3.less (fun b hb => by simp at hb ⊢; rcases hb with q | q <;> simp [q])
  have hW3 := HWR.out
  have HH5 := Lib.hid (show Held W (rb :: R) pa pb S' ((w3.setCell ⟨rb, 0, none⟩ (.int .i64 sa)).setCell ⟨rb, 1, none⟩ (.int .i64 sb)) from hh4.step (k4.mono fun b _ e => by simp [e]) (hh4.below.trans (k4.below hh4.below.size fun k hk e => by omega)) (fun b hb => ⟨.inl hb, Nat.lt_of_lt_of_le (hh4.held b hb) k4.size⟩))
  have HK5 := Lib.hid (show HeldBy R w ((w3.setCell ⟨rb, 0, none⟩ (.int .i64 sa)).setCell ⟨rb, 1, none⟩ (.int .i64 sb)) from ((HK0.out.trans (HKW.out.less fun b hb => by simp [hb])).trans (hk3.less fun b hb => by simp [hb])).trans ⟨k4.size, fun b hb => k4.block b (hh4.held b (by simp [hb])) (fun e => by have := HLT.out b hb; omega)⟩)
  have HS := Lib.hid (show ∀ e, e = .returned (.tuple #[.agg #[.int .i64 sa, .int .i64 sb], .bool true]) → ToldPost W R pa pb adds abort clk val w e ((w3.setCell ⟨rb, 0, none⟩ (.int .i64 sa)).setCell ⟨rb, 1, none⟩ (.int .i64 sb)) from fun e he => ⟨S', clk', ver', by rw [hsa, hsb]; exact he, HH5.out.less (fun b hb => by simp [hb]), HK5.out, HSC.out, HV.out, HCK.out⟩)
  clear he hd hl hh3 hk3 hB3 a1 r k4 hh4 hW3 HH5 HK5 HR hsa hsb
  go_wp2_with (first | (go_at_call 14; refine (no_nil _).mono ?_; rintro e w' ⟨rfl, rfl⟩) | (go_at_call 16; refine HDD.out.mono ?_; rintro e w' ⟨rfl, rfl⟩))
  refine bodyPost_ret (v := .tuple #[.agg #[.int .i64 sa, .int .i64 sb], .bool true]) (by simp [results, Tryz.results6, go_sem, r0, r1]) rfl ?_
  exact HS.out _ rfl
end Go.Proofs.YtdipidiahekpkaaGreatDoor
