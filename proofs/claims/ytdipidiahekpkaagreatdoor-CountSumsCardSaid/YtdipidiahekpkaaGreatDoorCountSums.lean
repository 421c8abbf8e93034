/- CountSums: alive, and the law's walk. -/
import Derived.Test.YtdipidiahekpkaaGreatDoorTold
import Derived.Test.YtdipidiahekpkaaGreatDoorAddsArg
import Derived.Test.YtdipidiahekpkaaGreatDoorCameL
namespace Go.Proofs.YtdipidiahekpkaaGreatDoor
open Go.RowKit Bl Th
set_option maxRecDepth 10000

theorem und2 : Tryz.prog.underlying 33 = some (.array 2 3) := by kernel_rfl
theorem siz2 (w : World) : (sizeOf 3).run Tryz.prog w = .ok 1 w := by kernel_rfl
theorem pt0 (x y : Value) (w : World) : (part 3 #[x, y] 0).run Tryz.prog w = .ok x w := by simp [part]
theorem pt1 (x y : Value) (w : World) : (part 3 #[x, y] 1).run Tryz.prog w = .ok y w := by simp [part]
theorem eqi (a : Int) (w : World) : (Op.equalIn 9999 3 (.int .i64 a) (.int .i64 a)).run Tryz.prog w = .ok true w := by
  rw [run_equalIn_int w 9998 3 .i64 .i64 a a Tryz.underlying3]
  simp
/-- Two arrays of the same two numbers are equal. -/
theorem eq2 (a b : Int) (w : World) : (Op.equalIn 10000 33 (.agg #[.int .i64 a, .int .i64 b]) (.agg #[.int .i64 a, .int .i64 b])).run Tryz.prog w = .ok true w := by
  rw [show (10000 : Nat) = 9999 + 1 from rfl]
  unfold Op.equalIn
  simp only [Sem.run_bind, run_underlying und2, Result.andThen_ok, siz2, Nat.mul_one, Std.Legacy.Range.forIn_eq_forIn_range', Std.Legacy.Range.size]
  simp [List.range', Sem.run_bind, pt0, pt1, eqi]
/-- The example. -/
def al18 : List (Int × Int) := [(1, 1), (5, 1), (2, -1)]
theorem al18_in (W w : World) (g : Nat) (Q : List Nat) (hg : g ∈ Q) (h : Cells w g [.int .i64 1, .int .i64 1, .int .i64 5, .int .i64 1, .int .i64 2, .int .i64 (-1)] 32) : AddsIn W w (.slice (some ⟨g, 0, none⟩) 3 3) Q al18 := by
  refine ⟨⟨_, _, rfl, fun _ => ⟨g, 0, rfl, fun k m hk j hj => .inl ⟨hg, ?_⟩⟩⟩, by decide⟩
  rw [h.cell]
  match k, hk with
  | 0, hk => simp [al18] at hk; subst hk; match j, hj with | 0, _ => rfl | 1, _ => rfl
  | 1, hk => simp [al18] at hk; subst hk; match j, hj with | 0, _ => rfl | 1, _ => rfl
  | 2, hk => simp [al18] at hk; subst hk; match j, hj with | 0, _ => rfl | 1, _ => rfl
  | k + 3, hk => simp [al18] at hk
theorem al18_a : toI (sumJ (fun _ => 0) (List.range 4) 0) = 0 := by kernel_rfl
theorem al18_b : toI (sumJ (addJ 4 al18 (fun _ => 0)) (List.range 4) 0) = 1 := by kernel_rfl
set_option maxHeartbeats 4000000 in
theorem alive18_ok (w : World) (hg : Handle w) : Calls Tryz.prog 5 #[] w fun e w' => e = .returned (.bool true) ∧ Below w.heap.size w w' := by
  have HG := Lib.hid hg
  clear hg
  go_enter Tryz.func5, Tryz.ntmps5
  go_wp2_with fail
  refine (sceneC_ok HG.out w rfl).mono ?_
  rintro e w1 ⟨pa, pb, g, cap, rfl, hh, hc, -⟩
  obtain ⟨z, hz⟩ : ∃ z, w1.heap.size = z := ⟨_, rfl⟩
  have B2 := (Below.refl w1.heap.size w1).alloc (Nat.le_refl _) (.cells #[.int .i64 1, .int .i64 1, .int .i64 5, .int .i64 1, .int .i64 2, .int .i64 (-1)] 32)
  have C2 := Cells.new w1 [.int .i64 1, .int .i64 1, .int .i64 5, .int .i64 1, .int .i64 2, .int .i64 (-1)] 32
  obtain ⟨w2, hw2⟩ : ∃ w2, w1.alloc (.cells #[.int .i64 1, .int .i64 1, .int .i64 5, .int .i64 1, .int .i64 2, .int .i64 (-1)] 32) = w2 := ⟨_, rfl⟩
  have hz2 : w2.heap.size = z + 1 := by rw [← hw2, ← hz]; simp
  rw [hw2] at B2 C2
  have h2 : Held w [z, g] pa pb sceneSC w2 := by
    have := hh.came B2 [z] (by simp; omega)
    simpa using this
  rw [hz] at C2
  have HTL := Lib.hid (told_ok (W := w) HG.out (g := g) (gcap := cap) (lp := some ⟨z, 0, none⟩) (lcap := 3) (adds := al18) (Qo := [z]) false h2 (by simp) (by simp) (hc.heldBy (HeldBy.of_below B2 hh.held) (by simp)) (al18_in w w2 z [z] (by simp) C2) sceneC_sc (fun _ _ => Nat.zero_le _) (by omega) (by decide))
  clear hh hc B2 C2 hz2 h2
  go_wp2_with fail
  refine HTL.out.mono ?_
  rintro e w3 ⟨S', clk', ver', rfl, hh3, -, -, -, -⟩
  rw [al18_a, al18_b]
  have HB := Lib.hid hh3.below
  have eq := eq2 0 1
  clear HTL hh3 hw2 hz
  go_wp2
  go_ret
  exact ⟨rfl, HB.out.trans (((Below.refl w3.heap.size w3).alloc (Nat.le_refl _) _).mono HB.out.size)⟩

theorem addss_at {W w : World} {p : Option Addr} {m cap : Nat} {L : List (List (Int × Int))} (h : AddssAt W (.slice p m cap) L) (hb : Below W.heap.size W w) {k : Nat} {l : List (Int × Int)} (hk : L[k]? = some l) :
    ∃ g o q c, p = some ⟨g, o, none⟩ ∧ w.cell? ⟨g, o + k, none⟩ = some (.slice q l.length c) ∧ AddsAt W (.slice q l.length c) l := by
  obtain ⟨p', cap', hv, -, hp⟩ := h
  simp only [Value.slice.injEq] at hv
  obtain ⟨rfl, -, rfl⟩ := hv
  obtain ⟨g, o, hg, hc⟩ := hp (fun e => by simp [e] at hk)
  obtain ⟨vk, h1, h2⟩ := hc k l hk
  obtain ⟨⟨q, c, hv⟩, -⟩ := id h2
  subst hv
  exact ⟨g, o, q, c, hg, (hb.cell (p := ⟨g, o + k, none⟩) (World.block_lt_of_cell? W _ h1)).trans h1, h2⟩
/-- The sum so far, a number more. -/
theorem toI_more (x : Nat) (n : Int) (s : Nat) : IntKind.i64.wrap (toI ((x + s) % 18446744073709551616) + n) = toI ((x + (s + toU n)) % 18446744073709551616) := by
  rw [IntWalk.i64_left]
  unfold wrap64 toI toU
  split <;> split <;> omega
def nx (x : Nat) (l : List (Int × Int)) (k : Nat) : Int := toI ((x + ((l.take k).map fun a => toU a.2).sum) % 18446744073709551616)
theorem nx_more {x : Nat} {l : List (Int × Int)} {k : Nat} {a : Int × Int} (h : l[k]? = some a) : IntKind.i64.wrap (nx x l k + a.2) = nx x l (k + 1) := by
  unfold nx
  rw [toI_more, List.take_add_one, h]
  simp [List.sum_append]
def abAt (lb : List Bool) (k : Nat) : Bool := (lb[k]?).getD false
/-- What holds at each transaction's head. -/
def SumsJ (W : World) (pa pb g : Nat) (L : List (List (Int × Int))) (sv iv : Value) (wr : World) : Prop :=
  ∃ (k clk : Nat) (val ver : Nat → Nat) (S : BS), k ≤ L.length ∧ iv = .int .i64 (k : Int) ∧ sv = .int .i64 (toI (sumJ val (List.range 4) 0)) ∧ clk ≤ k ∧ (∀ i, i < 4 → ver i ≤ clk) ∧ Sc 4 S clk (fun i => rest (ver i)) val ∧ Held W [g] pa pb S wr ∧ CellsIn wr g cnt4
theorem sumJ_small (now : Nat → Nat) : sumJ now (List.range 4) 0 < 18446744073709551616 := by
  show sumJ now [0, 1, 2, 3] 0 < _
  simp only [sumJ]
  omega
set_option maxHeartbeats 8000000 in
theorem countSums_ok (v0 v1 : Value) (L : List (List (Int × Int))) (lb : List Bool) (W : World) (hT : Handle W) (hL : AddssAt W v0 L) (hB : CameL W v1 (lb.map .bool)) :
    Calls Tryz.prog 3 #[v0, v1] W fun e w' => e = .returned (.bool true) ∧ Below W.heap.size W w' := by
  obtain ⟨p, cap, hv, hm, hp⟩ := id hL
  subst hv
  obtain ⟨pb', capb, hv1, hmb⟩ := hB.shape
  subst hv1
  rw [List.length_map] at hB hmb ⊢
  obtain ⟨len, hlen⟩ : ∃ len, L.length = len := ⟨_, rfl⟩
  have HLN := Lib.hid hlen; have HT := Lib.hid hT; have HL := Lib.hid hL; have HBB := Lib.hid hB
  rw [hlen] at HL hm ⊢
  unfold maxLen at hm hmb
  have HP := Lib.hid hp
  obtain ⟨nb, hnb⟩ : ∃ nb, lb.length = nb := ⟨_, rfl⟩
  have HNB := Lib.hid hnb
  rw [hnb] at HBB hmb ⊢
  clear hT hL hB hp hlen hnb
  go_enter Tryz.func3, Tryz.ntmps3
  go_wp2_with fail
  refine (sceneC_ok HT.out W rfl).mono ?_
  rintro e w1 ⟨pa, pb, g, gcap, rfl, hh, hc, -⟩
  have HB1 := Lib.hid hh.below
  have HT1 := Lib.hid (HT.out.below HT.out.lt hh.below)
  by_cases h6 : 6 < len
  · have g6 : (6 : Int) < (len : Int) := by omega
    have g6' : decide ((6 : Int) < (len : Int)) = true := by simp; omega
    clear hh hc
    go_wp2_with (go_at_call 5; refine (alive18_ok _ HT1.out).mono ?_; rintro e w' ⟨rfl, hb⟩)
    go_ret
    exact ⟨rfl, HB1.out.trans (hb.mono HB1.out.size)⟩
  · have g6 : decide ((6 : Int) < (len : Int)) = false := by simp; omega
    have hlen6 : len ≤ 6 := by omega
    have HJ := Lib.hid (show SumsJ W pa pb g L (.int .i64 0) (.int .i64 0) w1 from ⟨0, 0, fun _ => 0, fun _ => 0, sceneSC, Nat.zero_le _, rfl, by rw [al18_a], Nat.le_refl _, fun _ _ => Nat.le_refl _, sceneC_sc, hh, hc⟩)
    clear hh hc h6
    go_wp2
    go_loopw [8, 35] (SumsJ W pa pb g L) (fun _ i _ => len - (intOf i).toNat)
    case atStart => exact HJ.out
    case round =>
      clear HJ
      obtain ⟨k, clk, val, ver, S, hk, rfl, rfl, hck, hv, hsc, hh, hc⟩ := hrel
      obtain ⟨w5, rfl⟩ : ∃ w5, w5 = wr := ⟨_, rfl⟩
      rw [HLN.out] at hk
      by_cases hlt : k < len
      · have hlt' : (k : Int) < (len : Int) := by omega
        obtain ⟨l, hx⟩ : ∃ l, L[k]? = some l := ⟨L[k]'(by rw [HLN.out]; exact hlt), List.getElem?_eq_getElem _⟩
        obtain ⟨g0, o0, q, c, hp0, q6, hops⟩ := addss_at (p := p) (m := len) (cap := cap) HL.out hh.below hx
        subst hp0
        have hll : l.length ≤ 9223372036854775807 := hops.2.1
        obtain ⟨ll, hle⟩ : ∃ ll, l.length = ll := ⟨_, rfl⟩
        have HLE := Lib.hid hle
        have HB := Lib.hid hh.below
        have HTB := Lib.hid (HT.out.below HT.out.lt HB.out)
        have HH := Lib.hid hh; have HC := Lib.hid hc; have HSC := Lib.hid hsc; have HV := Lib.hid hv; have HOPS := Lib.hid hops; have HX := Lib.hid hx
        rw [hle] at q6 hll
        clear hh hc hsc hv hops hx hle
        by_cases h20 : 20 < ll
        · have g20 : decide ((20 : Int) < (ll : Int)) = true := by simp; omega
          go_wp2_with (go_at_call 5; refine (alive18_ok _ HTB.out).mono ?_; rintro e w' ⟨rfl, hb⟩)
          go_ret
          exact ⟨rfl, HB.out.trans (hb.mono HB.out.size)⟩
        · have g20 : decide ((20 : Int) < (ll : Int)) = false := by simp; omega
          have hl20 : ll ≤ 20 := by omega
          have HL20 := Lib.hid hl20
          obtain ⟨T, hT⟩ : ∃ T, sumJ val (List.range 4) 0 = T := ⟨_, rfl⟩
          have HTT := Lib.hid hT
          have hT64 : T < 18446744073709551616 := by rw [← hT]; exact sumJ_small val
          have hn0 : toI T = nx T l 0 := by
            unfold nx
            rw [List.take_zero, List.map_nil, List.sum_nil, Nat.add_zero, Nat.mod_eq_of_lt hT64]
          have HN0 := Lib.hid hn0
          rw [hT, hn0]
          clear hT hT64 hn0 h20 hll
          go_wp2
          go_loopw [10, 51] (fun nv i wr' => ∃ j : Nat, j ≤ ll ∧ i = .int .i64 (j : Int) ∧ nv = .int .i64 (nx T l j) ∧ Below w5.heap.size w5 wr') (fun _ i _ => ll - (intOf i).toNat)
          case atStart => exact ⟨0, Nat.zero_le _, rfl, rfl, Below.refl _ _⟩
          case round =>
            obtain ⟨j, hj, rfl, rfl, hb⟩ := hrel
            obtain ⟨w6, rfl⟩ : ∃ w6, w6 = wr := ⟨_, rfl⟩
            have hb6 : Below W.heap.size W w6 := HB.out.trans (hb.mono HB.out.size)
            by_cases hjl : j < ll
            · have hjl' : (j : Int) < (ll : Int) := by omega
              obtain ⟨a, ha⟩ : ∃ a, l[j]? = some a := ⟨l[j]'(by rw [HLE.out]; exact hjl), List.getElem?_eq_getElem _⟩
              obtain ⟨ga, oa, hq, a0, a1⟩ := (HOPS.out.2.2 w6 [] (by rw [HLE.out]; have := HL20.out; omega)).at hb6 ha
              subst hq
              have g1 := nx_more (x := T) ha
              obtain ⟨ak, an⟩ := a
              simp only at a0 a1 g1
              have hb7 := hb.trans (((Below.refl w6.heap.size w6).alloc (Nat.le_refl _) (.cells #[.int .i64 ak, .int .i64 an] 32)).mono hb.size)
              have HB7 := Lib.hid hb7
              clear hb hb6 ha hb7
              go_wp2
              go_roundw
              case rel => exact ⟨j + 1, by omega, by go_num, rfl, HB7.out⟩
              case measure => simp [intOf]; omega
            · obtain rfl : j = ll := by omega
              have g3 : decide ((j : Int) < (j : Int)) = false := by simp
              rw [← HN0.out]
              have HH6 := Lib.hid (show Held W [g] pa pb S w6 from by simpa using HH.out.came hb [] (by simp))
              have HC6 := Lib.hid (HC.out.heldBy (HeldBy.of_below hb HH.out.held) (by simp))
              have q7 := (hb.cell (p := ⟨g0, o0 + k, none⟩) (World.block_lt_of_cell? w5 _ q6)).trans q6
              have HNX := Lib.hid (show toI (sumJ (addJ 4 l val) (List.range 4) 0) = nx T l j by
                unfold nx
                rw [sum_addJ, HTT.out, ← HLE.out, List.take_length])
              by_cases hkb : k < nb
              · have hkb' : (k : Int) < (nb : Int) := by omega
                obtain ⟨b, hb0⟩ : ∃ b, lb[k]? = some b := ⟨lb[k]'(by rw [HNB.out]; exact hkb), List.getElem?_eq_getElem _⟩
                obtain ⟨ad, hpb, qb⟩ := HBB.out.cell hb6 (i := k) (x := .bool b) (by rw [List.getElem?_map, hb0]; rfl)
                subst hpb
                clear hb hb6 hb0 q6
                cases b with
                | true =>
                  have HTL := Lib.hid (told_ok (W := W) HT.out (g := g) (gcap := gcap) (lp := q) (lcap := c) (adds := l) (Qo := []) true HH6.out (by simp) (by simp) HC6.out (HOPS.out.2.2 w6 [] (by rw [HLE.out]; omega)) HSC.out HV.out (by omega) (by rw [HLE.out]; exact HL20.out))
                  rw [HLE.out] at HTL
                  go_wp2_with fail
                  refine HTL.out.mono ?_
                  rintro e w7 ⟨S', clk', ver', rfl, hh7, hk7, hsc7, hv7, hck7⟩
                  have eq := eq2 (toI T) (nx T l j)
                  rw [HTT.out, HNX.out]
                  have HREL := Lib.hid (fun (wx : World) (hbx : Below w7.heap.size w7 wx) => (show SumsJ W pa pb g L (.int .i64 (toI T)) (.int .i64 ((k + 1 : Nat) : Int)) wx from ⟨k + 1, clk', val, ver', S', by rw [HLN.out]; omega, rfl, by rw [HTT.out], by omega, hv7, by simpa using hsc7, by simpa using hh7.came hbx [] (by simp), (HC6.out.heldBy hk7 (by simp)).heldBy (HeldBy.of_below (R := [g]) hbx hh7.held) (by simp)⟩))
                  have g9 : IntKind.i64.wrap ((k : Int) + 1) = ((k + 1 : Nat) : Int) := by rw [IntWalk.i64_in _ (by omega)]; rfl
                  clear hh7 hk7 hsc7 hv7 hck7 HTL
                  go_wp2
                  go_roundw
                  case rel => exact HREL.out _ ((Below.refl w7.heap.size w7).alloc (Nat.le_refl _) _)
                  case measure => simp [intOf]; omega
                | false =>
                  have HTL := Lib.hid (told_ok (W := W) HT.out (g := g) (gcap := gcap) (lp := q) (lcap := c) (adds := l) (Qo := []) false HH6.out (by simp) (by simp) HC6.out (HOPS.out.2.2 w6 [] (by rw [HLE.out]; omega)) HSC.out HV.out (by omega) (by rw [HLE.out]; exact HL20.out))
                  rw [HLE.out] at HTL
                  go_wp2_with fail
                  refine HTL.out.mono ?_
                  rintro e w7 ⟨S', clk', ver', rfl, hh7, hk7, hsc7, hv7, hck7⟩
                  have eq := eq2 (toI T) (nx T l j)
                  rw [HTT.out, HNX.out]
                  have HREL := Lib.hid (fun (wx : World) (hbx : Below w7.heap.size w7 wx) => (show SumsJ W pa pb g L (.int .i64 (nx T l j)) (.int .i64 ((k + 1 : Nat) : Int)) wx from ⟨k + 1, clk', addJ 4 l val, ver', S', by rw [HLN.out]; omega, rfl, by rw [HNX.out], by omega, hv7, by simpa using hsc7, by simpa using hh7.came hbx [] (by simp), (HC6.out.heldBy hk7 (by simp)).heldBy (HeldBy.of_below (R := [g]) hbx hh7.held) (by simp)⟩))
                  have g9 : IntKind.i64.wrap ((k : Int) + 1) = ((k + 1 : Nat) : Int) := by rw [IntWalk.i64_in _ (by omega)]; rfl
                  clear hh7 hk7 hsc7 hv7 hck7 HTL
                  go_wp2
                  go_roundw
                  case rel => exact HREL.out _ ((Below.refl w7.heap.size w7).alloc (Nat.le_refl _) _)
                  case measure => simp [intOf]; omega
              · have hkb' : decide ((k : Int) < (nb : Int)) = false := by simp; omega
                clear hb hb6 q6
                have HTL := Lib.hid (told_ok (W := W) HT.out (g := g) (gcap := gcap) (lp := q) (lcap := c) (adds := l) (Qo := []) false HH6.out (by simp) (by simp) HC6.out (HOPS.out.2.2 w6 [] (by rw [HLE.out]; omega)) HSC.out HV.out (by omega) (by rw [HLE.out]; exact HL20.out))
                rw [HLE.out] at HTL
                go_wp2_with fail
                refine HTL.out.mono ?_
                rintro e w7 ⟨S', clk', ver', rfl, hh7, hk7, hsc7, hv7, hck7⟩
                have eq := eq2 (toI T) (nx T l j)
                rw [HTT.out, HNX.out]
                have HREL := Lib.hid (fun (wx : World) (hbx : Below w7.heap.size w7 wx) => (show SumsJ W pa pb g L (.int .i64 (nx T l j)) (.int .i64 ((k + 1 : Nat) : Int)) wx from ⟨k + 1, clk', addJ 4 l val, ver', S', by rw [HLN.out]; omega, rfl, by rw [HNX.out], by omega, hv7, by simpa using hsc7, by simpa using hh7.came hbx [] (by simp), (HC6.out.heldBy hk7 (by simp)).heldBy (HeldBy.of_below (R := [g]) hbx hh7.held) (by simp)⟩))
                have g9 : IntKind.i64.wrap ((k : Int) + 1) = ((k + 1 : Nat) : Int) := by rw [IntWalk.i64_in _ (by omega)]; rfl
                clear hh7 hk7 hsc7 hv7 hck7 HTL
                go_wp2
                go_roundw
                case rel => exact HREL.out _ ((Below.refl w7.heap.size w7).alloc (Nat.le_refl _) _)
                case measure => simp [intOf]; omega
      · obtain rfl : k = len := by omega
        have g3 : decide ((k : Int) < (k : Int)) = false := by simp
        have HB := Lib.hid hh.below
        have HTB := Lib.hid (HT.out.below HT.out.lt HB.out)
        clear hh hc hsc hv
        go_wp2_with (go_at_call 5; refine (alive18_ok _ HTB.out).mono ?_; rintro e w' ⟨rfl, hb⟩)
        go_ret
        exact ⟨rfl, HB.out.trans (hb.mono HB.out.size)⟩
end Go.Proofs.YtdipidiahekpkaaGreatDoor
