/- BlocksRoom: the walk. -/
import Derived.Test.YtfehonejcambgaaDoorBoth
import Derived.Test.YtfehonejcambgaaDoorRoomPlain
import Derived.Test.YtfehonejcambgaaDoorCame
namespace Go.Proofs.YtfehonejcambgaaDoor
open Go.RowKit Bl
set_option maxRecDepth 100000

theorem both_ok {W : World} {pb : Nat} {S : BS} {v : Value} {l : List Nat} {wr : World} (h : Both W pb S v l wr) : Ok S := by
  obtain ⟨L, h1, h2⟩ := h.own.lay
  exact h1.ok
/-- What the loop has: the blocks, the refs, the greatest number. -/
def RoomAt (W : World) (pb N : Nat) (v : Value) (most : Value) (k : Nat) (wr : World) : Prop :=
  ∃ (refs : List Nat) (S : BS) (m : Nat), most = .int .i64 (m : Int) ∧ m ≤ k ∧ Both W pb S v refs wr ∧ Room N refs m k S

set_option maxHeartbeats 2000000 in
theorem blocksRoom_ok (n : Int) (v : Value) (l : List Bool) (w : World) (hg : Handle w) (hv : Came w v (l.map .bool)) :
    Calls Tryd.prog 4 #[.int .i64 n, v] w fun e w' => e = .returned (.bool true) ∧ Below w.heap.size w w' := by
  have HA := Lib.hid hg
  have hgl := Lib.hid hg.lt
  obtain ⟨p, cap, rfl, hlm⟩ := hv.shape
  rw [List.length_map] at hv hlm ⊢
  unfold maxLen at hlm
  have HCL := Lib.hid hv
  clear hg hv
  obtain ⟨Z, hZ⟩ : ∃ Z, l.length = Z := ⟨_, rfl⟩
  have HZ := Lib.hid hZ
  rw [hZ] at hlm HCL ⊢
  clear hZ
  go_enter Tryd.func4, Tryd.ntmps4
  go_wp2_with fail
  refine (on_ok 700 0 (by omega) (by omega) (by omega) w).mono ?_
  rintro e w1 ⟨pa, pb, rfl, h0⟩
  have H0 := Lib.hid h0
  clear h0
  by_cases hs : Z ≤ 60
  · have hd : decide ((60 : Int) < (Z : Int)) = false := decide_eq_false (by omega)
    go_wp2_with fail
    obtain ⟨N, hN1, hN8, hN⟩ := in_eight n
    rw [hN]
    have HB0 := Lib.hid (show RoomAt w pb N (.slice none 0 0) (.int .i64 0) 0 w1 from ⟨[], _, 0, rfl, Nat.le_refl _, ⟨H0.out, Row.nil _ _ _⟩, Room.start N⟩)
    clear H0 hN
    go_loopw [7, 8, 36] (fun most v i wr => ∃ k : Nat, k ≤ Z ∧ i = .int .i64 (k : Int) ∧ RoomAt w pb N v most k wr) (fun _ _ i _ => Z - (intOf i).toNat)
    case atStart => exact ⟨0, Nat.zero_le _, rfl, HB0.out⟩
    case round =>
      obtain ⟨k, hk, rfl, refs, S, m, rfl, hmk, hb, hroom⟩ := hrel
      obtain ⟨p2, cap2, hv2⟩ := hb.row.shape
      rw [List.length_map] at hv2
      subst hv2
      have HOK := Lib.hid (both_ok hb)
      have HROOM := Lib.hid hroom
      have HB := Lib.hid hb
      have hfr := hroom.frees
      have hrl : refs.length ≤ 60 := by omega
      clear hb hroom hfr
      by_cases hlt : k < Z
      · have hx : (l.map Value.bool)[k]? = some (.bool (l[k]'(by have := HZ.out; omega))) := by rw [List.getElem?_map, List.getElem?_eq_getElem]; rfl
        obtain ⟨a, rfl, hcell⟩ := HCL.out.cell HB.out.own.below hx
        clear hx
        obtain ⟨bb, hbb⟩ : ∃ bb, l[k]'(by have := HZ.out; omega) = bb := ⟨_, rfl⟩
        rw [hbb] at hcell
        clear hbb
        have hlt' : (k : Int) < (Z : Int) := by omega
        cases bb with
        | true =>
          obtain ⟨ref, S', hal, href, hr'⟩ := HROOM.out.alloc HOK.out hN1 hN8 (by omega) (by omega)
          have HC := Lib.hid (both_alloc HB.out hal)
          have HR' := Lib.hid hr'
          have HREF := Lib.hid href
          clear hal hr' href
          go_wp2_with fail
          refine HC.out.mono ?_
          rintro e w2 ⟨rfl, h2⟩
          have H2 := Lib.hid h2
          have hW2 := Lib.hid h2.own.below.size
          clear h2 HC
          go_wp2_with fail
          refine (no_nil _).mono ?_
          rintro e w' ⟨rfl, rfl⟩
          obtain ⟨i0, hi0, hz0, hz1, hz2⟩ := info_parts uintInfo
          have hROW : Row (w2.alloc (.cells #[.int .u64 (ref : Int)] 22)) w.heap.size 22 (.slice p2 refs.length cap2) (refs.map encR) := (H2.out.below' ((Below.refl _ _).alloc (Nat.le_refl _) _)).row
          have HROW := Lib.hid hROW
          have hlen : (refs.map encR).length = refs.length := by simp
          obtain ⟨xs, hxs⟩ : ∃ xs, refs.map encR = xs := ⟨_, rfl⟩
          rw [hxs] at HROW hlen
          have HXS := Lib.hid hxs
          have HLEN := Lib.hid hlen
          clear hROW hxs hlen
          go_wp2_with (first
            | (at_builtin; refine wpList_append_row _ rfl _ _ 50 rfl w.heap.size 22 i0 (.int .u64 0) 8 Tryd.underlying50 hi0 hz0 hz1 hz2 rfl _ xs rfl HROW.out ⟨w2.heap.size, 0, none⟩ 1 (.int .u64 (ref : Int)) rfl (by simp) rfl (by have := HLEN.out; unfold maxLen; omega) (by have := HLEN.out; omega) (by have := hW2.out; simp; omega) ?_; intro g2 o2 cap2 w5 hrow2 hgrow2 hob hlt2)
            | go_in)
          have hnew : RoomAt w pb N (.slice (some ⟨g2, o2, none⟩) (xs.length + 1) cap2) (.int .i64 (max (m : Int) ((xs.length : Int) + 1))) (k + 1) w5 := by
            have hfr := HROOM.out.frees
            refine ⟨refs ++ [ref], S', max m (refs.length + 1), ?_, by omega, ?_, HR'.out.more⟩
            · rw [HLEN.out]; congr 1; omega
            · refine (H2.out.below' ((Below.refl _ _).alloc (Nat.le_refl _) _)).app (x := ref) ?_ hgrow2 hob hlt2
              rw [HXS.out]
              exact hrow2
          refine ⟨⟨k + 1, by omega, by go_num, hnew⟩, ?_⟩
          simp [intOf]; omega
        | false =>
          cases refs with
          | nil =>
            have hnew : RoomAt w pb N (.slice p2 0 cap2) (.int .i64 (m : Int)) (k + 1) wr := ⟨[], S, m, rfl, by omega, HB.out, HROOM.out.more⟩
            have HNEW := Lib.hid hnew
            clear hnew
            simp only [List.length_nil] at *
            go_wp2
            refine ⟨⟨k + 1, by omega, by go_num, HNEW.out⟩, ?_⟩
            simp [intOf]; omega
          | cons r rs =>
            have hrlt := HROOM.out.small r (by simp)
            obtain ⟨S', hfree, hr'⟩ := HROOM.out.free (by omega)
            have HC := Lib.hid (both_free HB.out hrlt hfree)
            have HR' := Lib.hid hr'
            obtain ⟨g, o, cap', hv2, hnc, hcm, hcs⟩ := HB.out.row.cells (by simp)
            simp only [List.length_map, List.length_cons] at hv2 hnc hcs
            obtain ⟨rfl, _, rfl⟩ := Value.slice.inj hv2
            have hcell2 := (hcs 0 (by omega)).1
            simp only [List.map_cons, List.getElem?_cons_zero, encR, Nat.add_zero] at hcell2
            have hfr := Lib.hid HROOM.out.frees
            clear hfree hr' hv2 hcs hrlt
            simp only [List.length_cons] at *
            obtain ⟨Q, hQ⟩ : ∃ Q, rs.length = Q := ⟨_, rfl⟩
            have HQ := Lib.hid (show (rs ++ []).length = Q by rw [List.append_nil]; exact hQ)
            rw [hQ] at *
            clear hQ
            go_wp2_with fail
            refine HC.out.mono ?_
            rintro e w2 ⟨rfl, h2⟩
            have H2 := Lib.hid h2
            clear h2 HC
            go_wp2_with fail
            refine (no_nil _).mono ?_
            rintro e w' ⟨rfl, rfl⟩
            go_wp2
            have hnew : RoomAt w pb N (.slice (if cap2 = 1 then some ⟨g, o, none⟩ else some ⟨g, o + 1, none⟩) Q (cap2 - 1)) (.int .i64 (max (m : Int) (Q : Int))) (k + 1) w2 := by
              have hfr' := hfr.out
              have hq := HQ.out
              rw [List.append_nil] at hq
              refine ⟨rs, S', m, by congr 1; omega, by omega, ?_, HR'.out⟩
              obtain ⟨t1, t2⟩ := H2.out.row.tail
              simp only [Nat.add_sub_cancel, hq] at t1 t2
              by_cases h1 : cap2 = 1
              · rw [if_pos h1]
                exact ⟨H2.out.own, t2 h1⟩
              · rw [if_neg h1]
                exact ⟨H2.out.own, t1⟩
            refine ⟨⟨k + 1, by omega, by go_num, hnew⟩, ?_⟩
            simp [intOf]; omega
      · obtain rfl : Z = k := by omega
        have ht := HROOM.out.top
        have hu := HROOM.out.used
        have hT := both_top HB.out
        have hU := both_used HB.out
        rw [ht] at hT
        rw [hu] at hU
        have hN9 : m * (N + 1) ≤ 60 * 9 := Nat.mul_le_mul (by omega) (by omega)
        have hL9 : refs.length * (N + 1) ≤ 60 * 9 := Nat.mul_le_mul (by omega) (by omega)
        rw [Int.natCast_mul, Int.natCast_add] at hT hU
        have hN9' : (m : Int) * ((N : Int) + 1) ≤ 540 := by have := Int.ofNat_le.2 hN9; simpa using this
        have hL9' : (refs.length : Int) * ((N : Int) + 1) ≤ 540 := by have := Int.ofNat_le.2 hL9; simpa using this
        have hN0 : (0 : Int) ≤ (m : Int) * ((N : Int) + 1) := Int.mul_nonneg (by omega) (by omega)
        have hL0 : (0 : Int) ≤ (refs.length : Int) * ((N : Int) + 1) := Int.mul_nonneg (by omega) (by omega)
        have HT := Lib.hid hT
        have HU := Lib.hid hU
        have HAL := Lib.hid fun (w' : World) (h : Both w pb S (.slice p2 refs.length cap2) refs w') => And.intro (alive_ok w' (HA.out.below hgl.out h.own.below)) h.own.below
        clear ht hu hT hU HB HA HROOM HOK hN9 hL9
        go_wp2_with fail
        refine HT.out.mono ?_
        rintro e w' ⟨rfl, rfl⟩
        go_wp2_with fail
        refine HU.out.mono ?_
        rintro e w2 ⟨rfl, h2⟩
        obtain ⟨hal, hbl⟩ := HAL.out w2 h2
        have HA2 := Lib.hid hal
        have HBL := Lib.hid hbl
        clear h2 hal hbl HU HAL HT
        go_wp2_with fail
        refine HA2.out.mono ?_
        rintro e w3 ⟨rfl, hb3⟩
        have HB3 := Lib.hid (HBL.out.trans (hb3.mono HBL.out.size))
        clear hb3 HA2 HBL
        go_wp2
        go_ret
        exact ⟨rfl, HB3.out⟩
  · have hd : decide ((60 : Int) < (Z : Int)) = true := decide_eq_true (by omega)
    have HAL := Lib.hid (alive_ok w1 (HA.out.below hgl.out H0.out.below))
    have HBL := Lib.hid H0.out.below
    clear H0 HA
    go_wp2_with fail
    refine HAL.out.mono ?_
    rintro e w3 ⟨rfl, hb3⟩
    have HB3 := Lib.hid (HBL.out.trans (hb3.mono HBL.out.size))
    clear hb3 HAL HBL
    go_wp2
    go_ret
    exact ⟨rfl, HB3.out⟩
end Go.Proofs.YtfehonejcambgaaDoor
