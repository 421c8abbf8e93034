/- Layer 6 (meta): NewCell, Read. -/
import Derived.Test.YtmdganpealbmpaaGreatDoorMeta
namespace Go.Proofs.YtmdganpealbmpaaGreatDoor
open Go.RowKit Bl Th
set_option maxRecDepth 10000

set_option maxHeartbeats 400000 in
theorem newCell_ok {W : World} {R : List Nat} {pa pb pc : Nat} {c : CS} {wi : World} (h : Ctx W R pa pb pc c wi) (hg : Handle W) {value : Nat} (hr : value < 18446744073709551616) :
    Calls Tryz.prog 58 #[.pointer (some ⟨pc, 0, none⟩), .int .u64 (value : Int)] wi (CameX W R pa pb pc wi (mNewCell value) c U64 (fun (x : Nat) v => .tuple #[.int .u64 (x : Int), v])) := by
  have HL := Lib.hid (al_ok h hg 2)
  have HG := Lib.hid hg; have HR := Lib.hid hr
  clear h hg hr
  go_enter Tryz.func58, Tryz.ntmps58
  go_wp2_with fail
  refine HL.out.mono ?_
  rintro e w1 ⟨n, x, c1, hx, hn, hu, rfl, hc, hh⟩
  by_cases h0 : n = 0
  · subst h0
    rw [errV_zero]
    have HX := Lib.hid hx; have HH := Lib.hid hh; have HU := Lib.hid hu
    have HS := Lib.hid (sto_ok hc HG.out hu HR.out 1)
    clear hx hn hu hc hh HL
    go_wp2_with fail
    refine HS.out.mono ?_
    rintro e w2 ⟨n, u0, c2, hx, hn, -, rfl, hc, hh⟩
    by_cases h0 : n = 0
    · subst h0
      rw [errV_zero]
      have HF := Lib.hid (show CameX W R pa pb pc wi (mNewCell value) c U64 (fun (x : Nat) v => .tuple #[.int .u64 (x : Int), v]) (.returned (.tuple #[.int .u64 (x : Int), .nilIface])) w2 from cameX_in (E := []) (mk := (fun (x : Nat) v => .tuple #[.int .u64 (x : Int), v])) (by simp only [mNewCell, exec_bind, HX.out, hx, if_true, exec]) HU.out .none hc (HH.out.trans hh) (by simp))
      clear hx hn hc hh HX HH HU HS
      go_wp2
      go_ret2
      exact HF.out
    · have HI := Lib.hid (fun s => in_fin (G := U64) (fun (x : Nat) v => .tuple #[.int .u64 (x : Int), v]) (show exec (mNewCell value) c = ((n, 0), c2) by simp only [mNewCell, exec_bind, HX.out, hx, if_true, if_neg h0, exec]) (by unfold U64; omega) hc (HH.out.trans hh) hn s)
      rw [errV_pos h0] at HI ⊢
      clear hx hn hc hh h0 HX HH HU HS
      go_wp2_with fail
      refine (HI.out _).mono ?_
      rintro e w3 ⟨v, rfl, hf⟩
      have HF := Lib.hid hf
      clear hf HI
      go_wp2
      go_ret2
      exact HF.out
  · have HI := Lib.hid (fun s => in_fin (G := U64) (fun (x : Nat) v => .tuple #[.int .u64 (x : Int), v]) (show exec (mNewCell value) c = ((n, 0), c1) by simp only [mNewCell, exec_bind, hx, if_neg h0, exec]) (by unfold U64; omega) hc hh hn s)
    rw [errV_pos h0] at HI ⊢
    clear hx hn hc hh h0 hu HL
    go_wp2_with fail
    refine (HI.out _).mono ?_
    rintro e w3 ⟨v, rfl, hf⟩
    have HF := Lib.hid hf
    clear hf HI
    go_wp2
    go_ret2
    exact HF.out

def G2 (p : Nat × Int) : Prop := p.1 < 18446744073709551616
set_option maxHeartbeats 4000000 in
theorem read_ok {W : World} {R : List Nat} {pa pb pc : Nat} {c : CS} {wi : World} (h : Ctx W R pa pb pc c wi) (hg : Handle W) {cell : Nat} (hr : cell < 18446744073709551616) :
    Calls Tryz.prog 91 #[.pointer (some ⟨pc, 0, none⟩), .int .u64 (cell : Int)] wi (CameX W R pa pb pc wi (mRead cell) c G2 (fun (p : Nat × Int) v => .tuple #[.int .u64 (p.1 : Int), .int .i64 p.2, v])) := by
  have HL := Lib.hid (ld_ok h hg hr 0)
  have HG := Lib.hid hg; have HR := Lib.hid hr; have H := Lib.hid h
  clear h hg hr
  go_enter Tryz.func91, Tryz.ntmps91
  go_wp2_with fail
  refine HL.out.mono ?_
  rintro e w1 ⟨n, x, c1, hx, hn, hu, rfl, hc, hh⟩
  have H1 := Lib.hid (show ∃ (k : Nat) (n x : Nat) (c1 : CS), k ≤ 8 ∧ Value.int .u64 (x : Int) = .int .u64 (x : Int) ∧ exec (mRead cell) c = exec (mReadN cell (8 - k) (n, x)) c1 from ⟨0, n, x, c1, by omega, rfl, by simp only [mRead, exec_bind, hx]⟩)
  have HX := Lib.hid hx; have HC := Lib.hid hc; have HH := Lib.hid hh; have HN := Lib.hid hn; have HU := Lib.hid hu
  clear hx hn hu hc hh HL H1
  go_wp2
  go_loopw [7, 8, 19] (fun wv ev i wr => ∃ (k n x : Nat) (c1 : CS), k ≤ 8 ∧ i = .int .i64 (k : Int) ∧ wv = .int .u64 (x : Int) ∧ ev = errV n ∧ n ≤ 17 ∧ U64 x ∧ Ctx W R pa pb pc c1 wr ∧ HeldBy R wi wr ∧ exec (mRead cell) c = exec (mReadN cell (8 - k) (n, x)) c1) (fun _ _ i _ => 8 - (intOf i).toNat)
  case atStart => exact ⟨0, n, x, c1, by omega, rfl, rfl, rfl, HN.out, HU.out, HC.out, HH.out, by simp only [mRead, exec_bind, HX.out, Nat.sub_zero]⟩
  case round =>
    clear HX HC HH HN HU
    obtain ⟨k, n, x, c1, hk, rfl, rfl, rfl, hn, hu, hc, hh, hx⟩ := hrel
    by_cases hlt : k < 8
    · have hki : (k : Int) < 8 := by omega
      obtain ⟨t, ht⟩ : ∃ t, 8 - k = t + 1 := ⟨7 - k, by omega⟩
      have HT := Lib.hid (show 8 - (k + 1) = t by omega)
      rw [ht] at hx
      clear ht
      by_cases h0 : n = 0
      · subst h0
        rw [errV_zero]
        have HP := Lib.hid (unpack_ok x hu wr)
        have HC := Lib.hid hc; have HH := Lib.hid hh; have HX := Lib.hid hx
        clear hx hn hu hc hh
        go_wp2_with fail
        refine HP.out.mono ?_
        rintro e w2 ⟨mv, mo, mc, mw, hm, rfl, hb2⟩
        have HM := Lib.hid hm
        have hc := HC.out.under hb2; have hh := HH.out.under HC.out hb2
        have B0 := (Below.refl w2.heap.size w2).alloc (Nat.le_refl _) (.cells #[.int .i64 mv, .int .i64 mo, .bool mc, .bool mw] 205)
        have C0 := Cells.new w2 [.int .i64 mv, .int .i64 mo, .bool mc, .bool mw] 205
        have HC3 := Lib.hid (hc.came B0 [w2.heap.size] (by simp)); have HH3 := Lib.hid (hh.under hc B0); have HC0 := Lib.hid C0; have HC4 := Lib.hid (hc.under B0); have HS := Lib.hid hh.1
        have hs3 : w2.heap.size < (w2.alloc (.cells #[.int .i64 mv, .int .i64 mo, .bool mc, .bool mw] 205)).heap.size := by simp
        have HS3 := Lib.hid hs3
        have p2 := C0.cell 2
        simp only [List.getElem?_cons_succ, List.getElem?_cons_zero] at p2
        clear hm hb2 HP hc hh B0 C0 HC HH hs3
        cases mc with
        | true =>
          have HI := Lib.hid (fun s => in_no s 12 HC4.out HH3.out (by omega) (by omega))
          go_wp2_with fail
          refine (HI.out _).mono ?_
          rintro e w3 ⟨v, E, rfl, he, hc, hh, hE⟩
          have HF := Lib.hid (cameX_in (G := G2) (mk := (fun (p : Nat × Int) v => .tuple #[.int .u64 (p.1 : Int), .int .i64 p.2, v])) (show exec (mRead cell) c = ((12, (0, 0)), c1) by rw [HX.out]; simp only [mReadN, HM.out, if_true, exec]) (by unfold G2; omega) he hc hh hE)
          clear he hc hh hE HI HX
          go_wp2
          go_ret3
          exact HF.out
        | false =>
          have HL := Lib.hid (ld_ok HC3.out HG.out HR.out 1)
          have HL2 := Lib.hid (fun (c5 : CS) (w5 : World) (hc : Ctx W ([w2.heap.size] ++ R) pa pb pc c5 w5) => ld_ok hc HG.out HR.out 0)
          go_wp2_with fail
          generalize w2.alloc (.cells #[.int .i64 mv, .int .i64 mo, .bool false, .bool mw] 205) = w3 at *
          clear p2
          refine HL.out.mono ?_
          rintro e w4 ⟨n, y, c2, hx, hn, hy, rfl, hc, hh⟩
          by_cases h0 : n = 0
          · subst h0
            rw [errV_zero]
            have HL3 := Lib.hid (HL2.out _ _ hc)
            have HX2 := Lib.hid hx; have HH4 := Lib.hid hh; have HY := Lib.hid hy
            clear hx hn hy hc hh HL HL2
            go_wp2_with fail
            refine HL3.out.mono ?_
            rintro e w5 ⟨n, z, c3, hx, hn, hz, rfl, hc, hh⟩
            have HH5 := Lib.hid (HH4.out.trans hh)
            have HCE := Lib.hid hc
            have hcell := HC0.out.heldBy HH5.out (by simp)
            obtain ⟨p0, p1, p2, p3, -⟩ := four hcell
            have HEnd := Lib.hid (locals_end (Bs := [w2.heap.size]) (E := []) (wi := wi) H.out (by simpa using ⟨HS.out, HS3.out⟩) HH3.out hc HH5.out .none (by simp) (Kept.refl _ _))
            have HEq := Lib.hid (show exec (mRead cell) c = if n = 0 ∧ z = x then ((0, (y, mv)), c3) else exec (mReadN cell t (n, z)) c3 by
              rw [HX.out]; simp only [mReadN, HM.out, exec_bind, HX2.out, hx, if_true, Bool.false_eq_true, if_false]
              split <;> rfl)
            have HN := Lib.hid hn; have HZ := Lib.hid hz
            clear hx hn hz hc hh hcell HX HX2 HL3
            by_cases h0 : n = 0
            · subst h0
              rw [errV_zero]
              by_cases h1 : z = x
              · subst h1
                rw [if_pos ⟨rfl, rfl⟩] at HEq
                have g1 : ((z : Int) == (z : Int)) = true := by simp
                have g2 : (z == z) = true := by simp
                go_wp2
                go_quiet (fail)
                go_wp2
                go_ret3
                obtain ⟨e1, e2, e3, e4⟩ := HEnd.out
                exact ⟨0, (y, mv), c3, _, [], HEq.out, HY.out, rfl, .none, e2.under (below_drewN (Below.refl _ _) _), e3.under e2 (below_drewN (Below.refl _ _) _), by simp⟩
              · rw [if_neg (by simp [h1])] at HEq
                have g1 : ((z : Int) == (x : Int)) = false := by rw [beq_eq_false_iff_ne]; omega
                have g2 : (z == x) = false := by rw [beq_eq_false_iff_ne]; exact h1
                clear h1
                go_wp2
                go_roundw
                case rel =>
                  obtain ⟨e1, e2, e3, e4⟩ := HEnd.out
                  exact ⟨k + 1, 0, z, c3, by omega, by go_num, rfl, rfl, by omega, HZ.out, e2, e3, by rw [HT.out]; exact HEq.out⟩
                case measure => simp [intOf]; omega
            · rw [if_neg (by simp [h0])] at HEq
              have HV := Lib.hid (errV_pos h0)
              rw [HV.out]
              go_wp2
              go_roundw
              case rel =>
                obtain ⟨e1, e2, e3, e4⟩ := HEnd.out
                exact ⟨k + 1, n, z, c3, by omega, by go_num, rfl, HV.out.symm, HN.out, HZ.out, e2, e3, by rw [HT.out]; exact HEq.out⟩
              case measure => simp [intOf]; omega
          · have HI := Lib.hid (fun s => in_loc hc hh hn s)
            have HX3 := Lib.hid (show exec (mRead cell) c = ((n, (0, 0)), c2) by rw [HX.out]; simp only [mReadN, HM.out, exec_bind, hx, if_true, Bool.false_eq_true, if_false, if_neg h0, exec])
            rw [errV_pos h0] at HI ⊢
            clear hx hn hc hh h0 hy HX HL HL2
            go_wp2_with fail
            refine (HI.out _).mono ?_
            rintro e w5 ⟨v, E, rfl, he, hc, hh, hE, hb, hv⟩
            have HEnd := Lib.hid (locals_end (Bs := [w2.heap.size]) (wi := wi) H.out (by simpa using ⟨HS.out, HS3.out⟩) HH3.out hc hh he hE (Kept.refl _ _))
            clear he hc hh hE hb hv HI
            go_wp2
            go_ret3
            obtain ⟨e1, e2, e3, e4⟩ := HEnd.out
            exact ⟨n, (0, 0), c2, _, E, HX3.out, by unfold G2; omega, rfl, e1, e2, e3, e4⟩
      · have HI := Lib.hid (fun s => in_fin (G := G2) (fun (p : Nat × Int) v => .tuple #[.int .u64 (p.1 : Int), .int .i64 p.2, v]) (show exec (mRead cell) c = ((n, (0, 0)), c1) by rw [hx]; simp only [mReadN, if_neg h0, exec]) (by unfold G2; omega) hc hh hn s)
        rw [errV_pos h0] at HI ⊢
        clear hx hn hc hh h0 hu
        go_wp2_with fail
        refine (HI.out _).mono ?_
        rintro e w3 ⟨v, rfl, hf⟩
        have HF := Lib.hid hf
        clear hf HI
        go_wp2
        go_ret3
        exact HF.out
    · obtain rfl : k = 8 := by omega
      have HI := Lib.hid (fun s => in_no s 12 hc hh (by omega) (by omega))
      have HX := Lib.hid hx
      clear hc hh hx hn hu
      go_wp2_with fail
      refine (HI.out _).mono ?_
      rintro e w3 ⟨v, E, rfl, he, hc, hh, hE⟩
      have HF := Lib.hid (cameX_in (G := G2) (mk := (fun (p : Nat × Int) v => .tuple #[.int .u64 (p.1 : Int), .int .i64 p.2, v])) (show exec (mRead cell) c = ((12, (0, 0)), c1) by rw [HX.out]; rfl) (by unfold G2; omega) he hc hh hE)
      clear he hc hh hE HI
      go_wp2
      go_ret3
      exact HF.out
end Go.Proofs.YtmdganpealbmpaaGreatDoor
