/- Layer 10 (text): block. -/
import Derived.Test.YtikgbgminhgpdaaGreatDoorTxtBlocks
namespace Go.Proofs.YtikgbgminhgpdaaGreatDoor
open Go.RowKit Tx
set_option maxRecDepth 10000

theorem join_clean {L : List ByteArray} {b : Nat} {l : List Bs} {r : List (List Bs)} (h : next (lsAt L b) = some (l, r)) : l ≠ [] ∧ Tx.Clean l := by
  obtain ⟨h1, h2⟩ := next_mem h
  refine ⟨h2, ?_⟩
  unfold lsAt at h1
  obtain ⟨x, _, rfl⟩ := List.mem_map.1 h1
  exact words_clean _
theorem join_test {l : List Bs} (h0 : l ≠ []) (hc : Tx.Clean l) : Lib.join l [32] ≠ [] ∧ (Lib.join l [32] = [125] ↔ l = [[125]]) ∧ (Lib.join l [32] = [125, 32, 101, 108, 115, 101, 32, 123] ↔ l = [[125], [101, 108, 115, 101], [123]]) := by
  refine ⟨fun e => h0 ((join_is h0 hc e).trans rfl), ⟨fun e => (join_is h0 hc e).trans rfl, fun e => by rw [e]; rfl⟩, ⟨fun e => (join_is h0 hc e).trans rfl, fun e => by rw [e]; rfl⟩⟩
set_option maxHeartbeats 4000000 in
theorem block_of {rb lb cap n : Nat} {L : List ByteArray} (hbk : ∀ m, m < n → BlksAt rb lb L cap m) : BlkAt rb lb L cap n := by
  intro w a hr ha hn
  have lr := hr.rd.lt
  have ll := hr.lt
  have HF := Lib.hid hr.fits
  have HBK := Lib.hid hbk
  clear hbk
  go_enter Tryz.func27, Tryz.ntmps27
  go_wp2
  go_loopg [5] L.length (fun gf v wx => ∃ b p, Rd rb lb L cap wx b ∧ SlV w.heap.size wx p v ∧ Kept (fun k => k = rb) w wx ∧ p.length + a ≤ b ∧ b ≤ L.length ∧ (Blk (lsAt L a) = match Blk (lsAt L b) with
    | .error x => .error x
    | .ok (q, e, r) => .ok (p ++ q, e, r)) ∧ L.length ≤ b + gf)
  case atStart =>
    refine ⟨a, [], hr, SlV.nil _ _, Kept.refl _ _, by simp, ha, ?_, by omega⟩
    cases Blk (lsAt L a) with
    | error x => rfl
    | ok x => rfl
  case round =>
    obtain ⟨b, p, hrb, hsl, hk, hpa, hbl, hB, hfu⟩ := hrel
    obtain ⟨vp, vn, vc, rfl, hvb⟩ := hsl.shape
    have HN := Lib.hid (next_ok hrb hbl)
    have HSL := Lib.hid hsl; have HK := Lib.hid hk; have HB := Lib.hid hB
    have HL : L.length ≤ 1048576 := HF.out.1
    have lw1 := hk.size
    clear hrb hsl hk hB hvb hr
    go_wp2_with fail
    refine HN.out.mono ?_
    rintro e w2 ⟨hk2, hp2⟩
    have HK2 := Lib.hid (HK.out.trans hk2)
    have HSL2 := Lib.hid (HSL.out.kept (Nat.le_refl _) hk2 (fun b' h1 _ e => by have e' : b' = rb := e; omega))
    have lw2 := hk2.size
    clear hk2
    cases hN : next (lsAt L b) with
    | none =>
      rw [hN] at hp2
      obtain ⟨rfl, hrd⟩ := hp2
      have HRD := Lib.hid hrd
      have HJ := Lib.hid (Tryz.strings_Join_none none 0 ⟨#[32]⟩ w2)
      have HB2 := Lib.hid (show Blk (lsAt L a) = .ok (p, .text, []) by
        rw [HB.out, Blk_eq (lsAt L b), hN]
        simp)
      clear hN hrd
      go_wp2_with (go_at_call 34; refine HJ.out.mono ?_; rintro e w' ⟨rfl, rfl⟩)
      refine bodyPost_ret (v := .tuple #[.slice vp vn vc, .int .i64 0, .nilIface]) (by simp [results, Tryz.results27, go_sem]) rfl ?_
      refine ⟨HK2.out, ?_⟩
      rw [HB2.out]
      exact ⟨_, rfl, HSL2.out, .inl ⟨rfl, rfl, HRD.out⟩⟩
    | some x =>
      obtain ⟨l, r⟩ := x
      rw [hN] at hp2
      obtain ⟨g, m, wl, b2, rfl, hwl, hgl, hgw, hml, hmap, hsz, hmn, hrd, rfl, hbb, hb2⟩ := hp2
      obtain ⟨h0, hcl⟩ := join_clean hN
      obtain ⟨t0, t1, t2⟩ := join_test h0 hcl
      obtain ⟨gk', rfl⟩ : ∃ g', gk = g' + 1 := ⟨gk - 1, by omega⟩
      have hjl : (Lib.join l [32]).length ≤ 140737488355328 := by
        have h1 := join_len 1048576 l (fun q hq => by
          rw [← hmap] at hq
          obtain ⟨y, hy, rfl⟩ := List.mem_map.1 hq
          have := hsz y hy
          simpa using this)
        have h2 : l.length = m := by rw [← hmap, List.length_map, hml]
        rw [h2] at h1
        have h3 : m * (1048576 + 1) ≤ 1048577 * (1048576 + 1) := Nat.mul_le_mul_right _ hmn
        omega
      have HJ := Lib.hid (Tryz.strings_Join g 0 m wl ⟨#[32]⟩ w2 (fun j x hx => by rw [Nat.zero_add]; exact hwl j x hx) hgl (by omega) (by omega) (by rw [hmap]; exact hjl))
      rw [hmap, hml] at HJ
      have e2 : (⟨#[32]⟩ : ByteArray).data.toList = [32] := rfl
      rw [e2] at HJ
      have HRD := Lib.hid hrd
      have HWL := Lib.hid hwl
      have HBL := Lib.hid (show Blk (lsAt L b) = _ by rw [Blk_eq (lsAt L b), hN])
      clear hN hrd hwl e2 hjl
      by_cases c1 : l = [[125]]
      · subst c1
        have HB2 := Lib.hid (show Blk (lsAt L a) = .ok (p, .block, lsAt L b2) by
          rw [HB.out, HBL.out]
          simp)
        clear HB HBL t0 t1 t2 h0 hcl
        have HJ : Hid (Calls Tryz.prog 34 #[.slice (some ⟨g, 0, none⟩) m m, .string ⟨#[32]⟩] w2 fun e w' => e = .returned (.string ⟨#[125]⟩) ∧ Below w2.heap.size w2 w') := HJ
        go_wp2_with (go_at_call 34; refine HJ.out.mono ?_; rintro e w3 ⟨rfl, hbel⟩)
        refine bodyPost_ret (v := .tuple #[.slice vp vn vc, .int .i64 1, .nilIface]) (by simp [results, Tryz.results27, go_sem]) rfl ?_
        have kb := Kept.of_below hbel
        have lg := HRD.out.lt
        have lrr := HRD.out.rd.lt
        refine ⟨HK2.out.trans (kb.mono (fun k hk e => by omega)), ?_⟩
        rw [HB2.out]
        exact ⟨_, rfl, HSL2.out.kept (Nat.le_refl _) kb (fun b' h1 h2 e => by have e' : w2.heap.size ≤ b' := e; omega), .inr ⟨by simp, b2, HRD.out.kept kb (fun e => by omega) (fun e => by omega), rfl, by omega, hb2⟩⟩
      · by_cases c2 : l = [[125], [101, 108, 115, 101], [123]]
        · subst c2
          have HB2 := Lib.hid (show Blk (lsAt L a) = .ok (p, .els, lsAt L b2) by
            rw [HB.out, HBL.out]
            simp)
          clear HB HBL t0 t1 t2 h0 hcl
          have HJ : Hid (Calls Tryz.prog 34 #[.slice (some ⟨g, 0, none⟩) m m, .string ⟨#[32]⟩] w2 fun e w' => e = .returned (.string ⟨#[125, 32, 101, 108, 115, 101, 32, 123]⟩) ∧ Below w2.heap.size w2 w') := HJ
          go_wp2_with (go_at_call 34; refine HJ.out.mono ?_; rintro e w3 ⟨rfl, hbel⟩)
          refine bodyPost_ret (v := .tuple #[.slice vp vn vc, .int .i64 2, .nilIface]) (by simp [results, Tryz.results27, go_sem]) rfl ?_
          have kb := Kept.of_below hbel
          have lg := HRD.out.lt
          have lrr := HRD.out.rd.lt
          refine ⟨HK2.out.trans (kb.mono (fun k hk e => by omega)), ?_⟩
          rw [HB2.out]
          exact ⟨_, rfl, HSL2.out.kept (Nat.le_refl _) kb (fun b' h1 h2 e => by have e' : w2.heap.size ≤ b' := e; omega), .inr ⟨by simp, b2, HRD.out.kept kb (fun e => by omega) (fun e => by omega), rfl, by omega, hb2⟩⟩
        · have g0 : (Lib.join l [32] == []) = false := by simpa using t0
          have g1 : (Lib.join l [32] == [125]) = false := by
            have := fun e => c1 (t1.1 e)
            simpa using this
          have g2 : (Lib.join l [32] == [125, 32, 101, 108, 115, 101, 32, 123]) = false := by
            have := fun e => c2 (t2.1 e)
            simpa using this
          have HBM := Lib.hid (show Blk (lsAt L b) = match stmt l with
            | none => .error (some (lsAt L b2).length)
            | some h => match Blks h (lsAt L b2) with
              | .error e => .error e
              | .ok (s, r') => match Blk r' with
                | .error e => .error e
                | .ok (p, e, r'') => .ok (s :: p, e, r'') by
            rw [HBL.out]
            simp only [if_neg c1, if_neg c2]
            rfl)
          have HMP := Lib.hid hmap; have HML := Lib.hid hml; have HSZ := Lib.hid hsz
          have hm1 : 1 ≤ m := by
            rw [← hml]
            have : l.length = wl.length := by rw [← hmap, List.length_map]
            cases l with
            | nil => exact absurd rfl h0
            | cons x y => simp only [List.length_cons] at this; omega
          clear HBL t0 t1 t2 h0 hcl c1 c2 hmap hml hsz
          go_wp2_with (go_at_call 34; refine HJ.out.mono ?_; rintro e w3 ⟨rfl, hbel⟩)
          have HWL3 := HWL.out.below hbel hgl
          have HSO := Lib.hid (stmt_ok HWL3 (Nat.lt_of_lt_of_le hgl hbel.size) HML.out hm1 (cap := m) (by omega) (fun x hx => Nat.le_trans (HSZ.out x hx) (by omega)))
          rw [HMP.out] at HSO
          have kb := Kept.of_below hbel
          have lg := HRD.out.lt
          have lrr := HRD.out.rd.lt
          have HK3 := Lib.hid (HK2.out.trans (kb.mono (T := fun k => k = rb) (fun k hk e => by omega)))
          have HSL3 := Lib.hid (HSL2.out.kept (Nat.le_refl _) kb (fun b' h1 h2 e => by have e' : w2.heap.size ≤ b' := e; omega))
          have HRD3 := Lib.hid (HRD.out.kept kb (fun e => by omega) (fun e => by omega))
          have lw3 := hbel.size
          clear hbel kb HWL3
          refine HSO.out.mono ?_
          rintro e w4 ⟨hb4, s', rfl, hs'⟩
          have HK4 := Lib.hid (HK3.out.trans ((Kept.of_below hb4).mono (T := fun k => k = rb) (fun k hk e => by omega)))
          have HSL4 := Lib.hid (HSL3.out.kept (Nat.le_refl _) (Kept.of_below hb4) (fun b' h1 h2 e => by have e' : w3.heap.size ≤ b' := e; omega))
          have HRD4 := Lib.hid (HRD3.out.kept (Kept.of_below hb4) (fun e => by omega) (fun e => by omega))
          have lw4 := hb4.size
          have C5 : Cells (w4.alloc (.cells (shL s' (.slice none 0 0) (.slice none 0 0)).toArray 45)) w4.heap.size (shL s' (.slice none 0 0) (.slice none 0 0)) 45 := Cells.new _ _ _
          have B5 := (Below.refl w4.heap.size w4).alloc (Nat.le_refl _) (.cells (shL s' (.slice none 0 0) (.slice none 0 0)).toArray 45)
          have HC5 := Lib.hid C5; have HB5 := Lib.hid B5
          clear C5 B5 hb4
          simp only [shV, shW]
          cases hs : stmt l with
          | none =>
            go_wp2_with fail
            obtain ⟨w5, hw5⟩ : ∃ w5, w4.alloc (.cells (shL s' (.slice none 0 0) (.slice none 0 0)).toArray 45) = w5 := ⟨_, rfl⟩
            have hw5' : w4.alloc (.cells #[.int .i64 (s'.kind : Int), .int .i64 s'.coll, .int .i64 s'.reg, .int .i64 s'.a.1, .int .i64 s'.a.2, .int .i64 s'.b.1, .int .i64 s'.b.2, .slice none 0 0, .slice none 0 0] 45) = w5 := hw5
            rw [hw5']
            rw [hw5] at HB5
            have HFT := Lib.hid (fault_ok (HRD4.out.kept (Kept.of_below HB5.out) (fun e => by omega) (fun e => by omega)))
            have lw5 := HB5.out.size
            have HE := Lib.hid (show Blk (lsAt L a) = .error (some (lsAt L b2).length) by rw [HB.out, HBM.out, hs])
            clear hs hw5 hw5'
            refine HFT.out.mono ?_
            rintro e w6 ⟨v6, rfl, hfl, hb6⟩
            obtain ⟨fb, rfl⟩ := hfl.form
            have HFL := Lib.hid hfl
            clear hfl
            go_wp2
            refine bodyPost_ret (v := .tuple #[.slice none 0 0, .int .i64 0, .iface 60 (.pointer (some ⟨fb, 0, none⟩))]) (by simp [results, Tryz.results27, go_sem]) rfl ?_
            refine ⟨(HK4.out.trans ((Kept.of_below HB5.out).mono (fun k hk e => by omega))).trans ((Kept.of_below hb6).mono (fun k hk e => by omega)), ?_⟩
            rw [HE.out]
            refine ⟨_, rfl, ?_⟩
            have hq : badAt L (some (lsAt L b2).length) = (b2 : Int) := by unfold badAt; rw [lsAt_len]; simp only; omega
            rw [hq]
            exact HFL.out.low (by omega)
          | some h =>
            obtain rfl := hs' h hs
            have hk16 := stmt_kind hs
            go_wp2_with fail
            obtain ⟨w5, hw5⟩ : ∃ w5, w4.alloc (.cells (shL s' (.slice none 0 0) (.slice none 0 0)).toArray 45) = w5 := ⟨_, rfl⟩
            have hw5' : w4.alloc (.cells #[.int .i64 (s'.kind : Int), .int .i64 s'.coll, .int .i64 s'.reg, .int .i64 s'.a.1, .int .i64 s'.a.2, .int .i64 s'.b.1, .int .i64 s'.b.2, .slice none 0 0, .slice none 0 0] 45) = w5 := hw5
            rw [hw5']
            rw [hw5] at HB5 HC5
            have lw5 := HB5.out.size
            have lc5 := HC5.out.lt
            have k45 := Kept.of_below HB5.out
            have HRD5 := Lib.hid (HRD4.out.kept k45 (fun e => by omega) (fun e => by omega))
            have HSL5 := Lib.hid (HSL4.out.kept (Nat.le_refl _) k45 (fun b' h1 h2 e => by have e' : w4.heap.size ≤ b' := e; omega))
            have HBS := Lib.hid (HBK.out (L.length - b2) (by omega) w5 b2 w4.heap.size s' HRD5.out hb2 (Nat.le_refl _) HC5.out (by omega) (by omega) hk16)
            have HE := Lib.hid (show Blk (lsAt L b) = match Blks s' (lsAt L b2) with
              | .error e => .error e
              | .ok (s, r') => match Blk r' with
                | .error e => .error e
                | .ok (p, e, r'') => .ok (s :: p, e, r'') by rw [HBM.out, hs])
            clear hs hs' hw5 hw5' k45
            refine HBS.out.mono ?_
            rintro e w6 ⟨hk6, hp6⟩
            have lw6 := hk6.size
            have HK46 := Lib.hid (((Kept.of_below HB5.out).mono (T := fun k => k = rb ∨ k = w4.heap.size) (fun k hk e => by omega)).trans hk6)
            have HK6 := Lib.hid (HK4.out.then HK46.out (fun k hk e => by rcases e with e | e; exact e; omega))
            have HSL6 := Lib.hid (HSL4.out.kept (Nat.le_refl _) HK46.out (fun b' h1 h2 e => by rcases e with e | e <;> omega))
            cases hX : Blks s' (lsAt L b2) with
            | error x =>
              rw [hX] at hp6
              obtain ⟨v, rfl, hfl⟩ := hp6
              obtain ⟨fb, rfl⟩ := hfl.form
              have HFL := Lib.hid hfl
              have HE2 := Lib.hid (show Blk (lsAt L a) = .error x by rw [HB.out, HE.out, hX])
              clear hX hfl hk6
              go_wp2
              refine bodyPost_ret (v := .tuple #[.slice none 0 0, .int .i64 0, .iface 60 (.pointer (some ⟨fb, 0, none⟩))]) (by simp [results, Tryz.results27, go_sem]) rfl ?_
              refine ⟨HK6.out, ?_⟩
              rw [HE2.out]
              exact ⟨_, rfl, HFL.out.low (by omega)⟩
            | ok x =>
              obtain ⟨st, r'⟩ := x
              obtain ⟨bb, els, rfl⟩ := Blks_head hX
              rw [hX] at hp6
              obtain ⟨rfl, bv, ev, b6, hc6, hbv, hev, hrd6, rfl, hb26, hb6⟩ := hp6
              have HE2 := Lib.hid (show Blk (lsAt L a) = match Blk (lsAt L b6) with
                | .error e => .error e
                | .ok (q, e, r'') => .ok (p ++ [.mk s' bb els] ++ q, e, r'') by
                rw [HB.out, HE.out, hX]
                simp only
                cases Blk (lsAt L b6) with
                | error e => rfl
                | ok x => obtain ⟨q, e, r''⟩ := x; simp)
              clear hX
              obtain ⟨p1, n1, c1, rfl, -⟩ := hbv.shape
              obtain ⟨p2, n2, c2, rfl, -⟩ := hev.shape
              obtain ⟨⟨y0, y1, y2, y3, y4, y5, y6, y7, y8⟩, -⟩ := nine_cells hc6
              have KA := (Kept.refl (fun _ => False) w6).alloc (.cells (shL s' (.slice p1 n1 c1) (.slice p2 n2 c2)).toArray 45)
              have HSL7 := Lib.hid (HSL6.out.kept (Nat.le_refl _) KA (fun _ _ _ => id))
              have HST := Lib.hid (StC.kept (A' := fun k => w5.heap.size ≤ k ∧ k < (w6.alloc (.cells (shL s' (.slice p1 n1 c1) (.slice p2 n2 c2)).toArray 45)).heap.size) KA (fun k hk hl => ⟨id, hk, by simp; omega⟩) _ _ (StC.mk (A := fun k => w5.heap.size ≤ k) (h := s') hbv hev (fun k h1 _ => h1)))
              have HOWN := Lib.hid (show ∀ k, (Value.slice vp vn vc).ownBlock = some k → k < w4.heap.size from fun k hk => (HSL4.out.shape.choose_spec.choose_spec.choose_spec.2 k hk).2)
              have HRD7 := Lib.hid (hrd6.kept KA id id)
              have HK7 := Lib.hid (HK6.out.alloc (.cells (shL s' (.slice p1 n1 c1) (.slice p2 n2 c2)).toArray 45))
              have HNEWS := Lib.hid (show ∀ j u, (shL s' (.slice p1 n1 c1) (.slice p2 n2 c2))[j]? = some u → (w6.alloc (.cells (shL s' (.slice p1 n1 c1) (.slice p2 n2 c2)).toArray 45)).cell? ((⟨w6.heap.size, 0, none⟩ : Addr).add j) = some u from by
                have := World.news_of_block (w := w6.alloc (.cells (shL s' (.slice p1 n1 c1) (.slice p2 n2 c2)).toArray 45)) (B := w6.heap.size) (cs := (shL s' (.slice p1 n1 c1) (.slice p2 n2 c2)).toArray) (t := 45) (fr := (0, 0)) (heap_alloc_new w6 _)
                simpa using this)
              have HONE := Lib.hid (shL_one (h := s') (bv := .slice p1 n1 c1) (ev := .slice p2 n2 c2) rfl rfl)
              have lw7 : (w6.alloc (.cells (shL s' (.slice p1 n1 c1) (.slice p2 n2 c2)).toArray 45)).heap.size = w6.heap.size + 1 := by simp
              have hpl : p.length ≤ 1048576 := by omega
              obtain ⟨i0, hi0, hz0, hz1, hz2⟩ := info_parts stmtInfo
              obtain ⟨cs0, hcs0, hrow0⟩ := HSL7.out
              have HROW := Lib.hid hrow0; have HCS0 := Lib.hid hcs0
              obtain ⟨w7, hw7⟩ : ∃ w7, w6.alloc (.cells (shL s' (.slice p1 n1 c1) (.slice p2 n2 c2)).toArray 45) = w7 := ⟨_, rfl⟩
              have hw7' : w6.alloc (.cells #[.int .i64 (s'.kind : Int), .int .i64 s'.coll, .int .i64 s'.reg, .int .i64 s'.a.1, .int .i64 s'.a.2, .int .i64 s'.b.1, .int .i64 s'.b.2, .slice p1 n1 c1, .slice p2 n2 c2] 45) = w7 := hw7
              rw [hw7] at HSL7 HST HRD7 HK7 HNEWS lw7 HROW HCS0
              have HW7 := Lib.hid hw7'
              have HB7 := Lib.hid (show w.heap.size ≤ w7.heap.size by omega)
              clear hcs0 hrow0 hbv hev hc6 hrd6 hk6 KA hw7 hw7'
              go_wp2_with (at_builtin; rw [HW7.out]; refine wpList_append_lies _ rfl _ _ 22 rfl w.heap.size 45 i0 _ 9 104 Tryz.underlying22 hi0 hz0 hz1 hz2 rfl (by omega) _ p.length cs0.flatten rfl HROW.out ⟨w6.heap.size, 0, none⟩ 1 1 (shL s' (.slice p1 n1 c1) (.slice p2 n2 c2)) rfl rfl HNEWS.out HONE.out (by omega) (by unfold maxLen; omega) (by omega) HB7.out w7.heap.size rfl ?_; intro gg cap8 w8 hown8 hgrow8 hat8 hlt8)
              have k8 := Kept.of_grown hgrow8
              have hvb : ∀ k, some k = (Value.slice vp vn vc).ownBlock → w.heap.size ≤ k := fun k hk => (HROW.out.lt k hk.symm).1
              go_roundg gk'
              case measure => omega
              case rel =>
                refine ⟨b6, p ++ [.mk s' bb els], HRD7.out.kept k8 (fun e => by have := hvb _ e; omega) (fun e => by have := hvb _ e; omega), SlV.app HCS0.out HST.out (by omega) (fun k hk => Nat.lt_of_lt_of_le (HOWN.out k hk) (by omega)) k8 (fun q hq => ?_) hown8, HK7.out.then k8 (fun i hi hT => by have := hvb _ hT; omega), by simp; omega, hb6, HE2.out, by omega⟩
                simp only [Value.ownBlock, Option.some.injEq] at hq
                rcases hat8 with e | e
                · exact .inl (by rw [← hq]; exact e)
                · exact .inr (by omega)
theorem blk_all (rb lb : Nat) (L : List ByteArray) (cap : Nat) : ∀ n, BlkAt rb lb L cap n ∧ BlksAt rb lb L cap n := by
  intro n
  induction n using Nat.strongRecOn with
  | _ n ih =>
    have h1 : BlkAt rb lb L cap n := block_of fun m hm => (ih m hm).2
    exact ⟨h1, blocks_of h1⟩
end Go.Proofs.YtikgbgminhgpdaaGreatDoor
