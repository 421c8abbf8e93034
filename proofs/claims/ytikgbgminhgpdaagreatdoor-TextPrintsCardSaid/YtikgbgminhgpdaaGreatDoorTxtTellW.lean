/- Layer 10 (text): words (the program's): a statement's words. -/
import Derived.Test.YtikgbgminhgpdaaGreatDoorTxtArg
import Derived.Test.YtikgbgminhgpdaaGreatDoorTxtLines
namespace Go.Proofs.YtikgbgminhgpdaaGreatDoor
open Go.RowKit Tx
set_option maxRecDepth 10000

/-- What words answers. -/
def LineWPost (h : Sh) (w : World) (e : Ending) (w' : World) : Prop :=
  Below w.heap.size w w' ∧ ∃ v L, e = .returned v ∧ StrRow w.heap.size w' v L ∧ L.map (·.data.toList) = lineW h
/-- How far words is. -/
def LineWJ (h : Sh) (F : ByteArray) (bv ev : Value) (w : World) (gf : Nat) (v : Value) (wx : World) : Prop :=
  ∃ (j : Nat) (L : List ByteArray), j ≤ F.size ∧ wx.heap[w.heap.size + 2]? = some (.stringIter F j) ∧ Cells wx w.heap.size (shL h bv ev) 45 ∧ Below w.heap.size w wx ∧ StrRow (w.heap.size + 1) wx v L ∧ L.length = j + 1 ∧
    L.map (·.data.toList) = wordB h.kind :: ((form h.kind).take j).map (piece h) ∧ F.size ≤ j + gf
theorem StrRow.low {B B' : Nat} {w : World} {v : Value} {L : List ByteArray} (h : StrRow B w v L) (hB : B' ≤ B) : StrRow B' w v L :=
  row_kept h hB (Kept.refl (fun _ => False) w) (fun _ _ _ => id)
theorem StrRow.kept {S : Nat → Prop} {B : Nat} {w w' : World} {v : Value} {L : List ByteArray} (h : StrRow B w v L) (k : Kept S w w') (hs : ∀ b, B ≤ b → b < w.heap.size → ¬ S b) : StrRow B w' v L :=
  row_kept h (Nat.le_refl _) k (fun b hb hl => hs b (h.lt b hb).1 hl)
theorem StrRow.new1 (w : World) (x : ByteArray) : StrRow w.heap.size (w.alloc (.cells #[.string x] 9)) (.slice (some ⟨w.heap.size, 0, none⟩) 1 1) [x] :=
  ⟨rfl, .inr ⟨w.heap.size, 1, #[.string x], rfl, Nat.le_refl _, heap_alloc_new w _, Nat.le_refl _, by decide, rfl, rfl⟩⟩
theorem take_one {l : Bs} {j : Nat} {c : UInt8} (hc : l[j]? = some c) : l.take (j + 1) = l.take j ++ [c] := by
  rw [List.take_add_one, hc]
  rfl
set_option maxHeartbeats 4000000 in
theorem twords_ok {h : Sh} {nb ne : Bool} (hr : oneR h nb ne = true) {w : World} (hb : Base w) (bp ep : Option Addr) (bn bc en ec : Nat) :
    Calls Tryz.prog 35 #[shW h (.slice bp bn bc) (.slice ep en ec)] w (LineWPost h w) := by
  obtain ⟨q1, q2, q3, q4, q5, q6, q7, -, -⟩ := oneR_parts hr
  have hreg : 0 ≤ h.reg ∧ h.reg ≤ 8 := by
    cases hk : hasReg h.kind with
    | true => have := reg_in q7 hk; omega
    | false => have := reg_out q7 hk; omega
  have hcoll : 0 ≤ h.coll ∧ h.coll ≤ 999 := by
    cases hk : hasColl h.kind with
    | true => exact coll_in q3 hk
    | false => have := coll_out q3 hk; omega
  have HWD := Lib.hid (fun w => word_ok q1 q2 w)
  obtain ⟨F, hF⟩ : ∃ F : ByteArray, (⟨(form h.kind).toArray⟩ : ByteArray) = F := ⟨_, rfl⟩
  have HFO := Lib.hid (fun w => form_ok q2 w)
  rw [hF] at HFO
  have hFs : F.size = (form h.kind).length := by rw [← hF]; exact List.size_toArray ..
  have hFd : F.data.toList = form h.kind := by rw [← hF]
  have hF4 : (form h.kind).length ≤ 4 := form_len q2
  have HFD := Lib.hid hFd; have HBASE := Lib.hid hb
  have HA := Lib.hid (fun (w : World) (hb : Base w) => argText_ok q4 hb)
  have HAB := Lib.hid (fun (w : World) (hb : Base w) => argText_ok q5 hb)
  have HRG := Lib.hid (fun (w : World) (hb : Base w) => regText_ok (n := h.reg) (by omega) (by omega) hb)
  have HCO := Lib.hid (fun (w : World) (hb : Base w) => itoa_ok (n := h.coll) (by omega) (by omega) hb)
  have HQ2 := Lib.hid q2
  have hlt := hb.lt
  obtain ⟨W0, hW0⟩ : ∃ W0, (⟨(wordOf h.kind).toArray⟩ : ByteArray) = W0 := ⟨_, rfl⟩
  rw [hW0] at HWD
  have HW0 := Lib.hid (show W0.data.toList = wordB h.kind by rw [← hW0]; rfl)
  clear hF hFd hb q3 q4 q5 q6 q7 hr hreg hcoll hW0
  unfold shW
  go_enter Tryz.func35, Tryz.ntmps35
  go_wp2_with fail
  refine (HWD.out _).mono ?_
  rintro e w' ⟨rfl, rfl⟩
  go_wp2_with fail
  refine (HFO.out _).mono ?_
  rintro e w' ⟨rfl, rfl⟩
  go_wp2
  go_loopg [3] (F.size + 1) (fun gf v wx => LineWJ h F (.slice bp bn bc) (.slice ep en ec) w gf v wx)
  case atStart =>
    obtain ⟨Wb, hWb⟩ : ∃ Wb, w.alloc (.cells #[.int .i64 (h.kind : Int), .int .i64 h.coll, .int .i64 h.reg, .int .i64 h.a.1, .int .i64 h.a.2, .int .i64 h.b.1, .int .i64 h.b.2, .slice bp bn bc, .slice ep en ec] 45) = Wb := ⟨_, rfl⟩
    have hs : Wb.heap.size = w.heap.size + 1 := by rw [← hWb]; simp
    have hc : Cells Wb w.heap.size (shL h (.slice bp bn bc) (.slice ep en ec)) 45 := by rw [← hWb]; exact Cells.new _ _ _
    have hB : Below w.heap.size w Wb := by rw [← hWb]; exact (Below.refl _ _).alloc (Nat.le_refl _) _
    have hrow := StrRow.new1 Wb W0
    rw [hs] at hrow
    have hit := World.iter_heap (Wb.alloc (.cells #[.string W0] 9)) F 0
    rw [World.size_alloc, hs] at hit
    rw [hWb]
    have hs2 : (Wb.alloc (.cells #[.string W0] 9)).heap.size = w.heap.size + 2 := by rw [World.size_alloc, hs]
    refine ⟨0, [W0], Nat.zero_le _, hit, (hc.alloc _).alloc _, (hB.alloc hB.size _).alloc (by omega) _, hrow.kept ((Kept.refl (fun _ => False) _).alloc _) (fun _ _ _ => id), rfl, ?_, by omega⟩
    show [W0.data.toList] = _
    rw [HW0.out]
    rfl
  case round =>
    obtain ⟨j, L, hj, hit, hbx, hbw, hrow, hLn, hL, hfu⟩ := hrel
    obtain ⟨vp, vn, vc, rfl⟩ : ∃ p n c, u3 = .slice p n c := by
      rcases hrow.2 with ⟨rfl, _⟩ | ⟨g, cap, cu, rfl, _⟩
      · exact ⟨_, _, _, rfl⟩
      · exact ⟨_, _, _, rfl⟩
    obtain ⟨i0, hi0, hz0, hz1, hz2⟩ := info_parts strInfo
    by_cases hps : j < F.size
    · obtain ⟨g', rfl⟩ : ∃ g', gk = g' + 1 := ⟨gk - 1, by omega⟩
      obtain ⟨c, hcf⟩ : ∃ c, (form h.kind)[j]? = some c := ⟨_, List.getElem?_eq_getElem (by omega)⟩
      have hcx : (F[j]'hps) = c := at_of HFD.out hcf hps
      have hnx : ∀ ty, (Instr.next (.pointer (some ⟨w.heap.size + 2, 0, none⟩)) true ty).run Tryz.prog wr = .ok (.tuple #[.bool true, .int .i64 j, .int .i32 c.toNat]) (wr.iterAt (w.heap.size + 2) F (j + 1)) := fun ty => by
        rw [← hcx]
        refine Lib.run_next_ascii_at wr (w.heap.size + 2) F j ty hit hps ?_
        rw [hcx]
        rcases form_chars HQ2.out c (List.mem_of_getElem? hcf) with q | q | q | q | q | q <;> rw [q] <;> decide
      have hit2 := Lib.iterAt_heap wr (w.heap.size + 2) F j (j + 1) hit
      have hbw2 := Lib.below_iterAt hbw (k := w.heap.size + 2) (by omega) F (j + 1)
      have hbx2 : Cells (wr.iterAt (w.heap.size + 2) F (j + 1)) _ _ _ := (Lib.iterAt_other wr (w.heap.size + 2) w.heap.size F (j + 1) (by omega)).trans hbx
      have hrow2 : StrRow (w.heap.size + 1) (wr.iterAt (w.heap.size + 2) F (j + 1)) (.slice vp vn vc) L := by
        rcases hrow with ⟨r1, r2⟩
        refine ⟨r1, ?_⟩
        rcases r2 with q | ⟨g, cap, cur, q1, q2, q3, q4⟩
        · exact .inl q
        · refine .inr ⟨g, cap, cur, q1, q2, (Lib.iterAt_other wr (w.heap.size + 2) g F (j + 1) (fun e => by rw [e, hit] at q3; cases q3)).trans q3, q4⟩
      obtain ⟨W1, hWd⟩ : ∃ W1, wr.iterAt (w.heap.size + 2) F (j + 1) = W1 := ⟨_, rfl⟩
      rw [hWd] at hnx hit2 hbw2 hbx2 hrow2
      have hsz1 : w.heap.size + 2 < W1.heap.size := (Array.getElem?_eq_some_iff.1 hit2).1
      have HIT := Lib.hid hit2; have HBW := Lib.hid hbw2; have HSB := Lib.hid hbx2; have HROW := Lib.hid hrow2; have HCF := Lib.hid hcf; have HL := Lib.hid hL
      obtain ⟨⟨y0, y1, y2, y3, y4, y5, y6, y7, y8⟩, -⟩ := nine_cells HSB.out
      have hch := form_chars HQ2.out c (List.mem_of_getElem? hcf)
      have hBW1 := Lib.hid (HBASE.out.below HBW.out)
      clear hit hit2 hbw hbw2 hbx hbx2 hrow hrow2 hcf hcx hL
      rcases hch with rfl | rfl | rfl | rfl | rfl | rfl
      · obtain ⟨X, hX⟩ : ∃ X : ByteArray, (⟨(Lib.itoa h.coll).toArray⟩ : ByteArray) = X := ⟨_, rfl⟩
        have HX := Lib.hid (show X.data.toList = piece h 99 by rw [← hX]; rfl)
        rw [hX] at HCO
        clear hX HA HAB HRG
        go_wp2_with fail
        refine (HCO.out _ hBW1.out).mono ?_
        rintro e w2 ⟨rfl, hb2⟩
        have HB2 := Lib.hid (HBW.out.trans (hb2.mono (by omega)))
        have HIT2 := Lib.hid ((hb2.block (w.heap.size + 2) (by omega)).trans HIT.out)
        have HC2 := Lib.hid (HSB.out.kept (Kept.of_below hb2) (fun q => by omega))
        have HROW2 := Lib.hid (HROW.out.kept (Kept.of_below hb2) (fun b h1 h2 h3 => by omega))
        have HROW3 := Lib.hid (show (w2.alloc (.cells #[.string X] 9)).ownsRow _ _ _ _ _ _ from World.ownsRow.alloc HROW2.out _)
        have HNEWS := Lib.hid (news_str w2 X)
        have lw2 := hb2.size
        clear hb2
        go_wp2_with (at_builtin; refine wpList_append_lies _ rfl _ _ 36 rfl (w.heap.size + 1) 9 i0 _ 1 16 Tryz.underlying36 hi0 hz0 hz1 hz2 rfl (by omega) _ L.length (L.map Value.string) rfl HROW3.out ⟨w2.heap.size, 0, none⟩ 1 1 [.string X] rfl rfl HNEWS.out (by intro u hu; simp at hu; subst hu; rfl) (by omega) (by unfold maxLen; omega) (by omega) (by simp; omega) _ rfl ?_; intro gg cap8 w8 hown8 hgrow8 hat8 hlt8)
        have hkk : Kept (fun k => some k = (Value.slice vp vn vc).ownBlock) w2 w8 := ((Kept.refl (fun k => some k = (Value.slice vp vn vc).ownBlock) w2).alloc _).then (Kept.of_grown hgrow8) (fun _ _ q => q)
        have hnb : ∀ k, some k = (Value.slice vp vn vc).ownBlock → w.heap.size + 1 ≤ k ∧ ∃ cs t, w2.heap[k]? = some (.cells cs t) := by
          intro k hk
          refine ⟨(HROW2.out.lt k hk.symm).1, ?_⟩
          rcases HROW2.out.2 with ⟨q, _⟩ | ⟨g, cap, cur, q, _, q2, _⟩
          · rw [q] at hk; cases hk
          · rw [q] at hk; cases hk; exact ⟨_, _, q2⟩
        have HC8 := Lib.hid (HC2.out.kept hkk (fun q => by have := (hnb _ q).1; omega))
        have HIT8 := Lib.hid ((hkk.block (w.heap.size + 2) (by omega) (fun q => by obtain ⟨_, cs, t, e⟩ := hnb _ q; rw [HIT2.out] at e; cases e)).trans HIT2.out)
        have HB8 := Lib.hid (HB2.out.trans (hkk.below (B := w.heap.size) (by omega) (fun k h1 q => by have := (hnb _ q).1; omega)))
        have HOWN8 := Lib.hid hown8
        clear hown8 hgrow8 hat8 hkk hnb
        go_roundg g'
        case measure => omega
        case rel => exact ⟨j + 1, L ++ [X], by omega, HIT8.out, HC8.out, HB8.out, by unfold StrRow; simpa [hLn] using HOWN8.out, by simp; omega, by rw [List.map_append, HL.out, take_one HCF.out, List.map_append]; simp [HX.out], by omega⟩
      · obtain ⟨X, hX⟩ : ∃ X : ByteArray, (⟨(argT h.a).toArray⟩ : ByteArray) = X := ⟨_, rfl⟩
        have HX := Lib.hid (show X.data.toList = piece h 97 by rw [← hX]; rfl)
        rw [hX] at HA
        clear hX HCO HAB HRG
        go_wp2_with fail
        refine (HA.out _ hBW1.out).mono ?_
        rintro e w2 ⟨rfl, hb2⟩
        have HB2 := Lib.hid (HBW.out.trans (hb2.mono (by omega)))
        have HIT2 := Lib.hid ((hb2.block (w.heap.size + 2) (by omega)).trans HIT.out)
        have HC2 := Lib.hid (HSB.out.kept (Kept.of_below hb2) (fun q => by omega))
        have HROW2 := Lib.hid (HROW.out.kept (Kept.of_below hb2) (fun b h1 h2 h3 => by omega))
        have HROW3 := Lib.hid (show (w2.alloc (.cells #[.string X] 9)).ownsRow _ _ _ _ _ _ from World.ownsRow.alloc HROW2.out _)
        have HNEWS := Lib.hid (news_str w2 X)
        have lw2 := hb2.size
        clear hb2
        go_wp2_with (at_builtin; refine wpList_append_lies _ rfl _ _ 36 rfl (w.heap.size + 1) 9 i0 _ 1 16 Tryz.underlying36 hi0 hz0 hz1 hz2 rfl (by omega) _ L.length (L.map Value.string) rfl HROW3.out ⟨w2.heap.size, 0, none⟩ 1 1 [.string X] rfl rfl HNEWS.out (by intro u hu; simp at hu; subst hu; rfl) (by omega) (by unfold maxLen; omega) (by omega) (by simp; omega) _ rfl ?_; intro gg cap8 w8 hown8 hgrow8 hat8 hlt8)
        have hkk : Kept (fun k => some k = (Value.slice vp vn vc).ownBlock) w2 w8 := ((Kept.refl (fun k => some k = (Value.slice vp vn vc).ownBlock) w2).alloc _).then (Kept.of_grown hgrow8) (fun _ _ q => q)
        have hnb : ∀ k, some k = (Value.slice vp vn vc).ownBlock → w.heap.size + 1 ≤ k ∧ ∃ cs t, w2.heap[k]? = some (.cells cs t) := by
          intro k hk
          refine ⟨(HROW2.out.lt k hk.symm).1, ?_⟩
          rcases HROW2.out.2 with ⟨q, _⟩ | ⟨g, cap, cur, q, _, q2, _⟩
          · rw [q] at hk; cases hk
          · rw [q] at hk; cases hk; exact ⟨_, _, q2⟩
        have HC8 := Lib.hid (HC2.out.kept hkk (fun q => by have := (hnb _ q).1; omega))
        have HIT8 := Lib.hid ((hkk.block (w.heap.size + 2) (by omega) (fun q => by obtain ⟨_, cs, t, e⟩ := hnb _ q; rw [HIT2.out] at e; cases e)).trans HIT2.out)
        have HB8 := Lib.hid (HB2.out.trans (hkk.below (B := w.heap.size) (by omega) (fun k h1 q => by have := (hnb _ q).1; omega)))
        have HOWN8 := Lib.hid hown8
        clear hown8 hgrow8 hat8 hkk hnb
        go_roundg g'
        case measure => omega
        case rel => exact ⟨j + 1, L ++ [X], by omega, HIT8.out, HC8.out, HB8.out, by unfold StrRow; simpa [hLn] using HOWN8.out, by simp; omega, by rw [List.map_append, HL.out, take_one HCF.out, List.map_append]; simp [HX.out], by omega⟩
      · obtain ⟨X, hX⟩ : ∃ X : ByteArray, (⟨(argT h.b).toArray⟩ : ByteArray) = X := ⟨_, rfl⟩
        have HX := Lib.hid (show X.data.toList = piece h 98 by rw [← hX]; rfl)
        rw [hX] at HAB
        clear hX HCO HA HRG
        go_wp2_with fail
        refine (HAB.out _ hBW1.out).mono ?_
        rintro e w2 ⟨rfl, hb2⟩
        have HB2 := Lib.hid (HBW.out.trans (hb2.mono (by omega)))
        have HIT2 := Lib.hid ((hb2.block (w.heap.size + 2) (by omega)).trans HIT.out)
        have HC2 := Lib.hid (HSB.out.kept (Kept.of_below hb2) (fun q => by omega))
        have HROW2 := Lib.hid (HROW.out.kept (Kept.of_below hb2) (fun b h1 h2 h3 => by omega))
        have HROW3 := Lib.hid (show (w2.alloc (.cells #[.string X] 9)).ownsRow _ _ _ _ _ _ from World.ownsRow.alloc HROW2.out _)
        have HNEWS := Lib.hid (news_str w2 X)
        have lw2 := hb2.size
        clear hb2
        go_wp2_with (at_builtin; refine wpList_append_lies _ rfl _ _ 36 rfl (w.heap.size + 1) 9 i0 _ 1 16 Tryz.underlying36 hi0 hz0 hz1 hz2 rfl (by omega) _ L.length (L.map Value.string) rfl HROW3.out ⟨w2.heap.size, 0, none⟩ 1 1 [.string X] rfl rfl HNEWS.out (by intro u hu; simp at hu; subst hu; rfl) (by omega) (by unfold maxLen; omega) (by omega) (by simp; omega) _ rfl ?_; intro gg cap8 w8 hown8 hgrow8 hat8 hlt8)
        have hkk : Kept (fun k => some k = (Value.slice vp vn vc).ownBlock) w2 w8 := ((Kept.refl (fun k => some k = (Value.slice vp vn vc).ownBlock) w2).alloc _).then (Kept.of_grown hgrow8) (fun _ _ q => q)
        have hnb : ∀ k, some k = (Value.slice vp vn vc).ownBlock → w.heap.size + 1 ≤ k ∧ ∃ cs t, w2.heap[k]? = some (.cells cs t) := by
          intro k hk
          refine ⟨(HROW2.out.lt k hk.symm).1, ?_⟩
          rcases HROW2.out.2 with ⟨q, _⟩ | ⟨g, cap, cur, q, _, q2, _⟩
          · rw [q] at hk; cases hk
          · rw [q] at hk; cases hk; exact ⟨_, _, q2⟩
        have HC8 := Lib.hid (HC2.out.kept hkk (fun q => by have := (hnb _ q).1; omega))
        have HIT8 := Lib.hid ((hkk.block (w.heap.size + 2) (by omega) (fun q => by obtain ⟨_, cs, t, e⟩ := hnb _ q; rw [HIT2.out] at e; cases e)).trans HIT2.out)
        have HB8 := Lib.hid (HB2.out.trans (hkk.below (B := w.heap.size) (by omega) (fun k h1 q => by have := (hnb _ q).1; omega)))
        have HOWN8 := Lib.hid hown8
        clear hown8 hgrow8 hat8 hkk hnb
        go_roundg g'
        case measure => omega
        case rel => exact ⟨j + 1, L ++ [X], by omega, HIT8.out, HC8.out, HB8.out, by unfold StrRow; simpa [hLn] using HOWN8.out, by simp; omega, by rw [List.map_append, HL.out, take_one HCF.out, List.map_append]; simp [HX.out], by omega⟩
      · obtain ⟨X, hX⟩ : ∃ X : ByteArray, (⟨(argT h.a).toArray⟩ : ByteArray) = X := ⟨_, rfl⟩
        have HX := Lib.hid (show X.data.toList = piece h 110 by rw [← hX]; rfl)
        rw [hX] at HA
        clear hX HCO HAB HRG
        go_wp2_with fail
        refine (HA.out _ hBW1.out).mono ?_
        rintro e w2 ⟨rfl, hb2⟩
        have HB2 := Lib.hid (HBW.out.trans (hb2.mono (by omega)))
        have HIT2 := Lib.hid ((hb2.block (w.heap.size + 2) (by omega)).trans HIT.out)
        have HC2 := Lib.hid (HSB.out.kept (Kept.of_below hb2) (fun q => by omega))
        have HROW2 := Lib.hid (HROW.out.kept (Kept.of_below hb2) (fun b h1 h2 h3 => by omega))
        have HROW3 := Lib.hid (show (w2.alloc (.cells #[.string X] 9)).ownsRow _ _ _ _ _ _ from World.ownsRow.alloc HROW2.out _)
        have HNEWS := Lib.hid (news_str w2 X)
        have lw2 := hb2.size
        clear hb2
        go_wp2_with (at_builtin; refine wpList_append_lies _ rfl _ _ 36 rfl (w.heap.size + 1) 9 i0 _ 1 16 Tryz.underlying36 hi0 hz0 hz1 hz2 rfl (by omega) _ L.length (L.map Value.string) rfl HROW3.out ⟨w2.heap.size, 0, none⟩ 1 1 [.string X] rfl rfl HNEWS.out (by intro u hu; simp at hu; subst hu; rfl) (by omega) (by unfold maxLen; omega) (by omega) (by simp; omega) _ rfl ?_; intro gg cap8 w8 hown8 hgrow8 hat8 hlt8)
        have hkk : Kept (fun k => some k = (Value.slice vp vn vc).ownBlock) w2 w8 := ((Kept.refl (fun k => some k = (Value.slice vp vn vc).ownBlock) w2).alloc _).then (Kept.of_grown hgrow8) (fun _ _ q => q)
        have hnb : ∀ k, some k = (Value.slice vp vn vc).ownBlock → w.heap.size + 1 ≤ k ∧ ∃ cs t, w2.heap[k]? = some (.cells cs t) := by
          intro k hk
          refine ⟨(HROW2.out.lt k hk.symm).1, ?_⟩
          rcases HROW2.out.2 with ⟨q, _⟩ | ⟨g, cap, cur, q, _, q2, _⟩
          · rw [q] at hk; cases hk
          · rw [q] at hk; cases hk; exact ⟨_, _, q2⟩
        have HC8 := Lib.hid (HC2.out.kept hkk (fun q => by have := (hnb _ q).1; omega))
        have HIT8 := Lib.hid ((hkk.block (w.heap.size + 2) (by omega) (fun q => by obtain ⟨_, cs, t, e⟩ := hnb _ q; rw [HIT2.out] at e; cases e)).trans HIT2.out)
        have HB8 := Lib.hid (HB2.out.trans (hkk.below (B := w.heap.size) (by omega) (fun k h1 q => by have := (hnb _ q).1; omega)))
        have HOWN8 := Lib.hid hown8
        clear hown8 hgrow8 hat8 hkk hnb
        go_roundg g'
        case measure => omega
        case rel => exact ⟨j + 1, L ++ [X], by omega, HIT8.out, HC8.out, HB8.out, by unfold StrRow; simpa [hLn] using HOWN8.out, by simp; omega, by rw [List.map_append, HL.out, take_one HCF.out, List.map_append]; simp [HX.out], by omega⟩
      · obtain ⟨X, hX⟩ : ∃ X : ByteArray, (⟨(114 :: Lib.itoa h.reg).toArray⟩ : ByteArray) = X := ⟨_, rfl⟩
        have HX := Lib.hid (show X.data.toList = piece h 114 by rw [← hX]; rfl)
        rw [hX] at HRG
        clear hX HCO HAB HA
        go_wp2_with fail
        refine (HRG.out _ hBW1.out).mono ?_
        rintro e w2 ⟨rfl, hb2⟩
        have HB2 := Lib.hid (HBW.out.trans (hb2.mono (by omega)))
        have HIT2 := Lib.hid ((hb2.block (w.heap.size + 2) (by omega)).trans HIT.out)
        have HC2 := Lib.hid (HSB.out.kept (Kept.of_below hb2) (fun q => by omega))
        have HROW2 := Lib.hid (HROW.out.kept (Kept.of_below hb2) (fun b h1 h2 h3 => by omega))
        have HROW3 := Lib.hid (show (w2.alloc (.cells #[.string X] 9)).ownsRow _ _ _ _ _ _ from World.ownsRow.alloc HROW2.out _)
        have HNEWS := Lib.hid (news_str w2 X)
        have lw2 := hb2.size
        clear hb2
        go_wp2_with (at_builtin; refine wpList_append_lies _ rfl _ _ 36 rfl (w.heap.size + 1) 9 i0 _ 1 16 Tryz.underlying36 hi0 hz0 hz1 hz2 rfl (by omega) _ L.length (L.map Value.string) rfl HROW3.out ⟨w2.heap.size, 0, none⟩ 1 1 [.string X] rfl rfl HNEWS.out (by intro u hu; simp at hu; subst hu; rfl) (by omega) (by unfold maxLen; omega) (by omega) (by simp; omega) _ rfl ?_; intro gg cap8 w8 hown8 hgrow8 hat8 hlt8)
        have hkk : Kept (fun k => some k = (Value.slice vp vn vc).ownBlock) w2 w8 := ((Kept.refl (fun k => some k = (Value.slice vp vn vc).ownBlock) w2).alloc _).then (Kept.of_grown hgrow8) (fun _ _ q => q)
        have hnb : ∀ k, some k = (Value.slice vp vn vc).ownBlock → w.heap.size + 1 ≤ k ∧ ∃ cs t, w2.heap[k]? = some (.cells cs t) := by
          intro k hk
          refine ⟨(HROW2.out.lt k hk.symm).1, ?_⟩
          rcases HROW2.out.2 with ⟨q, _⟩ | ⟨g, cap, cur, q, _, q2, _⟩
          · rw [q] at hk; cases hk
          · rw [q] at hk; cases hk; exact ⟨_, _, q2⟩
        have HC8 := Lib.hid (HC2.out.kept hkk (fun q => by have := (hnb _ q).1; omega))
        have HIT8 := Lib.hid ((hkk.block (w.heap.size + 2) (by omega) (fun q => by obtain ⟨_, cs, t, e⟩ := hnb _ q; rw [HIT2.out] at e; cases e)).trans HIT2.out)
        have HB8 := Lib.hid (HB2.out.trans (hkk.below (B := w.heap.size) (by omega) (fun k h1 q => by have := (hnb _ q).1; omega)))
        have HOWN8 := Lib.hid hown8
        clear hown8 hgrow8 hat8 hkk hnb
        go_roundg g'
        case measure => omega
        case rel => exact ⟨j + 1, L ++ [X], by omega, HIT8.out, HC8.out, HB8.out, by unfold StrRow; simpa [hLn] using HOWN8.out, by simp; omega, by rw [List.map_append, HL.out, take_one HCF.out, List.map_append]; simp [HX.out], by omega⟩
      · obtain ⟨X, hX⟩ : ∃ X : ByteArray, (⟨#[123]⟩ : ByteArray) = X := ⟨_, rfl⟩
        have HX := Lib.hid (show X.data.toList = piece h 123 by rw [← hX]; rfl)
        obtain ⟨w2, hw2⟩ : ∃ w2, w2 = W1 := ⟨_, rfl⟩
        have hb2 : Below W1.heap.size W1 w2 := by rw [hw2]; exact Below.refl _ _
        clear HCO HAB HA HRG
        have HB2 := Lib.hid (HBW.out.trans (hb2.mono (by omega)))
        have HIT2 := Lib.hid ((hb2.block (w.heap.size + 2) (by omega)).trans HIT.out)
        have HC2 := Lib.hid (HSB.out.kept (Kept.of_below hb2) (fun q => by omega))
        have HROW2 := Lib.hid (HROW.out.kept (Kept.of_below hb2) (fun b h1 h2 h3 => by omega))
        have HROW3 := Lib.hid (show (w2.alloc (.cells #[.string X] 9)).ownsRow _ _ _ _ _ _ from World.ownsRow.alloc HROW2.out _)
        have HNEWS := Lib.hid (news_str w2 X)
        have lw2 := hb2.size
        clear hb2
        subst hw2
        subst hX
        go_wp2_with (at_builtin; refine wpList_append_lies _ rfl _ _ 36 rfl (w.heap.size + 1) 9 i0 _ 1 16 Tryz.underlying36 hi0 hz0 hz1 hz2 rfl (by omega) _ L.length (L.map Value.string) rfl HROW3.out ⟨w2.heap.size, 0, none⟩ 1 1 [.string ⟨#[123]⟩] rfl rfl HNEWS.out (by intro u hu; simp at hu; subst hu; rfl) (by omega) (by unfold maxLen; omega) (by omega) (by simp; omega) _ rfl ?_; intro gg cap8 w8 hown8 hgrow8 hat8 hlt8)
        have hkk : Kept (fun k => some k = (Value.slice vp vn vc).ownBlock) w2 w8 := ((Kept.refl (fun k => some k = (Value.slice vp vn vc).ownBlock) w2).alloc _).then (Kept.of_grown hgrow8) (fun _ _ q => q)
        have hnb : ∀ k, some k = (Value.slice vp vn vc).ownBlock → w.heap.size + 1 ≤ k ∧ ∃ cs t, w2.heap[k]? = some (.cells cs t) := by
          intro k hk
          refine ⟨(HROW2.out.lt k hk.symm).1, ?_⟩
          rcases HROW2.out.2 with ⟨q, _⟩ | ⟨g, cap, cur, q, _, q2, _⟩
          · rw [q] at hk; cases hk
          · rw [q] at hk; cases hk; exact ⟨_, _, q2⟩
        have HC8 := Lib.hid (HC2.out.kept hkk (fun q => by have := (hnb _ q).1; omega))
        have HIT8 := Lib.hid ((hkk.block (w.heap.size + 2) (by omega) (fun q => by obtain ⟨_, cs, t, e⟩ := hnb _ q; rw [HIT2.out] at e; cases e)).trans HIT2.out)
        have HB8 := Lib.hid (HB2.out.trans (hkk.below (B := w.heap.size) (by omega) (fun k h1 q => by have := (hnb _ q).1; omega)))
        have HOWN8 := Lib.hid hown8
        clear hown8 hgrow8 hat8 hkk hnb
        go_roundg g'
        case measure => omega
        case rel => exact ⟨j + 1, L ++ [⟨#[123]⟩], by omega, HIT8.out, HC8.out, HB8.out, by unfold StrRow; simpa [hLn] using HOWN8.out, by simp; omega, by rw [List.map_append, HL.out, take_one HCF.out, List.map_append]; simp [show piece h 123 = [123] from rfl], by omega⟩
    · have hnx : ∀ ty, (Instr.next (.pointer (some ⟨w.heap.size + 2, 0, none⟩)) true ty).run Tryz.prog wr = _ := fun ty => Lib.run_next_end_at wr (w.heap.size + 2) F j ty hit hps
      have HL := Lib.hid (show L.map (·.data.toList) = lineW h by rw [hL, List.take_of_length_le (by omega)]; rfl)
      have HROW := Lib.hid hrow; have HB := Lib.hid hbw
      clear hrow hbw hit hbx hL
      go_wp2
      go_ret
      exact ⟨HB.out, _, L, rfl, HROW.out.low (by omega), HL.out⟩
end Go.Proofs.YtikgbgminhgpdaaGreatDoor
