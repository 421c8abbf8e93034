/- Layer 18 (count): stripe, Add, Sum. -/
import Derived.Test.YtdipidiahekpkaaGreatDoorTxn
namespace Go.Proofs.YtdipidiahekpkaaGreatDoor
open Go.RowKit Bl Th
set_option maxRecDepth 10000

theorem wrap_add (a x : Nat) : IntKind.u64.wrap ((a : Int) + (x : Int)) = (((a + x) % 18446744073709551616 : Nat) : Int) := by
  show ((a : Int) + (x : Int)) % 18446744073709551616 = _
  omega
theorem wrap_toU (x : Int) : IntKind.u64.wrap x = (toU x : Int) := by
  show x % 18446744073709551616 = _
  unfold toU
  omega
theorem toU_lt (x : Int) : toU x < 18446744073709551616 := by unfold toU; omega
/-- The cells, in their block. -/
def CellsIn (w : World) (g : Nat) (cells : List Nat) : Prop := ∀ (k x : Nat), cells[k]? = some x → w.cell? ⟨g, k, none⟩ = some (.int .u64 (x : Int))
theorem CellsIn.heldBy {w w' : World} {g : Nat} {cells : List Nat} {R : List Nat} (h : CellsIn w g cells) (k : HeldBy R w w') (hg : g ∈ R) : CellsIn w' g cells := fun i x hx => (k.cell (a := ⟨g, i, none⟩) hg).trans (h i x hx)
theorem CellsIn.at {w : World} {g k x : Nat} {cells : List Nat} (h : CellsIn w g cells) (hx : cells[k]? = some x) : w.cell? ⟨g, k, none⟩ = some (.int .u64 (x : Int)) := h k x hx
theorem stripe_ok {w : World} {g n gcap : Nat} {cells : List Nat} (h : CellsIn w g cells) (hn : cells.length = n) (h1 : 1 ≤ n) (h2 : n ≤ 1000) (key : Int) : Calls Tryz.prog 39 #[.slice (some ⟨g, 0, none⟩) n gcap, .int .i64 key] w fun e w' => e = .returned (.int .u64 (stripe cells key : Int)) ∧ w = w' := by
  have hlt : toU key % n < n := Nat.mod_lt _ (by omega)
  obtain ⟨x, hx⟩ : ∃ x, cells[toU key % n]? = some x := ⟨_, List.getElem?_eq_getElem (by rw [hn]; exact hlt)⟩
  have q := h.at hx
  have e : stripe cells key = x := by simp [stripe, hn, List.getD_eq_getElem?_getD, hx]
  rw [e]
  have g1 := wrap_toU key
  have g2 : (toU key : Int).tmod (n : Int) = ((toU key % n : Nat) : Int) := by rw [Int.ofNat_tmod]
  have g3 : IntKind.u64.wrap (n : Int) = (n : Int) := by show (n : Int) % 18446744073709551616 = _; omega
  have g4 : ((n : Int) == 0) = false := by simp; omega
  have g5 : (n == 0) = false := by simp; omega
  have hlt' : ((toU key % n : Nat) : Int) < (n : Int) := by omega
  obtain ⟨u, hu⟩ : ∃ u, toU key = u := ⟨_, rfl⟩
  obtain ⟨m, hm⟩ : ∃ m, u % n = m := ⟨_, rfl⟩
  rw [hu] at g1 g2 hlt' hlt q
  rw [hm] at g2 hlt' hlt q
  clear h hx hn e hu hm
  go_enter Tryz.func39, Tryz.ntmps39
  go_wp2
  go_ret
  exact ⟨rfl, rfl⟩
theorem cSum_log : ∀ (l : List Nat) (t : Tx) (m : Nat) (c : CS), (exec (cSum l t m) c).1.2.2.sets.log = t.sets.log
  | [], _, _, _ => rfl
  | x :: l, t, m, c => by
    have h := xRead_log t x c
    unfold cSum
    simp only [exec_bind]
    split
    · rw [cSum_log l]
      exact h
    · exact h
/-- What holds at each round's head. -/
def SumJ (W : World) (R B : List Nat) (pa pb pc pt : Nat) (cells : List Nat) (t0 : Tx) (c0 : CS) (wi : World) (nv iv : Value) (wr : World) : Prop :=
  ∃ (k m : Nat) (t : Tx) (c : CS) (B1 : List Nat), k ≤ cells.length ∧ iv = .int .i64 (k : Int) ∧ nv = .int .u64 (m : Int) ∧ m < 18446744073709551616 ∧ TxAt W pt t B1 wr ∧ Ctx W (B1 ++ R) pa pb pc c wr ∧ HeldBy R wi wr ∧ (∀ b ∈ B1, b ∈ B ∨ wi.heap.size ≤ b) ∧ exec (cSum cells t0 0) c0 = exec (cSum (cells.drop k) t m) c
set_option maxHeartbeats 4000000 in
theorem sum_ok {W : World} {R B : List Nat} {pa pb pc pt px g n gcap : Nat} {c : CS} {t : Tx} {wi : World} {cells : List Nat} (h : Ctx W (B ++ R) pa pb pc c wi) (hg : Handle W) (ht : TxAt W pt t B wi) (hBR : ∀ b ∈ B, b ∉ R) (hx : TnAt px pt pc wi) (hpx : px ∈ R) (ha : CellsIn wi g cells) (hgR : g ∈ R) (hn : cells.length = n) (h2 : n ≤ 1000) (hcells : ∀ x ∈ cells, x < 18446744073709551616) :
    Calls Tryz.prog 24 #[.pointer (some ⟨px, 0, none⟩), .slice (some ⟨g, 0, none⟩) n gcap] wi (TxPost W R pa pb pc pt B wi (cSum cells t 0) c (fun x : Nat × Tx => x.1 < 18446744073709551616) Prod.snd (fun (x : Nat × Tx) v => .tuple #[.int .i64 (toI x.1), v])) := by
  have HG := Lib.hid hg; have HX := Lib.hid hx; have HA := Lib.hid ha; have HPX := Lib.hid hpx; have HGR := Lib.hid hgR; have HN := Lib.hid hn; have HCL := Lib.hid hcells
  have HRB := Lib.hid (show ∀ (B1 : List Nat), (∀ b ∈ B1, b ∈ B ∨ wi.heap.size ≤ b) → ∀ b ∈ B1, b ∉ R from fun B1 hB b hb hm => by
    rcases hB b hb with q | q
    · exact hBR b q hm
    · have := h.heldR b (List.mem_append_right _ hm)
      omega)
  have HJ := Lib.hid (show SumJ W R B pa pb pc pt cells t c wi (.int .u64 0) (.int .i64 0) wi from ⟨0, 0, t, c, B, Nat.zero_le _, rfl, rfl, by omega, ht, h, HeldBy.refl _ _, fun b hb => .inl hb, rfl⟩)
  clear h hg ht hBR hx hpx ha hgR hn hcells
  go_enter Tryz.func24, Tryz.ntmps24
  go_wp2
  go_loopw [6, 13] (SumJ W R B pa pb pc pt cells t c wi) (fun _ i _ => n - (intOf i).toNat)
  case atStart => exact HJ.out
  case round =>
    clear HJ
    obtain ⟨k, m, t1, c1, B1, hk, rfl, rfl, hm, ht, hc, hh, hB, hxx⟩ := hrel
    rw [HN.out] at hk
    by_cases hlt : k < n
    · have hlt' : (k : Int) < (n : Int) := by omega
      have hkl : k < cells.length := by rw [HN.out]; exact hlt
      obtain ⟨x, hx⟩ : ∃ x, cells[k]? = some x := ⟨cells[k], List.getElem?_eq_getElem hkl⟩
      have hdrop : cells.drop k = x :: cells.drop (k + 1) := by
        rw [List.drop_eq_getElem_cons hkl]
        rw [List.getElem?_eq_getElem hkl] at hx
        rw [Option.some.inj hx]
      have q0 := (HA.out.heldBy hh HGR.out).at hx
      have HRD := Lib.hid (xread_ok hc HG.out ht (HRB.out B1 hB) (HX.out.heldBy hh HPX.out) HPX.out (cell := x) (HCL.out x (List.mem_of_getElem? hx)))
      rw [hdrop] at hxx
      have HXX := Lib.hid hxx; have HH := Lib.hid hh; have HB := Lib.hid hB
      clear hxx hh hB hc ht hx hdrop hkl
      go_wp2_with fail
      refine HRD.out.mono ?_
      rintro e w2 ⟨nn, ⟨v, t2⟩, c2, ev, E, B2, hx2, hv, rfl, he, ht2, hc2, hh2, hB2, hEB⟩
      have hB3 : ∀ b ∈ E ++ B2, b ∈ B ∨ wi.heap.size ≤ b := fun b hb => by
        rcases hB2 b hb with q | q
        · exact HB.out b q
        · exact .inr (Nat.le_trans HH.out.1 q)
      by_cases h0 : nn = 0
      · subst h0
        obtain ⟨rfl, rfl⟩ := he.isNil rfl
        have g1 := wrap_add m v
        have HREL := Lib.hid (show SumJ W R B pa pb pc pt cells t c wi (.int .u64 (((m + v) % 18446744073709551616 : Nat) : Int)) (.int .i64 ((k + 1 : Nat) : Int)) w2 from ⟨k + 1, (m + v) % 18446744073709551616, t2, c2, B2, by rw [HN.out]; omega, rfl, rfl, Nat.mod_lt _ (by omega), ht2, hc2, HH.out.trans hh2, hB3, by rw [HXX.out]; simp only [cSum, exec_bind, hx2, if_true]⟩)
        have g2 : IntKind.i64.wrap ((k : Int) + 1) = ((k + 1 : Nat) : Int) := by rw [IntWalk.i64_in _ (by omega)]; rfl
        clear hx2 hv he ht2 hc2 hh2 hB2 hEB hB3 HRD q0
        go_wp2
        go_roundw
        case rel => exact HREL.out
        case measure => simp [intOf]; omega
      · have HF := Lib.hid (show TxPost W R pa pb pc pt B wi (cSum cells t 0) c (fun x : Nat × Tx => x.1 < 18446744073709551616) Prod.snd (fun (x : Nat × Tx) v => .tuple #[.int .i64 (toI x.1), v]) (.returned (.tuple #[.int .i64 0, ev])) w2 from ⟨nn, (0, t2), c2, ev, E, B2, by rw [HXX.out]; simp only [cSum, exec_bind, hx2, if_neg h0, exec], by simp, rfl, he, ht2, hc2, HH.out.trans hh2, hB3, hEB⟩)
        obtain ⟨tt, xx, rfl⟩ := he.iface h0
        clear hx2 hv he ht2 hc2 hh2 hB2 hEB hB3 HRD q0
        go_wp2
        go_ret2
        exact HF.out
    · obtain rfl : k = n := by omega
      have g3 : decide ((k : Int) < (k : Int)) = false := by simp
      have g4 : wrap64 (m : Int) = toI m := wrap_toI m hm
      have hd : cells.drop k = [] := by rw [← HN.out, List.drop_length]
      have HF := Lib.hid (show TxPost W R pa pb pc pt B wi (cSum cells t 0) c (fun x : Nat × Tx => x.1 < 18446744073709551616) Prod.snd (fun (x : Nat × Tx) v => .tuple #[.int .i64 (toI x.1), v]) (.returned (.tuple #[.int .i64 (wrap64 (m : Int)), .nilIface])) wr by rw [g4]; exact ⟨0, (m, t1), c1, _, [], B1, by rw [hxx, hd]; rfl, hm, rfl, .none, ht, hc, hh, hB, by simp⟩)
      clear hm ht hc hh hB hxx hd g4
      go_wp2
      go_ret2
      exact HF.out
/-- Add. -/
theorem cAdd_log (cells : List Nat) (t : Tx) (key n : Int) (c : CS) : (exec (cAdd cells t key n) c).1.2.sets.log.length ≤ t.sets.log.length + 1 := by
  have h := xRead_log t (stripe cells key) c
  unfold cAdd
  simp only [exec_bind]
  split
  · simp only [exec]
    have := xWrite_log (exec (tRead t (stripe cells key)) c).1.2.2 (stripe cells key) (((exec (tRead t (stripe cells key)) c).1.2.1 + toU n) % 18446744073709551616)
    rw [h] at this
    exact this
  · simp only [exec]
    rw [h]
    omega
set_option maxHeartbeats 4000000 in
theorem add_ok {W : World} {R B : List Nat} {pa pb pc pt px g n gcap : Nat} {c : CS} {t : Tx} {wi : World} {cells : List Nat} (h : Ctx W (B ++ R) pa pb pc c wi) (hg : Handle W) (ht : TxAt W pt t B wi) (hBR : ∀ b ∈ B, b ∉ R) (hx : TnAt px pt pc wi) (hpx : px ∈ R) (ha : CellsIn wi g cells) (hn : cells.length = n) (h1 : 1 ≤ n) (h2 : n ≤ 1000) (hcells : ∀ x ∈ cells, x < 18446744073709551616) (hlog : t.sets.log.length < 1000000000) (key num : Int) :
    Calls Tryz.prog 25 #[.pointer (some ⟨px, 0, none⟩), .slice (some ⟨g, 0, none⟩) n gcap, .int .i64 key, .int .i64 num] wi (TxPost W R pa pb pc pt B wi (cAdd cells t key num) c (fun _ => True) id (fun _ v => v)) := by
  have hsf : stripe cells key < 18446744073709551616 := by
    unfold stripe
    have hlt : toU key % cells.length < cells.length := Nat.mod_lt _ (by omega)
    rw [List.getD_eq_getElem?_getD, List.getElem?_eq_getElem hlt]
    exact hcells _ (List.getElem_mem hlt)
  have HST := Lib.hid (stripe_ok (gcap := gcap) ha hn h1 h2 key)
  have HRD := Lib.hid (xread_ok h hg ht hBR hx hpx hsf)
  have HX := Lib.hid hx; have HPX := Lib.hid hpx; have HBR := Lib.hid hBR; have HLOG := Lib.hid hlog; have HSF := Lib.hid hsf
  have HW := Lib.hid h.below.size
  have HRL := Lib.hid (show ∀ b ∈ R, b < wi.heap.size from fun b hb => h.heldR b (List.mem_append_right _ hb))
  have g1 : ((n : Int) == 0) = false := by simp; omega
  have g1' : (n == 0) = false := by simp; omega
  have g2 := wrap_toU num
  clear h hg ht hBR hx hpx ha hn h1 h2 hcells hlog hsf
  go_enter Tryz.func25, Tryz.ntmps25
  go_wp2_with (go_at_call 39; refine HST.out.mono ?_; rintro e w' ⟨rfl, rfl⟩)
  refine HRD.out.mono ?_
  rintro e w2 ⟨nn, ⟨v, t2⟩, c2, ev, E, B2, hx2, hv, rfl, he, ht2, hc2, hh2, hB2, hEB⟩
  by_cases h0 : nn = 0
  · subst h0
    obtain ⟨rfl, rfl⟩ := he.isNil rfl
    have hap : ∀ b ∈ B2, b ∉ R := fun b hb hm => by
      rcases hB2 b (by simpa using hb) with q | q
      · exact HBR.out b q hm
      · have := HRL.out b hm
        omega
    have hlg : t2.sets.log.length < 1000000000 := by
      have := xRead_log t (stripe cells key) c
      rw [hx2] at this
      simp only at this
      rw [this]
      exact HLOG.out
    have HWR := Lib.hid (xwrite_ok ht2 (HX.out.heldBy hh2 HPX.out) HSF.out (Nat.mod_lt (v + toU num) (by omega)) (Nat.le_trans HW.out hh2.1) hlg)
    have g3 := wrap_add v (toU num)
    have HT2 := Lib.hid ht2; have HC2 := Lib.hid (show Ctx W (B2 ++ R) pa pb pc c2 w2 from hc2); have HH2 := Lib.hid hh2; have HB2 := Lib.hid hB2; have HAP := Lib.hid hap; have HX2 := Lib.hid hx2
    clear hx2 hv he ht2 hc2 hh2 hB2 hEB HRD hap hlg
    go_wp2_with fail
    refine HWR.out.mono ?_
    rintro e w3 ⟨v3, E3, B3, rfl, he3, ht3, hk3, hB3, hE3, hEB3⟩
    obtain ⟨e1, e2⟩ := TxSet.ctx HC2.out HT2.out.new HAP.out he3 ht3 hk3 hB3 hE3
    have HF := Lib.hid (show TxPost W R pa pb pc pt B wi (cAdd cells t key num) c (fun _ => True) id (fun _ v => v) (.returned v3) w3 from ⟨_, (tWrite t2 (stripe cells key) ((v + toU num) % 18446744073709551616)).2, c2, v3, E3, B3, by simp only [cAdd, exec_bind, HX2.out, if_true, exec], trivial, rfl, he3, ht3, e1, HH2.out.trans e2, fun b hb => by
      rcases List.mem_append.1 hb with q | q
      · exact .inr (Nat.le_trans HH2.out.1 (hE3 b q))
      · rcases hB3 b q with q | q
        · exact HB2.out b (by simpa using q)
        · exact .inr (Nat.le_trans HH2.out.1 q), hEB3⟩)
    have hsh := he3.shape
    clear he3 ht3 hk3 hB3 hE3 hEB3 e1 e2 HWR
    rcases hsh with rfl | ⟨tt, xx, rfl⟩
    all_goals
      go_wp2
      go_ret
      exact HF.out
  · have HF := Lib.hid (show TxPost W R pa pb pc pt B wi (cAdd cells t key num) c (fun _ => True) id (fun _ v => v) (.returned ev) w2 from ⟨nn, t2, c2, ev, E, B2, by simp only [cAdd, exec_bind, hx2, if_neg h0, exec], trivial, rfl, he, ht2, hc2, hh2, hB2, hEB⟩)
    obtain ⟨tt, xx, rfl⟩ := he.iface h0
    clear hx2 hv he ht2 hc2 hh2 hB2 hEB HRD h0
    go_wp2
    go_ret
    exact HF.out
end Go.Proofs.YtdipidiahekpkaaGreatDoor
