/- Layer 13 (ref): Commit. -/
import Derived.Test.YtmdganpealbmpaaGreatDoorRef4
import Derived.Deep.DeepCutAuto
namespace Go.Proofs.YtmdganpealbmpaaGreatDoor
open Go.RowKit Bl Th
set_option maxRecDepth 100000

theorem tcommit_nil (p : Value) (w : World) : Calls Tryz.prog 48 #[.pointer none, p] w fun e w' => e = .returned (.tuple #[.int .i64 0, .bool false, errV 1]) ∧ Below w.heap.size w w' := by
  go_enter Tryz.func48, Tryz.ntmps48
  go_wp2_with (go_at_call 75; refine (tmade_nil _).mono ?_; rintro e w' ⟨rfl, rfl⟩)
  go_ret3
  exact ⟨rfl, (Below.refl _ _).alloc (Nat.le_refl _) _⟩

/-- What Commit does behind Left. -/
def tCommitIn (t : Tx) : Tree (Nat × (Int × Bool × Tx)) :=
  (tLocks t [] t.sets.writes).bind fun r => if r.1 = 0 then
      (mTick t.clock).bind fun s =>
        (if s.1 = 0 then tStill (fun c => (wget c t.sets.writes).isNone) t.sets.reads else .ret (s.1, ())).bind fun u =>
          if u.1 = 0 then (tPuts s.2 false t.sets.writes).bind fun p => .ret (p.1, if p.1 = 0 then s.2 else 0, p.2, if p.1 = 0 then { t with stamp := s.2 } else t)
          else (tFail u.1 t.sets.writes).bind fun f => .ret (f.1, 0, false, t)
    else .ret (r.1, 0, false, t)
theorem tCommit_left (t : Tx) (c : CS) (h : t.sets.writes ≠ []) : exec (tCommit t) c = if 6000 - (c.next : Int) < 40 * t.sets.writes.length + 2 * t.sets.reads.length + 40 then ((15, 0, false, t), c) else exec (tCommitIn t) c := by
  unfold tCommit
  rw [if_neg h]
  simp only [exec]
  split
  · rfl
  · rfl

theorem tick_fails {t : Tx} {c c1 c2 c4 : CS} {nn n4 : Nat} {s : Int} {u u' : Unit} (h1 : exec (tLocks t [] t.sets.writes) c = ((0, u), c1)) (h2 : exec (mTick t.clock) c1 = ((nn, s), c2)) (h0 : nn ≠ 0) (h4 : exec (tFail nn t.sets.writes) c2 = ((n4, u'), c4)) : exec (tCommitIn t) c = ((n4, 0, false, t), c4) := by
  unfold tCommitIn
  rw [exec_bind, h1]
  show exec (if (0 : Nat) = 0 then _ else _) c1 = _
  rw [if_pos rfl, exec_bind, h2]
  simp only
  rw [exec_bind, if_neg h0]
  show exec (if nn = 0 then _ else _) c2 = _
  rw [if_neg h0, exec_bind]
  have h5 : exec (tFail (exec (Tree.ret (nn, ())) c2).1.1 t.sets.writes) c2 = ((n4, u'), c4) := h4
  rw [h5]
  rfl
theorem ef_commit1 (args : Array Value) (w : World) : (callFunc 83 args).run Tryz.prog w = .ok (.enter 83 args) w := enters_of Tryz.func83 (by kernel_rfl) rfl args w
/-- Behind the locks: what is so while Commit goes on. -/
structure Comm (W : World) (R B Q : List Nat) (pa pb pc pt bt : Nat) (t : Tx) (lv : Value) (w1 : World) (c : CS) (w : World) : Prop where
  ctx : Ctx W (bt :: (Q ++ (B ++ R))) pa pb pc c w
  held : HeldBy (bt :: (Q ++ (B ++ R))) w1 w
structure Comm0 (W : World) (R B Q : List Nat) (pt bt : Nat) (t : Tx) (lv : Value) (wi w1 : World) : Prop where
  tx : TxAt W pt t B w1
  box : w1.cell? ⟨bt, 0, none⟩ = some (.pointer (some ⟨pt, 0, none⟩))
  pairs : PairsIn Q w1 lv t.sets.writes
  held : HeldBy (B ++ R) wi w1
  bR : ∀ b ∈ B, b ∉ R
  handle : Handle W
theorem Comm.tx {W : World} {R B Q : List Nat} {pa pb pc pt bt : Nat} {t : Tx} {lv : Value} {wi w1 : World} {c : CS} {w : World} (h0 : Comm0 W R B Q pt bt t lv wi w1) (h : Comm W R B Q pa pb pc pt bt t lv w1 c w) : TxAt W pt t B w ∧ w.cell? ⟨bt, 0, none⟩ = some (.pointer (some ⟨pt, 0, none⟩)) ∧ PairsIn Q w lv t.sets.writes ∧ HeldBy (B ++ R) wi w :=
  ⟨h0.tx.heldBy h.held (fun b hb => by simp [hb]), (h.held.cell (a := ⟨bt, 0, none⟩) (by simp)).trans h0.box, h0.pairs.heldBy h.held (fun b hb => by simp [hb]), h0.held.trans (h.held.less fun b hb => by simp only [List.mem_append, List.mem_cons] at hb ⊢; exact .inr (.inr hb))⟩
/-- The end of Commit, nothing of the transaction changed. -/
theorem Comm.fin {W : World} {R B Q E : List Nat} {pa pb pc pt bt n : Nat} {t : Tx} {lv v : Value} {wi w1 : World} {c c0 : CS} {w : World} (h0 : Comm0 W R B Q pt bt t lv wi w1) (hx : exec (tCommit t) c0 = ((n, 0, false, t), c)) (he : Err w v n E) (hE : ∀ b ∈ E, w1.heap.size ≤ b) (hc : Ctx W (E ++ (bt :: (Q ++ (B ++ R)))) pa pb pc c w) (hh : HeldBy (bt :: (Q ++ (B ++ R))) w1 w) :
    TxPost W R pa pb pc pt B wi (tCommit t) c0 (fun _ => True) (fun (x : Int × Bool × Tx) => x.2.2) (fun (x : Int × Bool × Tx) v => .tuple #[.int .i64 x.1, .bool x.2.1, v]) (.returned (.tuple #[.int .i64 0, .bool false, v])) w := by
  have hz := h0.held.1
  refine ⟨n, (0, false, t), c, v, E, B, hx, trivial, rfl, he, h0.tx.heldBy hh (fun b hb => by simp [hb]), hc.less (fun b hb => ?_), (h0.held.less fun b hb => by simp [hb]).trans (hh.less fun b hb => by simp [hb]), fun b hb => ?_, fun b hb hm => ?_⟩
  · simp only [List.mem_append, List.mem_cons] at hb ⊢
    rcases hb with q | q
    · exact .inl q
    · exact .inr (.inr (.inr q))
  · rcases List.mem_append.1 hb with q | q
    · exact .inr (Nat.le_trans hz (hE b q))
    · exact .inl q
  · have := h0.tx.lt b hm
    have := hE b hb
    omega

set_option maxHeartbeats 8000000 in
theorem tcommit_ok {W : World} {R B : List Nat} {pa pb pc pt : Nat} {c : CS} {t : Tx} {wi : World} (h : Ctx W (B ++ R) pa pb pc c wi) (hg : Handle W) (ht : TxAt W pt t B wi) (hBR : ∀ b ∈ B, b ∉ R) :
    Calls Tryz.prog 48 #[.pointer (some ⟨pt, 0, none⟩), .pointer (some ⟨pc, 0, none⟩)] wi (TxPost W R pa pb pc pt B wi (tCommit t) c (fun _ => True) (fun (x : Int × Bool × Tx) => x.2.2) (fun (x : Int × Bool × Tx) v => .tuple #[.int .i64 x.1, .bool x.2.1, v])) := by
  have B0 := (Below.refl wi.heap.size wi).alloc (Nat.le_refl _) (.cells #[.pointer (some ⟨pt, 0, none⟩)] 110)
  have C0 := Cells.new wi [.pointer (some ⟨pt, 0, none⟩)] 110
  have ht0 := ht.heldBy (R := B) (HeldBy.of_below B0 ht.lt) (fun _ h => h)
  have H := Lib.hid h; have HG := Lib.hid hg; have HT := Lib.hid ht; have HBR := Lib.hid hBR
  have HB0 := Lib.hid B0; have HC0 := Lib.hid C0; have HT0 := Lib.hid ht0
  have HM := Lib.hid (tmade_ok ht0)
  have HWR := Lib.hid (twrites_ok ht0)
  have q0 := C0.cell 0
  simp only [List.getElem?_cons_zero] at q0
  clear h hg ht hBR B0 C0 ht0
  go_enter Tryz.func48, Tryz.ntmps48
  go_wp2_with (go_at_call 75; refine HM.out.mono ?_; rintro e w' ⟨rfl, rfl⟩)
  generalize wi.alloc (.cells #[.pointer (some ⟨pt, 0, none⟩)] 110) = w0 at *
  refine HWR.out.mono ?_
  rintro e w1 ⟨lv, rfl, hpairs, hb⟩
  obtain ⟨Q, hpin, hQ⟩ := hpairs.held
  have hb1 := HB0.out.trans (hb.mono HB0.out.size)
  have l0 := HC0.out.lt
  have H0 := Lib.hid (show Comm0 W R B Q pt wi.heap.size t lv wi w1 from ⟨HT0.out.heldBy (R := B) (HeldBy.of_below hb HT0.out.lt) (fun _ h => h), (hb.cell (p := ⟨wi.heap.size, 0, none⟩) l0).trans (HC0.out.cell 0), hpin, (HeldBy.refl _ wi).under H.out hb1, HBR.out, HG.out⟩)
  have HC1 := Lib.hid (show Comm W R B Q pa pb pc pt wi.heap.size t lv w1 c w1 from ⟨H.out.came hb1 (wi.heap.size :: Q) (fun b hb' => by
    rcases List.mem_cons.1 hb' with e | e
    · subst e; exact ⟨Nat.le_refl _, by have := hb.size; omega⟩
    · exact ⟨Nat.le_trans (Nat.le_of_lt l0) (hQ b e).1, (hQ b e).2⟩), HeldBy.refl _ _⟩)
  obtain ⟨p, cap, rfl, hcap, -⟩ := hpin
  obtain ⟨ps0, B00, hs0⟩ := HT0.out.sets
  have hfewW := hs0.fitW.2.1
  have HFW := Lib.hid hs0.fitW.1
  have hfewR := hs0.fitR.2
  have HFR := Lib.hid hs0.fitR.1
  obtain ⟨ps, B0', hBe, n1, n2, n3, n4, n5⟩ := H0.out.tx
  obtain ⟨p0, p1, p2, p3, -⟩ := four n3
  have hbox := H0.out.box
  have HCLK := Lib.hid n5
  obtain ⟨n, hn⟩ : ∃ n, t.sets.writes.length = n := ⟨_, rfl⟩
  have HN := Lib.hid hn
  have HCAP := Lib.hid hcap
  rw [hn] at hcap hfewW H0 HC1 ⊢
  clear hpairs hb hQ hb1 q0 n1 n2 n3 n4 n5 hBe HM HWR HT0 HB0 HC0 hs0
  by_cases hemp : t.sets.writes = []
  · have hn0 : n = 0 := by rw [← hn, hemp]; rfl
    subst hn0
    have HX := Lib.hid (show exec (tCommit t) c = ((0, t.stamp, false, t), c) by unfold tCommit; rw [if_pos hemp]; rfl)
    clear hemp hn
    go_wp2
    go_ret3
    refine ⟨0, (t.stamp, false, t), c, _, [], B, HX.out, trivial, rfl, .none, H0.out.tx, HC1.out.ctx.less (fun b hb => ?_), H0.out.held.less (fun b hb => by simp [hb]), fun b hb => .inl hb, by simp⟩
    simp only [List.mem_append, List.mem_cons, List.nil_append] at hb ⊢
    exact .inr (.inr hb)
  · have hn0 : 0 < n := by rw [← hn]; exact List.length_pos_iff.2 hemp
    have g0 : ((n : Int) == 0) = false := by rw [beq_eq_false_iff_ne]; omega
    have g0' : (n == 0) = false := by rw [beq_eq_false_iff_ne]; omega
    have HXL := Lib.hid (tCommit_left t c hemp)
    clear hemp hn
    obtain ⟨m, hm⟩ : ∃ m, t.sets.reads.length = m := ⟨_, rfl⟩
    have HMM := Lib.hid hm
    rw [hm] at hfewR
    have s1 : IntKind.i64.wrap (40 * (n : Int)) = 40 * (n : Int) := IntWalk.i64_in _ (by omega)
    have s2 : IntKind.i64.wrap (2 * (m : Int)) = 2 * (m : Int) := IntWalk.i64_in _ (by omega)
    have s3 : IntKind.i64.wrap (40 * (n : Int) + 2 * (m : Int)) = 40 * (n : Int) + 2 * (m : Int) := IntWalk.i64_in _ (by omega)
    have s4 : IntKind.i64.wrap (40 * (n : Int) + 2 * (m : Int) + 40) = 40 * (n : Int) + 2 * (m : Int) + 40 := IntWalk.i64_in _ (by omega)
    obtain ⟨hil, hnx⟩ := HC1.out.ctx.inLeft
    have HLEFT := Lib.hid (fun w' (h : InLeft pb pc c w') => left_ok h hnx)
    have hrds := treads_ok (w := w1.drewN 1) (H0.out.tx.heldBy (R := B) ⟨Nat.le_refl _, fun _ _ => rfl⟩ (fun _ h => h))
    rw [hm] at hrds
    have HRDS := Lib.hid hrds
    have lb := World.block_lt_of_cell? w1 _ hbox
    have lpc := World.block_lt_of_cell? w1 _ hil.1
    clear hrds hm
    go_upto_region 6 with fail
    go_cut [42] (fun s42 wx => s42 = .bool (decide (6000 - (c.next : Int) < 40 * (n : Int) + 2 * (m : Int) + 40)) ∧ Comm W R B Q pa pb pc pt wi.heap.size t (.slice p n cap) w1 c wx)
    case first =>
      go_region_held3 (fun w' => w'.cell? ⟨wi.heap.size, 0, none⟩ = some (.pointer (some ⟨pt, 0, none⟩)) ∧ InLeft pb pc c w')
        (first | exact ⟨hbox, hil⟩ | exact ⟨k0, kil⟩)
        (first | (go_at_call 77; refine (HLEFT.out _ (by first | exact hil | exact kil)).mono ?_; rintro e w' ⟨rfl, rfl⟩) | (go_at_call 78; refine HRDS.out.mono ?_; rintro e w2 ⟨v', rfl, ho, hb⟩; obtain ⟨p', cap', rfl⟩ := ownsRow_shape ho; have k0 := (hb.cell (p := ⟨wi.heap.size, 0, none⟩) lb).trans hbox; have kil : InLeft pb pc c w2 := ⟨(hb.cell (p := ⟨pc, 0, none⟩) lpc).trans hil.1, (hb.cell (p := ⟨pc, 2, none⟩) lpc).trans hil.2⟩; have HB2 := Lib.hid (show Below w1.heap.size w1 w2 from (below_drewN (Below.refl _ _) 1).trans hb); clear ho hb))
      all_goals
        go_wp2_with fail
        go_meet
        exact ⟨rfl, HC1.out.ctx.under HB2.out, (HeldBy.refl _ w1).under HC1.out.ctx HB2.out⟩
    case rest =>
      obtain ⟨rfl, hcm⟩ := hcut
      have HCM := Lib.hid hcm
      clear hcm HLEFT HRDS s1 s2 s3 s4 hil
      have hxl := HXL.out
      rw [HN.out, HMM.out] at hxl
      by_cases hleft : 6000 - (c.next : Int) < 40 * (n : Int) + 2 * (m : Int) + 40
      · rw [decide_eq_true hleft]
        rw [if_pos hleft] at hxl
        have HF := Lib.hid (Comm.fin H0.out hxl (.no 15 (by omega) (by omega)) (by simp) HCM.out.ctx HCM.out.held)
        clear hleft hxl HXL
        go_wp2
        go_ret3
        exact HF.out
      rw [decide_eq_false hleft]
      rw [if_neg hleft] at hxl
      have HXI := Lib.hid hxl
      clear hleft hxl HXL hnx
      go_wp2
      go_loopw [46] (fun i wr => ∃ (k : Nat) (c1 : CS), k ≤ n ∧ i = .int .i64 (k : Int) ∧ Comm W R B Q pa pb pc pt wi.heap.size t (.slice p n cap) w1 c1 wr ∧ exec (tLocks t [] t.sets.writes) c = exec (tLocks t (t.sets.writes.take k) (t.sets.writes.drop k)) c1) (fun i _ => n - (intOf i).toNat)
      case atStart => exact ⟨0, c, by omega, rfl, HCM.out, by simp⟩
      case round =>
        clear HCM
        obtain ⟨k, c1, hk, rfl, hcm, hx⟩ := hrel
        have HCM := Lib.hid hcm
        obtain ⟨htx, hbox', hpin, hhw⟩ := hcm.tx H0.out
        by_cases hlt : k < n
        · have hlen' : k < t.sets.writes.length := by rw [HN.out]; exact hlt
          obtain ⟨x, hxk⟩ : ∃ x, t.sets.writes[k]? = some x := ⟨_, List.getElem?_eq_getElem hlen'⟩
          have hdrop : t.sets.writes.drop k = x :: t.sets.writes.drop (k + 1) := by
            rw [List.drop_eq_getElem_cons hlen']
            rw [List.getElem?_eq_getElem hlen'] at hxk
            rw [Option.some.inj hxk]
          have htake : t.sets.writes.take (k + 1) = t.sets.writes.take k ++ [x] := by
            rw [List.take_add_one, hxk]; rfl
          rw [hdrop] at hx
          obtain ⟨p', cap', hpe, hcap2, hcs⟩ := hpin
          simp only [Value.slice.injEq] at hpe
          obtain ⟨rfl, -, rfl⟩ := hpe
          obtain ⟨gg, hpe, hgm, q0, q1⟩ := hcs k x hxk
          subst hpe
          have hxf := (HFW.out x (List.mem_of_getElem? hxk)).1
          obtain ⟨xc, xv⟩ := x
          simp only at q0 q1 hxf
          have hki : (k : Int) < (n : Int) := by omega
          have B1 := (Below.refl wr.heap.size wr).alloc (Nat.le_refl _) (.cells #[.int .u64 (xc : Int), .int .u64 (xv : Int)] 159)
          have C1 := Cells.new wr [.int .u64 (xc : Int), .int .u64 (xv : Int)] 159
          have HB1 := Lib.hid B1
          have HTX := Lib.hid htx; have HTK := Lib.hid htake
          have HX := Lib.hid hx
          have HLK := Lib.hid (tlock_ok (HCM.out.ctx.under B1) HG.out (htx.heldBy (R := B) (HeldBy.of_below B1 htx.lt) (fun _ h => h)) (fun b hb => by simp [hb]) hxf)
          have r0 := C1.cell 0
          have r2 := (World.cell?_alloc_lt wr (.cells #[.int .u64 (xc : Int), .int .u64 (xv : Int)] 159) ⟨wi.heap.size, 0, none⟩ (World.block_lt_of_cell? wr _ hbox')).trans hbox'
          simp only [List.getElem?_cons_zero] at r0
          clear hx hcm B1 C1 hdrop htake hxk hlen' hxf hgm htx hbox' hcs hhw hcap2
          have HB1W := Lib.hid (show HeldBy (wi.heap.size :: (Q ++ (B ++ R))) w1 (wr.alloc (.cells #[.int .u64 (xc : Int), .int .u64 (xv : Int)] 159)) from HCM.out.held.under HCM.out.ctx HB1.out)
          have HPI := Lib.hid (fun (w : World) (hh : HeldBy (wi.heap.size :: (Q ++ (B ++ R))) w1 w) => H0.out.pairs.heldBy hh (fun b hb => by simp [hb]))
          go_wp2_with fail
          refine HLK.out.mono ?_
          rintro e w2 ⟨nn, u0, c2, v, E, hx2, -, rfl, he, hc, hh, hE⟩
          have HH2 := Lib.hid (HB1W.out.trans hh)
          have hb2 := (hh.cell (a := ⟨wi.heap.size, 0, none⟩) (by simp)).trans r2
          by_cases h0 : nn = 0
          · subst h0
            obtain ⟨rfl, rfl⟩ := he.isNil rfl
            have HC2 := Lib.hid (show Comm W R B Q pa pb pc pt wi.heap.size t (.slice (some ⟨gg, 0, none⟩) n cap) w1 c2 w2 from ⟨hc, HH2.out⟩)
            have HXN := Lib.hid (show exec (tLocks t [] t.sets.writes) c = exec (tLocks t (t.sets.writes.take (k + 1)) (t.sets.writes.drop (k + 1))) c2 by rw [HX.out, HTK.out]; simp only [tLocks, exec_bind, hx2, if_true])
            clear hx2 he hc hh hE HLK r0 r2 q0 q1
            go_wp2
            go_roundw
            case rel => exact ⟨k + 1, c2, by omega, by go_num, HC2.out, HXN.out⟩
            case measure => simp [intOf]; omega
          · have HREL := Lib.hid (fun j => trelease_ok (R := wi.heap.size :: (Q ++ (B ++ R))) (w0 := w1) (wi := w2.drewN j) (tv := .pointer (some ⟨pt, 0, none⟩)) (lv := .slice (some ⟨gg, 0, none⟩) k cap) (l := t.sets.writes.take k) (hc.under (below_drewN (Below.refl _ _) j)) HG.out (HH2.out.trans ⟨Nat.le_refl _, fun _ _ => rfl⟩) (he.drewN j) (fun b hb => Nat.le_trans HB1W.out.1 (hE b hb)) (((HPI.out _ (HH2.out.trans ⟨Nat.le_refl _, fun _ _ => rfl⟩)).take k (by rw [HN.out]; omega)).less (fun b hb => by simp [hb])) (fun x hx => (HFW.out x (List.mem_of_mem_take hx)).1) (by rw [List.length_take, HN.out]; omega))
            have HX2 := Lib.hid hx2
            have HNZ := Lib.hid h0
            have hkc : k ≤ cap := by have := HCAP.out.1; rw [HN.out] at this; omega
            have hkc2 : (k : Int) ≤ (cap : Int) := by omega
            have hcm : cap ≤ 9223372036854775807 := HCAP.out.2
            obtain ⟨tt, xx, rfl⟩ := he.iface h0
            clear hx2 he hc hh hE HLK r0 r2 q0 q1 h0
            go_wp2
            go_region_held3 (fun w' => w'.cell? ⟨wi.heap.size, 0, none⟩ = some (.pointer (some ⟨pt, 0, none⟩)))
              (first | exact hb2 | exact k0)
              (first | (go_at_call 80; refine (HREL.out 1).mono ?_; rintro e w3 ⟨n3, u3, c3, v3, E3, hx3, -, rfl, he3, hc3, hh3, hE3⟩; have k0 := (hh3.cell (a := ⟨wi.heap.size, 0, none⟩) (by simp)).trans H0.out.box; have HX3 := Lib.hid hx3; have HE3 := Lib.hid he3; have HC3 := Lib.hid hc3; have HH3 := Lib.hid hh3; have HEN3 := Lib.hid hE3; clear hx3 he3 hc3 hh3 hE3))
            go_wp2
            go_ret3
            refine Comm.fin H0.out ?_ HE3.out HEN3.out HC3.out HH3.out
            have hne := tFail_ne nn HNZ.out (t.sets.writes.take k) c2
            rw [HX3.out] at hne
            have hlx : exec (tLocks t [] t.sets.writes) c = ((n3, u3), c3) := by
              rw [HX.out]
              simp only [tLocks, exec_bind, HX2.out, if_neg HNZ.out]
              exact HX3.out
            rw [HXI.out]
            simp only [tCommitIn, exec_bind, hlx]
            rw [if_neg hne]
            rfl
        · obtain rfl : k = n := by omega
          have g1 : decide ((k : Int) < (k : Int)) = false := by simp
          have HLK0 := Lib.hid (show exec (tLocks t [] t.sets.writes) c = ((0, ()), c1) by rw [hx, List.drop_eq_nil_of_le (by rw [HN.out]; exact Nat.le_refl _)]; rfl)
          have HTK := Lib.hid (tick_ok HCM.out.ctx HG.out HCLK.out)
          have HBX := Lib.hid hbox'
          obtain ⟨ps', B0', hBe, n1, n2, n3, n4, n5⟩ := htx
          obtain ⟨p0, p1, p2, p3, -⟩ := four n3
          clear hx hcm n1 n2 n3 n4 n5 hBe hpin hhw
          go_wp2_with fail
          refine HTK.out.mono ?_
          rintro e w2 ⟨nn, stamp, c2, v, E, hx2, -, rfl, he, hc, hh, hE⟩
          have HH2 := Lib.hid (HCM.out.held.trans hh)
          have hb2 := (hh.cell (a := ⟨wi.heap.size, 0, none⟩) (by simp)).trans HBX.out
          have HE1 := Lib.hid (show ∀ b ∈ E, w1.heap.size ≤ b from fun b hb => Nat.le_trans HCM.out.held.1 (hE b hb))
          have HX2 := Lib.hid hx2
          by_cases h0 : nn = 0
          · subst h0
            obtain ⟨rfl, rfl⟩ := he.isNil rfl
            have HC2 := Lib.hid (show Comm W R B Q pa pb pc pt wi.heap.size t (.slice p k cap) w1 c2 w2 from ⟨hc, HH2.out⟩)
            obtain ⟨htx2, _, _, _⟩ := HC2.out.tx H0.out
            have HST := Lib.hid (still_ok HC2.out.ctx HG.out htx2 HFR.out (by rw [HMM.out]; exact hfewR) (g := 83) (caps := #[.pointer (some ⟨wi.heap.size, 0, none⟩)]) (which := fun c => (wget c t.sets.writes).isNone) ⟨ef_commit1, fun cell ver w hh => commit1_ok (htx2.heldBy hh (fun b hb => by simp [hb])) ((hh.cell (a := ⟨wi.heap.size, 0, none⟩) (by simp)).trans hb2) cell ver⟩)
            have hmf : ∀ (fn : Fn) (first cap : Array Value) (w : World), (Instr.makeFunc fn first cap).run Tryz.prog w = .ok (.func fn first cap) w := fun _ _ _ _ => rfl
            clear hx2 he hc hh hE HTK htx2 p0 p1 p2 p3 hbox'
            go_wp2_with fail
            refine HST.out.mono ?_
            rintro e w3 ⟨n3, u3, c3, v, E, hx3, -, rfl, he, hc, hh, hE⟩
            have HH3 := Lib.hid (HH2.out.trans hh)
            have hb3 := (hh.cell (a := ⟨wi.heap.size, 0, none⟩) (by simp)).trans hb2
            have HX3 := Lib.hid hx3
            by_cases h0 : n3 = 0
            · subst h0
              obtain ⟨rfl, rfl⟩ := he.isNil rfl
              have HC3 := Lib.hid (show Comm W R B Q pa pb pc pt wi.heap.size t (.slice p k cap) w1 c3 w3 from ⟨hc, HH3.out⟩)
              have HXP := Lib.hid (show exec (tCommit t) c = exec ((tPuts stamp false t.sets.writes).bind fun p => .ret (p.1, if p.1 = 0 then stamp else 0, p.2, if p.1 = 0 then { t with stamp := stamp } else t)) c3 by
                rw [HXI.out]; simp only [tCommitIn, exec_bind, HLK0.out, HX2.out, if_true, HX3.out])
              clear hx3 he hc hh hE HST hb2 hmf
              go_wp2
              go_loopw [13, 90] (fun wv i wr => ∃ (j : Nat) (c4 : CS) (wt : Bool), j ≤ k ∧ i = .int .i64 (j : Int) ∧ wv = .bool wt ∧ Comm W R B Q pa pb pc pt wi.heap.size t (.slice p k cap) w1 c4 wr ∧ exec (tPuts stamp false t.sets.writes) c3 = exec (tPuts stamp wt (t.sets.writes.drop j)) c4) (fun _ i _ => k - (intOf i).toNat)
              case atStart => exact ⟨0, c3, false, by omega, rfl, rfl, HC3.out, by simp⟩
              case round =>
                clear HC3 hb3
                obtain ⟨j, c4, wt, hj, rfl, rfl, hcm, hx⟩ := hrel
                have HCM := Lib.hid hcm
                obtain ⟨htx, hbox4, hpin, hhw⟩ := hcm.tx H0.out
                by_cases hjk : j < k
                · have hlen' : j < t.sets.writes.length := by rw [HN.out]; exact hjk
                  obtain ⟨x, hxk⟩ : ∃ x, t.sets.writes[j]? = some x := ⟨_, List.getElem?_eq_getElem hlen'⟩
                  have hdrop : t.sets.writes.drop j = x :: t.sets.writes.drop (j + 1) := by
                    rw [List.drop_eq_getElem_cons hlen']
                    rw [List.getElem?_eq_getElem hlen'] at hxk
                    rw [Option.some.inj hxk]
                  rw [hdrop] at hx
                  obtain ⟨p', cap', hpe, hcap2, hcs⟩ := hpin
                  simp only [Value.slice.injEq] at hpe
                  obtain ⟨rfl, -, rfl⟩ := hpe
                  obtain ⟨gg, hpe, hgm, q0, q1⟩ := hcs j x hxk
                  subst hpe
                  have hxf := HFW.out x (List.mem_of_getElem? hxk)
                  obtain ⟨xc, xv⟩ := x
                  simp only at q0 q1 hxf
                  have hki : (j : Int) < (k : Int) := by omega
                  have B1 := (Below.refl wr.heap.size wr).alloc (Nat.le_refl _) (.cells #[.int .u64 (xc : Int), .int .u64 (xv : Int)] 159)
                  have C1 := Cells.new wr [.int .u64 (xc : Int), .int .u64 (xv : Int)] 159
                  have HX := Lib.hid hx
                  have HCO := Lib.hid (commit_ok (HCM.out.ctx.under B1) HG.out hxf.1 hxf.2 stamp)
                  have HHB := Lib.hid (HCM.out.held.under HCM.out.ctx B1)
                  have r0 := C1.cell 0
                  have r1 := C1.cell 1
                  simp only [List.getElem?_cons_zero, List.getElem?_cons_succ] at r0 r1
                  clear hx hcm B1 C1 hdrop hxk hlen' hxf hgm htx hbox4 hcs hhw hcap2
                  go_wp2_with fail
                  refine HCO.out.mono ?_
                  rintro e w5 ⟨nn, bb, c5, v, E, hx5, -, rfl, he, hc, hh, hE⟩
                  have HH5 := Lib.hid (HHB.out.trans hh)
                  by_cases h0 : nn = 0
                  · subst h0
                    obtain ⟨rfl, rfl⟩ := he.isNil rfl
                    have HC5 := Lib.hid (show Comm W R B Q pa pb pc pt wi.heap.size t (.slice (some ⟨gg, 0, none⟩) k cap) w1 c5 w5 from ⟨hc, HH5.out⟩)
                    have HXN := Lib.hid (show exec (tPuts stamp false t.sets.writes) c3 = exec (tPuts stamp (wt || bb) (t.sets.writes.drop (j + 1))) c5 by rw [HX.out]; simp only [tPuts, exec_bind, hx5, if_true])
                    clear hx5 he hc hh hE HCO r0 r1 q0 q1
                    cases wt
                    all_goals
                      simp only [Bool.true_or, Bool.false_or] at HXN
                      go_wp2
                      go_roundw
                      case rel => exact ⟨j + 1, c5, _, by omega, by go_num, rfl, HC5.out, HXN.out⟩
                      case measure => simp [intOf]; omega
                  · have HF := Lib.hid (Comm.fin H0.out (show exec (tCommit t) c = ((nn, 0, false, t), c5) by
                      rw [HXP.out]; simp only [exec_bind, HX.out, tPuts, hx5, if_neg h0, exec]) he (fun b hb => Nat.le_trans HHB.out.1 (hE b hb)) hc HH5.out)
                    obtain ⟨tt, xx, rfl⟩ := he.iface h0
                    clear hx5 he hc hh hE HCO r0 r1 q0 q1 h0
                    go_wp2
                    go_ret3
                    exact HF.out
                · obtain rfl : j = k := by omega
                  have g2 : decide ((j : Int) < (j : Int)) = false := by simp
                  have HXE := Lib.hid (show exec (tCommit t) c = ((0, stamp, wt, { t with stamp := stamp }), c4) by
                    rw [HXP.out]; simp only [exec_bind]
                    rw [hx, List.drop_eq_nil_of_le (by rw [HN.out]; exact Nat.le_refl _)]
                    rfl)
                  have HT4 := Lib.hid htx; have HW4 := Lib.hid hhw
                  obtain ⟨ps4, B04, hBe, n1, n2, n3, n4, n5⟩ := htx
                  obtain ⟨p0, p1, p2, p3, f0, f1, f2, f3⟩ := four n3
                  have HBE := Lib.hid hBe; have N1 := Lib.hid n1; have N2 := Lib.hid n2; have N3 := Lib.hid n3; have N4 := Lib.hid n4
                  clear hx hcm hpin hhw n1 n2 n3 n4 n5 hBe
                  go_wp2
                  go_ret3
                  have kk : Kept (fun b => b = pt) wr (wr.setCell ⟨pt, 3, none⟩ (.int .i64 stamp)) := Kept.setCell (S := fun b => b = pt) (Kept.refl _ wr) (fun _ => rfl) _
                  have hmem : pt ∈ B := by rw [HBE.out]; simp
                  have hc4 : Ctx W (B ++ R) pa pb pc c4 wr := HCM.out.ctx.less (fun b hb => by simp only [List.mem_append, List.mem_cons] at hb ⊢; exact .inr (.inr hb))
                  obtain ⟨e1, e2⟩ := hc4.objs (B' := B) (kk.mono fun b _ e => e ▸ hmem) (fun b hb => HT4.out.new b hb) H0.out.bR (fun b hb => ⟨.inl hb, Nat.lt_of_lt_of_le (HT4.out.lt b hb) kk.size⟩)
                  refine ⟨0, (stamp, wt, { t with stamp := stamp }), c4, _, [], B, HXE.out, trivial, rfl, .none, ⟨ps4, B04, HBE.out, N1.out, N2.out, N3.out.set 3 _, ?_, HCLK.out⟩, e1, (HW4.out.less fun b hb => by simp [hb]).trans e2, fun b hb => .inl hb, by simp⟩
                  exact N4.out.heldBy (R := B04) ⟨kk.size, fun b hb => kk.block b (N4.out.lt b hb) fun e => N1.out (e ▸ hb)⟩ (fun _ h => h)
            · have HREL := Lib.hid (trelease_ok (R := wi.heap.size :: (Q ++ (B ++ R))) (w0 := w1) (tv := .pointer (some ⟨pt, 0, none⟩)) (lv := .slice p k cap) (l := t.sets.writes) hc HG.out HH3.out he (fun b hb => Nat.le_trans HH2.out.1 (hE b hb)) ((H0.out.pairs.heldBy HH3.out (fun b hb => by simp [hb])).less (fun b hb => by simp [hb])) (fun x hx => (HFW.out x hx).1) (by rw [HN.out]; exact hfewW))
              have HNZ := Lib.hid h0
              obtain ⟨tt, xx, rfl⟩ := he.iface h0
              clear hx3 he hc hh hE HST hb2 h0 hmf
              go_wp2_with fail
              refine HREL.out.mono ?_
              rintro e w4 ⟨n4, u4', c4, v, E, hx4, -, rfl, he, hc, hh, hE⟩
              have HF := Lib.hid (Comm.fin H0.out (show exec (tCommit t) c = ((n4, 0, false, t), c4) by
                rw [HXI.out]; simp only [tCommitIn, exec_bind, HLK0.out, HX2.out, if_true, HX3.out, if_neg HNZ.out, hx4, exec]) he hE hc hh)
              clear hx4 he hc hh hE HREL
              go_wp2
              go_ret3
              exact HF.out
          · have HREL := Lib.hid (trelease_ok (R := wi.heap.size :: (Q ++ (B ++ R))) (w0 := w1) (tv := .pointer (some ⟨pt, 0, none⟩)) (lv := .slice p k cap) (l := t.sets.writes) hc HG.out HH2.out he HE1.out ((H0.out.pairs.heldBy HH2.out (fun b hb => by simp [hb])).less (fun b hb => by simp [hb])) (fun x hx => (HFW.out x hx).1) (by rw [HN.out]; exact hfewW))
            have HNZ := Lib.hid h0
            obtain ⟨tt, xx, rfl⟩ := he.iface h0
            clear hx2 he hc hh hE HTK p0 p1 p2 p3 hbox' h0
            go_wp2_with fail
            refine HREL.out.mono ?_
            rintro e w4 ⟨n4, u4', c4, v, E, hx4, -, rfl, he, hc, hh, hE⟩
            have HF := Lib.hid (Comm.fin H0.out (show exec (tCommit t) c = ((n4, 0, false, t), c4) by
              rw [HXI.out]; exact tick_fails HLK0.out HX2.out HNZ.out hx4) he hE hc hh)
            clear hx4 he hc hh hE HREL
            go_wp2
            go_ret3
            exact HF.out
end Go.Proofs.YtmdganpealbmpaaGreatDoor
