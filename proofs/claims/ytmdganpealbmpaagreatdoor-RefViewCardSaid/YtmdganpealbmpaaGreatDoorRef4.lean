/- Layer 13 (ref): lock, release, and what Commit asks besides. -/
import Derived.Test.YtmdganpealbmpaaGreatDoorRef3
namespace Go.Proofs.YtmdganpealbmpaaGreatDoor
open Go.RowKit Bl Th
set_option maxRecDepth 10000

/-- What Left reads of a Ctx. -/
def InLeft (pb pc : Nat) (c : CS) (w : World) : Prop := w.cell? ⟨pc, 0, none⟩ = some (.pointer (some ⟨pb, 0, none⟩)) ∧ w.cell? ⟨pc, 2, none⟩ = some (.int .i64 (c.next : Int))
theorem Ctx.inLeft {W : World} {R : List Nat} {pa pb pc : Nat} {c : CS} {w : World} (h : Ctx W R pa pb pc c w) : InLeft pb pc c w ∧ c.next ≤ 6000 := by
  obtain ⟨lv, hl⟩ := h
  obtain ⟨p0, p1, p2, p3, -⟩ := four hl.cells
  exact ⟨⟨p0, p2⟩, Nat.le_trans hl.next hl.few⟩
theorem left_ok {pb pc : Nat} {c : CS} {w : World} (h : InLeft pb pc c w) (hn : c.next ≤ 6000) : Calls Tryz.prog 77 #[.pointer (some ⟨pc, 0, none⟩)] w fun e w' => e = .returned (.int .i64 (6000 - (c.next : Int))) ∧ w = w' := by
  obtain ⟨p0, p2⟩ := h
  have g1 : IntKind.i64.wrap (6000 - (c.next : Int)) = 6000 - (c.next : Int) := IntWalk.i64_in _ (by omega)
  generalize c.next = nx at *
  go_enter Tryz.func77, Tryz.ntmps77
  go_wp2
  go_ret
  exact ⟨rfl, rfl⟩

set_option maxHeartbeats 1000000 in
theorem tlock_ok {W : World} {R B : List Nat} {pa pb pc pt : Nat} {c : CS} {t : Tx} {wi : World} (h : Ctx W R pa pb pc c wi) (hg : Handle W) (ht : TxAt W pt t B wi) (hBR : ∀ b ∈ B, b ∈ R) {cell : Nat} (hcell : cell < 18446744073709551616) :
    Calls Tryz.prog 79 #[.pointer (some ⟨pt, 0, none⟩), .pointer (some ⟨pc, 0, none⟩), .int .u64 (cell : Int)] wi (CameX W R pa pb pc wi (tLock t cell) c (fun _ => True) fun _ v => v) := by
  have H := Lib.hid h; have HG := Lib.hid hg; have HCL := Lib.hid hcell
  obtain ⟨ps, B0, rfl, h1, h2, h3, h4, h5⟩ := ht
  obtain ⟨p0, p1, p2, p3, -⟩ := four h3
  have HV := Lib.hid (sversion_ok h4 cell)
  have H3 := Lib.hid h3; have HBR := Lib.hid hBR
  clear h hg hcell h1 h2 h3 h4 h5 hBR
  cases hv : t.sets.version cell with
  | some ver =>
    have HLK := Lib.hid (lock_ok H.out HG.out HCL.out ver t.owner)
    have HX := Lib.hid (show tLock t cell = mLock cell ver t.owner by unfold tLock; rw [hv])
    rw [hv] at HV
    simp only [Option.getD_some, Option.isSome_some] at HV
    clear hv
    go_enter Tryz.func79, Tryz.ntmps79
    go_wp2_with (go_at_call 106; refine HV.out.mono ?_; rintro e w' ⟨rfl, rfl⟩)
    refine HLK.out.mono ?_
    rintro e w1 ⟨n, x, c1, v, E, hx, -, rfl, he, hc, hh, hE⟩
    have HF := Lib.hid (show CameX W R pa pb pc wi (tLock t cell) c (fun _ => True) (fun _ v => v) (.returned v) w1 from ⟨n, x, c1, v, E, by rw [HX.out]; exact hx, trivial, rfl, he, hc, hh, hE⟩)
    have hsh := he.shape
    clear hx he hc hh hE HLK
    rcases hsh with rfl | ⟨tt, xx, rfl⟩
    all_goals
      go_wp2
      go_ret
      exact HF.out
  | none =>
    have HPK := Lib.hid (peek_ok H.out HG.out HCL.out)
    have HV0 := Lib.hid hv
    rw [hv] at HV
    simp only [Option.getD_none, Option.isSome_none] at HV
    clear hv
    go_enter Tryz.func79, Tryz.ntmps79
    go_wp2_with (go_at_call 106; refine HV.out.mono ?_; rintro e w' ⟨rfl, rfl⟩)
    refine HPK.out.mono ?_
    rintro e w1 ⟨n, m, c1, v, E, hx, -, rfl, he, hc, hh, hE⟩
    obtain ⟨mv, mo, mc, mw⟩ := m
    simp only [mtV]
    have B1 := (Below.refl w1.heap.size w1).alloc (Nat.le_refl _) (.cells #[.int .i64 mv, .int .i64 mo, .bool mc, .bool mw] 205)
    have C1 := Cells.new w1 [.int .i64 mv, .int .i64 mo, .bool mc, .bool mw] 205
    have hh1 := hh.under (hc.less (fun b hb => by simp [hb])) B1
    by_cases h0 : n = 0
    · subst h0
      obtain ⟨rfl, rfl⟩ := he.isNil rfl
      have HX := Lib.hid (show exec (tLock t cell) c = exec (mLock cell mv t.owner) c1 by unfold tLock; rw [HV0.out]; simp only [exec_bind, hx, if_true])
      have HLK := Lib.hid (lock_ok (hc.under B1) HG.out HCL.out mv t.owner)
      have HH := Lib.hid hh1
      have q0 := C1.cell 0
      simp only [List.getElem?_cons_zero] at q0
      have H31 := (H3.out.heldBy hh (HBR.out pt (by simp))).alloc (.cells #[.int .i64 mv, .int .i64 mo, .bool mc, .bool mw] 205)
      clear p0 p1 p2 p3
      obtain ⟨p0, p1, p2, p3, -⟩ := four H31
      clear hx he hc hh hE B1 C1 hh1 HPK H31
      go_wp2_with fail
      refine HLK.out.mono ?_
      rintro e w2 ⟨n, x, c2, v, E, hx, -, rfl, he, hc, hh, hE⟩
      have HF := Lib.hid (show CameX W R pa pb pc wi (tLock t cell) c (fun _ => True) (fun _ v => v) (.returned v) w2 from ⟨n, x, c2, v, E, by rw [HX.out]; exact hx, trivial, rfl, he, hc, HH.out.trans hh, fun b hb => Nat.le_trans HH.out.1 (hE b hb)⟩)
      have hsh := he.shape
      clear hx he hc hh hE HLK
      rcases hsh with rfl | ⟨tt, xx, rfl⟩
      all_goals
        go_wp2
        go_ret
        exact HF.out
    · have HF := Lib.hid (show CameX W R pa pb pc wi (tLock t cell) c (fun _ => True) (fun _ v => v) (.returned v) (w1.alloc (.cells #[.int .i64 mv, .int .i64 mo, .bool mc, .bool mw] 205)) from ⟨n, (), c1, v, E, by unfold tLock; rw [HV0.out]; simp only [exec_bind, hx, if_neg h0, exec], trivial, rfl, he.under B1, hc.under B1, hh1, hE⟩)
      obtain ⟨tt, xx, rfl⟩ := he.iface h0
      clear hx he hc hh hE B1 C1 hh1 HPK h0
      go_wp2
      go_ret
      exact HF.out

/-- A slice of pairs in blocks that are held. -/
def PairsIn (R : List Nat) (w : World) (v : Value) (l : List (Nat × Nat)) : Prop :=
  ∃ p cap, v = .slice p l.length cap ∧ (l.length ≤ cap ∧ cap ≤ maxLen) ∧ ∀ (j : Nat) (x : Nat × Nat), l[j]? = some x → ∃ g, p = some ⟨g, 0, none⟩ ∧ g ∈ R ∧ w.cell? ⟨g, j * 2, none⟩ = some (.int .u64 (x.1 : Int)) ∧ w.cell? ⟨g, j * 2 + 1, none⟩ = some (.int .u64 (x.2 : Int))
theorem PairsIn.heldBy {R R' : List Nat} {w w' : World} {v : Value} {l : List (Nat × Nat)} (h : PairsIn R w v l) (k : HeldBy R' w w') (hs : ∀ b ∈ R, b ∈ R') : PairsIn R w' v l := by
  obtain ⟨p, cap, rfl, hcap, hc⟩ := h
  refine ⟨p, cap, rfl, hcap, fun j x hx => ?_⟩
  obtain ⟨g, e1, e2, e3, e4⟩ := hc j x hx
  exact ⟨g, e1, e2, (k.cell (a := ⟨g, _, none⟩) (hs g e2)).trans e3, (k.cell (a := ⟨g, _, none⟩) (hs g e2)).trans e4⟩
theorem PairsIn.less {R R' : List Nat} {w : World} {v : Value} {l : List (Nat × Nat)} (h : PairsIn R w v l) (hs : ∀ b ∈ R, b ∈ R') : PairsIn R' w v l := by
  obtain ⟨p, cap, rfl, hcap, hc⟩ := h
  refine ⟨p, cap, rfl, hcap, fun j x hx => ?_⟩
  obtain ⟨g, e1, e2, e3, e4⟩ := hc j x hx
  exact ⟨g, e1, hs g e2, e3, e4⟩

theorem PairsAt.held {base : Nat} {w : World} {v : Value} {l : List (Nat × Nat)} (h : PairsAt base w v l) : ∃ Q, PairsIn Q w v l ∧ ∀ b ∈ Q, base ≤ b ∧ b < w.heap.size := by
  obtain ⟨p, cap, rfl, hcap, hc⟩ := h
  cases hl : l with
  | nil => subst hl; exact ⟨[], ⟨p, cap, rfl, hcap, fun j x hx => by simp at hx⟩, by simp⟩
  | cons x0 l0 =>
    rw [hl] at hc hcap
    obtain ⟨g, rfl, e2, e3, e4⟩ := hc 0 x0 (by simp)
    refine ⟨[g], ⟨_, cap, rfl, hcap, fun j x hx => ?_⟩, ?_⟩
    · obtain ⟨g', e1, _, e3', e4'⟩ := hc j x hx
      simp only [Option.some.injEq, Addr.mk.injEq] at e1
      obtain ⟨rfl, -⟩ := e1
      exact ⟨g, rfl, by simp, e3', e4'⟩
    · intro b hb
      simp only [List.mem_singleton] at hb
      subst hb
      exact ⟨e2, World.block_lt_of_cell? w _ e3⟩
theorem PairsIn.take {R : List Nat} {w : World} {l : List (Nat × Nat)} {p : Option Addr} {n cap : Nat} (h : PairsIn R w (.slice p n cap) l) (k : Nat) (hk : k ≤ l.length) : PairsIn R w (.slice p k cap) (l.take k) := by
  obtain ⟨p', cap', e, hcap, hc⟩ := h
  simp only [Value.slice.injEq] at e
  obtain ⟨rfl, rfl, rfl⟩ := e
  refine ⟨p, cap, by rw [List.length_take, Nat.min_eq_left hk], ⟨by rw [List.length_take]; omega, hcap.2⟩, fun j x hx => ?_⟩
  rw [List.getElem?_take] at hx
  split at hx
  · exact hc j x hx
  · cases hx
theorem tRelease_ne (why : Nat) (hw : why ≠ 0) : ∀ (l : List (Nat × Nat)) (c : CS), (exec (tRelease why l) c).1.1 ≠ 0
  | [], _ => hw
  | x :: l, c => by
    simp only [tRelease, exec_bind]
    split
    · exact tRelease_ne why hw l _
    · rename_i h; exact h
theorem tFail_ne (why : Nat) (hw : why ≠ 0) (l : List (Nat × Nat)) (c : CS) : (exec (tFail why l) c).1.1 ≠ 0 := by
  unfold tFail
  split
  · simp [exec]
  · exact tRelease_ne why hw l c

set_option maxHeartbeats 2000000 in
theorem trelease_ok {W : World} {R E0 : List Nat} {pa pb pc n0 : Nat} {c : CS} {w0 wi : World} {why tv lv : Value} {l : List (Nat × Nat)} (h : Ctx W (E0 ++ R) pa pb pc c wi) (hg : Handle W) (hh0 : HeldBy R w0 wi) (he0 : Err wi why n0 E0) (hE0 : ∀ b ∈ E0, w0.heap.size ≤ b) (hl : PairsIn R wi lv l) (hfit : ∀ x ∈ l, x.1 < 18446744073709551616) (hfew : l.length ≤ 500) :
    Calls Tryz.prog 80 #[tv, .pointer (some ⟨pc, 0, none⟩), lv, why] wi (CameX W R pa pb pc w0 (tFail n0 l) c (fun _ => True) fun _ v => v) := by
  have HIS := Lib.hid (is_any he0 11 (by omega))
  have H := Lib.hid h; have HG := Lib.hid hg; have HH0 := Lib.hid hh0; have HE0 := Lib.hid he0; have HN0 := Lib.hid hE0; have HL := Lib.hid hl; have HFIT := Lib.hid hfit
  obtain ⟨p, cap, hv, -, hcs⟩ := hl
  have HCS := Lib.hid hcs
  obtain ⟨len, hlen⟩ : ∃ len, l.length = len := ⟨_, rfl⟩
  have HLEN := Lib.hid hlen
  rw [hlen] at hv hfew
  subst hv
  have hsh := he0.shape
  clear h hg hh0 he0 hE0 hfit hcs hlen
  by_cases h11 : n0 = 11
  · have HF := Lib.hid (show CameX W R pa pb pc w0 (tFail n0 l) c (fun _ => True) (fun _ v => v) (.returned why) wi from ⟨n0, (), c, why, E0, by unfold tFail; rw [if_pos h11, h11]; rfl, trivial, rfl, HE0.out, H.out, HH0.out, HN0.out⟩)
    rw [decide_eq_true h11] at HIS
    clear h11
    go_enter Tryz.func80, Tryz.ntmps80
    go_wp2_with fail
    refine HIS.out.mono ?_
    rintro e w' ⟨rfl, rfl⟩
    rcases hsh with rfl | ⟨tt, xx, rfl⟩
    all_goals
      go_wp2
      go_ret
      exact HF.out
  · have HX0 := Lib.hid (show tFail n0 l = tRelease n0 l by unfold tFail; rw [if_neg h11])
    rw [decide_eq_false h11] at HIS
    clear h11
    go_enter Tryz.func80, Tryz.ntmps80
    go_wp2_with fail
    refine HIS.out.mono ?_
    rintro e w' ⟨rfl, rfl⟩
    go_wp2
    go_loopw [18] (fun i wr => ∃ (k : Nat) (c1 : CS), k ≤ len ∧ i = .int .i64 (k : Int) ∧ Ctx W (E0 ++ R) pa pb pc c1 wr ∧ HeldBy (E0 ++ R) wi wr ∧ exec (tRelease n0 l) c = exec (tRelease n0 (l.drop k)) c1) (fun i _ => len - (intOf i).toNat)
    case atStart => exact ⟨0, c, by omega, rfl, H.out, HeldBy.refl _ _, rfl⟩
    case round =>
      obtain ⟨k, c1, hk, rfl, hc, hh, hx⟩ := hrel
      by_cases hlt : k < len
      · have hlen' : k < l.length := by rw [HLEN.out]; exact hlt
        obtain ⟨x, hxk⟩ : ∃ x, l[k]? = some x := ⟨l[k], List.getElem?_eq_getElem hlen'⟩
        have hdrop : l.drop k = x :: l.drop (k + 1) := by
          rw [List.drop_eq_getElem_cons hlen']
          rw [List.getElem?_eq_getElem hlen'] at hxk
          rw [Option.some.inj hxk]
        rw [hdrop] at hx
        obtain ⟨gg, hpe, hgm, q0, q1⟩ := HCS.out k x hxk
        subst hpe
        have hxf := HFIT.out x (List.mem_of_getElem? hxk)
        obtain ⟨xc, xv⟩ := x
        simp only at q0 q1 hxf
        replace q0 := (hh.cell (a := ⟨gg, k * 2, none⟩) (by simp [hgm])).trans q0
        replace q1 := (hh.cell (a := ⟨gg, k * 2 + 1, none⟩) (by simp [hgm])).trans q1
        have hki : (k : Int) < (len : Int) := by omega
        have B1 := (Below.refl wr.heap.size wr).alloc (Nat.le_refl _) (.cells #[.int .u64 (xc : Int), .int .u64 (xv : Int)] 159)
        have C1 := Cells.new wr [.int .u64 (xc : Int), .int .u64 (xv : Int)] 159
        have HX := Lib.hid hx
        have HREL := Lib.hid (release_ok (hc.under B1) HG.out hxf)
        have HH := Lib.hid (hh.under hc B1)
        have r0 := C1.cell 0
        simp only [List.getElem?_cons_zero] at r0
        clear hx hc hh B1 C1 hdrop hxk hlen' hxf hgm
        go_wp2_with fail
        refine HREL.out.mono ?_
        rintro e w2 ⟨n, u0, c2, v, E, hx, -, rfl, he, hc, hh, hE⟩
        have HH2 := Lib.hid (HH.out.trans hh)
        by_cases h0 : n = 0
        · subst h0
          obtain ⟨rfl, rfl⟩ := he.isNil rfl
          have HN := Lib.hid (show exec (tRelease n0 l) c = exec (tRelease n0 (l.drop (k + 1))) c2 by rw [HX.out]; simp only [tRelease, exec_bind, hx, if_true])
          have HC2 := Lib.hid (show Ctx W (E0 ++ R) pa pb pc c2 w2 from hc)
          clear hx he hc hh hE HREL q0 q1 r0
          go_wp2
          go_roundw
          case rel => exact ⟨k + 1, c2, by omega, by go_num, HC2.out, HH2.out, HN.out⟩
          case measure => simp [intOf]; omega
        · have HF := Lib.hid (show CameX W R pa pb pc w0 (tFail n0 l) c (fun _ => True) (fun _ v => v) (.returned v) w2 from ⟨n, (), c2, v, E, by rw [HX0.out, HX.out]; simp only [tRelease, exec_bind, hx, if_neg h0, exec], trivial, rfl, he, hc.less (fun b hb => by simp only [List.mem_append] at hb ⊢; rcases hb with q | q; exact .inl q; exact .inr (.inr q)), HH0.out.trans (HH2.out.less (fun b hb => by simp [hb])), fun b hb => by have := hE b hb; have := HH.out.1; have := HH0.out.1; omega⟩)
          obtain ⟨tt, xx, rfl⟩ := he.iface h0
          clear hx he hc hh hE HREL q0 q1 r0 h0 hsh
          go_wp2
          go_ret
          exact HF.out
      · obtain rfl : k = len := by omega
        have g1 : decide ((k : Int) < (k : Int)) = false := by simp
        have HF := Lib.hid (show CameX W R pa pb pc w0 (tFail n0 l) c (fun _ => True) (fun _ v => v) (.returned why) wr from ⟨n0, (), c1, why, E0, by rw [HX0.out, hx, List.drop_eq_nil_of_le (by rw [HLEN.out]; exact Nat.le_refl _)]; rfl, trivial, rfl, HE0.out.heldBy (R := E0 ++ R) hh (fun b hb => by simp [hb]), hc, HH0.out.trans (hh.less (fun b hb => by simp [hb])), HN0.out⟩)
        clear hx hc hh
        rcases hsh with rfl | ⟨tt, xx, rfl⟩
        all_goals
          go_wp2
          go_ret
          exact HF.out

theorem commit1_ok {W : World} {pt bt : Nat} {t : Tx} {B : List Nat} {w : World} (ht : TxAt W pt t B w) (hb : w.cell? ⟨bt, 0, none⟩ = some (.pointer (some ⟨pt, 0, none⟩))) (cell : Nat) (ver : Int) :
    Calls Tryz.prog 83 #[.agg #[.int .u64 (cell : Int), .int .i64 ver], .pointer (some ⟨bt, 0, none⟩)] w fun e w' => e = .returned (.bool (wget cell t.sets.writes).isNone) ∧ Below w.heap.size w w' := by
  obtain ⟨ps, B0, rfl, h1, h2, h3, h4, h5⟩ := ht
  have B1 := (Below.refl w.heap.size w).alloc (Nat.le_refl _) (.cells #[.int .u64 (cell : Int), .int .i64 ver] 164)
  have HGET := Lib.hid (fun k => sget_ok (w := (w.alloc (.cells #[.int .u64 (cell : Int), .int .i64 ver] 164)).drewN k) (h4.heldBy (R := B0) (HeldBy.of_below (below_drewN B1 k) h4.lt) (fun _ h => h)) cell)
  obtain ⟨p0, p1, p2, p3, -⟩ := four (h3.alloc (.cells #[.int .u64 (cell : Int), .int .i64 ver] 164))
  have q := (World.cell?_alloc_lt w (.cells #[.int .u64 (cell : Int), .int .i64 ver] 164) ⟨bt, 0, none⟩ (World.block_lt_of_cell? w _ hb)).trans hb
  obtain ⟨r0, -⟩ : (w.alloc (.cells #[.int .u64 (cell : Int), .int .i64 ver] 164)).cell? ⟨w.heap.size, 0, none⟩ = some (.int .u64 (cell : Int)) ∧ True := ⟨(Cells.new w [.int .u64 (cell : Int), .int .i64 ver] 164).cell 0, trivial⟩
  obtain ⟨o, ho⟩ : ∃ o, wget cell t.sets.writes = o := ⟨_, rfl⟩
  rw [ho] at HGET ⊢
  have HB := Lib.hid B1
  clear h1 h2 h3 h4 h5 ho hb B1
  cases o
  all_goals
    simp only [Option.getD_none, Option.getD_some, Option.isSome_none, Option.isSome_some, Option.isNone_none, Option.isNone_some] at HGET ⊢
    go_enter Tryz.func83, Tryz.ntmps83
    go_wp2
    go_quiet ((go_at_call 84; exact quiet_left (HGET.out _)))
    go_wp2
    go_ret
    exact ⟨rfl, below_drewN HB.out _⟩
end Go.Proofs.YtmdganpealbmpaaGreatDoor
