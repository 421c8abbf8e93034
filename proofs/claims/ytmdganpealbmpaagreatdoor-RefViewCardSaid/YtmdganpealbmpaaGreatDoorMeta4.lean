/- Layer 6 (meta): Lock, locked, put, Commit, Release. -/
import Derived.Test.YtmdganpealbmpaaGreatDoorMeta3
namespace Go.Proofs.YtmdganpealbmpaaGreatDoor
open Go.RowKit Bl Th
set_option maxRecDepth 10000

set_option maxHeartbeats 1000000 in
theorem lock1_ok (bo : Nat) (own mv mo : Int) (mc mw : Bool) (w : World) (h : w.cell? ⟨bo, 0, none⟩ = some (.int .i64 own)) :
    Calls Tryz.prog 127 #[.agg #[.int .i64 mv, .int .i64 mo, .bool mc, .bool mw], .pointer (some ⟨bo, 0, none⟩)] w fun e w' => e = .returned (.agg #[.int .i64 mv, .int .i64 own, .bool true, .bool mw]) ∧ Below w.heap.size w w' := by
  have hl := World.block_lt_of_cell? w _ h
  go_enter Tryz.func127, Tryz.ntmps127
  go_wp2
  refine bodyPost_ret (v := .agg #[.int .i64 mv, .int .i64 own, .bool true, .bool mw]) (by simp [results, Tryz.results127, go_sem]) rfl ⟨rfl, ?_⟩
  exact ((Below.refl _ _).alloc (Nat.le_refl _) _).alloc (by simp) _
theorem ef_lock1 (args : Array Value) (w : World) : (callFunc 127 args).run Tryz.prog w = .ok (.enter 127 args) w := enters_of Tryz.func127 (by kernel_rfl) rfl args w
set_option maxHeartbeats 1000000 in
theorem lock_ok {W : World} {R : List Nat} {pa pb pc : Nat} {c : CS} {wi : World} (h : Ctx W R pa pb pc c wi) (hg : Handle W) {cell : Nat} (hr : cell < 18446744073709551616) (ver own : Int) :
    Calls Tryz.prog 108 #[.pointer (some ⟨pc, 0, none⟩), .int .u64 (cell : Int), .int .i64 ver, .int .i64 own] wi (CameX W R pa pb pc wi (mLock cell ver own) c (fun _ => True) fun _ v => v) := by
  have B0 := (Below.refl wi.heap.size wi).alloc (Nat.le_refl _) (.cells #[.int .i64 own] 3)
  have C0 := Cells.new wi [.int .i64 own] 3
  have H := Lib.hid h
  have hT : Turns ([wi.heap.size] ++ R) (wi.alloc (.cells #[.int .i64 own] 3)) 127 #[.pointer (some ⟨wi.heap.size, 0, none⟩)] (fun m => { m with own := own, chg := true }) :=
    ⟨ef_lock1, fun mv mo mc mw w hh => (lock1_ok wi.heap.size own mv mo mc mw w ((C0.heldBy hh (by simp)).cell 0)).mono fun e w' ⟨h1, h2⟩ => ⟨mv, own, true, mw, rfl, h1, h2⟩⟩
  have HT := Lib.hid (fun s => turn_ok (h.came B0 [wi.heap.size] (by simp)) hg hr s ver hT)
  have HB0 := Lib.hid B0
  have hs : wi.heap.size < (wi.alloc (.cells #[.int .i64 own] 3)).heap.size := by simp
  have HS := Lib.hid hs
  have hmf : ∀ (fn : Fn) (first cap : Array Value) (w : World), (Instr.makeFunc fn first cap).run Tryz.prog w = .ok (.func fn first cap) w := fun _ _ _ _ => rfl
  clear h hg hr B0 C0 hs hT
  go_enter Tryz.func108, Tryz.ntmps108
  go_wp2_with fail
  generalize wi.alloc (.cells #[.int .i64 own] 3) = w0 at *
  refine (HT.out _).mono ?_
  rintro e w1 ⟨n, x, c1, v, E, hx, -, rfl, he, hc, hh, hE⟩
  have HEnd := Lib.hid (locals_end (Bs := [wi.heap.size]) (wi := wi) H.out (by simpa using HS.out) (HeldBy.of_below HB0.out H.out.heldR) hc hh he hE (Kept.refl _ _))
  have HX := Lib.hid hx
  clear hx he hc hh hE HT
  go_wp2
  go_ret
  obtain ⟨e1, e2, e3, e4⟩ := HEnd.out
  exact ⟨n, x, c1, v, E, HX.out, trivial, rfl, e1, e2, e3, e4⟩

/-- in at any error, while a call has blocks of its own. -/
theorem in_locE {W : World} {R E : List Nat} {pa pb pc n : Nat} {w0 w : World} {c : CS} {v : Value} (hc : Ctx W (E ++ R) pa pb pc c w) (hh : HeldBy R w0 w) (he : Err w v n E) (hE : ∀ b ∈ E, w0.heap.size ≤ b) (s : ByteArray) :
    Calls Tryz.prog 89 #[.string s, v] w fun e w' => ∃ v' E', e = .returned v' ∧ Err w' v' n E' ∧ Ctx W (E' ++ R) pa pb pc c w' ∧ HeldBy R w0 w' ∧ (∀ b ∈ E', w0.heap.size ≤ b) ∧ Below w.heap.size w w' ∧ (v' = .nilIface ∨ ∃ t x, v' = .iface t x) := by
  refine (in_any s he).mono ?_
  rintro e w' ⟨v', E', rfl, he', hE', hb, _⟩
  have hl := he'.lt
  refine ⟨v', E', rfl, he', ?_, hh.trans (HeldBy.of_below hb fun b hb' => hc.heldR b (by simp [hb'])), fun b hb' => ?_, hb, he'.shape⟩
  · refine hc.step (Kept.mono (Kept.of_below hb) fun b hb1 hb2 => by omega) (hc.below.trans (hb.mono hc.below.size)) fun b hb' => ?_
    rcases List.mem_append.1 hb' with e | e
    · rcases hE' b e with q | q
      · exact ⟨.inl (by simp [q]), hl b e⟩
      · exact ⟨.inr q, hl b e⟩
    · exact ⟨.inl (by simp [e]), Nat.lt_of_lt_of_le (hc.heldR b (by simp [e])) hb.size⟩
  · rcases hE' b hb' with q | q
    · exact hE b q
    · have := hh.1; omega

theorem four_other {w : World} {b c : Nat} {o : Nat} {x0 x1 x2 x3 : Value} (h : c ≠ b) :
    ((((w.setCell ⟨b, 0, none⟩ x0).setCell ⟨b, 1, none⟩ x1).setCell ⟨b, 2, none⟩ x2).setCell ⟨b, 3, none⟩ x3).cell? ⟨c, o, none⟩ = w.cell? ⟨c, o, none⟩ := by
  unfold World.cell?
  simp only [Below.heap_setCell _ ⟨b, _, none⟩ _ c h]
theorem four_other_d {w : World} {b c : Nat} {o : Nat} {x0 x1 x2 x3 : Value} (h : c ≠ b) :
    ((((w.setCell ⟨b, 0, none⟩ x0).setCell ⟨b, 1, none⟩ x1).setCell ⟨b, 2, none⟩ x2).setCell ⟨b, 3, none⟩ x3).drew.cell? ⟨c, o, none⟩ = w.cell? ⟨c, o, none⟩ := by
  rw [show ∀ (u : World) (a : Addr), u.drew.cell? a = u.cell? a from fun _ _ => rfl]
  exact four_other h
set_option maxHeartbeats 2000000 in
theorem locked_ok {W : World} {R : List Nat} {pa pb pc : Nat} {c : CS} {wi : World} (h : Ctx W R pa pb pc c wi) (hg : Handle W) {cell : Nat} (hr : cell < 18446744073709551616) (s : ByteArray) :
    Calls Tryz.prog 111 #[.pointer (some ⟨pc, 0, none⟩), .string s, .int .u64 (cell : Int)] wi (CameX W R pa pb pc wi (mLocked cell) c (fun _ => True) (fun (m : Mt) v => .tuple #[mtV m, v])) := by
  have B0 := (Below.refl wi.heap.size wi).alloc (Nat.le_refl _) (.cells #[.int .i64 0, .int .i64 0, .bool false, .bool false] 205)
  have C0 := Cells.new wi [.int .i64 0, .int .i64 0, .bool false, .bool false] 205
  have H := Lib.hid h
  have HL := Lib.hid (peek_ok (h.came B0 [wi.heap.size] (by simp)) hg hr)
  have HB0 := Lib.hid B0; have HC0 := Lib.hid C0
  have hs : wi.heap.size < (wi.alloc (.cells #[.int .i64 0, .int .i64 0, .bool false, .bool false] 205)).heap.size := by simp
  have HS := Lib.hid hs
  clear h hg hr B0 C0 hs
  go_enter Tryz.func111, Tryz.ntmps111
  go_wp2_with fail
  generalize wi.alloc (.cells #[.int .i64 0, .int .i64 0, .bool false, .bool false] 205) = w0 at *
  refine HL.out.mono ?_
  rintro e w1 ⟨n, m, c1, v, E, hx, -, rfl, he, hc, hh, hE⟩
  obtain ⟨mv, mo, mc, mw⟩ := m
  simp only [mtV]
  have C1 := HC0.out.heldBy hh (by simp)
  have B1 := (Below.refl w1.heap.size w1).alloc (Nat.le_refl _) (.cells #[.int .i64 mv, .int .i64 mo, .bool mc, .bool mw] 205)
  have D2 := Cells.new w1 [.int .i64 mv, .int .i64 mo, .bool mc, .bool mw] 205
  have C2 := C1.alloc (.cells #[.int .i64 mv, .int .i64 mo, .bool mc, .bool mw] 205)
  have nz : w1.heap.size ≠ wi.heap.size := by have := C1.lt; omega
  have hc2 := hc.under B1
  have hh2 := hh.under (hc.less (fun b hb => by simp only [List.mem_append]; exact .inr (by simpa using hb))) B1
  have he2 := he.under B1
  by_cases h0 : n = 0
  · subst h0
    obtain ⟨rfl, rfl⟩ := he.isNil rfl
    have HC2 := Lib.hid (show Ctx W ([wi.heap.size] ++ R) pa pb pc c1 (w1.alloc (.cells #[.int .i64 mv, .int .i64 mo, .bool mc, .bool mw] 205)) from hc2)
    have HH2 := Lib.hid hh2
    clear he hc hh hE he2 hc2 hh2 C1 B1 HL HC0
    obtain ⟨p0, p1, p2, p3, f0, f1, f2, f3⟩ := four C2
    obtain ⟨q0, q1, q2, q3, -⟩ := four D2
    have HC2' := Lib.hid C2; have HD2 := Lib.hid D2
    clear C2 D2
    cases mc with
    | true =>
      have HX := Lib.hid (show exec (mLocked cell) c = ((0, ⟨mv, mo, true, mw⟩), c1) by simp only [mLocked, exec_bind, hx, if_true, exec])
      clear hx
      go_wp2_with fail
      generalize w1.alloc (.cells #[.int .i64 mv, .int .i64 mo, .bool true, .bool mw] 205) = w2 at *
      go_wp2
      refine bodyPost_ret (v := .tuple #[.agg #[.int .i64 mv, .int .i64 mo, .bool true, .bool mw], .nilIface]) (by simp [results, Tryz.results111, go_sem, p0, p1, p2, p3]) rfl ?_
      obtain ⟨e1, e2, e3, e4⟩ := locals_end (Bs := [wi.heap.size]) (E := []) H.out (by simpa using HS.out) (HeldBy.of_below HB0.out H.out.heldR) HC2.out HH2.out .none (by simp) ((four_kept w2 wi.heap.size).mono fun b _ e => .inl (by simp [e]))
      exact ⟨0, ⟨mv, mo, true, mw⟩, c1, _, [], HX.out, trivial, rfl, e1, e2, e3, e4⟩
    | false =>
      have HX := Lib.hid (show exec (mLocked cell) c = ((2, ⟨mv, mo, false, mw⟩), c1) by simp only [mLocked, exec_bind, hx, if_true, Bool.false_eq_true, if_false, exec])
      clear hx
      go_wp2_with fail
      generalize w1.alloc (.cells #[.int .i64 mv, .int .i64 mo, .bool false, .bool mw] 205) = w2 at *
      have HI := Lib.hid (fun k => in_locE (n := 2) (E := []) (w0 := w0) (w := w2.drewN k) (HC2.out.under (below_drewN (Below.refl _ _) k)) (HH2.out.under HC2.out (below_drewN (Below.refl _ _) k)) (.no 2 (by omega) (by omega)) (by simp) s)
      clear p0 p1 p2 p3 f0 f1 f2 f3
      go_region_held3 (fun w' => w'.cell? ⟨w1.heap.size, 0, none⟩ = some (.int .i64 mv) ∧ w'.cell? ⟨w1.heap.size, 1, none⟩ = some (.int .i64 mo) ∧ w'.cell? ⟨w1.heap.size, 2, none⟩ = some (.bool false) ∧ w'.cell? ⟨w1.heap.size, 3, none⟩ = some (.bool mw))
        (first | with_reducible exact ⟨q0, q1, q2, q3⟩ | with_reducible exact ⟨k0, k1, k2, k3⟩ | with_reducible exact ⟨(four_other nz).trans k0, (four_other nz).trans k1, (four_other nz).trans k2, (four_other nz).trans k3⟩ | with_reducible exact ⟨(four_other_d nz).trans k0, (four_other_d nz).trans k1, (four_other_d nz).trans k2, (four_other_d nz).trans k3⟩ | go_keep)
        (first | (go_at_call 89; refine (HI.out 1).mono ?_; rintro e w3 ⟨v, E, rfl, he, hc, hh, hE, hb, hv⟩; obtain ⟨k0, k1, k2, k3, -⟩ := four (Cells.kept (w := w2.drewN 1) HD2.out (Kept.of_below hb) (by have := HD2.out.lt; simp; omega)); obtain ⟨p0, p1, p2, p3, f0, f1, f2, f3⟩ := four (Cells.kept (w := w2.drewN 1) HC2'.out (Kept.of_below hb) (by have := HC2'.out.lt; simp; omega)); have HHE := Lib.hid he; have HHC := Lib.hid hc; have HHH := Lib.hid hh; have HHS := Lib.hid hE; clear he hc hh hE hb))
      go_wp2
      refine bodyPost_ret (v := .tuple #[.agg #[.int .i64 mv, .int .i64 mo, .bool false, .bool mw], v]) (by simp [results, Tryz.results111, go_sem, p0, p1, p2, p3]) rfl ?_
      obtain ⟨e1, e2, e3, e4⟩ := locals_end (Bs := [wi.heap.size]) H.out (by simpa using HS.out) (HeldBy.of_below HB0.out H.out.heldR) HHC.out HHH.out HHE.out HHS.out ((four_kept w3 wi.heap.size (x0 := .int .i64 mv) (x1 := .int .i64 mo) (x2 := .bool false) (x3 := .bool mw)).mono fun b _ e => .inl (by simp [e]))
      exact ⟨_, ⟨mv, mo, false, mw⟩, c1, v, E, HX.out, trivial, rfl, e1, e2, e3, e4⟩
  · have HX := Lib.hid (show exec (mLocked cell) c = ((n, ⟨mv, mo, mc, mw⟩), c1) by simp only [mLocked, exec_bind, hx, if_neg h0, exec])
    obtain ⟨tt, xx, rfl⟩ := he.iface h0
    have HC2 := Lib.hid hc2; have HH2 := Lib.hid hh2; have HE := Lib.hid he2; have HE2 := Lib.hid hE
    clear he hc hh hE he2 hc2 hh2 C1 B1 HL HC0 hx h0
    obtain ⟨p0, p1, p2, p3, f0, f1, f2, f3⟩ := four C2
    obtain ⟨q0, q1, q2, q3, -⟩ := four D2
    have HC2' := Lib.hid C2; have HD2 := Lib.hid D2
    clear C2 D2
    go_wp2_with fail
    generalize w1.alloc (.cells #[.int .i64 mv, .int .i64 mo, .bool mc, .bool mw] 205) = w2 at *
    have HI := Lib.hid (fun k => in_locE (w0 := w0) (w := w2.drewN k) (HC2.out.under (below_drewN (Below.refl _ _) k)) (HH2.out.under (HC2.out.less (fun b hb => by simp only [List.mem_append]; exact .inr (by simpa using hb))) (below_drewN (Below.refl _ _) k)) (HE.out.drewN k) HE2.out s)
    clear p0 p1 p2 p3 f0 f1 f2 f3
    go_region_held3 (fun w' => w'.cell? ⟨w1.heap.size, 0, none⟩ = some (.int .i64 mv) ∧ w'.cell? ⟨w1.heap.size, 1, none⟩ = some (.int .i64 mo) ∧ w'.cell? ⟨w1.heap.size, 2, none⟩ = some (.bool mc) ∧ w'.cell? ⟨w1.heap.size, 3, none⟩ = some (.bool mw))
      (first | with_reducible exact ⟨q0, q1, q2, q3⟩ | with_reducible exact ⟨k0, k1, k2, k3⟩ | with_reducible exact ⟨(four_other nz).trans k0, (four_other nz).trans k1, (four_other nz).trans k2, (four_other nz).trans k3⟩ | with_reducible exact ⟨(four_other_d nz).trans k0, (four_other_d nz).trans k1, (four_other_d nz).trans k2, (four_other_d nz).trans k3⟩ | go_keep)
      (first | (go_at_call 89; refine (HI.out 1).mono ?_; rintro e w3 ⟨v, E, rfl, he, hc, hh, hE, hb, hv⟩; obtain ⟨k0, k1, k2, k3, -⟩ := four (Cells.kept (w := w2.drewN 1) HD2.out (Kept.of_below hb) (by have := HD2.out.lt; simp; omega)); obtain ⟨p0, p1, p2, p3, f0, f1, f2, f3⟩ := four (Cells.kept (w := w2.drewN 1) HC2'.out (Kept.of_below hb) (by have := HC2'.out.lt; simp; omega)); have HHE := Lib.hid he; have HHC := Lib.hid hc; have HHH := Lib.hid hh; have HHS := Lib.hid hE; clear he hc hh hE hb))
    go_wp2
    refine bodyPost_ret (v := .tuple #[.agg #[.int .i64 mv, .int .i64 mo, .bool mc, .bool mw], v]) (by simp [results, Tryz.results111, go_sem, p0, p1, p2, p3]) rfl ?_
    obtain ⟨e1, e2, e3, e4⟩ := locals_end (Bs := [wi.heap.size]) H.out (by simpa using HS.out) (HeldBy.of_below HB0.out H.out.heldR) HHC.out HHH.out HHE.out HHS.out ((four_kept w3 wi.heap.size (x0 := .int .i64 mv) (x1 := .int .i64 mo) (x2 := .bool mc) (x3 := .bool mw)).mono fun b _ e => .inl (by simp [e]))
    exact ⟨_, ⟨mv, mo, mc, mw⟩, c1, v, E, HX.out, trivial, rfl, e1, e2, e3, e4⟩

set_option maxHeartbeats 1000000 in
theorem put_ok {W : World} {R : List Nat} {pa pb pc : Nat} {c : CS} {wi : World} (h : Ctx W R pa pb pc c wi) (hg : Handle W) {cell : Nat} (hr : cell < 18446744073709551616) (s : ByteArray) (mv mo : Int) (mc mw : Bool) :
    Calls Tryz.prog 112 #[.pointer (some ⟨pc, 0, none⟩), .string s, .int .u64 (cell : Int), .agg #[.int .i64 mv, .int .i64 mo, .bool mc, .bool mw]] wi (CameX W R pa pb pc wi (mPut cell ⟨mv, mo, mc, mw⟩) c (fun _ => True) fun _ v => v) := by
  have B0 := (Below.refl wi.heap.size wi).alloc (Nat.le_refl _) (.cells #[.int .i64 mv, .int .i64 mo, .bool mc, .bool mw] 205)
  have HC := Lib.hid (h.under B0)
  have HH := Lib.hid ((HeldBy.refl R wi).under h B0)
  have HG := Lib.hid hg; have HR := Lib.hid hr
  have HP := Lib.hid (pack_any mv mo mc mw)
  have HL := Lib.hid (packM_lt ⟨mv, mo, mc, mw⟩)
  clear h hg hr B0
  go_enter Tryz.func112, Tryz.ntmps112
  go_wp2_with fail
  generalize wi.alloc (.cells #[.int .i64 mv, .int .i64 mo, .bool mc, .bool mw] 205) = w0 at *
  refine (HP.out _).mono ?_
  rintro e w1 ⟨v, E, rfl, he, hE, hb⟩
  by_cases h1 : (packM ⟨mv, mo, mc, mw⟩).1 = 0
  · rw [h1] at he
    obtain ⟨rfl, rfl⟩ := he.isNil rfl
    have HX := Lib.hid (show mPut cell ⟨mv, mo, mc, mw⟩ = sto cell 0 (packM ⟨mv, mo, mc, mw⟩).2 by unfold mPut; rw [if_pos h1])
    obtain ⟨x, hx⟩ : ∃ x, (packM ⟨mv, mo, mc, mw⟩).2 = x := ⟨_, rfl⟩
    rw [hx] at HL HX ⊢
    have HS := Lib.hid (sto_ok (HC.out.under hb) HG.out HR.out HL.out 0)
    have HH1 := Lib.hid (HH.out.under HC.out hb)
    clear h1 he hE hb hx
    go_wp2_with fail
    refine HS.out.mono ?_
    rintro e w2 ⟨n, u0, c2, hx, hn, -, rfl, hc, hh⟩
    have HI := Lib.hid (fun s => in_fin (G := fun _ => True) (fun (_ : Unit) v => v) (show exec (mPut cell ⟨mv, mo, mc, mw⟩) c = ((n, u0), c2) by rw [HX.out]; exact hx) trivial hc (HH1.out.trans hh) hn s)
    clear hx hn hc hh HS HX
    go_wp2_with fail
    refine (HI.out _).mono ?_
    rintro e w3 ⟨v, rfl, hf⟩
    have HF := Lib.hid hf
    clear hf HI
    go_wp2
    go_ret
    exact HF.out
  · have HX := Lib.hid (show exec (mPut cell ⟨mv, mo, mc, mw⟩) c = (((packM ⟨mv, mo, mc, mw⟩).1, ()), c) by unfold mPut; rw [if_neg h1]; rfl)
    obtain ⟨tt, xx, rfl⟩ := he.iface h1
    have HI := Lib.hid (Came.in' (wr := wi) s (HC.out.came hb E (fun b hb' => ⟨hE b hb', he.lt b hb'⟩)) (HH.out.under HC.out hb) he (fun b hb => Nat.le_trans HH.out.1 (hE b hb)) (Nat.le_trans HH.out.1 hb.size))
    clear h1 he hE hb
    go_wp2_with fail
    refine HI.out.mono ?_
    rintro e w7 ⟨v, E, rfl, he, hc, hh, hE⟩
    have HF := Lib.hid (cameX_in (G := fun _ => True) (mk := fun (_ : Unit) v => v) HX.out trivial he hc hh hE)
    clear he hc hh hE HI HX
    go_wp2
    go_ret
    exact HF.out

set_option maxHeartbeats 1000000 in
theorem release_ok {W : World} {R : List Nat} {pa pb pc : Nat} {c : CS} {wi : World} (h : Ctx W R pa pb pc c wi) (hg : Handle W) {cell : Nat} (hr : cell < 18446744073709551616) :
    Calls Tryz.prog 109 #[.pointer (some ⟨pc, 0, none⟩), .int .u64 (cell : Int)] wi (CameX W R pa pb pc wi (mRelease cell) c (fun _ => True) fun _ v => v) := by
  have HL := Lib.hid (locked_ok h hg hr)
  have HG := Lib.hid hg; have HR := Lib.hid hr
  clear h hg hr
  go_enter Tryz.func109, Tryz.ntmps109
  go_wp2_with fail
  refine (HL.out _).mono ?_
  rintro e w1 ⟨n, m, c1, v, E, hx, -, rfl, he, hc, hh, hE⟩
  obtain ⟨mv, mo, mc, mw⟩ := m
  simp only [mtV]
  have B1 := (Below.refl w1.heap.size w1).alloc (Nat.le_refl _) (.cells #[.int .i64 mv, .int .i64 mo, .bool mc, .bool mw] 205)
  have C1 := Cells.new w1 [.int .i64 mv, .int .i64 mo, .bool mc, .bool mw] 205
  have hh1 := hh.under (hc.less (fun b hb => by simp [hb])) B1
  by_cases h0 : n = 0
  · subst h0
    obtain ⟨rfl, rfl⟩ := he.isNil rfl
    have HX := Lib.hid (show exec (mRelease cell) c = exec (mPut cell ⟨mv, 0, false, mw⟩) c1 by simp only [mRelease, exec_bind, hx, if_true])
    have HP := Lib.hid (fun s => put_ok (hc.under B1) HG.out HR.out s mv 0 false mw)
    have HH := Lib.hid hh1
    have q0 := C1.cell 0
    have q3 := C1.cell 3
    simp only [List.getElem?_cons_succ, List.getElem?_cons_zero] at q0 q3
    clear hx he hc hh hE B1 C1 hh1 HL
    go_wp2_with fail
    refine (HP.out _).mono ?_
    rintro e w2 ⟨n, x, c2, v, E, hx, -, rfl, he, hc, hh, hE⟩
    have HF := Lib.hid (cameX_in (G := fun _ => True) (mk := fun (_ : Unit) v => v) (wr := wi) (show exec (mRelease cell) c = ((n, x), c2) by rw [HX.out]; exact hx) trivial he hc (HH.out.trans hh) (fun b hb => Nat.le_trans HH.out.1 (hE b hb)))
    clear hx he hc hh hE HP HX
    go_wp2
    go_ret
    exact HF.out
  · have HF := Lib.hid (cameX_in (G := fun _ => True) (mk := fun (_ : Unit) v => v) (wr := wi) (show exec (mRelease cell) c = ((n, ()), c1) by simp only [mRelease, exec_bind, hx, if_neg h0, exec]) trivial (he.under B1) (hc.under B1) hh1 hE)
    obtain ⟨tt, xx, rfl⟩ := he.iface h0
    clear hx he hc hh hE B1 C1 hh1 h0 HL
    go_wp2
    go_ret
    exact HF.out

set_option maxHeartbeats 2000000 in
theorem commit_ok {W : World} {R : List Nat} {pa pb pc : Nat} {c : CS} {wi : World} (h : Ctx W R pa pb pc c wi) (hg : Handle W) {cell value : Nat} (hr : cell < 18446744073709551616) (hv : value < 18446744073709551616) (ver : Int) :
    Calls Tryz.prog 85 #[.pointer (some ⟨pc, 0, none⟩), .int .u64 (cell : Int), .int .u64 (value : Int), .int .i64 ver] wi (CameX W R pa pb pc wi (mCommit cell value ver) c (fun _ => True) (fun (b : Bool) v => .tuple #[.bool b, v])) := by
  have HL := Lib.hid (locked_ok h hg hr)
  have HG := Lib.hid hg; have HR := Lib.hid hr; have HV := Lib.hid hv; have H := Lib.hid h
  clear h hg hr hv
  go_enter Tryz.func85, Tryz.ntmps85
  go_wp2_with fail
  refine (HL.out _).mono ?_
  rintro e w1 ⟨n, m, c1, v, E, hx, -, rfl, he, hc, hh, hE⟩
  obtain ⟨mv, mo, mc, mw⟩ := m
  simp only [mtV]
  have B1 := (Below.refl w1.heap.size w1).alloc (Nat.le_refl _) (.cells #[.int .i64 mv, .int .i64 mo, .bool mc, .bool mw] 205)
  have C1 := Cells.new w1 [.int .i64 mv, .int .i64 mo, .bool mc, .bool mw] 205
  have hh1 := hh.under (hc.less (fun b hb => by simp [hb])) B1
  by_cases h0 : n = 0
  · subst h0
    obtain ⟨rfl, rfl⟩ := he.isNil rfl
    have hs : w1.heap.size < (w1.alloc (.cells #[.int .i64 mv, .int .i64 mo, .bool mc, .bool mw] 205)).heap.size := by simp
    have HX := Lib.hid hx
    have HS := Lib.hid (sto_ok (hc.came B1 [w1.heap.size] (by simp)) HG.out HR.out HV.out 1)
    have HH := Lib.hid hh1; have HC1 := Lib.hid C1; have HZ := Lib.hid hs; have HZ1 := Lib.hid hh.1
    clear hx he hc hh hE B1 C1 hh1 HL hs
    go_wp2_with fail
    generalize w1.alloc (.cells #[.int .i64 mv, .int .i64 mo, .bool mc, .bool mw] 205) = w2 at *
    refine HS.out.mono ?_
    rintro e w3 ⟨n, u0, c2, hx, hn, -, rfl, hc, hh⟩
    by_cases h0 : n = 0
    · subst h0
      rw [errV_zero]
      have HX2 := Lib.hid hx; have HH3 := Lib.hid hh
      have HP := Lib.hid (fun s => put_ok hc HG.out HR.out s ver 0 false false)
      clear hx hn hc hh HS
      go_wp2_with fail
      refine (HP.out _).mono ?_
      rintro e w4 ⟨n, x, c3, v, E, hx, -, rfl, he, hc, hh, hE⟩
      have C4 := HC1.out.heldBy (HH3.out.trans hh) (by simp)
      have HEnd := Lib.hid (locals_end (Bs := [w1.heap.size]) (wi := wi) H.out (by simpa using ⟨HZ1.out, HZ.out⟩) HH.out hc (HH3.out.trans hh) he (fun b hb => Nat.le_trans HH3.out.1 (hE b hb)) (Kept.refl _ _))
      have q3 := C4.cell 3
      simp only [List.getElem?_cons_succ, List.getElem?_cons_zero] at q3
      by_cases h0 : n = 0
      · subst h0
        obtain ⟨rfl, rfl⟩ := he.isNil rfl
        have HX3 := Lib.hid (show exec (mCommit cell value ver) c = ((0, mw), c3) by simp only [mCommit, exec_bind, HX.out, HX2.out, hx, if_true, exec])
        clear hx he hc hh hE HP HX HX2 C4
        go_wp2
        go_ret2
        obtain ⟨e1, e2, e3, e4⟩ := HEnd.out
        exact ⟨0, mw, c3, _, [], HX3.out, trivial, rfl, e1, e2, e3, e4⟩
      · have HX3 := Lib.hid (show exec (mCommit cell value ver) c = ((n, false), c3) by simp only [mCommit, exec_bind, HX.out, HX2.out, hx, if_true, if_neg h0, exec])
        obtain ⟨tt, xx, rfl⟩ := he.iface h0
        clear hx he hc hh hE HP HX HX2 C4 h0 q3
        go_wp2
        go_ret2
        obtain ⟨e1, e2, e3, e4⟩ := HEnd.out
        exact ⟨n, false, c3, _, E, HX3.out, trivial, rfl, e1, e2, e3, e4⟩
    · have HX3 := Lib.hid (show exec (mCommit cell value ver) c = ((n, false), c2) by simp only [mCommit, exec_bind, HX.out, hx, if_true, if_neg h0, exec])
      have HI := Lib.hid (fun s => in_loc hc hh hn s)
      rw [errV_pos h0] at HI ⊢
      clear hx hn hc hh h0 HX HS
      go_wp2_with fail
      refine (HI.out _).mono ?_
      rintro e w5 ⟨v, E, rfl, he, hc, hh, hE, hb, hv⟩
      have HEnd := Lib.hid (locals_end (Bs := [w1.heap.size]) (wi := wi) H.out (by simpa using ⟨HZ1.out, HZ.out⟩) HH.out hc hh he hE (Kept.refl _ _))
      clear he hc hh hE hb hv HI
      go_wp2
      go_ret2
      obtain ⟨e1, e2, e3, e4⟩ := HEnd.out
      exact ⟨n, false, c2, _, E, HX3.out, trivial, rfl, e1, e2, e3, e4⟩
  · have HF := Lib.hid (cameX_in (G := fun _ => True) (mk := (fun (b : Bool) v => .tuple #[.bool b, v])) (wr := wi) (show exec (mCommit cell value ver) c = ((n, false), c1) by simp only [mCommit, exec_bind, hx, if_neg h0, exec]) trivial (he.under B1) (hc.under B1) hh1 hE)
    obtain ⟨tt, xx, rfl⟩ := he.iface h0
    clear hx he hc hh hE B1 C1 hh1 h0 HL
    go_wp2
    go_ret2
    exact HF.out
end Go.Proofs.YtmdganpealbmpaaGreatDoor
