/- Layer 6 (meta): what a call by a Ctx answers; the accesses so; clocks, cells, Peek. -/
import Derived.Test.YtmdganpealbmpaaGreatDoorMetaBits
namespace Go.Proofs.YtmdganpealbmpaaGreatDoor
open Go.RowKit Bl Th
set_option maxRecDepth 10000

/-- What a call by a Ctx answers and leaves: a tree's number and value; G: what is so of the value. -/
def CameX {α : Type} (W : World) (R : List Nat) (pa pb pc : Nat) (wr : World) (p : Tree (Nat × α)) (c : CS) (G : α → Prop) (mk : α → Value → Value) (e : Ending) (w' : World) : Prop :=
  ∃ n x c' v E, exec p c = ((n, x), c') ∧ G x ∧ e = .returned (mk x v) ∧ Err w' v n E ∧ Ctx W (E ++ R) pa pb pc c' w' ∧ HeldBy R wr w' ∧ ∀ b ∈ E, wr.heap.size ≤ b
/-- The same of an access. -/
def Acc {α : Type} (W : World) (R : List Nat) (pa pb pc : Nat) (wr : World) (p : Tree (Nat × α)) (c : CS) (G : α → Prop) (mk : α → Value → Value) (e : Ending) (w' : World) : Prop :=
  ∃ n x c', exec p c = ((n, x), c') ∧ n ≤ 17 ∧ G x ∧ e = .returned (mk x (errV n)) ∧ Ctx W R pa pb pc c' w' ∧ HeldBy R wr w'
def U64 (n : Nat) : Prop := n < 18446744073709551616

theorem access_fit3 {op : BS → Ntry × BS} {c : CS} (h : ∀ x ∈ c.log, Fit x) (ho : Fit (op c.bs).1) : (access op c).1 ≤ 17 ∧ (access op c).2.1.word < 18446744073709551616 ∧ (access op c).2.1.ref < 18446744073709551616 := by
  unfold access
  cases hx : c.log[c.next]? with
  | some x => have := h x (List.mem_of_getElem? hx); exact ⟨by have := this.err; simp only; omega, this.word, this.ref⟩
  | none =>
    simp only
    split
    · simp [Th.blank]
    · split
      · simp [Th.blank]
      · exact ⟨by have := ho.err; simp only; omega, ho.word, ho.ref⟩
theorem ld_ok {W : World} {R : List Nat} {pa pb pc : Nat} {c : CS} {wr : World} (h : Ctx W R pa pb pc c wr) (hg : Handle W) {ref : Nat} (hr : ref < 18446744073709551616) (i : Int) :
    Calls Tryz.prog 100 #[.pointer (some ⟨pc, 0, none⟩), .int .u64 (ref : Int), .int .i64 i] wr (Acc W R pa pb pc wr (ld ref i) c U64 fun x v => .tuple #[.int .u64 (x : Int), v]) := by
  obtain ⟨f1, f2, _⟩ := access_fit3 h.fit (fit_load h.ok hr i)
  exact (cload_ok h hg hr i).mono fun e w' ⟨h1, h2, h3⟩ => ⟨_, _, _, rfl, f1, f2, h1, h2, h3⟩
theorem sto_ok {W : World} {R : List Nat} {pa pb pc : Nat} {c : CS} {wr : World} (h : Ctx W R pa pb pc c wr) (hg : Handle W) {ref x : Nat} (hr : ref < 18446744073709551616) (hx : x < 18446744073709551616) (i : Int) :
    Calls Tryz.prog 90 #[.pointer (some ⟨pc, 0, none⟩), .int .u64 (ref : Int), .int .i64 i, .int .u64 (x : Int)] wr (Acc W R pa pb pc wr (sto ref i x) c (fun _ => True) fun _ v => v) := by
  obtain ⟨f1, _, _⟩ := access_fit3 h.fit (fit_store (S := c.bs) hr hx i)
  exact (cstore_ok h hg hr hx i).mono fun e w' ⟨h1, h2, h3⟩ => ⟨_, _, _, rfl, f1, trivial, h1, h2, h3⟩
theorem cas_ok {W : World} {R : List Nat} {pa pb pc : Nat} {c : CS} {wr : World} (h : Ctx W R pa pb pc c wr) (hg : Handle W) {ref x : Nat} (hr : ref < 18446744073709551616) (hx : x < 18446744073709551616) (i : Int) (old : Nat) :
    Calls Tryz.prog 110 #[.pointer (some ⟨pc, 0, none⟩), .int .u64 (ref : Int), .int .i64 i, .int .u64 (old : Int), .int .u64 (x : Int)] wr (Acc W R pa pb pc wr (cas ref i old x) c (fun _ => True) fun b v => .tuple #[.bool b, v]) := by
  obtain ⟨f1, _, _⟩ := access_fit3 h.fit (fit_cas (S := c.bs) (old := old) hr hx i)
  exact (ccas_ok h hg hr hx i old).mono fun e w' ⟨h1, h2, h3⟩ => ⟨_, _, _, rfl, f1, trivial, h1, h2, h3⟩
theorem al_ok {W : World} {R : List Nat} {pa pb pc : Nat} {c : CS} {wr : World} (h : Ctx W R pa pb pc c wr) (hg : Handle W) (i : Int) :
    Calls Tryz.prog 72 #[.pointer (some ⟨pc, 0, none⟩), .int .i64 i] wr (Acc W R pa pb pc wr (al i) c U64 fun x v => .tuple #[.int .u64 (x : Int), v]) := by
  obtain ⟨f1, _, f2⟩ := access_fit3 h.fit (fit_alloc h.ok i)
  exact (calloc_ok h hg i).mono fun e w' ⟨h1, h2, h3⟩ => ⟨_, _, _, rfl, f1, f2, h1, h2, h3⟩

theorem errV_zero : errV 0 = .nilIface := rfl
theorem errV_pos {n : Nat} (h : n ≠ 0) : errV n = .iface 99 (.int .i64 (n : Int)) := by unfold errV; rw [if_neg h]
theorem wrap_toI (x : Nat) (h : x < 18446744073709551616) : wrap64 (x : Int) = toI x := by
  unfold wrap64 toI
  split <;> omega
/-- The end by in. -/
theorem cameX_in {α : Type} {W : World} {R : List Nat} {pa pb pc : Nat} {wr w' : World} {p : Tree (Nat × α)} {c c' : CS} {G : α → Prop} {mk : α → Value → Value} {n : Nat} {x : α} {v : Value} {E : List Nat} (hx : exec p c = ((n, x), c')) (hG : G x) (he : Err w' v n E) (hc : Ctx W (E ++ R) pa pb pc c' w') (hh : HeldBy R wr w') (hE : ∀ b ∈ E, wr.heap.size ≤ b) :
    CameX W R pa pb pc wr p c G mk (.returned (mk x v)) w' := ⟨n, x, c', v, E, hx, hG, rfl, he, hc, hh, hE⟩

/-- in at an access's error. -/
theorem in_acc (s : ByteArray) {W : World} {R : List Nat} {pa pb pc n : Nat} {c : CS} {wr w : World} (h : Ctx W R pa pb pc c w) (hh : HeldBy R wr w) (hn : n ≤ 17) :
    Calls Tryz.prog 89 #[.string s, errV n] w (Came W R pa pb pc wr n c id) := Came.in' s (E := []) h hh (errV_err w hn) (by simp) hh.1

set_option maxHeartbeats 400000 in
theorem now_ok {W : World} {R : List Nat} {pa pb pc : Nat} {c : CS} {wr : World} (h : Ctx W R pa pb pc c wr) (hg : Handle W) {clock : Nat} (hr : clock < 18446744073709551616) :
    Calls Tryz.prog 73 #[.pointer (some ⟨pc, 0, none⟩), .int .u64 (clock : Int)] wr (CameX W R pa pb pc wr (mNow clock) c (fun _ => True) fun x v => .tuple #[.int .i64 x, v]) := by
  have HL := Lib.hid (ld_ok h hg hr 0)
  clear h hg hr
  go_enter Tryz.func73, Tryz.ntmps73
  go_wp2_with fail
  refine HL.out.mono ?_
  rintro e w1 ⟨n, x, c1, hx, hn, hu, rfl, hc, hh⟩
  have HE := Lib.hid (show exec (mNow clock) c = ((n, toI x), c1) by simp only [mNow, exec_bind, hx, exec])
  have HW := Lib.hid (wrap_toI x hu)
  have HI := Lib.hid (fun s => in_acc s hc hh hn)
  clear HL hx hn hu hc hh
  go_wp2_with fail
  refine (HI.out _).mono ?_
  rintro e w2 ⟨v, E, rfl, he, hc, hh, hE⟩
  have HF := Lib.hid (cameX_in (G := fun _ => True) (mk := fun (x : Int) v => .tuple #[.int .i64 x, v]) HE.out trivial he hc hh hE)
  clear he hc hh hE HI
  go_wp2
  go_ret2
  rw [HW.out]
  exact HF.out

theorem Acc.came {α : Type} {W : World} {R : List Nat} {pa pb pc : Nat} {wr w' : World} {p : Tree (Nat × α)} {c : CS} {G : α → Prop} {mk : α → Value → Value} {e : Ending} (h : Acc W R pa pb pc wr p c G mk e w') : CameX W R pa pb pc wr p c G mk e w' := by
  obtain ⟨n, x, c', h1, h2, h3, h4, h5, h6⟩ := h
  exact ⟨n, x, c', errV n, [], h1, h3, h4, errV_err _ h2, h5, h6, by simp⟩
theorem newClock_ok {W : World} {R : List Nat} {pa pb pc : Nat} {c : CS} {wr : World} (h : Ctx W R pa pb pc c wr) (hg : Handle W) :
    Calls Tryz.prog 43 #[.pointer (some ⟨pc, 0, none⟩)] wr (CameX W R pa pb pc wr (al 1) c U64 fun x v => .tuple #[.int .u64 (x : Int), v]) := by
  have HL := Lib.hid ((al_ok h hg 1).mono fun _ _ h => h.came)
  clear h hg
  go_enter Tryz.func43, Tryz.ntmps43
  go_wp2_with fail
  refine HL.out.mono ?_
  rintro e w1 ⟨n, x, c1, v, E, hx, hu, rfl, hr⟩
  have HR := Lib.hid (show CameX W R pa pb pc wr (al 1) c U64 (fun x v => .tuple #[.int .u64 (x : Int), v]) (.returned (.tuple #[.int .u64 (x : Int), v])) w1 from ⟨n, x, c1, v, E, hx, hu, rfl, hr⟩)
  clear HL hx hu hr
  go_wp2
  go_ret2
  exact HR.out

/-- in at an error that is none of an access: a number. -/
theorem in_no (s : ByteArray) (n : Nat) {W : World} {R : List Nat} {pa pb pc : Nat} {c : CS} {wr w : World} (h : Ctx W R pa pb pc c w) (hh : HeldBy R wr w) (h1 : 1 ≤ n) (h2 : n ≤ 17) :
    Calls Tryz.prog 89 #[.string s, .iface 99 (.int .i64 (n : Int))] w (Came W R pa pb pc wr n c id) := Came.in' s (E := []) h hh (.no n h1 h2) (by simp) hh.1
theorem wrap_inc (x : Nat) : IntKind.u64.wrap ((x : Int) + 1) = (inc x : Int) := by
  unfold inc IntKind.wrap
  simp [IntKind.signed, IntKind.bits]

theorem inc_lt (x : Nat) : inc x < 18446744073709551616 := Nat.mod_lt _ (by omega)

set_option maxHeartbeats 2000000 in
theorem tick_ok {W : World} {R : List Nat} {pa pb pc : Nat} {c : CS} {wi : World} (h : Ctx W R pa pb pc c wi) (hg : Handle W) {clock : Nat} (hr : clock < 18446744073709551616) :
    Calls Tryz.prog 81 #[.pointer (some ⟨pc, 0, none⟩), .int .u64 (clock : Int)] wi (CameX W R pa pb pc wi (mTick clock) c (fun _ => True) fun x v => .tuple #[.int .i64 x, v]) := by
  have H := Lib.hid h; have HG := Lib.hid hg; have HR := Lib.hid hr
  clear h hg hr
  go_enter Tryz.func81, Tryz.ntmps81
  go_wp2
  go_loopw [9] (fun i wr => ∃ (k : Nat) (c1 : CS), k ≤ 8 ∧ i = .int .i64 (k : Int) ∧ Ctx W R pa pb pc c1 wr ∧ HeldBy R wi wr ∧ exec (mTick clock) c = exec (mTickN clock (8 - k)) c1) (fun i _ => 8 - (intOf i).toNat)
  case atStart => exact ⟨0, c, by omega, rfl, H.out, HeldBy.refl _ _, rfl⟩
  case round =>
    obtain ⟨k, c1, hk, rfl, hc, hh, hx⟩ := hrel
    by_cases hlt : k < 8
    · have hki : (k : Int) < 8 := by omega
      obtain ⟨t, ht⟩ : ∃ t, 8 - k = t + 1 := ⟨7 - k, by omega⟩
      have ht' : 8 - (k + 1) = t := by omega
      rw [ht] at hx
      have HT := Lib.hid ht'
      have HX := Lib.hid hx
      have HL := Lib.hid (ld_ok hc HG.out HR.out 0)
      have HH := Lib.hid hh
      clear hc hh hx ht ht'
      go_wp2_with fail
      refine HL.out.mono ?_
      rintro e w1 ⟨n, x, c2, hx1, hn, hu, rfl, hc1, hh1⟩
      by_cases h0 : n = 0
      · subst h0
        rw [errV_zero]
        have HC := Lib.hid (cas_ok hc1 HG.out HR.out (inc_lt x) 0 x)
        have hw := wrap_inc x
        have HX1 := Lib.hid hx1
        have HH1 := Lib.hid (HH.out.trans hh1)
        clear hx1 hn hu hc1 hh1 HL
        go_wp2_with fail
        refine HC.out.mono ?_
        rintro e w2 ⟨n, b, c3, hx2, hn, -, rfl, hc2, hh2⟩
        by_cases h0 : n = 0
        · subst h0
          rw [errV_zero]
          have HX2 := Lib.hid hx2
          have HH2 := Lib.hid (HH1.out.trans hh2)
          have HC2 := Lib.hid hc2
          clear hx2 hn hc2 hh2 HC HH1 HH
          cases b with
          | true =>
            have HE := Lib.hid (cameX_in (G := fun _ => True) (mk := fun (x : Int) v => .tuple #[.int .i64 x, v]) (E := []) (show exec (mTick clock) c = ((0, toI (inc x)), c3) by rw [HX.out]; simp only [mTickN, exec_bind, HX1.out, HX2.out, if_true, exec]) trivial .none HC2.out HH2.out (by simp))
            have HW := Lib.hid (wrap_toI (inc x) (inc_lt x))
            clear HX HX1 HX2 HC2 HH2
            go_wp2
            go_ret2
            rw [HW.out]
            exact HE.out
          | false =>
            have HN := Lib.hid (show exec (mTick clock) c = exec (mTickN clock t) c3 by rw [HX.out]; simp only [mTickN, exec_bind, HX1.out, HX2.out, if_true, Bool.false_eq_true, if_false])
            clear HX HX1 HX2
            go_wp2
            go_roundw
            case rel => exact ⟨k + 1, c3, by omega, by go_num, HC2.out, HH2.out, by rw [HT.out]; exact HN.out⟩
            case measure => simp [intOf]; omega
        · have HE := Lib.hid (show exec (mTick clock) c = ((n, 0), c3) by rw [HX.out]; simp only [mTickN, exec_bind, HX1.out, hx2, if_true, if_neg h0, exec])
          have HI := Lib.hid (fun s => in_acc s hc2 (HH1.out.trans hh2) hn)
          rw [errV_pos h0] at HI ⊢
          clear hx2 hn hc2 hh2 h0 HC HX HX1
          go_wp2_with fail
          refine (HI.out _).mono ?_
          rintro e w3 ⟨v, E, rfl, he, hc, hh, hE⟩
          have HF := Lib.hid (cameX_in (G := fun _ => True) (mk := fun (x : Int) v => .tuple #[.int .i64 x, v]) HE.out trivial he hc hh hE)
          clear he hc hh hE HI HE
          go_wp2
          go_ret2
          exact HF.out
      · have HE := Lib.hid (show exec (mTick clock) c = ((n, 0), c2) by rw [HX.out]; simp only [mTickN, exec_bind, hx1, if_neg h0, exec])
        have HI := Lib.hid (fun s => in_acc s hc1 (HH.out.trans hh1) hn)
        rw [errV_pos h0] at HI ⊢
        clear hx1 hn hu hc1 hh1 h0 HL HX
        go_wp2_with fail
        refine (HI.out _).mono ?_
        rintro e w3 ⟨v, E, rfl, he, hc, hh, hE⟩
        have HF := Lib.hid (cameX_in (G := fun _ => True) (mk := fun (x : Int) v => .tuple #[.int .i64 x, v]) HE.out trivial he hc hh hE)
        clear he hc hh hE HI HE
        go_wp2
        go_ret2
        exact HF.out
    · obtain rfl : k = 8 := by omega
      have HE := Lib.hid (show exec (mTick clock) c = ((12, 0), c1) by rw [hx]; rfl)
      have HI := Lib.hid (fun s => in_no s 12 hc hh (by omega) (by omega))
      clear hc hh hx H
      go_wp2_with fail
      refine (HI.out _).mono ?_
      rintro e w3 ⟨v, E, rfl, he, hc, hh, hE⟩
      have HF := Lib.hid (cameX_in (G := fun _ => True) (mk := fun (x : Int) v => .tuple #[.int .i64 x, v]) HE.out trivial he hc hh hE)
      clear he hc hh hE HI HE
      go_wp2
      go_ret2
      exact HF.out

/-- in at an access's error, and the end of the call. -/
theorem in_fin {α : Type} {W : World} {R : List Nat} {pa pb pc n : Nat} {wr w : World} {p : Tree (Nat × α)} {c c' : CS} {x : α} {G : α → Prop} (mk : α → Value → Value) (hx : exec p c = ((n, x), c')) (hG : G x) (hc : Ctx W R pa pb pc c' w) (hh : HeldBy R wr w) (hn : n ≤ 17) (s : ByteArray) :
    Calls Tryz.prog 89 #[.string s, errV n] w fun e w' => ∃ v, e = .returned v ∧ CameX W R pa pb pc wr p c G mk (.returned (mk x v)) w' := by
  refine (in_acc s hc hh hn).mono ?_
  rintro e w3 ⟨v, E, rfl, he, hc, hh, hE⟩
  exact ⟨v, rfl, cameX_in hx hG he hc hh hE⟩
/-- The end of a call that made some blocks for itself. -/
theorem locals_end {W : World} {R Bs E : List Nat} {pa pb pc n : Nat} {c c' : CS} {wi w0 w1 w' : World} {v : Value} (hi : Ctx W R pa pb pc c' wi) (hBs : ∀ b ∈ Bs, wi.heap.size ≤ b ∧ b < w0.heap.size) (h0 : HeldBy R wi w0) (hc : Ctx W (E ++ (Bs ++ R)) pa pb pc c w1) (hh : HeldBy (Bs ++ R) w0 w1) (he : Err w1 v n E) (hE : ∀ b ∈ E, w0.heap.size ≤ b) (k : Kept (fun b => b ∈ Bs ∨ w1.heap.size ≤ b) w1 w') :
    Err w' v n E ∧ Ctx W (E ++ R) pa pb pc c w' ∧ HeldBy R wi w' ∧ ∀ b ∈ E, wi.heap.size ≤ b := by
  have hR := hi.heldR
  have hW := hi.below.size
  have z0 := h0.1
  have z1 := hh.1
  have hEl := he.lt
  have keepE : HeldBy E w1 w' := ⟨k.size, fun b hb => k.block b (hEl b hb) (by
    rintro (q | q)
    · have := (hBs b q).2; have := hE b hb; omega
    · have := hEl b hb; omega)⟩
  refine ⟨he.heldBy keepE (fun _ h => h), ?_, ⟨by have := k.size; omega, fun b hb => ?_⟩, fun b hb => Nat.le_trans z0 (hE b hb)⟩
  · refine hc.step (k.mono fun b hb hq => ?_) (hc.below.trans (k.below hc.below.size fun b hb hq => ?_)) fun b hb => ?_
    · rcases hq with q | q
      · simp [q]
      · omega
    · rcases hq with q | q
      · have := (hBs b q).1; omega
      · have := hc.below.size; omega
    · refine ⟨.inl ?_, Nat.lt_of_lt_of_le (hc.heldR b ?_) k.size⟩
      all_goals
        rcases List.mem_append.1 hb with q | q
        · simp [q]
        · simp [q]
  · have hl := hR b hb
    rw [k.block b (hc.heldR b (by simp [hb])) (by
      rintro (q | q)
      · have := (hBs b q).1; omega
      · omega), hh.2 b (by simp [hb]), h0.2 b hb]
theorem four_kept (w : World) (b : Nat) {x0 x1 x2 x3 : Value} : Kept (fun k => k = b) w ((((w.setCell ⟨b, 0, none⟩ x0).setCell ⟨b, 1, none⟩ x1).setCell ⟨b, 2, none⟩ x2).setCell ⟨b, 3, none⟩ x3) :=
  ((((Kept.refl (fun k => k = b) w).setCell (fun _ => rfl) _).setCell (fun _ => rfl) _).setCell (fun _ => rfl) _).setCell (fun _ => rfl) _

theorem Ctx.under {W : World} {R : List Nat} {pa pb pc : Nat} {c : CS} {w w' : World} (h : Ctx W R pa pb pc c w) (hb : Below w.heap.size w w') : Ctx W R pa pb pc c w' := h.came hb [] (by simp)
theorem HeldBy.under {R : List Nat} {W : World} {pa pb pc : Nat} {c : CS} {w0 w w' : World} (h : HeldBy R w0 w) (hc : Ctx W R pa pb pc c w) (hb : Below w.heap.size w w') : HeldBy R w0 w' := h.trans (HeldBy.of_below hb hc.heldR)
theorem unpack_ok (x : Nat) (hx : x < 18446744073709551616) (w : World) :
    Calls Tryz.prog 115 #[.int .u64 x] w fun e w' => ∃ mv mo mc mw, unM x = ⟨mv, mo, mc, mw⟩ ∧ e = .returned (.agg #[.int .i64 mv, .int .i64 mo, .bool mc, .bool mw]) ∧ Below w.heap.size w w' :=
  (bits_unpack x hx w).mono fun _ _ ⟨h1, h2⟩ => ⟨_, _, _, _, rfl, h1, h2⟩
/-- in at an access's error, while a call has blocks of its own. -/
theorem in_loc {W : World} {R : List Nat} {pa pb pc n : Nat} {w0 w : World} {c : CS} (hc : Ctx W R pa pb pc c w) (hh : HeldBy R w0 w) (hn : n ≤ 17) (s : ByteArray) :
    Calls Tryz.prog 89 #[.string s, errV n] w fun e w' => ∃ v E, e = .returned v ∧ Err w' v n E ∧ Ctx W (E ++ R) pa pb pc c w' ∧ HeldBy R w0 w' ∧ (∀ b ∈ E, w0.heap.size ≤ b) ∧ Below w.heap.size w w' ∧ (v = .nilIface ∨ ∃ t x, v = .iface t x) := by
  refine (in_any s (errV_err w hn)).mono ?_
  rintro e w' ⟨v, E, rfl, he, hE, hb, _⟩
  have hE' : ∀ b ∈ E, w.heap.size ≤ b := fun b hb' => by simpa using hE b hb'
  exact ⟨v, E, rfl, he, hc.came hb E (fun b hb' => ⟨hE' b hb', he.lt b hb'⟩), hh.under hc hb, fun b hb' => Nat.le_trans hh.1 (hE' b hb'), hb, he.shape⟩

set_option maxHeartbeats 1000000 in
theorem peek_ok {W : World} {R : List Nat} {pa pb pc : Nat} {c : CS} {wi : World} (h : Ctx W R pa pb pc c wi) (hg : Handle W) {cell : Nat} (hr : cell < 18446744073709551616) :
    Calls Tryz.prog 107 #[.pointer (some ⟨pc, 0, none⟩), .int .u64 (cell : Int)] wi (CameX W R pa pb pc wi (mPeek cell) c (fun _ => True) (fun (m : Mt) v => .tuple #[mtV m, v])) := by
  have B0 := (Below.refl wi.heap.size wi).alloc (Nat.le_refl _) (.cells #[.int .i64 0, .int .i64 0, .bool false, .bool false] 205)
  have C0 := Cells.new wi [.int .i64 0, .int .i64 0, .bool false, .bool false] 205
  have H := Lib.hid h
  have HL := Lib.hid (ld_ok (h.came B0 [wi.heap.size] (by simp)) hg hr 0)
  have HB0 := Lib.hid B0; have HC0 := Lib.hid C0
  have hs : wi.heap.size < (wi.alloc (.cells #[.int .i64 0, .int .i64 0, .bool false, .bool false] 205)).heap.size := by simp
  have HS := Lib.hid hs
  clear h hg hr B0 C0 hs
  go_enter Tryz.func107, Tryz.ntmps107
  go_wp2_with fail
  generalize wi.alloc (.cells #[.int .i64 0, .int .i64 0, .bool false, .bool false] 205) = w0 at *
  refine HL.out.mono ?_
  rintro e w1 ⟨n, x, c1, hx, hn, hu, rfl, hc, hh⟩
  have C1 := HC0.out.heldBy hh (by simp)
  obtain ⟨p0, p1, p2, p3, f0, f1, f2, f3⟩ := four C1
  have HC1 := Lib.hid C1
  by_cases h0 : n = 0
  · subst h0
    rw [errV_zero]
    have HX := Lib.hid (show exec (mPeek cell) c = ((0, unM x), c1) by simp only [mPeek, exec_bind, hx, if_true, exec])
    have HP := Lib.hid (unpack_ok x hu w1)
    have HH := Lib.hid hh; have HC := Lib.hid hc
    clear hx hn hu hc hh HL C1
    go_wp2_with fail
    refine HP.out.mono ?_
    rintro e w2 ⟨mv, mo, mc, mw, hm, rfl, hb2⟩
    have C2 := HC1.out.kept (Kept.of_below hb2) (by have := HC1.out.lt; omega)
    rw [hm] at HX
    have HH2 := Lib.hid (HH.out.under HC.out hb2); have HC2 := Lib.hid (HC.out.under hb2)
    have HC3 := Lib.hid C2
    clear p0 p1 p2 p3 f0 f1 f2 f3 hm hb2 HP
    obtain ⟨p0, p1, p2, p3, f0, f1, f2, f3⟩ := four C2
    clear C2
    go_wp2
    refine bodyPost_ret (v := .tuple #[.agg #[.int .i64 mv, .int .i64 mo, .bool mc, .bool mw], .nilIface]) (by simp [results, Tryz.results107, go_sem, p0, p1, p2, p3]) rfl ?_
    obtain ⟨e1, e2, e3, e4⟩ := locals_end (Bs := [wi.heap.size]) (E := []) H.out (by simpa using HS.out) (HeldBy.of_below HB0.out H.out.heldR) HC2.out HH2.out .none (by simp) ((four_kept w2 wi.heap.size).mono fun b _ e => .inl (by simp [e]))
    exact ⟨0, ⟨mv, mo, mc, mw⟩, c1, _, [], HX.out, trivial, rfl, e1, e2, e3, e4⟩
  · have HX := Lib.hid (show exec (mPeek cell) c = ((n, .zero), c1) by simp only [mPeek, exec_bind, hx, if_neg h0, exec])
    have HI := Lib.hid (fun s => in_loc hc hh hn s)
    rw [errV_pos h0] at HI ⊢
    clear hx hn hu hc hh HL C1 h0
    go_wp2_with fail
    refine (HI.out _).mono ?_
    rintro e w2 ⟨v, E, rfl, he, hc, hh, hE, hb2, hv⟩
    have C2 := HC1.out.kept (Kept.of_below hb2) (by have := HC1.out.lt; omega)
    have HH2 := Lib.hid hh; have HC2 := Lib.hid hc; have HE := Lib.hid he; have HE2 := Lib.hid hE; have HV := Lib.hid hv
    clear p0 p1 p2 p3 f0 f1 f2 f3 he hc hh hE hb2 HI hv
    obtain ⟨p0, p1, p2, p3, f0, f1, f2, f3⟩ := four C2
    clear C2
    go_wp2
    refine bodyPost_ret (v := .tuple #[.agg #[.int .i64 0, .int .i64 0, .bool false, .bool false], v]) (by simp [results, Tryz.results107, go_sem, p0, p1, p2, p3]) rfl ?_
    obtain ⟨e1, e2, e3, e4⟩ := locals_end (Bs := [wi.heap.size]) H.out (by simpa using HS.out) (HeldBy.of_below HB0.out H.out.heldR) HC2.out HH2.out HE.out HE2.out ((four_kept w2 wi.heap.size).mono fun b _ e => .inl (by simp [e]))
    exact ⟨n, .zero, c1, _, E, HX.out, trivial, rfl, e1, e2, e3, e4⟩
end Go.Proofs.YtmdganpealbmpaaGreatDoor
