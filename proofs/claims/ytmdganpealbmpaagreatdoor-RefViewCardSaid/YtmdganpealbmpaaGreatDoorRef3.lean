/- Ref3: Ref, Ref2, Ref3. -/
import Derived.Test.YtmdganpealbmpaaGreatDoorSets6
import Derived.Test.YtmdganpealbmpaaGreatDoorRefPlain

/- Layer 13 (ref): a transaction in memory; Begin, Stamp, Reads, Writes, Write. -/
namespace Go.Proofs.YtmdganpealbmpaaGreatDoor
open Go.RowKit Bl Th
set_option maxRecDepth 10000

/-- A transaction in some blocks. -/
def TxAt (W : World) (pt : Nat) (t : Tx) (B : List Nat) (w : World) : Prop :=
  ∃ ps B0, B = pt :: B0 ∧ pt ∉ B0 ∧ W.heap.size ≤ pt ∧ Cells w pt [.pointer (some ⟨ps, 0, none⟩), .int .u64 (t.clock : Int), .int .i64 t.owner, .int .i64 t.stamp] 155 ∧ SetsAt W ps t.sets B0 w ∧ t.clock < 18446744073709551616
theorem TxAt.heldBy {W : World} {pt : Nat} {t : Tx} {B R : List Nat} {w w' : World} (h : TxAt W pt t B w) (k : HeldBy R w w') (hs : ∀ b ∈ B, b ∈ R) : TxAt W pt t B w' := by
  obtain ⟨ps, B0, rfl, h1, h2, h3, h4, h5⟩ := h
  exact ⟨ps, B0, rfl, h1, h2, h3.heldBy k (hs pt (by simp)), h4.heldBy k (fun b hb => hs b (by simp [hb])), h5⟩
theorem TxAt.lt {W : World} {pt : Nat} {t : Tx} {B : List Nat} {w : World} (h : TxAt W pt t B w) : ∀ b ∈ B, b < w.heap.size := by
  obtain ⟨ps, B0, rfl, h1, h2, h3, h4, h5⟩ := h
  intro b hb
  rcases List.mem_cons.1 hb with e | e
  · exact e ▸ h3.lt
  · exact h4.lt b e
theorem TxAt.new {W : World} {pt : Nat} {t : Tx} {B : List Nat} {w : World} (h : TxAt W pt t B w) : ∀ b ∈ B, W.heap.size ≤ b := by
  obtain ⟨ps, B0, rfl, h1, h2, h3, h4, h5⟩ := h
  intro b hb
  rcases List.mem_cons.1 hb with e | e
  · exact e ▸ h2
  · exact h4.new b e
/-- What Begin answers. -/
def BeginPost (W : World) (R : List Nat) (pa pb pc : Nat) (wi : World) (clock : Nat) (owner : Int) (c : CS) (e : Ending) (w' : World) : Prop :=
  ∃ n t c', exec (tBegin clock owner) c = ((n, t), c') ∧ HeldBy R wi w' ∧
    ((n = 0 ∧ ∃ pt B, e = .returned (.tuple #[.pointer (some ⟨pt, 0, none⟩), .nilIface]) ∧ TxAt W pt t B w' ∧ Ctx W (B ++ R) pa pb pc c' w' ∧ ∀ b ∈ B, wi.heap.size ≤ b) ∨
     (n ≠ 0 ∧ ∃ v E, e = .returned (.tuple #[.pointer none, v]) ∧ Err w' v n E ∧ Ctx W (E ++ R) pa pb pc c' w' ∧ ∀ b ∈ E, wi.heap.size ≤ b))
set_option maxHeartbeats 1000000 in
theorem begin_ok {W : World} {R : List Nat} {pa pb pc : Nat} {c : CS} {wi : World} (h : Ctx W R pa pb pc c wi) (hg : Handle W) {clock : Nat} (hr : clock < 18446744073709551616) (owner : Int) :
    Calls Tryz.prog 45 #[.pointer (some ⟨pc, 0, none⟩), .int .u64 (clock : Int), .int .i64 owner] wi (BeginPost W R pa pb pc wi clock owner c) := by
  have HL := Lib.hid (now_ok h hg hr)
  have HR := Lib.hid hr
  clear h hg hr
  go_enter Tryz.func45, Tryz.ntmps45
  go_wp2_with fail
  refine HL.out.mono ?_
  rintro e w1 ⟨n, x, c1, v, E, hx, -, rfl, he, hc, hh, hE⟩
  have HX := Lib.hid (show exec (tBegin clock owner) c = ((n, ⟨.empty, clock, owner, x⟩), c1) by simp only [tBegin, exec_bind, hx, exec])
  by_cases h0 : n = 0
  · subst h0
    obtain ⟨rfl, rfl⟩ := he.isNil rfl
    have HN := Lib.hid (snew_ok (W := W) (w := w1) hc.below)
    have HC := Lib.hid (show Ctx W R pa pb pc c1 w1 from hc)
    have HH := Lib.hid hh
    clear hx he hc hh hE HL
    go_wp2_with fail
    refine HN.out.mono ?_
    rintro e w2 ⟨ps, B, rfl, hs, hb, hB⟩
    have HS := Lib.hid hs; have HB := Lib.hid hb; have HBB := Lib.hid hB
    clear hs hb hB HN
    go_wp2
    go_ret2
    have b3 := (Below.refl w2.heap.size w2).alloc (Nat.le_refl _) (.cells #[.pointer (some ⟨ps, 0, none⟩), .int .u64 (clock : Int), .int .i64 owner, .int .i64 x] 155)
    have hb3 := HB.out.trans (b3.mono HB.out.size)
    have hlt := HS.out.lt
    have hz : W.heap.size ≤ w2.heap.size := Nat.le_trans HC.out.below.size HB.out.size
    refine ⟨0, _, c1, HX.out, HH.out.under HC.out hb3, .inl ⟨rfl, w2.heap.size, w2.heap.size :: B, rfl, ⟨ps, B, rfl, fun hm => Nat.lt_irrefl _ (hlt _ hm), hz, Cells.new w2 _ _, HS.out.heldBy (R := B) (HeldBy.of_below b3 hlt) (fun _ h => h), HR.out⟩, HC.out.came hb3 _ (fun b hb => ?_), fun b hb => ?_⟩⟩
    · rcases List.mem_cons.1 hb with e | e
      · subst e; exact ⟨HB.out.size, by simp⟩
      · exact ⟨HBB.out b e, by have := hlt b e; simp; omega⟩
    · rcases List.mem_cons.1 hb with e | e
      · subst e; exact Nat.le_trans HH.out.1 HB.out.size
      · exact Nat.le_trans HH.out.1 (HBB.out b e)
  · have HF := Lib.hid (show BeginPost W R pa pb pc wi clock owner c (.returned (.tuple #[.pointer none, v])) w1 from ⟨n, _, c1, HX.out, hh, .inr ⟨h0, v, E, rfl, he, hc, hE⟩⟩)
    obtain ⟨tt, xx, rfl⟩ := he.iface h0
    clear hx he hc hh hE HL h0
    go_wp2
    go_ret2
    exact HF.out

theorem tmade_nil (w : World) : Calls Tryz.prog 75 #[.pointer none] w fun e w' => e = .returned (.bool false) ∧ w = w' := by
  go_enter Tryz.func75, Tryz.ntmps75
  go_wp2
  go_ret
  exact ⟨rfl, rfl⟩
theorem tmade_ok {W : World} {pt : Nat} {t : Tx} {B : List Nat} {w : World} (h : TxAt W pt t B w) : Calls Tryz.prog 75 #[.pointer (some ⟨pt, 0, none⟩)] w fun e w' => e = .returned (.bool true) ∧ w = w' := by
  obtain ⟨ps, B0, rfl, h1, h2, h3, h4, h5⟩ := h
  obtain ⟨p0, p1, p2, p3, -⟩ := four h3
  clear h1 h2 h3 h4 h5
  go_enter Tryz.func75, Tryz.ntmps75
  go_wp2
  go_ret
  exact ⟨rfl, rfl⟩
theorem tstamp_nil (w : World) : Calls Tryz.prog 62 #[.pointer none] w fun e w' => e = .returned (.int .i64 0) ∧ w = w' := by
  go_enter Tryz.func62, Tryz.ntmps62
  go_wp2_with (go_at_call 75; refine (tmade_nil _).mono ?_; rintro e w' ⟨rfl, rfl⟩)
  go_ret
  exact ⟨rfl, rfl⟩
theorem tstamp_ok {W : World} {pt : Nat} {t : Tx} {B : List Nat} {w : World} (h : TxAt W pt t B w) : Calls Tryz.prog 62 #[.pointer (some ⟨pt, 0, none⟩)] w fun e w' => e = .returned (.int .i64 t.stamp) ∧ w = w' := by
  have HM := Lib.hid (tmade_ok h)
  obtain ⟨ps, B0, rfl, h1, h2, h3, h4, h5⟩ := h
  obtain ⟨p0, p1, p2, p3, -⟩ := four h3
  clear h1 h2 h3 h4 h5
  go_enter Tryz.func62, Tryz.ntmps62
  go_wp2_with (go_at_call 75; refine HM.out.mono ?_; rintro e w' ⟨rfl, rfl⟩)
  go_ret
  exact ⟨rfl, rfl⟩
theorem treads_nil (w : World) : Calls Tryz.prog 78 #[.pointer none] w fun e w' => e = .returned (.slice none 0 0) ∧ w = w' := by
  go_enter Tryz.func78, Tryz.ntmps78
  go_wp2_with (go_at_call 75; refine (tmade_nil _).mono ?_; rintro e w' ⟨rfl, rfl⟩)
  go_ret
  exact ⟨rfl, rfl⟩
theorem twrites_nil (w : World) : Calls Tryz.prog 47 #[.pointer none] w fun e w' => e = .returned (.slice none 0 0) ∧ w = w' := by
  go_enter Tryz.func47, Tryz.ntmps47
  go_wp2_with (go_at_call 75; refine (tmade_nil _).mono ?_; rintro e w' ⟨rfl, rfl⟩)
  go_ret
  exact ⟨rfl, rfl⟩
theorem treads_ok {W : World} {pt : Nat} {t : Tx} {B : List Nat} {w : World} (h : TxAt W pt t B w) : Calls Tryz.prog 78 #[.pointer (some ⟨pt, 0, none⟩)] w fun e w' => ∃ v', e = .returned v' ∧ w'.ownsRow w.heap.size 164 2 v' t.sets.reads.length (t.sets.reads.flatMap encSeen) ∧ Below w.heap.size w w' := by
  have HM := Lib.hid (tmade_ok h)
  obtain ⟨ps, B0, rfl, h1, h2, h3, h4, h5⟩ := h
  obtain ⟨p0, p1, p2, p3, -⟩ := four h3
  have HC := Lib.hid (sreads_ok h4)
  clear h1 h2 h3 h4 h5
  go_enter Tryz.func78, Tryz.ntmps78
  go_wp2_with (go_at_call 75; refine HM.out.mono ?_; rintro e w' ⟨rfl, rfl⟩)
  refine HC.out.mono ?_
  rintro e w1 ⟨v', rfl, ho, hb⟩
  obtain ⟨p', cap', rfl⟩ := ownsRow_shape ho
  have HO := Lib.hid ho; have HB := Lib.hid hb
  clear ho hb HC
  go_wp2
  go_ret
  exact ⟨_, rfl, HO.out, HB.out⟩
theorem twrites_ok {W : World} {pt : Nat} {t : Tx} {B : List Nat} {w : World} (h : TxAt W pt t B w) : Calls Tryz.prog 47 #[.pointer (some ⟨pt, 0, none⟩)] w (WritesPost t.sets w) := by
  have HM := Lib.hid (tmade_ok h)
  obtain ⟨ps, B0, rfl, h1, h2, h3, h4, h5⟩ := h
  obtain ⟨p0, p1, p2, p3, -⟩ := four h3
  have HC := Lib.hid (swrites_ok h4)
  clear h1 h2 h3 h4 h5
  go_enter Tryz.func47, Tryz.ntmps47
  go_wp2_with (go_at_call 75; refine HM.out.mono ?_; rintro e w' ⟨rfl, rfl⟩)
  refine HC.out.mono ?_
  rintro e w1 ⟨v', rfl, ho, hb⟩
  have HO := Lib.hid ho; have HB := Lib.hid hb
  obtain ⟨p', cap', rfl, -⟩ := ho
  clear hb HC
  go_wp2
  go_ret
  exact ⟨_, rfl, HO.out, HB.out⟩

/-- What a call of a transaction that does no access leaves. -/
def TxSet (W : World) (pt : Nat) (B : List Nat) (w : World) (n : Nat) (t : Tx) (e : Ending) (w' : World) : Prop :=
  ∃ v E B', e = .returned v ∧ Err w' v n E ∧ TxAt W pt t B' w' ∧ Kept (fun b => b ∈ B) w w' ∧ (∀ b ∈ B', b ∈ B ∨ w.heap.size ≤ b) ∧ (∀ b ∈ E, w.heap.size ≤ b) ∧ ∀ b ∈ E, b ∉ B'
theorem twrite_nil (cell value : Nat) (w : World) : Calls Tryz.prog 61 #[.pointer none, .int .u64 (cell : Int), .int .u64 (value : Int)] w fun e w' => e = .returned (errV 1) ∧ w = w' := by
  go_enter Tryz.func61, Tryz.ntmps61
  go_wp2_with (go_at_call 75; refine (tmade_nil _).mono ?_; rintro e w' ⟨rfl, rfl⟩)
  go_ret
  exact ⟨rfl, rfl⟩
theorem twrite_ok {W : World} {pt : Nat} {t : Tx} {B : List Nat} {w : World} (h : TxAt W pt t B w) {cell value : Nat} (hc : cell < 18446744073709551616) (hv : value < 18446744073709551616) (hW : W.heap.size ≤ w.heap.size) (hlog : t.sets.log.length < 1000000000) :
    Calls Tryz.prog 61 #[.pointer (some ⟨pt, 0, none⟩), .int .u64 (cell : Int), .int .u64 (value : Int)] w (TxSet W pt B w (tWrite t cell value).1 (tWrite t cell value).2) := by
  have HM := Lib.hid (tmade_ok h)
  obtain ⟨ps, B0, rfl, h1, h2, h3, h4, h5⟩ := h
  obtain ⟨p0, p1, p2, p3, -⟩ := four h3
  have HC := Lib.hid (swrite_ok h4 hc hv hW hlog)
  have H1 := Lib.hid h1; have H2 := Lib.hid h2; have H3 := Lib.hid h3; have H5 := Lib.hid h5
  clear h1 h2 h3 h4 h5 hc hv hW hlog
  go_enter Tryz.func61, Tryz.ntmps61
  go_wp2_with (go_at_call 75; refine HM.out.mono ?_; rintro e w' ⟨rfl, rfl⟩)
  refine HC.out.mono ?_
  rintro e w1 ⟨v, E, B', rfl, he, hs, hk, hB, hE, hEB⟩
  have HF := Lib.hid (show TxSet W pt (pt :: B0) w (tWrite t cell value).1 (tWrite t cell value).2 (.returned v) w1 from ⟨v, E, pt :: B', rfl, he, ⟨ps, B', rfl, fun hm => by
    rcases hB pt hm with q | q
    · exact H1.out q
    · have := H3.out.lt; omega, H2.out, H3.out.kept hk H1.out, hs, H5.out⟩, hk.mono fun b _ e => by simp [e], fun b hb => by
      rcases List.mem_cons.1 hb with e | e
      · exact .inl (by simp [e])
      · rcases hB b e with q | q
        · exact .inl (by simp [q])
        · exact .inr q, hE, fun b hb hm => by
      rcases List.mem_cons.1 hm with e | e
      · have := hE b hb; have := H3.out.lt; omega
      · exact hEB b hb e⟩)
  have hsh := he.shape
  clear he hs hk hB hE hEB HC
  rcases hsh with rfl | ⟨tt, xx, rfl⟩
  all_goals
    go_wp2
    go_ret
    exact HF.out
end Go.Proofs.YtmdganpealbmpaaGreatDoor

/- Layer 13 (ref): still, Check, Read. -/
namespace Go.Proofs.YtmdganpealbmpaaGreatDoor
open Go.RowKit Bl Th
set_option maxRecDepth 10000

/-- A function value that tells which cells are looked at, as long as R is held. -/
structure Picks (R : List Nat) (wi : World) (g : Nat) (caps : Array Value) (which : Nat → Bool) : Prop where
  enters : ∀ (args : Array Value) (w : World), (callFunc g args).run Tryz.prog w = .ok (.enter g args) w
  does : ∀ (cell : Nat) (ver : Int) (w : World), HeldBy R wi w → Calls Tryz.prog g (#[.agg #[.int .u64 (cell : Int), .int .i64 ver]] ++ caps) w fun e w' => e = .returned (.bool (which cell)) ∧ Below w.heap.size w w'
theorem check1_ok (cell : Nat) (ver : Int) (w : World) : Calls Tryz.prog 86 #[.agg #[.int .u64 (cell : Int), .int .i64 ver]] w fun e w' => e = .returned (.bool true) ∧ Below w.heap.size w w' := by
  go_enter Tryz.func86, Tryz.ntmps86
  go_wp2
  go_ret
  exact ⟨rfl, (Below.refl _ _).alloc (Nat.le_refl _) _⟩
theorem ef_check1 (args : Array Value) (w : World) : (callFunc 86 args).run Tryz.prog w = .ok (.enter 86 args) w := enters_of Tryz.func86 (by kernel_rfl) rfl args w
theorem picks_all (R : List Nat) (wi : World) : Picks R wi 86 #[] (fun _ => true) := ⟨ef_check1, fun cell ver w _ => check1_ok cell ver w⟩

/-- The cells of a thing in a row of things that were read. -/
theorem row_seen {w : World} {base : Nat} {v : Value} {l : List (Nat × Int)} (h : w.ownsRow base 164 2 v l.length (l.flatMap encSeen)) {k : Nat} {x : Nat × Int} (hx : l[k]? = some x) :
    ∃ g cap, v = .slice (some ⟨g, 0, none⟩) l.length cap ∧ w.cell? ⟨g, k * 2, none⟩ = some (.int .u64 (x.1 : Int)) ∧ w.cell? ⟨g, k * 2 + 1, none⟩ = some (.int .i64 x.2) := by
  have hk : k < l.length := (List.getElem?_eq_some_iff.1 hx).1
  rcases h.2 with ⟨_, h0⟩ | ⟨g, cap, cur, rfl, hb, hg, hn, hm, hc, ht⟩
  · omega
  · have key : ∀ j, j < 2 → w.cell? ⟨g, k * 2 + j, none⟩ = (encSeen x)[j]? := fun j hj => by
      rw [← flat2_at l k x hx j hj, ← ht, cell_of_row w g (k * 2 + j) cur 164 (0, 0) hg, List.getElem?_take, if_pos (by omega)]
      simp
    exact ⟨g, cap, rfl, key 0 (by omega), key 1 (by omega)⟩

set_option maxHeartbeats 4000000 in
theorem still_ok {W : World} {R B : List Nat} {pa pb pc pt : Nat} {c : CS} {t : Tx} {wi : World} (h : Ctx W R pa pb pc c wi) (hg : Handle W) (ht : TxAt W pt t B wi) (hfit : ∀ x ∈ t.sets.reads, x.1 < 18446744073709551616) (hfew : t.sets.reads.length ≤ 500) {g : Nat} {caps : Array Value} {which : Nat → Bool} (hp : Picks R wi g caps which) :
    Calls Tryz.prog 82 #[.pointer (some ⟨pt, 0, none⟩), .pointer (some ⟨pc, 0, none⟩), .func (.func g) #[] caps] wi (CameX W R pa pb pc wi (tStill which t.sets.reads) c (fun _ => True) fun _ v => v) := by
  have HRD := Lib.hid (treads_ok ht)
  have H := Lib.hid h; have HG := Lib.hid hg; have HP := Lib.hid hp; have HFIT := Lib.hid hfit
  have ef := hp.enters
  obtain ⟨l, hl⟩ : ∃ l, t.sets.reads = l := ⟨_, rfl⟩
  rw [hl] at HRD HFIT hfew ⊢
  clear h hg ht hp hfit hl
  go_enter Tryz.func82, Tryz.ntmps82
  go_wp2_with fail
  refine HRD.out.mono ?_
  rintro e w1 ⟨v', rfl, ho, hb⟩
  obtain ⟨p, cap, hv⟩ := ownsRow_shape ho
  obtain ⟨len, hlen⟩ : ∃ len, l.length = len := ⟨_, rfl⟩
  have HO := Lib.hid ho; have HB := Lib.hid hb; have HLEN := Lib.hid hlen
  have hQ : ∀ b ∈ v'.ownBlock.toList, wi.heap.size ≤ b ∧ b < w1.heap.size := fun b hb' => ho.lt b (by simpa using hb')
  have HQ := Lib.hid hQ
  rw [hlen] at hv hfew
  obtain ⟨Q, hQe⟩ : ∃ Q, v'.ownBlock.toList = Q := ⟨_, rfl⟩
  have HQE := Lib.hid hQe
  rw [hQe] at HQ
  have C1 := Lib.hid (H.out.came hb Q HQ.out)
  have HH1 := Lib.hid ((HeldBy.refl R wi).under H.out hb)
  subst hv
  clear ho hb hlen hQ hQe HRD
  go_wp2
  go_loopw [14] (fun i wr => ∃ (k : Nat) (c1 : CS), k ≤ len ∧ i = .int .i64 (k : Int) ∧ Ctx W (Q ++ R) pa pb pc c1 wr ∧ HeldBy (Q ++ R) w1 wr ∧ exec (tStill which l) c = exec (tStill which (l.drop k)) c1) (fun i _ => len - (intOf i).toNat)
  case atStart => exact ⟨0, c, by omega, rfl, C1.out, HeldBy.refl _ _, rfl⟩
  case round =>
    obtain ⟨k, c1, hk, rfl, hc, hh, hx⟩ := hrel
    by_cases hlt : k < len
    · have hlen' : k < l.length := by rw [HLEN.out]; exact hlt
      obtain ⟨x, hxk⟩ : ∃ x, l[k]? = some x := ⟨l[k], List.getElem?_eq_getElem hlen'⟩
      have hdrop : l.drop k = x :: l.drop (k + 1) := by
        rw [List.drop_eq_getElem_cons hlen']
        rw [List.getElem?_eq_getElem hlen'] at hxk
        rw [Option.some.inj hxk]
      rw [hdrop] at hx
      have hrow := ownsRow_heldBy HO.out hh (fun b hb' => by rw [← HQE.out]; simp [hb'])
      obtain ⟨gg, cap', hpe, q0, q1⟩ := row_seen hrow hxk
      simp only [Value.slice.injEq] at hpe
      obtain ⟨rfl, -, -⟩ := hpe
      have hxf := HFIT.out x (List.mem_of_getElem? hxk)
      obtain ⟨xc, xv⟩ := x
      simp only at q0 q1 hxf
      have hki : (k : Int) < (len : Int) := by omega
      have HX := Lib.hid hx; have HC := Lib.hid hc; have HH := Lib.hid hh; have HXF := Lib.hid hxf
      have HWI := Lib.hid (HH1.out.trans (hh.less (fun b hb' => by simp [hb'])))
      have B1 := (Below.refl wr.heap.size wr).alloc (Nat.le_refl _) (.cells #[.int .u64 (xc : Int), .int .i64 xv] 164)
      have C2 := Cells.new wr [.int .u64 (xc : Int), .int .i64 xv] 164
      have HCALL := Lib.hid (HP.out.does xc xv _ (HWI.out.under (hc.less (fun b hb' => by simp [hb'])) B1))
      have HB1 := Lib.hid B1; have HC2 := Lib.hid C2
      have r0 := C2.cell 0
      have r1 := C2.cell 1
      simp only [List.getElem?_cons_zero, List.getElem?_cons_succ] at r0 r1
      clear hx hc hh hrow hdrop hxk hlen' hxf B1 C2
      go_wp2_with fail
      generalize wr.alloc (.cells #[.int .u64 (xc : Int), .int .i64 xv] 164) = w2 at *
      refine HCALL.out.mono ?_
      rintro e w3 ⟨rfl, hb3⟩
      have HB3 := Lib.hid (HB1.out.trans (hb3.mono HB1.out.size))
      have C3 := HC2.out.kept (Kept.of_below hb3) (by have := HC2.out.lt; omega)
      have HC3 := Lib.hid C3
      have HCTX := Lib.hid (HC.out.under HB3.out)
      have HHH := Lib.hid (HH.out.under HC.out HB3.out)
      clear r0 r1 hb3 HCALL
      obtain ⟨bw, hbw⟩ : ∃ b, which xc = b := ⟨_, rfl⟩
      have HBW := Lib.hid hbw
      rw [hbw]
      clear hbw
      cases bw with
      | false =>
        have HN := Lib.hid (show exec (tStill which l) c = exec (tStill which (l.drop (k + 1))) c1 by rw [HX.out]; simp only [tStill, HBW.out, Bool.false_eq_true, if_false])
        clear C3 q0 q1
        go_wp2
        go_roundw
        case rel => exact ⟨k + 1, c1, by omega, by go_num, HCTX.out, HHH.out, HN.out⟩
        case measure => simp [intOf]; omega
      | true =>
        have r0 := C3.cell 0
        have r1 := C3.cell 1
        simp only [List.getElem?_cons_zero, List.getElem?_cons_succ] at r0 r1
        have hb3 := wr.heap.size
        have HPK := Lib.hid (peek_ok (R := [wr.heap.size] ++ (Q ++ R)) (HC.out.came HB3.out [wr.heap.size] (by
          intro b hb'
          simp only [List.mem_singleton] at hb'
          subst hb'
          exact ⟨Nat.le_refl _, HC3.out.lt⟩)) HG.out HXF.out)
        clear C3 q0 q1 hb3
        go_wp2_with fail
        refine HPK.out.mono ?_
        rintro e w4 ⟨n, m, c4, v, E, hx, -, rfl, he, hc, hh, hE⟩
        obtain ⟨mv, mo, mc, mw⟩ := m
        simp only [mtV]
        have C4 := HC3.out.heldBy hh (by simp)
        have B4 := (Below.refl w4.heap.size w4).alloc (Nat.le_refl _) (.cells #[.int .i64 mv, .int .i64 mo, .bool mc, .bool mw] 205)
        have C5 := C4.alloc (.cells #[.int .i64 mv, .int .i64 mo, .bool mc, .bool mw] 205)
        have D5 := Cells.new w4 [.int .i64 mv, .int .i64 mo, .bool mc, .bool mw] 205
        have hcl : Ctx W (E ++ (Q ++ R)) pa pb pc c4 w4 := hc.less (fun b hb' => by simp only [List.mem_append, List.mem_singleton] at hb' ⊢; rcases hb' with q | q | q; exact .inl q; exact .inr (.inr (.inl q)); exact .inr (.inr (.inr q)))
        have hh5 : HeldBy (Q ++ R) w1 (w4.alloc (.cells #[.int .i64 mv, .int .i64 mo, .bool mc, .bool mw] 205)) := (HHH.out.trans (hh.less (fun b hb' => by simp only [List.mem_append] at hb' ⊢; exact .inr hb'))).under (hcl.less (fun b hb' => by simp only [List.mem_append] at hb' ⊢; exact .inr hb')) B4
        have HH5 := Lib.hid hh5; have HC5 := Lib.hid (hcl.under B4)
        have HWI5 := Lib.hid (HH1.out.trans (hh5.less (fun b hb' => by simp [hb'])))
        have HE5 := Lib.hid (he.under B4)
        have HEE := Lib.hid (show ∀ b ∈ E, wi.heap.size ≤ b from fun b hb' => by have := hE b hb'; have := HB3.out.size; have := HWI.out.1; omega)
        have t1 := C5.cell 1
        have s0 := D5.cell 0
        have s2 := D5.cell 2
        simp only [List.getElem?_cons_zero, List.getElem?_cons_succ] at t1 s0 s2
        by_cases h0 : n = 0
        · subst h0
          obtain ⟨rfl, rfl⟩ := he.isNil rfl
          have HX4 := Lib.hid (show exec (tStill which l) c = exec (if mc = true ∨ mv ≠ xv then .ret (12, ()) else tStill which (l.drop (k + 1))) c4 by
            rw [HX.out]; simp only [tStill, HBW.out, if_true, exec_bind, hx])
          clear hx he hc hh hE C4 B4 C5 D5 hcl hh5 HPK r0 r1
          by_cases hbad : mc = true ∨ mv ≠ xv
          · rw [if_pos hbad] at HX4
            have HF := Lib.hid (show CameX W R pa pb pc wi (tStill which l) c (fun _ => True) (fun _ v => v) (.returned (.iface 99 (.int .i64 12))) (w4.alloc (.cells #[.int .i64 mv, .int .i64 mo, .bool mc, .bool mw] 205)) from ⟨12, (), c4, _, [], by rw [HX4.out]; rfl, trivial, rfl, .no 12 (by omega) (by omega), HC5.out.less (fun b hb' => by simp only [List.mem_append] at hb' ⊢; rcases hb' with q | q; cases q; exact .inr (.inr q)), HWI5.out, by simp⟩)
            cases mc with
            | true =>
              clear hbad
              go_wp2
              go_ret
              exact HF.out
            | false =>
              have g1 : (mv != xv) = true := by simpa using hbad
              clear hbad
              go_wp2
              go_ret
              exact HF.out
          · rw [if_neg hbad] at HX4
            obtain rfl : mc = false := by cases mc <;> simp_all
            have g1 : (mv != xv) = false := by simp; by_cases q : mv = xv; exact q; exact absurd (.inr q) hbad
            clear hbad
            go_wp2
            go_roundw
            case rel => exact ⟨k + 1, c4, by omega, by go_num, HC5.out, HH5.out, HX4.out⟩
            case measure => simp [intOf]; omega
        · have HF := Lib.hid (show CameX W R pa pb pc wi (tStill which l) c (fun _ => True) (fun _ v => v) (.returned v) (w4.alloc (.cells #[.int .i64 mv, .int .i64 mo, .bool mc, .bool mw] 205)) from ⟨n, (), c4, v, E, by rw [HX.out]; simp only [tStill, HBW.out, if_true, exec_bind, hx, if_neg h0, exec], trivial, rfl, HE5.out, HC5.out.less (fun b hb' => by simp only [List.mem_append] at hb' ⊢; rcases hb' with q | q; exact .inl q; exact .inr (.inr q)), HWI5.out, HEE.out⟩)
          obtain ⟨tt, xx, rfl⟩ := he.iface h0
          clear hx he hc hh hE C4 B4 C5 D5 hcl hh5 HPK r0 r1 h0 t1 s0 s2
          go_wp2
          go_ret
          exact HF.out
    · obtain rfl : k = len := by omega
      have g1 : decide ((k : Int) < (k : Int)) = false := by simp
      have HF := Lib.hid (show CameX W R pa pb pc wi (tStill which l) c (fun _ => True) (fun _ v => v) (.returned .nilIface) wr from ⟨0, (), c1, _, [], by rw [hx, List.drop_eq_nil_of_le (by rw [HLEN.out]; exact Nat.le_refl _)]; rfl, trivial, rfl, .none, hc.less (fun b hb' => by simp only [List.mem_append] at hb' ⊢; rcases hb' with q | q; cases q; exact .inr q), HH1.out.trans (hh.less (fun b hb' => by simp [hb'])), by simp⟩)
      clear hx hc hh
      go_wp2
      go_ret
      exact HF.out
end Go.Proofs.YtmdganpealbmpaaGreatDoor

/- Layer 13 (ref): Check, Read. -/
namespace Go.Proofs.YtmdganpealbmpaaGreatDoor
open Go.RowKit Bl Th
set_option maxRecDepth 10000

theorem SetsAt.fitR {W : World} {ps : Nat} {s : Sets} {B : List Nat} {w : World} (h : SetsAt W ps s B w) : (∀ x ∈ s.reads, x.1 < 18446744073709551616) ∧ s.reads.length ≤ 500 := by
  obtain ⟨rv, lv, mv, ba, bw, ea, ew, ca, cw, rfl, h⟩ := h
  exact ⟨h.fitR, h.fewR⟩
theorem SetsAt.fitW {W : World} {ps : Nat} {s : Sets} {B : List Nat} {w : World} (h : SetsAt W ps s B w) : (∀ x ∈ s.writes, x.1 < 18446744073709551616 ∧ x.2 < 18446744073709551616) ∧ s.writes.length ≤ 500 ∧ Th.Sorted s.writes := by
  obtain ⟨rv, lv, mv, ba, bw, ea, ew, ca, cw, rfl, h⟩ := h
  exact ⟨h.fitW, h.fewW, h.wm.sorted⟩
theorem TxAt.sets {W : World} {pt : Nat} {t : Tx} {B : List Nat} {w : World} (h : TxAt W pt t B w) : ∃ ps B0, SetsAt W ps t.sets B0 w := by
  obtain ⟨ps, B0, rfl, h1, h2, h3, h4, h5⟩ := h
  exact ⟨ps, B0, h4⟩

/-- Check. -/
theorem tcheck_nil (p : Value) (w : World) : Calls Tryz.prog 50 #[.pointer none, p] w fun e w' => e = .returned (errV 1) ∧ w = w' := by
  go_enter Tryz.func50, Tryz.ntmps50
  go_wp2_with (go_at_call 75; refine (tmade_nil _).mono ?_; rintro e w' ⟨rfl, rfl⟩)
  go_ret
  exact ⟨rfl, rfl⟩
theorem tcheck_ok {W : World} {R B : List Nat} {pa pb pc pt : Nat} {c : CS} {t : Tx} {wi : World} (h : Ctx W R pa pb pc c wi) (hg : Handle W) (ht : TxAt W pt t B wi) :
    Calls Tryz.prog 50 #[.pointer (some ⟨pt, 0, none⟩), .pointer (some ⟨pc, 0, none⟩)] wi (CameX W R pa pb pc wi (tCheck t) c (fun _ => True) fun _ v => v) := by
  obtain ⟨ps, B0, hs⟩ := ht.sets
  have HM := Lib.hid (tmade_ok ht)
  have HS := Lib.hid (still_ok h hg ht hs.fitR.1 hs.fitR.2 (picks_all R wi))
  have hmf : ∀ (fn : Fn) (first cap : Array Value) (w : World), (Instr.makeFunc fn first cap).run Tryz.prog w = .ok (.func fn first cap) w := fun _ _ _ _ => rfl
  clear h hg ht hs
  go_enter Tryz.func50, Tryz.ntmps50
  go_wp2_with (go_at_call 75; refine HM.out.mono ?_; rintro e w' ⟨rfl, rfl⟩)
  refine HS.out.mono ?_
  rintro e w1 ⟨n, x, c1, v, E, hx, -, rfl, he, hc, hh, hE⟩
  have HF := Lib.hid (show CameX W R pa pb pc wi (tCheck t) c (fun _ => True) (fun _ v => v) (.returned v) w1 from ⟨n, x, c1, v, E, hx, trivial, rfl, he, hc, hh, hE⟩)
  have hsh := he.shape
  clear hx he hc hh hE HS
  rcases hsh with rfl | ⟨tt, xx, rfl⟩
  all_goals
    go_wp2
    go_ret
    exact HF.out

/-- What a call of a transaction by a Ctx leaves. -/
def TxPost {α : Type} (W : World) (R : List Nat) (pa pb pc pt : Nat) (B : List Nat) (wr : World) (p : Tree (Nat × α)) (c : CS) (G : α → Prop) (tx : α → Tx) (mk : α → Value → Value) (e : Ending) (w' : World) : Prop :=
  ∃ n x c' v E B', exec p c = ((n, x), c') ∧ G x ∧ e = .returned (mk x v) ∧ Err w' v n E ∧ TxAt W pt (tx x) B' w' ∧ Ctx W (E ++ (B' ++ R)) pa pb pc c' w' ∧ HeldBy R wr w' ∧ (∀ b ∈ E ++ B', b ∈ B ∨ wr.heap.size ≤ b) ∧ ∀ b ∈ E, b ∉ B'
/-- Sets that changed, in their transaction. -/
theorem txset_of {W : World} {pt ps : Nat} {t : Tx} {B0 : List Nat} {w w' : World} {n : Nat} {s : Sets} {e : Ending} (h1 : pt ∉ B0) (h2 : W.heap.size ≤ pt) (h3 : Cells w pt [.pointer (some ⟨ps, 0, none⟩), .int .u64 (t.clock : Int), .int .i64 t.owner, .int .i64 t.stamp] 155) (h5 : t.clock < 18446744073709551616) (h : SetsPost W ps B0 w n s e w') : TxSet W pt (pt :: B0) w n { t with sets := s } e w' := by
  obtain ⟨v, E, B', he, hr, hs, hk, hB, hE, hEB⟩ := h
  refine ⟨v, E, pt :: B', he, hr, ⟨ps, B', rfl, fun hm => ?_, h2, h3.kept hk h1, hs, h5⟩, hk.mono fun b _ e => by simp [e], fun b hb => ?_, hE, fun b hb hm => ?_⟩
  · rcases hB pt hm with q | q
    · exact h1 q
    · have := h3.lt; omega
  · rcases List.mem_cons.1 hb with e | e
    · exact .inl (by simp [e])
    · rcases hB b e with q | q
      · exact .inl (by simp [q])
      · exact .inr q
  · rcases List.mem_cons.1 hm with e | e
    · have := hE b hb; have := h3.lt; omega
    · exact hEB b hb e
/-- A transaction that changed, and a Ctx. -/
theorem TxSet.ctx {W : World} {R B B' E : List Nat} {pa pb pc pt n : Nat} {t' : Tx} {v : Value} {c : CS} {w w' : World} (hc : Ctx W (B ++ R) pa pb pc c w) (hB : ∀ b ∈ B, W.heap.size ≤ b) (hR : ∀ b ∈ B, b ∉ R) (he : Err w' v n E) (ht : TxAt W pt t' B' w') (hk : Kept (fun b => b ∈ B) w w') (hB' : ∀ b ∈ B', b ∈ B ∨ w.heap.size ≤ b) (hE : ∀ b ∈ E, w.heap.size ≤ b) : Ctx W (E ++ (B' ++ R)) pa pb pc c w' ∧ HeldBy R w w' := by
  obtain ⟨h1, h2⟩ := hc.objs (B' := E ++ B') hk hB hR fun b hb => by
    rcases List.mem_append.1 hb with e | e
    · exact ⟨.inr (hE b e), he.lt b e⟩
    · exact ⟨hB' b e, ht.lt b e⟩
  exact ⟨h1.less fun b hb => by simpa [or_assoc] using hb, h2⟩

theorem tread_nil (p : Value) (cell : Nat) (w : World) : Calls Tryz.prog 60 #[.pointer none, p, .int .u64 (cell : Int)] w fun e w' => e = .returned (.tuple #[.int .u64 0, errV 1]) ∧ w = w' := by
  go_enter Tryz.func60, Tryz.ntmps60
  go_wp2_with (go_at_call 75; refine (tmade_nil _).mono ?_; rintro e w' ⟨rfl, rfl⟩)
  go_ret2
  exact ⟨rfl, rfl⟩

set_option maxHeartbeats 4000000 in
theorem tread_ok {W : World} {R B : List Nat} {pa pb pc pt : Nat} {c : CS} {t : Tx} {wi : World} (h : Ctx W (B ++ R) pa pb pc c wi) (hg : Handle W) (ht : TxAt W pt t B wi) (hBR : ∀ b ∈ B, b ∉ R) {cell : Nat} (hcell : cell < 18446744073709551616) :
    Calls Tryz.prog 60 #[.pointer (some ⟨pt, 0, none⟩), .pointer (some ⟨pc, 0, none⟩), .int .u64 (cell : Int)] wi (TxPost W R pa pb pc pt B wi (tRead t cell) c (fun x : Nat × Tx => x.1 < 18446744073709551616) Prod.snd (fun (x : Nat × Tx) v => .tuple #[.int .u64 (x.1 : Int), v])) := by
  have HM := Lib.hid (tmade_ok ht)
  have H := Lib.hid h; have HG := Lib.hid hg; have HT := Lib.hid ht; have HBR := Lib.hid hBR; have HCL := Lib.hid hcell
  have HRD := Lib.hid (read_ok h hg hcell)
  obtain ⟨ps, B0, rfl, h1, h2, h3, h4, h5⟩ := ht
  have HGET := Lib.hid (sget_ok h4 cell)
  obtain ⟨p0, p1, p2, p3, -⟩ := four h3
  have H1 := Lib.hid h1; have H2 := Lib.hid h2; have H3 := Lib.hid h3; have H4 := Lib.hid h4; have H5 := Lib.hid h5
  clear h hg hBR hcell h1 h2 h3 h5
  cases hw : wget cell t.sets.writes with
  | some v =>
    have hvf := (h4.fitW.1 _ (wget_mem cell v _ hw)).2
    have HF := Lib.hid (show TxPost W R pa pb pc pt (pt :: B0) wi (tRead t cell) c (fun x : Nat × Tx => x.1 < 18446744073709551616) Prod.snd (fun (x : Nat × Tx) v => .tuple #[.int .u64 (x.1 : Int), v]) (.returned (.tuple #[.int .u64 (v : Int), .nilIface])) wi from ⟨0, (v, t), c, _, [], pt :: B0, by unfold tRead; rw [hw]; rfl, hvf, rfl, .none, HT.out, H.out, HeldBy.refl _ _, fun b hb => .inl hb, by simp⟩)
    rw [hw] at HGET
    simp only [Option.getD_some, Option.isSome_some] at HGET
    clear hw hvf h4 HRD
    go_enter Tryz.func60, Tryz.ntmps60
    go_wp2_with (first
      | (go_at_call 75; refine HM.out.mono ?_; rintro e w' ⟨rfl, rfl⟩)
      | (go_at_call 84; refine HGET.out.mono ?_; rintro e w' ⟨rfl, rfl⟩))
    go_ret2
    exact HF.out
  | none =>
    have HW := Lib.hid hw
    rw [hw] at HGET
    simp only [Option.getD_none, Option.isSome_none] at HGET
    clear hw h4
    go_enter Tryz.func60, Tryz.ntmps60
    go_wp2_with (first
      | (go_at_call 75; refine HM.out.mono ?_; rintro e w' ⟨rfl, rfl⟩)
      | (go_at_call 84; refine HGET.out.mono ?_; rintro e w' ⟨rfl, rfl⟩))
    refine HRD.out.mono ?_
    rintro e w1 ⟨n, x, c1, v, E, hx, hG, rfl, he, hc, hh, hE⟩
    obtain ⟨xv, xver⟩ := x
    have HX := Lib.hid hx; have HGG := Lib.hid (show xv < 18446744073709551616 from hG)
    have HH1 := Lib.hid (show HeldBy R wi w1 from hh.less (fun b hb => by simp [hb]))
    have HT1 := Lib.hid (HT.out.heldBy hh (fun b hb => List.mem_append_left _ hb))
    have H31 := Lib.hid (H3.out.heldBy hh (by simp))
    by_cases h0 : n = 0
    · subst h0
      obtain ⟨rfl, rfl⟩ := he.isNil rfl
      have HC1 := Lib.hid (show Ctx W ((pt :: B0) ++ R) pa pb pc c1 w1 from hc)
      have HSR := Lib.hid (sread_ok (H4.out.heldBy hh (fun b hb => by simp [hb])) HCL.out xver (by have := hc.below.size; omega))
      clear hx hG he hc hh hE HRD p0 p1 p2 p3
      obtain ⟨p0, p1, p2, p3, -⟩ := four H31.out
      go_wp2_with fail
      refine HSR.out.mono ?_
      rintro e w2 hpost
      obtain ⟨v, E, B', rfl, he, ht2, hk, hB', hE, hEB⟩ := txset_of H1.out H2.out H31.out H5.out hpost
      obtain ⟨hc2, hh2⟩ := TxSet.ctx HC1.out (fun b hb => HT.out.new b hb) HBR.out he ht2 hk hB' hE
      obtain ⟨s1, hs1⟩ : ∃ s1, t.sets.read cell xver = s1 := ⟨_, rfl⟩
      rw [hs1] at he ht2
      obtain ⟨sn, ss⟩ := s1
      simp only at he ht2
      have HX1 := Lib.hid (show exec (tRead t cell) c = exec (if sn = 0 then (if xver ≤ t.stamp then .ret (0, xv, { t with sets := ss })
         else (mNow t.clock).bind fun q => if q.1 = 0 then (tStill (fun _ => true) ss.reads).bind fun u => .ret (u.1, if u.1 = 0 then xv else 0, if u.1 = 0 then ⟨ss, t.clock, t.owner, q.2⟩ else { t with sets := ss })
           else .ret (q.1, 0, { t with sets := ss })) else .ret (sn, 0, { t with sets := ss })) c1 by
        unfold tRead; rw [HW.out]; simp only [exec_bind, HX.out, if_true, hs1])
      have HHB := Lib.hid (HH1.out.trans hh2)
      have HBB := Lib.hid (show ∀ b ∈ E ++ B', b ∈ pt :: B0 ∨ wi.heap.size ≤ b from fun b hb => by
        rcases List.mem_append.1 hb with q | q
        · exact .inr (Nat.le_trans HH1.out.1 (hE b q))
        · rcases hB' b q with r | r
          · exact .inl r
          · exact .inr (Nat.le_trans HH1.out.1 r))
      by_cases h0 : sn = 0
      · subst h0
        obtain ⟨rfl, rfl⟩ := he.isNil rfl
        rw [if_pos rfl] at HX1
        have HT2 := Lib.hid ht2; have HC2 := Lib.hid (show Ctx W (B' ++ R) pa pb pc c1 w2 from hc2)
        obtain ⟨ps', B0', hBe, n1, n2, n3, n4, n5⟩ := ht2
        have N1 := Lib.hid n1; have N2 := Lib.hid n2; have N3 := Lib.hid n3; have N4 := Lib.hid n4; have HBE := Lib.hid hBe
        have HBR' := Lib.hid (show ∀ b ∈ B', b ∉ R from fun b hb hr => by
          rcases hB' b hb with r | r
          · exact HBR.out b r hr
          · have := HC1.out.heldR b (by simp [hr]); omega)
        clear he hk hB' hE hEB hc2 hh2 hs1 n1 n2 n4 n5 hBe hpost p0 p1 p2 p3 HSR
        obtain ⟨p0, p1, p2, p3, -⟩ := four n3
        clear n3
        by_cases hle : xver ≤ t.stamp
        · rw [if_pos hle] at HX1
          have g1 : decide (xver ≤ t.stamp) = true := by simpa using hle
          have HF := Lib.hid (show TxPost W R pa pb pc pt (pt :: B0) wi (tRead t cell) c (fun x : Nat × Tx => x.1 < 18446744073709551616) Prod.snd (fun (x : Nat × Tx) v => .tuple #[.int .u64 (x.1 : Int), v]) (.returned (.tuple #[.int .u64 (xv : Int), .nilIface])) w2 from ⟨0, (xv, { t with sets := ss }), c1, _, [], B', HX1.out, HGG.out, rfl, .none, HT2.out, HC2.out, HHB.out, HBB.out, by simp⟩)
          clear hle
          go_wp2
          go_ret2
          exact HF.out
        · rw [if_neg hle] at HX1
          have g1 : decide (xver ≤ t.stamp) = false := by simpa using hle
          have HNOW := Lib.hid (now_ok HC2.out HG.out H5.out)
          clear hle
          go_wp2_with fail
          refine HNOW.out.mono ?_
          rintro e w3 ⟨n, q, c3, v, E, hx, -, rfl, he, hc, hh, hE⟩
          have HT3 := Lib.hid (HT2.out.heldBy hh (fun b hb => by simp [hb]))
          have HH3 := Lib.hid (HHB.out.trans (hh.less (fun b hb => by simp [hb])))
          have HNEW3 := Lib.hid (show ∀ b ∈ E, wi.heap.size ≤ b ∧ b ∉ B' from fun b hb => ⟨Nat.le_trans HHB.out.1 (hE b hb), fun hm => by have := HT2.out.lt b hm; have := hE b hb; omega⟩)
          by_cases h0 : n = 0
          · subst h0
            obtain ⟨rfl, rfl⟩ := he.isNil rfl
            have HC3 := Lib.hid (show Ctx W (B' ++ R) pa pb pc c3 w3 from hc)
            have HCK := Lib.hid (tcheck_ok hc HG.out HT3.out)
            have HX3 := Lib.hid hx
            have HN3 := Lib.hid (N3.out.heldBy hh (by rw [HBE.out]; simp))
            have HN4 := Lib.hid (N4.out.heldBy hh (fun b hb => by rw [HBE.out]; simp [hb]))
            clear hx he hc hh hE HNOW p0 p1 p2 p3
            go_wp2_with fail
            refine HCK.out.mono ?_
            rintro e w4 ⟨n, u0, c4, v, E, hx, -, rfl, he, hc, hh, hE⟩
            have HT4 := Lib.hid (HT3.out.heldBy hh (fun b hb => by simp [hb]))
            have HH4 := Lib.hid (HH3.out.trans (hh.less (fun b hb => by simp [hb])))
            by_cases h0 : n = 0
            · subst h0
              obtain ⟨rfl, rfl⟩ := he.isNil rfl
              have HC4 := Lib.hid (show Ctx W (B' ++ R) pa pb pc c4 w4 from hc)
              have N34 := Lib.hid (HN3.out.heldBy hh (by rw [HBE.out]; simp))
              have N44 := Lib.hid (HN4.out.heldBy hh (fun b hb => by rw [HBE.out]; simp [hb]))
              obtain ⟨p0, p1, p2, p3, f0, f1, f2, f3⟩ := four N34.out
              have HX4 := Lib.hid (show exec (tRead t cell) c = ((0, xv, ⟨ss, t.clock, t.owner, q⟩), c4) by
                rw [HX1.out]; simp only [exec_bind, HX3.out, if_true]
                rw [show exec (tStill (fun _ => true) ss.reads) c3 = ((0, u0), c4) from hx]
                rfl)
              clear hx he hc hh hE HCK
              go_wp2
              go_ret2
              have kk : Kept (fun b => b = pt) w4 (w4.setCell ⟨pt, 3, none⟩ (.int .i64 q)) := Kept.setCell (S := fun b => b = pt) (Kept.refl _ w4) (fun _ => rfl) _
              have hmem : pt ∈ B' := by rw [HBE.out]; simp
              obtain ⟨e1, e2⟩ := HC4.out.objs (B' := B') (kk.mono fun b _ e => e ▸ hmem) (fun b hb => HT4.out.new b hb) HBR'.out (fun b hb => ⟨.inl hb, Nat.lt_of_lt_of_le (HT4.out.lt b hb) kk.size⟩)
              refine ⟨0, (xv, ⟨ss, t.clock, t.owner, q⟩), c4, _, [], B', HX4.out, HGG.out, rfl, .none, ⟨ps', B0', HBE.out, N1.out, N2.out, N34.out.set 3 _, ?_, H5.out⟩, e1, HH4.out.trans e2, HBB.out, by simp⟩
              exact N44.out.heldBy (R := B0') ⟨kk.size, fun b hb => kk.block b (N44.out.lt b hb) fun e => N1.out (e ▸ hb)⟩ (fun _ h => h)
            · have HF := Lib.hid (show TxPost W R pa pb pc pt (pt :: B0) wi (tRead t cell) c (fun x : Nat × Tx => x.1 < 18446744073709551616) Prod.snd (fun (x : Nat × Tx) v => .tuple #[.int .u64 (x.1 : Int), v]) (.returned (.tuple #[.int .u64 ((0 : Nat) : Int), v])) w4 from ⟨n, (0, { t with sets := ss }), c4, v, E, B', by
                rw [HX1.out]; simp only [exec_bind, HX3.out, if_true]
                rw [show exec (tStill (fun _ => true) ss.reads) c3 = ((n, u0), c4) from hx]
                simp only [if_neg h0, exec], by show 0 < 18446744073709551616; omega, rfl, he, HT4.out, hc, HH4.out, fun b hb => by
                rcases List.mem_append.1 hb with r | r
                · exact .inr (Nat.le_trans HH3.out.1 (hE b r))
                · exact HBB.out b (by simp [r]), fun b hb hm => by have := HT3.out.lt b hm; have := hE b hb; omega⟩)
              obtain ⟨tt, xx, rfl⟩ := he.iface h0
              clear hx he hc hh hE HCK h0
              go_wp2
              go_ret2
              exact HF.out
          · have HF := Lib.hid (show TxPost W R pa pb pc pt (pt :: B0) wi (tRead t cell) c (fun x : Nat × Tx => x.1 < 18446744073709551616) Prod.snd (fun (x : Nat × Tx) v => .tuple #[.int .u64 (x.1 : Int), v]) (.returned (.tuple #[.int .u64 ((0 : Nat) : Int), v])) w3 from ⟨n, (0, { t with sets := ss }), c3, v, E, B', by
                rw [HX1.out]; simp only [exec_bind, hx, if_neg h0, exec], by show 0 < 18446744073709551616; omega, rfl, he, HT3.out, hc, HH3.out, fun b hb => by
                rcases List.mem_append.1 hb with r | r
                · exact .inr (HNEW3.out b r).1
                · exact HBB.out b (by simp [r]), fun b hb => (HNEW3.out b hb).2⟩)
            obtain ⟨tt, xx, rfl⟩ := he.iface h0
            clear hx he hc hh hE HNOW h0
            go_wp2
            go_ret2
            exact HF.out
      · rw [if_neg h0] at HX1
        have HF := Lib.hid (show TxPost W R pa pb pc pt (pt :: B0) wi (tRead t cell) c (fun x : Nat × Tx => x.1 < 18446744073709551616) Prod.snd (fun (x : Nat × Tx) v => .tuple #[.int .u64 (x.1 : Int), v]) (.returned (.tuple #[.int .u64 ((0 : Nat) : Int), v])) w2 from ⟨sn, (0, { t with sets := ss }), c1, v, E, B', HX1.out, by show 0 < 18446744073709551616; omega, rfl, he, ht2, hc2, HHB.out, HBB.out, hEB⟩)
        obtain ⟨tt, xx, rfl⟩ := he.iface h0
        clear he hk hB' hE hEB hc2 hh2 hs1 hpost HSR h0 ht2
        go_wp2
        go_ret2
        exact HF.out
    · have HF := Lib.hid (show TxPost W R pa pb pc pt (pt :: B0) wi (tRead t cell) c (fun x : Nat × Tx => x.1 < 18446744073709551616) Prod.snd (fun (x : Nat × Tx) v => .tuple #[.int .u64 (x.1 : Int), v]) (.returned (.tuple #[.int .u64 ((0 : Nat) : Int), v])) w1 from ⟨n, (0, t), c1, v, E, pt :: B0, by unfold tRead; rw [HW.out]; simp only [exec_bind, hx, if_neg h0, exec], by show 0 < 18446744073709551616; omega, rfl, he, HT1.out, hc, HH1.out, fun b hb => by
        rcases List.mem_append.1 hb with q | q
        · exact .inr (hE b q)
        · exact .inl q, fun b hb hm => by have := HT.out.lt b hm; have := hE b hb; omega⟩)
      obtain ⟨tt, xx, rfl⟩ := he.iface h0
      clear hx hG he hc hh hE HRD h0
      go_wp2
      go_ret2
      exact HF.out
end Go.Proofs.YtmdganpealbmpaaGreatDoor
