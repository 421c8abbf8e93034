/- Layer 14 (txn): Begin, Read, Write, End. -/
import Derived.Test.YtkpdacfiglpgeaaGreatDoorRef5
import Derived.Test.YtkpdacfiglpgeaaGreatDoorCntPlain
namespace Go.Proofs.YtkpdacfiglpgeaaGreatDoor
open Go.RowKit Bl Th
set_option maxRecDepth 10000

theorem Sets.read_logX (s : Sets) (cell : Nat) (ver : Int) : (s.read cell ver).2.log = s.log := by
  unfold Sets.read
  repeat' split
  all_goals rfl
theorem xRead_log (t : Tx) (cell : Nat) (c : CS) : (exec (tRead t cell) c).1.2.2.sets.log = t.sets.log := by
  unfold tRead
  cases wget cell t.sets.writes with
  | some v => rfl
  | none =>
    simp only [exec_bind]
    split
    · split
      · split
        · exact Sets.read_logX _ _ _
        · simp only [exec_bind]
          split
          · simp only [exec_bind, exec]
            split <;> exact Sets.read_logX _ _ _
          · exact Sets.read_logX _ _ _
      · exact Sets.read_logX _ _ _
    · rfl
theorem xWrite_log (t : Tx) (cell x : Nat) : (tWrite t cell x).2.sets.log.length ≤ t.sets.log.length + 1 := by
  unfold tWrite Sets.write
  simp only
  split
  · exact Nat.le_succ _
  · simp only
    split
    · exact Nat.le_succ _
    · simp

set_option maxHeartbeats 400000 in
/-- A Txn's own two cells. -/
def TnAt (px pt pc : Nat) (w : World) : Prop := Cells w px [.pointer (some ⟨pt, 0, none⟩), .pointer (some ⟨pc, 0, none⟩)] 159
theorem TnAt.heldBy {px pt pc : Nat} {R : List Nat} {w w' : World} (h : TnAt px pt pc w) (k : HeldBy R w w') (hp : px ∈ R) : TnAt px pt pc w' := Cells.heldBy h k hp
theorem TnAt.two {px pt pc : Nat} {w : World} (h : TnAt px pt pc w) : w.cell? ⟨px, 0, none⟩ = some (.pointer (some ⟨pt, 0, none⟩)) ∧ w.cell? ⟨px, 1, none⟩ = some (.pointer (some ⟨pc, 0, none⟩)) := ⟨Cells.cell h 0, Cells.cell h 1⟩
theorem xmade_ok {px pt pc : Nat} {w : World} (h : TnAt px pt pc w) : Calls Tryz.prog 69 #[.pointer (some ⟨px, 0, none⟩)] w fun e w' => e = .returned (.bool true) ∧ w = w' := by
  obtain ⟨p0, p1⟩ := h.two
  clear h
  go_enter Tryz.func69, Tryz.ntmps69
  go_wp2
  go_ret
  exact ⟨rfl, rfl⟩
/-- What Begin answers. -/
def XBegin (W : World) (R : List Nat) (pa pb pc : Nat) (wi : World) (clock : Nat) (owner : Int) (c : CS) (e : Ending) (w' : World) : Prop :=
  ∃ n t c', exec (tBegin clock owner) c = ((n, t), c') ∧ HeldBy R wi w' ∧
    ((n = 0 ∧ ∃ px pt B, e = .returned (.tuple #[.pointer (some ⟨px, 0, none⟩), .nilIface]) ∧ TxAt W pt t B w' ∧ TnAt px pt pc w' ∧ Ctx W (B ++ (px :: R)) pa pb pc c' w' ∧ wi.heap.size ≤ px ∧ (∀ b ∈ B, wi.heap.size ≤ b) ∧ px ∉ B) ∨
     (n ≠ 0 ∧ ∃ v E, e = .returned (.tuple #[.pointer none, v]) ∧ Err w' v n E ∧ Ctx W (E ++ R) pa pb pc c' w' ∧ ∀ b ∈ E, wi.heap.size ≤ b))
theorem xbegin_ok {W : World} {R : List Nat} {pa pb pc : Nat} {c : CS} {wi : World} (h : Ctx W R pa pb pc c wi) (hg : Handle W) {clock : Nat} (hr : clock < 18446744073709551616) (owner : Int) :
    Calls Tryz.prog 43 #[.pointer (some ⟨pc, 0, none⟩), .int .u64 (clock : Int), .int .i64 owner] wi (XBegin W R pa pb pc wi clock owner c) := by
  have HB := Lib.hid (begin_ok h hg hr owner)
  clear h hg hr
  go_enter Tryz.func43, Tryz.ntmps43
  go_wp2_with fail
  refine HB.out.mono ?_
  rintro e w1 ⟨n, t, c1, hx, hh, ⟨rfl, pt, B, rfl, ht, hc, hB⟩ | ⟨h0, v, E, rfl, he, hc, hE⟩⟩
  · have B2 := (Below.refl w1.heap.size w1).alloc (Nat.le_refl _) (.cells #[.pointer (some ⟨pt, 0, none⟩), .pointer (some ⟨pc, 0, none⟩)] 159)
    have C2 := Cells.new w1 [.pointer (some ⟨pt, 0, none⟩), .pointer (some ⟨pc, 0, none⟩)] 159
    have hk := HeldBy.of_below (R := B ++ R) B2 hc.heldR
    have hlt := ht.lt
    have HF := Lib.hid (show XBegin W R pa pb pc wi clock owner c (.returned (.tuple #[.pointer (some ⟨w1.heap.size, 0, none⟩), .nilIface])) (w1.alloc (.cells #[.pointer (some ⟨pt, 0, none⟩), .pointer (some ⟨pc, 0, none⟩)] 159)) from
      ⟨0, t, c1, hx, hh.trans (hk.less fun b hb => by simp [hb]), .inl ⟨rfl, w1.heap.size, pt, B, rfl, ht.heldBy hk (fun b hb => by simp [hb]), C2, (hc.came B2 [w1.heap.size] (by simp)).less (fun b hb => by
        simp only [List.mem_append, List.mem_cons, List.not_mem_nil, or_false] at hb ⊢
        rcases hb with q | q | q <;> simp [q]), hh.1, hB, fun hm => Nat.lt_irrefl _ (hlt _ hm)⟩⟩)
    clear hx hh ht hc hB B2 C2 hk hlt HB
    go_wp2
    go_ret2
    exact HF.out
  · have HF := Lib.hid (show XBegin W R pa pb pc wi clock owner c (.returned (.tuple #[.pointer none, v])) w1 from ⟨n, t, c1, hx, hh, .inr ⟨h0, v, E, rfl, he, hc, hE⟩⟩)
    obtain ⟨tt, xx, rfl⟩ := he.iface h0
    clear hx hh he hc hE HB h0
    go_wp2
    go_ret2
    exact HF.out
theorem xread_ok {W : World} {R B : List Nat} {pa pb pc pt px : Nat} {c : CS} {t : Tx} {wi : World} (h : Ctx W (B ++ R) pa pb pc c wi) (hg : Handle W) (ht : TxAt W pt t B wi) (hBR : ∀ b ∈ B, b ∉ R) (hx : TnAt px pt pc wi) (hpx : px ∈ R) {cell : Nat} (hcell : cell < 18446744073709551616) :
    Calls Tryz.prog 115 #[.pointer (some ⟨px, 0, none⟩), .int .u64 (cell : Int)] wi (TxPost W R pa pb pc pt B wi (tRead t cell) c (fun x : Nat × Tx => x.1 < 18446744073709551616) Prod.snd (fun (x : Nat × Tx) v => .tuple #[.int .u64 (x.1 : Int), v])) := by
  have hd : Below wi.heap.size wi (wi.drewN 1) := below_drewN (Below.refl _ _) 1
  have hk := HeldBy.of_below (R := B ++ R) hd h.heldR
  have HR := Lib.hid (tread_ok (h.under hd) hg (ht.heldBy hk (fun b hb => by simp [hb])) hBR hcell)
  have HM := Lib.hid (xmade_ok hx)
  have HK := Lib.hid (show HeldBy R wi (wi.drewN 1) from hk.less fun b hb => by simp [hb])
  have HX := Lib.hid hx; have HPX := Lib.hid hpx
  obtain ⟨p0, p1⟩ := hx.two
  clear h hg ht hBR hx hpx hcell hd hk
  go_enter Tryz.func115, Tryz.ntmps115
  go_wp2_with (go_at_call 69; refine HM.out.mono ?_; rintro e w' ⟨rfl, rfl⟩)
  go_region_held3 (fun w' => w'.cell? ⟨px, 0, none⟩ = some (.pointer (some ⟨pt, 0, none⟩)) ∧ w'.cell? ⟨px, 1, none⟩ = some (.pointer (some ⟨pc, 0, none⟩)))
    (first | with_reducible exact ⟨p0, p1⟩ | with_reducible exact ⟨k0, k1⟩ | go_keep)
    (first | (go_at_call 148; refine HR.out.mono ?_; rintro e w1 ⟨n, x, c1, v, E, B1, hx, hG, rfl, he, h1, h2, hh, h3⟩; obtain ⟨k0, k1⟩ := (HX.out.heldBy (HK.out.trans hh) HPX.out).two; have HF := Lib.hid (show TxPost W R pa pb pc pt B wi (tRead t cell) c (fun x : Nat × Tx => x.1 < 18446744073709551616) Prod.snd (fun (x : Nat × Tx) v => .tuple #[.int .u64 (x.1 : Int), v]) (.returned (.tuple #[.int .u64 (x.1 : Int), v])) w1 from ⟨n, x, c1, v, E, B1, hx, hG, rfl, he, h1, h2, HK.out.trans hh, h3⟩); clear hx hG he h1 h2 hh h3))
  all_goals
    go_wp2
    go_ret2
    exact HF.out
theorem xwrite_ok {W : World} {pt px pc : Nat} {t : Tx} {B : List Nat} {w : World} (h : TxAt W pt t B w) (hx : TnAt px pt pc w) {cell value : Nat} (hc : cell < 18446744073709551616) (hv : value < 18446744073709551616) (hW : W.heap.size ≤ w.heap.size) (hlog : t.sets.log.length < 1000000000) :
    Calls Tryz.prog 116 #[.pointer (some ⟨px, 0, none⟩), .int .u64 (cell : Int), .int .u64 (value : Int)] w (TxSet W pt B w (tWrite t cell value).1 (tWrite t cell value).2) := by
  have HR := Lib.hid (twrite_ok h hc hv hW hlog)
  have HM := Lib.hid (xmade_ok hx)
  obtain ⟨p0, p1⟩ := hx.two
  clear h hx hc hv hW hlog
  go_enter Tryz.func116, Tryz.ntmps116
  go_wp2_with (go_at_call 69; refine HM.out.mono ?_; rintro e w' ⟨rfl, rfl⟩)
  refine HR.out.mono ?_
  rintro e w1 ⟨v, E, B1, rfl, he, hrest⟩
  have HF := Lib.hid (show TxSet W pt B w (tWrite t cell value).1 (tWrite t cell value).2 (.returned v) w1 from ⟨v, E, B1, rfl, he, hrest⟩)
  have hsh := he.shape
  clear he hrest HR
  rcases hsh with rfl | ⟨tt, xx, rfl⟩
  all_goals
    go_wp2
    go_ret
    exact HF.out
theorem xstamp_ok {W : World} {pt px pc : Nat} {t : Tx} {B : List Nat} {w : World} (h : TxAt W pt t B w) (hx : TnAt px pt pc w) : Calls Tryz.prog 72 #[.pointer (some ⟨px, 0, none⟩)] w fun e w' => e = .returned (.int .i64 t.stamp) ∧ w = w' := by
  have HR := Lib.hid (tstamp_ok h)
  have HM := Lib.hid (xmade_ok hx)
  obtain ⟨p0, p1⟩ := hx.two
  clear h hx
  go_enter Tryz.func72, Tryz.ntmps72
  go_wp2_with (first | (go_at_call 69; refine HM.out.mono ?_; rintro e w' ⟨rfl, rfl⟩) | (go_at_call 112; refine HR.out.mono ?_; rintro e w' ⟨rfl, rfl⟩))
  go_ret
  exact ⟨rfl, rfl⟩
/-- The end of End: its result's own block is left. -/
theorem txend_fin {W : World} {R B0 B' E : List Nat} {pa pb pc pt n n0 rb : Nat} {c c1 : CS} {t t' : Tx} {rs : Rsl} {wi w1 w' : World} {v : Value} (hx : exec (tEnd t n0) c = ((n, rs, t'), c1)) (he : Err w1 v n E) (ht : TxAt W pt t' B' w1) (hc : Ctx W (E ++ (B' ++ (rb :: R))) pa pb pc c1 w1) (hh : HeldBy R wi w1) (hB : ∀ b ∈ E ++ B', b ∈ B0 ∨ wi.heap.size ≤ b) (hEB : ∀ b ∈ E, b ∉ B') (hrb : W.heap.size ≤ rb) (n1 : rb ∉ E) (n2 : rb ∉ B') (n3 : rb ∉ R) (k : Kept (fun b => b = rb) w1 w') :
    TxPost W R pa pb pc pt B0 wi (tEnd t n0) c (fun _ => True) Prod.snd (fun (x : Rsl × Tx) v => .tuple #[.agg #[.int .i64 x.1.fin, .int .i64 x.1.stamp, .bool x.1.wrote, .bool x.1.waits], v]) (.returned (.tuple #[.agg #[.int .i64 rs.fin, .int .i64 rs.stamp, .bool rs.wrote, .bool rs.waits], v])) w' := by
  obtain ⟨e1, e2⟩ := Ctx.objs (B := [rb]) (B' := [rb]) (R := E ++ (B' ++ R)) (hc.less fun b hb => by simp only [List.mem_append, List.mem_cons, List.not_mem_nil, or_false] at hb ⊢; rcases hb with q | q | q | q <;> simp [q]) (k.mono fun b _ e => by simp [e]) (by simp; omega) (by
    intro b hb hm
    simp only [List.mem_singleton] at hb
    subst hb
    simp only [List.mem_append] at hm
    rcases hm with q | q | q
    · exact n1 q
    · exact n2 q
    · exact n3 q) (by intro b hb; exact ⟨.inl hb, Nat.lt_of_lt_of_le (hc.heldR b (by simp only [List.mem_singleton] at hb; simp [hb])) k.size⟩)
  exact ⟨n, (rs, t'), c1, v, E, B', hx, trivial, rfl, he.heldBy e2 (fun b hb => by simp [hb]), ht.heldBy e2 (fun b hb => by simp [hb]), e1.less (fun b hb => List.mem_append_right _ hb), hh.trans (e2.less fun b hb => by simp [hb]), hB, hEB⟩
set_option maxHeartbeats 4000000 in
theorem xend_ok {W : World} {R B E0 : List Nat} {pa pb pc pt px n0 : Nat} {c : CS} {t : Tx} {wi : World} {ev : Value} (h : Ctx W (E0 ++ (B ++ R)) pa pb pc c wi) (hg : Handle W) (ht : TxAt W pt t B wi) (hBR : ∀ b ∈ B, b ∉ R) (hx : TnAt px pt pc wi) (hpx : px ∈ R) (he0 : Err wi ev n0 E0) (hE0 : ∀ b ∈ E0, b ∉ B) :
    Calls Tryz.prog 44 #[.pointer (some ⟨px, 0, none⟩), ev] wi (TxPost W R pa pb pc pt (E0 ++ B) wi (tEnd t n0) c (fun _ => True) Prod.snd (fun (x : Rsl × Tx) v => .tuple #[.agg #[.int .i64 x.1.fin, .int .i64 x.1.stamp, .bool x.1.wrote, .bool x.1.waits], v])) := by
  have B0 := (Below.refl wi.heap.size wi).alloc (Nat.le_refl _) (.cells #[.int .i64 0, .int .i64 0, .bool false, .bool false] 58)
  have C0 := Cells.new wi [.int .i64 0, .int .i64 0, .bool false, .bool false] 58
  have hz0 : (wi.alloc (.cells #[.int .i64 0, .int .i64 0, .bool false, .bool false] 58)).heap.size = wi.heap.size + 1 := by simp
  obtain ⟨w0, hw0⟩ : ∃ w0, wi.alloc (.cells #[.int .i64 0, .int .i64 0, .bool false, .bool false] 58) = w0 := ⟨_, rfl⟩
  obtain ⟨rb, hrb⟩ : ∃ rb, wi.heap.size = rb := ⟨_, rfl⟩
  rw [hw0] at B0 C0 hz0
  have hlt := h.heldR
  have hk0 := HeldBy.of_below (R := E0 ++ (B ++ R)) B0 hlt
  have hc0 : Ctx W (E0 ++ (B ++ (rb :: R))) pa pb pc c w0 := (h.came B0 [rb] (by simp; omega)).less (fun b hb => by
    simp only [List.mem_append, List.mem_cons, List.not_mem_nil, or_false] at hb ⊢
    rcases hb with q | q | q | q <;> simp [q])
  have ht0 := ht.heldBy hk0 (fun b hb => by simp [hb])
  have hx0 := hx.heldBy hk0 (by simp [hpx])
  have he1 := he0.heldBy hk0 (fun b hb => by simp [hb])
  have HM := Lib.hid (xmade_ok hx0)
  have HSTP := Lib.hid (fun (w' : World) (hh : HeldBy (B ++ R) wi w') => xstamp_ok (ht.heldBy hh (fun b hb => by simp [hb])) (hx.heldBy hh (by simp [hpx])))
  have HX0 := Lib.hid hx0; have HG := Lib.hid hg; have HT0 := Lib.hid ht0; have HPX := Lib.hid hpx; have HC0 := Lib.hid C0; have HCC0 := Lib.hid hc0; have HK0 := Lib.hid hk0; have HE1 := Lib.hid he1
  have HZ0 := Lib.hid (show w0.heap.size = rb + 1 by omega)
  have HAP := Lib.hid (show ∀ b ∈ B, b ∉ rb :: R from fun b hb hm => by
    rcases List.mem_cons.1 hm with q | q
    · have := hlt b (by simp [hb]); omega
    · exact hBR b hb q)
  have HLT := Lib.hid (show ∀ b ∈ E0 ++ (B ++ R), b < rb by rw [← hrb]; exact hlt)
  have HWR := Lib.hid (show W.heap.size ≤ rb by rw [← hrb]; exact h.below.size)
  have HRB := Lib.hid hrb; have HE0 := Lib.hid hE0
  obtain ⟨z0, z1, z2, z3, f0, f1, f2, f3⟩ := four C0
  rw [hrb] at z0 z1 z2 z3 f0 f1 f2 f3
  obtain ⟨p0, p1⟩ := hx0.two
  by_cases h0 : n0 = 0
  · subst h0
    obtain ⟨rfl, rfl⟩ := he0.isNil rfl
    have HW := Lib.hid (twrites_ok ht0)
    obtain ⟨wl, hwl⟩ : ∃ wl, t.sets.writes.length = wl := ⟨_, rfl⟩
    obtain ⟨wb, hwb⟩ : ∃ wb, decide (t.sets.writes ≠ []) = wb := ⟨_, rfl⟩
    have HWB := Lib.hid hwb
    have gb : decide (0 < wl) = wb := by
      rw [← hwb, ← hwl]
      cases t.sets.writes <;> simp
    have gb' : decide ((0 : Int) < (wl : Int)) = wb := by rw [← gb]; simp
    have HWL := Lib.hid hwl
    clear h hg ht hBR hx hpx he0 hE0 B0 C0 hz0 hlt hk0 hc0 ht0 hx0 he1 hwl hwb
    go_enter Tryz.func44, Tryz.ntmps44
    go_wp2_with (go_at_call 69; refine HM.out.mono ?_; rintro e w' ⟨rfl, rfl⟩)
    refine HW.out.mono ?_
    rintro e w1 ⟨v', rfl, ⟨pp, capp, rfl, -⟩, hb⟩
    have hk1 : HeldBy (B ++ (rb :: R)) w0 w1 := HeldBy.of_below hb (fun b hb => HCC0.out.heldR b (by simpa using hb))
    have hkd : HeldBy (B ++ (rb :: R)) w0 (w1.drewN 1) := hk1
    have HCM := Lib.hid (tcommit_ok (wi := w1.drewN 1) (R := rb :: R) ((HCC0.out.less (fun b hb => by simpa using hb)).under (below_drewN hb 1)) HG.out (HT0.out.heldBy hkd (fun b hb => by simp [hb])) HAP.out)
    obtain ⟨p0', p1'⟩ := (HX0.out.heldBy hk1 (by simp [HPX.out])).two
    have HK1 := Lib.hid hkd
    rw [HWL.out]
    clear hb hk1 hkd p0 p1 z0 z1 z2 z3 f0 f1 f2 f3 HW
    go_wp2
    go_region_held3 (fun w' => w'.cell? ⟨px, 0, none⟩ = some (.pointer (some ⟨pt, 0, none⟩)) ∧ w'.cell? ⟨px, 1, none⟩ = some (.pointer (some ⟨pc, 0, none⟩)))
      (first | with_reducible exact ⟨p0', p1'⟩ | with_reducible exact ⟨k0, k1⟩ | go_keep)
      (first | (go_at_call 71; refine HCM.out.mono ?_; rintro e w6 ⟨n, ⟨st, wt, t6⟩, c6, v, E, B6, hx6, -, rfl, he, ht, hc, hh, hB, hEB⟩; obtain ⟨k0, k1⟩ := (HX0.out.heldBy ((HK1.out.less (R' := rb :: R) fun b hb => by simp [hb]).trans hh) (by simp [HPX.out])).two; have HX6 := Lib.hid hx6; have HE6 := Lib.hid he; have HT6 := Lib.hid ht; have HC6 := Lib.hid hc; have HH6 := Lib.hid hh; have HB6 := Lib.hid hB; have HEB6 := Lib.hid hEB; clear hx6 he ht hc hh hB hEB))
    have hk6 : HeldBy (rb :: R) w0 w6 := (HK1.out.less fun b hb => by simp [hb]).trans HH6.out
    have hz6 : rb + 1 ≤ w1.heap.size := by have := HK1.out.1; have := HZ0.out; simp at *; omega
    have hn : ∀ b ∈ E ++ B6, b ≠ rb := fun b hb e => by
      rcases HB6.out b hb with q | q
      · have := HLT.out b (by simp [q]); omega
      · have q' : w1.heap.size ≤ b := q
        omega
    obtain ⟨z0, z1, z2, z3, f0, f1, f2, f3⟩ := four (HC0.out.heldBy (R := rb :: R) hk6 (by simp [HRB.out]))
    rw [HRB.out] at z0 z1 z2 z3 f0 f1 f2 f3
    have HF := Lib.hid (fun (w' : World) (rs : Rsl) (hr : exec (tEnd t 0) c = ((n, rs, t6), c6)) (k : Kept (fun b => b = rb) w6 w') => txend_fin (B0 := [] ++ B) hr HE6.out HT6.out HC6.out (((HK0.out.less fun b hb => by simp [hb]).trans (hk6.less fun b hb => by simp [hb]))) (fun b hb => by
      rcases HB6.out b hb with q | q
      · exact .inl (by simpa using q)
      · have q' : w1.heap.size ≤ b := q
        exact .inr (by have := HRB.out; omega)) HEB6.out HWR.out (fun hm => hn rb (by simp [hm]) rfl) (fun hm => hn rb (by simp [hm]) rfl) (fun hm => by have := HLT.out rb (by simp [hm]); omega) k)
    clear hk6 hz6 hn
    by_cases h0 : n = 0
    · subst h0
      obtain ⟨rfl, rfl⟩ := HE6.out.isNil rfl
      have HXE := Lib.hid (show exec (tEnd t 0) c = ((0, (⟨1, st, wb, wt⟩ : Rsl), t6), c6) by unfold tEnd; rw [if_pos rfl]; simp only [exec_bind, HX6.out, exec, HWB.out, if_true])
      go_wp2
      refine bodyPost_ret (v := .tuple #[.agg #[.int .i64 1, .int .i64 st, .bool wb, .bool wt], .nilIface]) (by simp [results, Tryz.results44, go_sem, z0, z1, z2, z3]) rfl ?_
      exact HF.out _ _ HXE.out (((((Kept.refl (fun b => b = rb) w6).setCell (p := ⟨rb, 0, none⟩) (fun _ => rfl) _).setCell (p := ⟨rb, 1, none⟩) (fun _ => rfl) _).setCell (p := ⟨rb, 2, none⟩) (fun _ => rfl) _).setCell (p := ⟨rb, 3, none⟩) (fun _ => rfl) _)
    · have HXE := Lib.hid (show exec (tEnd t 0) c = ((n, Rsl.zero, t6), c6) by unfold tEnd; rw [if_pos rfl]; simp only [exec_bind, HX6.out, exec, if_neg h0])
      obtain ⟨tt, xx, rfl⟩ := HE6.out.iface h0
      clear h0
      go_wp2
      refine bodyPost_ret (v := .tuple #[.agg #[.int .i64 0, .int .i64 0, .bool false, .bool false], .iface tt xx]) (by simp [results, Tryz.results44, go_sem, z0, z1, z2, z3]) rfl ?_
      exact HF.out _ _ HXE.out (((((Kept.refl (fun b => b = rb) w6).setCell (p := ⟨rb, 0, none⟩) (fun _ => rfl) _).setCell (p := ⟨rb, 1, none⟩) (fun _ => rfl) _).setCell (p := ⟨rb, 2, none⟩) (fun _ => rfl) _).setCell (p := ⟨rb, 3, none⟩) (fun _ => rfl) _)
  · obtain ⟨tt, xx, rfl⟩ := he0.iface h0
    have HA := Lib.hid (is_any he1 14 (by omega))
    have HB := Lib.hid (is_any he1 13 (by omega))
    have hF := fun (w1 w' : World) (rs : Rsl) (n : Nat) (v : Value) (E : List Nat) (c1 : CS) (hr : exec (tEnd t n0) c = ((n, rs, t), c1)) (he : Err w1 v n E) (hc : Ctx W (E ++ (B ++ (rb :: R))) pa pb pc c1 w1) (hh : HeldBy (B ++ (rb :: R)) w0 w1) (hE : ∀ b ∈ E, b ∈ E0 ∨ rb + 1 ≤ b) (k : Kept (fun b => b = rb) w1 w') =>
      txend_fin (B0 := E0 ++ B) hr he (ht0.heldBy hh (fun b hb => by simp [hb])) hc ((HK0.out.less fun b hb => by simp [hb]).trans (hh.less fun b hb => by simp [hb])) (fun b hb => by
        rcases List.mem_append.1 hb with q | q
        · rcases hE b q with q | q
          · exact .inl (by simp [q])
          · exact .inr (by have := HRB.out; omega)
        · exact .inl (by simp [q])) (fun b hb hm => by
        rcases hE b hb with q | q
        · exact HE0.out b q hm
        · have := HLT.out b (by simp [hm]); omega) HWR.out (fun hm => by
        rcases hE rb hm with q | q
        · have := HLT.out rb (by simp [q]); omega
        · omega) (fun hm => by have := HLT.out rb (by simp [hm]); omega) (fun hm => by have := HLT.out rb (by simp [hm]); omega) k
    have HF := Lib.hid hF
    have HKD := Lib.hid (show HeldBy (B ++ (rb :: R)) w0 w0 from HeldBy.refl _ _)
    have H0 := Lib.hid h0
    by_cases h14 : n0 = 14
    · subst h14
      have HXE := Lib.hid (show exec (tEnd t 14) c = ((0, (⟨2, t.stamp, false, false⟩ : Rsl), t), c) by unfold tEnd; rw [if_neg (by omega), if_pos rfl]; rfl)
      have HST := Lib.hid (HSTP.out w0 (HK0.out.less fun b hb => by simp at hb; simp [hb]))
      clear h hg ht hBR hx hpx he0 hE0 B0 C0 hz0 hlt hk0 hc0 ht0 hx0 he1 hF h0
      go_enter Tryz.func44, Tryz.ntmps44
      go_wp2_with (first
        | (go_at_call 69; refine HM.out.mono ?_; rintro e w' ⟨rfl, rfl⟩)
        | (go_at_call 72; refine HST.out.mono ?_; rintro e w' ⟨rfl, rfl⟩)
        | (go_at_call 46; refine HA.out.mono ?_; rintro e w' ⟨rfl, rfl⟩))
      refine bodyPost_ret (v := .tuple #[.agg #[.int .i64 2, .int .i64 t.stamp, .bool false, .bool false], .nilIface]) (by simp [results, Tryz.results44, go_sem, z0, z1, z2, z3]) rfl ?_
      exact HF.out _ _ _ 0 .nilIface [] c HXE.out .none (HCC0.out.less fun b hb => by simp only [List.nil_append] at hb; exact List.mem_append_right _ hb) HKD.out (by simp) (((((Kept.refl (fun b => b = rb) w0).setCell (p := ⟨rb, 0, none⟩) (fun _ => rfl) _).setCell (p := ⟨rb, 1, none⟩) (fun _ => rfl) _).setCell (p := ⟨rb, 2, none⟩) (fun _ => rfl) _).setCell (p := ⟨rb, 3, none⟩) (fun _ => rfl) _)
    · by_cases h13 : n0 = 13
      · subst h13
        have hkd : HeldBy (B ++ (rb :: R)) w0 (w0.drewN 1) := HeldBy.refl _ _
        have HCK := Lib.hid (tcheck_ok (wi := w0.drewN 1) (R := B ++ (rb :: R)) ((hc0.less fun b hb => List.mem_append_right _ hb).under (below_drewN (Below.refl _ _) 1)) hg (ht0.heldBy hkd (fun b hb => by simp [hb])))
        have d14 : decide (13 = 14) = false := rfl
        clear h hg ht hBR hx hpx he0 hE0 B0 C0 hz0 hlt hk0 hc0 ht0 hx0 he1 hF h0 h14 hkd
        clear z0 z1 z2 z3 f0 f1 f2 f3
        go_enter Tryz.func44, Tryz.ntmps44
        go_wp2_with (first
          | (go_at_call 69; refine HM.out.mono ?_; rintro e w' ⟨rfl, rfl⟩)
          | (go_at_call 46; fail))
        refine HA.out.mono ?_
        rintro e w' ⟨rfl, rfl⟩
        go_wp2_with fail
        refine HB.out.mono ?_
        rintro e w' ⟨rfl, rfl⟩
        go_wp2
        go_region_held3 (fun w' => w'.cell? ⟨px, 0, none⟩ = some (.pointer (some ⟨pt, 0, none⟩)) ∧ w'.cell? ⟨px, 1, none⟩ = some (.pointer (some ⟨pc, 0, none⟩)))
          (first | with_reducible exact ⟨p0, p1⟩ | with_reducible exact ⟨k0, k1⟩ | go_keep)
          (first | (go_at_call 73; refine HCK.out.mono ?_; rintro e w1 ⟨n, u, c1, v, E, hx1, -, rfl, he, hc, hh, hE⟩; obtain ⟨k0, k1⟩ := (HX0.out.heldBy (show HeldBy (B ++ (rb :: R)) w0 w1 from hh) (by simp [HPX.out])).two; have HX1 := Lib.hid hx1; have HE := Lib.hid he; have HC := Lib.hid hc; have HH := Lib.hid (show HeldBy (B ++ (rb :: R)) w0 w1 from hh); have HEN := Lib.hid (show ∀ b ∈ E, rb + 1 ≤ b from fun b hb => by have := hE b hb; have := HZ0.out; simp at *; omega); clear hx1 he hc hh hE))
        obtain ⟨z0, z1, z2, z3, f0, f1, f2, f3⟩ := four (HC0.out.heldBy (R := B ++ (rb :: R)) HH.out (by simp [HRB.out]))
        rw [HRB.out] at z0 z1 z2 z3 f0 f1 f2 f3
        have HST := Lib.hid (HSTP.out w1 ((HK0.out.less fun b hb => List.mem_append_right _ hb).trans (HH.out.less fun b hb => by
          rcases List.mem_append.1 hb with q | q <;> simp [q])))
        by_cases hn : n = 0
        · subst hn
          obtain ⟨rfl, rfl⟩ := HE.out.isNil rfl
          have HXE := Lib.hid (show exec (tEnd t 13) c = ((0, (⟨3, t.stamp, false, false⟩ : Rsl), t), c1) by unfold tEnd; rw [if_neg (by omega), if_neg (by omega), if_pos rfl]; simp only [exec_bind, HX1.out, exec, if_true])
          go_wp2_with (go_at_call 72; refine HST.out.mono ?_; rintro e w' ⟨rfl, rfl⟩)
          refine bodyPost_ret (v := .tuple #[.agg #[.int .i64 3, .int .i64 t.stamp, .bool false, .bool false], .nilIface]) (by simp [results, Tryz.results44, go_sem, z0, z1, z2, z3]) rfl ?_
          exact HF.out _ _ _ 0 .nilIface [] c1 HXE.out .none HC.out HH.out (by simp) (((((Kept.refl (fun b => b = rb) w1).setCell (p := ⟨rb, 0, none⟩) (fun _ => rfl) _).setCell (p := ⟨rb, 1, none⟩) (fun _ => rfl) _).setCell (p := ⟨rb, 2, none⟩) (fun _ => rfl) _).setCell (p := ⟨rb, 3, none⟩) (fun _ => rfl) _)
        · have HXE := Lib.hid (show exec (tEnd t 13) c = ((n, Rsl.zero, t), c1) by unfold tEnd; rw [if_neg (by omega), if_neg (by omega), if_pos rfl]; simp only [exec_bind, HX1.out, exec, if_neg hn])
          obtain ⟨t2, x2, rfl⟩ := HE.out.iface hn
          clear hn
          go_wp2
          refine bodyPost_ret (v := .tuple #[.agg #[.int .i64 0, .int .i64 0, .bool false, .bool false], .iface t2 x2]) (by simp [results, Tryz.results44, go_sem, z0, z1, z2, z3]) rfl ?_
          exact HF.out _ _ _ n (.iface t2 x2) E c1 HXE.out HE.out HC.out HH.out (fun b hb => .inr (HEN.out b hb)) (((((Kept.refl (fun b => b = rb) w1).setCell (p := ⟨rb, 0, none⟩) (fun _ => rfl) _).setCell (p := ⟨rb, 1, none⟩) (fun _ => rfl) _).setCell (p := ⟨rb, 2, none⟩) (fun _ => rfl) _).setCell (p := ⟨rb, 3, none⟩) (fun _ => rfl) _)
      · have HXE := Lib.hid (show exec (tEnd t n0) c = ((n0, Rsl.zero, t), c) by unfold tEnd; rw [if_neg H0.out, if_neg h14, if_neg h13]; rfl)
        have d14 : decide (n0 = 14) = false := by simp [h14]
        have d13 : decide (n0 = 13) = false := by simp [h13]
        clear h hg ht hBR hx hpx he0 hE0 B0 C0 hz0 hlt hk0 hc0 ht0 hx0 he1 hF h0 h14 h13
        go_enter Tryz.func44, Tryz.ntmps44
        go_wp2_with (first
          | (go_at_call 69; refine HM.out.mono ?_; rintro e w' ⟨rfl, rfl⟩)
          | (go_at_call 46; fail))
        refine HA.out.mono ?_
        rintro e w' ⟨rfl, rfl⟩
        go_wp2_with fail
        refine HB.out.mono ?_
        rintro e w' ⟨rfl, rfl⟩
        go_wp2
        refine bodyPost_ret (v := .tuple #[.agg #[.int .i64 0, .int .i64 0, .bool false, .bool false], .iface tt xx]) (by simp [results, Tryz.results44, go_sem, z0, z1, z2, z3]) rfl ?_
        exact HF.out _ _ _ n0 (.iface tt xx) E0 c HXE.out HE1.out HCC0.out HKD.out (fun b hb => .inl hb) (((((Kept.refl (fun b => b = rb) w0).setCell (p := ⟨rb, 0, none⟩) (fun _ => rfl) _).setCell (p := ⟨rb, 1, none⟩) (fun _ => rfl) _).setCell (p := ⟨rb, 2, none⟩) (fun _ => rfl) _).setCell (p := ⟨rb, 3, none⟩) (fun _ => rfl) _)
end Go.Proofs.YtkpdacfiglpgeaaGreatDoor
