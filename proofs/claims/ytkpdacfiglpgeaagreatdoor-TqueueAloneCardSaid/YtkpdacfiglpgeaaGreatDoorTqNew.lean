/- Layer 29 (tqueue): New. -/
import Derived.Test.YtkpdacfiglpgeaaGreatDoorTqRun
namespace Go.Proofs.YtkpdacfiglpgeaaGreatDoor
open Go.RowKit Bl Th
set_option maxRecDepth 10000

/-- What New answers. -/
def QNewPost (W : World) (R : List Nat) (pa pb pc : Nat) (wi : World) (m : Nat) (c : CS) (e : Ending) (w' : World) : Prop :=
  ∃ n r c' lv v E, exec (qNew m) c = ((n, r), c') ∧ e = .returned (.tuple #[.agg #[.int .u64 (r.ins : Int), .int .u64 (r.outs : Int), lv], v]) ∧ Err w' v n E ∧ w'.ownsRow wi.heap.size 25 1 lv r.places.length (encU r.places) ∧ Ctx W (E ++ (lv.ownBlock.toList ++ R)) pa pb pc c' w' ∧ HeldBy R wi w' ∧ (∀ b ∈ E, wi.heap.size ≤ b) ∧ (∀ b ∈ E, b ∉ lv.ownBlock.toList)
/-- What holds at each place's head. -/
def QNewJ (W : World) (Y : List Nat) (pa pb pc rb : Nat) (w0 : World) (m x y : Nat) (P : Tree (Nat × List Nat)) (c0 : CS) (iv : Value) (wr : World) : Prop :=
  ∃ (k : Nat) (l : List Nat) (c1 : CS) (lv : Value), k ≤ m ∧ iv = .int .i64 (k : Int) ∧ l.length = k ∧ wr.ownsRow w0.heap.size 25 1 lv k (encU l) ∧ Ctx W (lv.ownBlock.toList ++ (rb :: Y)) pa pb pc c1 wr ∧ HeldBy Y w0 wr ∧ Cells wr rb [.int .u64 (x : Int), .int .u64 (y : Int), lv] 28 ∧ exec P c0 = exec (qNewN (m - k) l) c1
theorem ctx_set {W : World} {Z : List Nat} {pa pb pc rb i : Nat} {c : CS} {w : World} (hc : Ctx W (rb :: Z) pa pb pc c w) (hW : W.heap.size ≤ rb) (hn : rb ∉ Z) (v : Value) : Ctx W (rb :: Z) pa pb pc c (w.setCell ⟨rb, i, none⟩ v) ∧ HeldBy Z w (w.setCell ⟨rb, i, none⟩ v) := by
  have k : Kept (fun b => b = rb) w (w.setCell ⟨rb, i, none⟩ v) := (Kept.refl (fun b => b = rb) w).setCell (p := ⟨rb, i, none⟩) (fun _ => rfl) v
  obtain ⟨e1, e2⟩ := Ctx.objs (B := [rb]) (B' := [rb]) (R := Z) (hc.less fun b hb => by simpa using hb) (k.mono fun b _ e => by simp [e]) (by simpa using hW) (by
    intro b hb
    simp only [List.mem_singleton] at hb
    subst hb
    exact hn) (by
    intro b hb
    simp only [List.mem_singleton] at hb
    subst hb
    exact ⟨.inl (by simp), Nat.lt_of_lt_of_le (hc.heldR b (by simp)) k.size⟩)
  exact ⟨e1.less fun b hb => by simpa using hb, e2⟩
/-- The end: the result's own block is left, and the variable's. -/
theorem qnew_end {W : World} {R Q E : List Nat} {pa pb pc ra rb lo : Nat} {c : CS} {w w' : World} (hc : Ctx W (E ++ (Q ++ (rb :: ra :: R))) pa pb pc c w) (hW : W.heap.size ≤ ra) (hra : lo = ra + 2) (hQ : ∀ b ∈ Q, lo ≤ b) (hE : ∀ b ∈ E, lo ≤ b) (hR : ∀ b ∈ R, b < ra) (k : Kept (fun b => b = ra) w w') : Ctx W (E ++ (Q ++ R)) pa pb pc c w' ∧ HeldBy (E ++ (Q ++ R)) w w' := by
  obtain ⟨e1, e2⟩ := Ctx.objs (B := [ra]) (B' := [ra]) (R := E ++ (Q ++ R)) (hc.less fun b hb => by
    simp only [List.mem_append, List.mem_cons, List.not_mem_nil, or_false] at hb ⊢
    rcases hb with q | q | q | q <;> simp [q]) (k.mono fun b _ e => by simp [e]) (by simpa using hW) (by
    intro b hb hm
    simp only [List.mem_singleton] at hb
    subst hb
    simp only [List.mem_append] at hm
    rcases hm with q | q | q
    · have := hE b q; omega
    · have := hQ b q; omega
    · have := hR b q; omega) (by
    intro b hb
    simp only [List.mem_singleton] at hb
    subst hb
    exact ⟨.inl (by simp), Nat.lt_of_lt_of_le (hc.heldR b (by simp)) k.size⟩)
  exact ⟨e1.less fun b hb => by simp only [List.mem_append] at hb ⊢; exact .inr hb, e2⟩
theorem three {w : World} {b : Nat} {t : TypeId} {a0 a1 a2 : Value} (h : Cells w b [a0, a1, a2] t) : w.cell? ⟨b, 0, none⟩ = some a0 ∧ w.cell? ⟨b, 1, none⟩ = some a1 ∧ w.cell? ⟨b, 2, none⟩ = some a2 ∧ w.frozen? ⟨b, 0, none⟩ = false ∧ w.frozen? ⟨b, 1, none⟩ = false ∧ w.frozen? ⟨b, 2, none⟩ = false := ⟨h.cell 0, h.cell 1, h.cell 2, h.free 0, h.free 1, h.free 2⟩
theorem kept3 (w : World) (ra : Nat) (x y z : Value) : Kept (fun b => b = ra) w (((w.setCell ⟨ra, 0, none⟩ x).setCell ⟨ra, 1, none⟩ y).setCell ⟨ra, 2, none⟩ z) := ((Kept.refl (fun b => b = ra) w).setCell (p := ⟨ra, 0, none⟩) (fun _ => rfl) _).setCell (p := ⟨ra, 1, none⟩) (fun _ => rfl) _ |>.setCell (p := ⟨ra, 2, none⟩) (fun _ => rfl) _
/-- It answers nothing. -/
theorem qnew_none {W : World} {R E : List Nat} {pa pb pc ra m n : Nat} {c c1 : CS} {wi w1 w : World} {v : Value} (hx : exec (qNew m) c = ((n, Ring.none), c1)) (he : Err w v n E) (hc : Ctx W (E ++ ((ra + 1) :: ra :: R)) pa pb pc c1 w) (hW : W.heap.size ≤ ra) (hra : wi.heap.size = ra) (hE : ∀ b ∈ E, ra + 2 ≤ b) (hR : ∀ b ∈ R, b < ra) (hh : HeldBy R wi w) (k : Kept (fun b => b = ra) w w1) : QNewPost W R pa pb pc wi m c (.returned (.tuple #[.agg #[.int .u64 0, .int .u64 0, .slice none 0 0], v])) w1 := by
  obtain ⟨e1, e2⟩ := qnew_end (Q := []) (lo := ra + 2) (by simpa using hc) hW rfl (by simp) hE hR k
  exact ⟨n, .none, c1, .slice none 0 0, v, E, hx, rfl, he.heldBy e2 (fun b hb => by simp [hb]), World.ownsRow_nil _ _ _ _, by simpa [Value.ownBlock] using e1, hh.trans (e2.less fun b hb => by simp [hb]), fun b hb => by have := hE b hb; omega, by simp [Value.ownBlock]⟩
set_option maxHeartbeats 8000000 in
theorem qnew_ok {W : World} {R : List Nat} {pa pb pc m : Nat} {c : CS} {wi : World} (h : Ctx W R pa pb pc c wi) (hg : Handle W) (hm1 : 1 ≤ m) (hm : m ≤ 40) :
    Calls Tryz.prog 34 #[.pointer (some ⟨pc, 0, none⟩), .int .i64 (m : Int)] wi (QNewPost W R pa pb pc wi m c) := by
  obtain ⟨i0, hi0, hz0, hz1, hz2⟩ := info_parts u64info
  have HG := Lib.hid hg
  have g1 : decide ((m : Int) < 1) = false := by simp; omega
  have g2 : decide ((40 : Int) < (m : Int)) = false := by simp; omega
  obtain ⟨ra, hra⟩ : ∃ ra, wi.heap.size = ra := ⟨_, rfl⟩
  have B0 := ((Below.refl wi.heap.size wi).alloc (Nat.le_refl _) (.cells #[.int .u64 0, .int .u64 0, .slice none 0 0] 28)).alloc (by simp) (.cells #[.int .u64 0, .int .u64 0, .slice none 0 0] 28)
  have CA := (Cells.new wi [.int .u64 0, .int .u64 0, .slice none 0 0] 28).alloc (.cells #[.int .u64 0, .int .u64 0, .slice none 0 0] 28)
  have CB := Cells.new (wi.alloc (.cells #[.int .u64 0, .int .u64 0, .slice none 0 0] 28)) [.int .u64 0, .int .u64 0, .slice none 0 0] 28
  rw [World.size_alloc] at CB
  obtain ⟨w0, hw0⟩ : ∃ w0, (wi.alloc (.cells #[.int .u64 0, .int .u64 0, .slice none 0 0] 28)).alloc (.cells #[.int .u64 0, .int .u64 0, .slice none 0 0] 28) = w0 := ⟨_, rfl⟩
  have hz0' : w0.heap.size = ra + 2 := by rw [← hw0, ← hra]; simp
  rw [hw0] at B0 CB
  have CA' : Cells w0 ra [.int .u64 0, .int .u64 0, .slice none 0 0] 28 := by rw [← hw0, ← hra]; exact CA
  rw [hra] at CB
  have hW := h.below.size
  have hRl := h.heldR
  rw [hra] at hW hRl
  have hc0 : Ctx W ((ra + 1) :: ra :: R) pa pb pc c w0 := (h.came B0 [ra + 1, ra] (by simp; omega)).less fun b hb => by simpa using hb
  have hk0 := HeldBy.of_below (R := R) B0 h.heldR
  have HNC := Lib.hid (newCell_ok hc0 hg (value := 0) (by omega))
  have HCA := Lib.hid CA'; have HCB := Lib.hid CB; have HW := Lib.hid hW; have HRL := Lib.hid hRl; have HK0 := Lib.hid hk0; have HZ0 := Lib.hid hz0'; have HRA := Lib.hid hra; have HW0 := Lib.hid hw0
  have HYN := Lib.hid (show ra + 1 ∉ ra :: R from fun hm => by
    rcases List.mem_cons.1 hm with q | q
    · omega
    · have := hRl _ q; omega)
  have HM1 := Lib.hid hm1; have HM40 := Lib.hid hm
  clear h hg B0 CA CB CA' hz0' hc0 hk0 hW hRl hra hw0
  go_enter Tryz.func34, Tryz.ntmps34
  go_wp2_with fail
  rw [HW0.out, HRA.out]
  refine HNC.out.mono ?_
  rintro e w1 ⟨n1, x, c1, v1, E1, hx1, hxf, rfl, he1, hc1, hh1, hE1⟩
  rw [HZ0.out] at hE1
  have C1 := HCB.out.heldBy hh1 (by simp)
  have A1 := HCA.out.heldBy hh1 (by simp)
  have hxf' : x < 18446744073709551616 := hxf
  obtain ⟨s1, s2⟩ := ctx_set (rb := ra + 1) (i := 0) (Z := E1 ++ (ra :: R)) (hc1.less fun b hb => by
    simp only [List.mem_append, List.mem_cons] at hb ⊢
    rcases hb with q | q | q | q <;> simp [q]) (by have := HW.out; omega) (fun hm => by
    rcases List.mem_append.1 hm with q | q
    · have := hE1 _ q; omega
    · exact HYN.out q) (.int .u64 (x : Int))
  have C2 := C1.set 0 (.int .u64 (x : Int))
  have A2 := A1.heldBy s2 (by simp)
  have hh2 : HeldBy (ra :: R) w0 (w1.setCell ⟨ra + 1, 0, none⟩ (.int .u64 (x : Int))) := (hh1.less fun b hb => by simp only [List.mem_cons] at hb ⊢; exact .inr hb).trans (s2.less fun b hb => by simp only [List.mem_append]; exact .inr hb)
  have he2 := he1.heldBy s2 (fun b hb => by simp [hb])
  obtain ⟨z0, z1, z2, f0, f1, f2⟩ := three C1
  obtain ⟨w2, hw2⟩ : ∃ w2, w1.setCell ⟨ra + 1, 0, none⟩ (.int .u64 (x : Int)) = w2 := ⟨_, rfl⟩
  rw [hw2] at s1 C2 A2 hh2 he2
  have HW2 := Lib.hid hw2
  obtain ⟨a0, a1, a2, b0, b1, b2⟩ := three A1
  by_cases h0 : n1 = 0
  · subst h0
    obtain ⟨rfl, rfl⟩ := he1.isNil rfl
    have HNC2 := Lib.hid (newCell_ok (s1.less (R' := (ra + 1) :: ra :: R) fun b hb => by simpa using hb) HG.out (value := 0) (by omega))
    have HX1 := Lib.hid hx1; have HC2 := Lib.hid C2; have HA2 := Lib.hid A2; have HH2 := Lib.hid hh2; have HXF := Lib.hid hxf'
    have HZ2 := Lib.hid (show ra + 2 ≤ w2.heap.size by have := hh2.1; have := HZ0.out; omega)
    clear hx1 hxf he1 hc1 hh1 hE1 C1 A1 hxf' s1 s2 C2 A2 hh2 he2 hw2 HNC a0 a1 a2 b0 b1 b2
    go_wp2_with fail
    rw [HW2.out]
    refine HNC2.out.mono ?_
    rintro e w3 ⟨n2, y, c2, v2, E2, hx2, hyf, rfl, he3, hc3, hh3, hE3⟩
    have hE3' : ∀ b ∈ E2, ra + 2 ≤ b := fun b hb => Nat.le_trans HZ2.out (hE3 b hb)
    have C2' : Cells w2 (ra + 1) [.int .u64 (x : Int), .int .u64 0, .slice none 0 0] 28 := HC2.out
    have C3 := C2'.heldBy hh3 (by simp)
    have A3 := HA2.out.heldBy hh3 (by simp)
    obtain ⟨s1, s2⟩ := ctx_set (rb := ra + 1) (i := 1) (Z := E2 ++ (ra :: R)) (hc3.less fun b hb => by
      simp only [List.mem_append, List.mem_cons] at hb ⊢
      rcases hb with q | q | q | q <;> simp [q]) (by have := HW.out; omega) (fun hm => by
      rcases List.mem_append.1 hm with q | q
      · have := hE3' _ q; omega
      · exact HYN.out q) (.int .u64 (y : Int))
    have C4 := C3.set 1 (.int .u64 (y : Int))
    have A4 := A3.heldBy s2 (by simp)
    have hh4 : HeldBy (ra :: R) w0 (w3.setCell ⟨ra + 1, 1, none⟩ (.int .u64 (y : Int))) := (HH2.out.trans (hh3.less fun b hb => by simp only [List.mem_cons] at hb ⊢; exact .inr hb)).trans (s2.less fun b hb => by simp only [List.mem_append]; exact .inr hb)
    have he4 := he3.heldBy s2 (fun b hb => by simp [hb])
    obtain ⟨z0, z1, z2, f0, f1, f2⟩ := three C3
    obtain ⟨a0, a1, a2, b0, b1, b2⟩ := three A3
    obtain ⟨w4, hw4⟩ : ∃ w4, w3.setCell ⟨ra + 1, 1, none⟩ (.int .u64 (y : Int)) = w4 := ⟨_, rfl⟩
    rw [hw4] at s1 C4 A4 hh4 he4
    have HW4 := Lib.hid hw4
    by_cases h2 : n2 = 0
    · subst h2
      obtain ⟨rfl, rfl⟩ := he3.isNil rfl
      have C4' : Cells w4 (ra + 1) [.int .u64 (x : Int), .int .u64 (y : Int), .slice none 0 0] 28 := C4
      have HXN := Lib.hid (fun (l : List Nat) (c3 : CS) (hl : exec (qNewN m []) c2 = ((0, l), c3)) => (show exec (qNew m) c = ((0, (⟨x, y, l⟩ : Ring)), c3) by simp only [qNew, exec_bind, HX1.out, hx2, if_true, hl, exec]))
      have HXF2 := Lib.hid (fun (n3 : Nat) (l : List Nat) (c3 : CS) (hn : n3 ≠ 0) (hl : exec (qNewN m []) c2 = ((n3, l), c3)) => (show exec (qNew m) c = ((n3, Ring.none), c3) by simp only [qNew, exec_bind, HX1.out, hx2, if_true, hl, if_neg hn, exec]))
      have HJ := Lib.hid (show QNewJ W (ra :: R) pa pb pc (ra + 1) w0 m x y (qNewN m []) c2 (.int .i64 0) w4 from ⟨0, [], c2, .slice none 0 0, Nat.zero_le _, rfl, rfl, World.ownsRow_nil _ _ _ _, s1.less (fun b hb => by simpa [Value.ownBlock] using hb), hh4, C4', rfl⟩)
      clear hx2 hyf he3 hc3 hh3 hE3 hE3' C3 A3 s1 s2 C4 A4 hh4 he4 hw4 HNC2 a0 a1 a2 b0 b1 b2 C2' C4'
      go_wp2
      rw [HW4.out]
      clear z0 z1 z2 f0 f1 f2
      go_loopw [39] (QNewJ W (ra :: R) pa pb pc (ra + 1) w0 m x y (qNewN m []) c2) (fun i _ => m - (intOf i).toNat)
      case atStart => exact HJ.out
      case round =>
        clear HJ
        obtain ⟨k, l, c3, lv, hk, rfl, hl, hr, hc, hh, hcl, hx⟩ := hrel
        obtain ⟨p, cap, rfl⟩ := ownsRow_shape hr
        have hlo : ∀ b ∈ (Value.slice p k cap).ownBlock.toList, ra + 2 ≤ b := fun b hb => by
          have := (hr.lt b (by simpa using hb)).1
          rw [HZ0.out] at this
          exact this
        have hsz : ra + 2 ≤ wr.heap.size := by have := hh.1; have := HZ0.out; omega
        by_cases hlt : k < m
        · have hlt' : (k : Int) < (m : Int) := by omega
          have HN := Lib.hid (newCell_ok hc HG.out (value := 0) (by omega))
          obtain ⟨j, hj⟩ : ∃ j, m - k = j + 1 := ⟨m - k - 1, by omega⟩
          rw [hj] at hx
          have HHJ := Lib.hid (show m - (k + 1) = j by omega)
          have HR0 := Lib.hid hr; have HH := Lib.hid hh; have HCL := Lib.hid hcl; have HX := Lib.hid hx; have HL := Lib.hid hl; have HLO := Lib.hid hlo; have HSZ := Lib.hid hsz
          clear hr hc hh hcl hx hl hlo hsz
          go_wp2_with fail
          refine HN.out.mono ?_
          rintro e w5 ⟨n3, z, c4, v3, E3, hx3, hzf, rfl, he5, hc5, hh5, hE5⟩
          have hE5' : ∀ b ∈ E3, ra + 2 ≤ b := fun b hb => Nat.le_trans HSZ.out (hE5 b hb)
          have C5 := HCL.out.heldBy hh5 (by simp)
          have hh05 : HeldBy (ra :: R) w0 w5 := HH.out.trans (hh5.less fun b hb => by simp only [List.mem_append, List.mem_cons] at hb ⊢; exact .inr (.inr hb))
          have A5 := HCA.out.heldBy hh05 (by simp)
          have hr5 := ownsRow_heldBy HR0.out hh5 (fun b hb => by simp [hb])
          obtain ⟨z0, z1, z2, f0, f1, f2⟩ := three C5
          obtain ⟨a0, a1, a2, b0, b1, b2⟩ := three A5
          by_cases h3 : n3 = 0
          · subst h3
            obtain ⟨rfl, rfl⟩ := he5.isNil rfl
            have HC5 := Lib.hid C5; have HR5 := Lib.hid hr5; have HH05 := Lib.hid hh05; have HCC5 := Lib.hid (show Ctx W ((Value.slice p k cap).ownBlock.toList ++ ((ra + 1) :: ra :: R)) pa pb pc c4 w5 from hc5)
            have HS5 := Lib.hid (show w0.heap.size ≤ (w5.alloc (.cells #[.int .u64 (z : Int)] 25)).heap.size by have := hh05.1; simp; omega)
            have HX5 := Lib.hid (show exec (qNewN m []) c2 = exec (qNewN (m - (k + 1)) (l ++ [z])) c4 by rw [HX.out, HHJ.out]; simp only [qNewN, exec_bind, hx3, if_true])
            have lrb := C5.lt
            clear hx3 hzf he5 hc5 hh5 hE5 hE5' C5 hh05 A5 hr5 a0 a1 a2 b0 b1 b2 HN
            go_wp2_with (first
              | (at_builtin; refine wpList_append_own_at _ rfl _ _ 26 rfl w0.heap.size 25 i0 (.int .u64 0) 1 8 Tryz.underlying26 hi0 hz0 hz1 hz2 rfl (by omega) (.slice p k cap) k (encU l) rfl (HR5.out.alloc _) ⟨w5.heap.size, 0, none⟩ 1 1 [.int .u64 (z : Int)] rfl rfl (newsU (Cells.new w5 [.int .u64 (z : Int)] 25)) (by intro u hu; simp at hu; subst hu; rfl) (by unfold maxLen; omega) (by omega) HS5.out ?_; intro v6 w6 hown6 hgrow6 hnil6 hat6; obtain ⟨p6, cap6, rfl⟩ := ownsRow_shape hown6; have C6 := (HC5.out.alloc (.cells #[.int .u64 (z : Int)] 25)).kept (Kept.of_grown hgrow6) (fun e => by have := HLO.out (ra + 1) (by simp [← e]); omega); have HC6 := Lib.hid C6; clear z0 z1 z2 f0 f1 f2; obtain ⟨z0, z1, z2, f0, f1, f2⟩ := three C6; clear C6)
              | go_in)
            have kk : Kept (fun b => b ∈ (Value.slice p k cap).ownBlock.toList) w5 w6 := ((Kept.refl _ w5).alloc (.cells #[.int .u64 (z : Int)] 25)).then (Kept.of_grown hgrow6) (fun i _ e => by simp [← e])
            have hnew : ∀ b ∈ (Value.slice p6 (k + 1) cap6).ownBlock.toList, (b ∈ (Value.slice p k cap).ownBlock.toList ∨ w5.heap.size ≤ b) ∧ b < w6.heap.size := fun b hb => by
              refine ⟨?_, (hown6.lt b (by simpa using hb)).2⟩
              rcases hat6 with q | q
              · exact .inl (by rw [← q]; exact hb)
              · right
                rw [q] at hb
                simp at hb
                omega
            have hWr : W.heap.size ≤ ra := HW.out
            obtain ⟨e1, e2⟩ := Ctx.objs (B' := (Value.slice p6 (k + 1) cap6).ownBlock.toList) HCC5.out kk (fun b hb => by have := HLO.out b hb; omega) (fun b hb hm => by
              have := HLO.out b hb
              simp only [List.mem_cons] at hm
              rcases hm with q | q | q
              · omega
              · omega
              · have := HRL.out b q; omega) hnew
            have hlo6 : ∀ b ∈ (Value.slice p6 (k + 1) cap6).ownBlock.toList, ra + 2 ≤ b := fun b hb => by
              have := (hown6.lt b (by simpa using hb)).1
              rw [HZ0.out] at this
              exact this
            obtain ⟨s1, s2⟩ := ctx_set (rb := ra + 1) (i := 2) (Z := (Value.slice p6 (k + 1) cap6).ownBlock.toList ++ (ra :: R)) (e1.less fun b hb => by
              simp only [List.mem_append, List.mem_cons] at hb ⊢
              rcases hb with q | q | q | q <;> simp [q]) (by omega) (fun hm => by
              rcases List.mem_append.1 hm with q | q
              · have := hlo6 _ q; omega
              · exact HYN.out q) (.slice p6 (k + 1) cap6)
            have HREL := Lib.hid (show QNewJ W (ra :: R) pa pb pc (ra + 1) w0 m x y (qNewN m []) c2 (.int .i64 ((k + 1 : Nat) : Int)) (w6.setCell ⟨ra + 1, 2, none⟩ (.slice p6 (k + 1) cap6)) from ⟨k + 1, l ++ [z], c4, .slice p6 (k + 1) cap6, by omega, rfl, by rw [List.length_append, HL.out]; rfl, ownsRow_heldBy (by simpa [encU] using hown6) s2 (fun b hb => by simp [hb]), s1.less (fun b hb => by
              simp only [List.mem_append, List.mem_cons] at hb ⊢
              rcases hb with q | q | q | q <;> simp [q]), (HH05.out.trans (e2.less fun b hb => by simp only [List.mem_cons] at hb ⊢; exact .inr hb)).trans (s2.less fun b hb => by simp only [List.mem_append]; exact .inr hb), HC6.out.set 2 _, HX5.out⟩)
            have g9 : IntKind.i64.wrap ((k : Int) + 1) = ((k + 1 : Nat) : Int) := by rw [IntWalk.i64_in _ (by omega)]; rfl
            clear kk hnew e1 e2 hlo6 s1 s2 hown6 hgrow6 hnil6 hat6
            go_wp2
            go_roundw
            case rel => first | exact HREL.out | (rw [show ((k : Int) + 1) = ((k + 1 : Nat) : Int) from rfl]; exact HREL.out)
            case measure => simp [intOf]; omega
          · have HF := Lib.hid (fun w' (k' : Kept (fun b => b = ra) w5 w') => qnew_none (wi := wi) (m := m) (c := c) (HXF2.out n3 [] c4 h3 (by rw [HX.out]; simp only [qNewN, exec_bind, hx3, if_neg h3, exec])) he5 (hc5.less fun b hb => by
              simp only [List.mem_append, List.mem_cons] at hb ⊢
              rcases hb with q | q | q | q <;> simp [q]) HW.out HRA.out hE5' HRL.out (HK0.out.trans (hh05.less fun b hb => by simp [hb])) k')
            obtain ⟨tt, xx, rfl⟩ := he5.iface h3
            clear hx3 hzf he5 hc5 hh5 hE5 hE5' C5 hh05 A5 hr5 h3 HN
            go_wp2
            refine bodyPost_ret (v := .tuple #[.agg #[.int .u64 0, .int .u64 0, .slice none 0 0], .iface tt xx]) (by simp [results, Tryz.results34, go_sem, a0, a1, a2]) rfl ?_
            exact HF.out _ (kept3 w5 ra _ _ _)
        · obtain rfl : k = m := by omega
          have hki : decide ((k : Int) < (k : Int)) = false := by simp
          have A5 := HCA.out.heldBy hh (by simp)
          obtain ⟨z0, z1, z2, f0, f1, f2⟩ := three hcl
          obtain ⟨a0, a1, a2, b0, b1, b2⟩ := three A5
          have HF := Lib.hid (fun w' (k' : Kept (fun b => b = ra) wr w') => (show QNewPost W R pa pb pc wi k c (.returned (.tuple #[.agg #[.int .u64 (x : Int), .int .u64 (y : Int), .slice p k cap], .nilIface])) w' from by
            obtain ⟨e1, e2⟩ := qnew_end (E := []) (lo := ra + 2) (by simpa using hc) HW.out rfl hlo (by simp) HRL.out k'
            exact ⟨0, ⟨x, y, l⟩, c3, .slice p k cap, .nilIface, [], HXN.out l c3 (by rw [hx, Nat.sub_self]; rfl), rfl, .none, by rw [hl]; exact row_mono (ownsRow_heldBy hr e2 (fun b hb => by simp [hb])) (by have := HZ0.out; have := HRA.out; omega), e1, (HK0.out.trans (hh.less fun b hb => by simp [hb])).trans (e2.less fun b hb => by simp [hb]), by simp, by simp⟩))
          clear hl hr hc hh hcl hx A5 hlo hsz
          go_wp2
          refine bodyPost_ret (v := .tuple #[.agg #[.int .u64 (x : Int), .int .u64 (y : Int), .slice p k cap], .nilIface]) (by simp [results, Tryz.results34, go_sem, a0, a1, a2]) rfl ?_
          exact HF.out _ (kept3 wr ra _ _ _)
    · have HF := Lib.hid (fun w' (k : Kept (fun b => b = ra) w4 w') => qnew_none (wi := wi) (m := m) (c := c) (by simp only [qNew, exec_bind, HX1.out, if_true, hx2, if_neg h2, exec]) he4 (s1.less fun b hb => by
        simp only [List.mem_append, List.mem_cons] at hb ⊢
        rcases hb with q | q | q | q <;> simp [q]) HW.out HRA.out hE3' HRL.out (HK0.out.trans (hh4.less fun b hb => by simp [hb])) k)
      obtain ⟨tt, xx, rfl⟩ := he3.iface h2
      clear hx2 hyf he3 hc3 hh3 hE3 hE3' C3 A3 s1 s2 C4 A4 hh4 he4 hw4 HNC2 h2 C2'
      go_wp2
      refine bodyPost_ret (v := .tuple #[.agg #[.int .u64 0, .int .u64 0, .slice none 0 0], .iface tt xx]) (by simp [results, Tryz.results34, go_sem, a0, a1, a2]) rfl ?_
      rw [HW4.out]
      exact HF.out _ (kept3 w4 ra _ _ _)
  · have HF := Lib.hid (fun w' (k : Kept (fun b => b = ra) w2 w') => qnew_none (wi := wi) (m := m) (c := c) (by simp only [qNew, exec_bind, hx1, if_neg h0, exec]) he2 (s1.less fun b hb => by
      simp only [List.mem_append, List.mem_cons] at hb ⊢
      rcases hb with q | q | q | q <;> simp [q]) HW.out HRA.out hE1 HRL.out (HK0.out.trans (hh2.less fun b hb => by simp [hb])) k)
    obtain ⟨tt, xx, rfl⟩ := he1.iface h0
    clear hx1 hxf he1 hc1 hh1 hE1 C1 A1 hxf' s1 s2 C2 A2 hh2 he2 hw2 HNC h0
    go_wp2
    refine bodyPost_ret (v := .tuple #[.agg #[.int .u64 0, .int .u64 0, .slice none 0 0], .iface tt xx]) (by simp [results, Tryz.results34, go_sem, a0, a1, a2]) rfl ?_
    rw [HW2.out]
    exact HF.out _ (kept3 w2 ra _ _ _)
end Go.Proofs.YtkpdacfiglpgeaaGreatDoor
