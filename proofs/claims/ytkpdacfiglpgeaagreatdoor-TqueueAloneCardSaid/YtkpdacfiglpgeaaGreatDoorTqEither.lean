/- Layer 29 (tqueue): Either. -/
import Derived.Test.YtkpdacfiglpgeaaGreatDoorTqMore
import Derived.Test.YtkpdacfiglpgeaaGreatDoorTqCln
import Derived.Test.YtkpdacfiglpgeaaGreatDoorTxnOr
namespace Go.Proofs.YtkpdacfiglpgeaaGreatDoor.Th
open Bl

theorem tRead_writes (t : Tx) (cell : Nat) (c : CS) : (exec (tRead t cell) c).1.2.2.sets.writes = t.sets.writes := by
  have hr : ∀ (s : Sets) (cell : Nat) (ver : Int), (s.read cell ver).2.writes = s.writes := by
    intro s cell ver
    unfold Sets.read
    repeat' split
    all_goals rfl
  unfold tRead
  cases wget cell t.sets.writes with
  | some v => rfl
  | none =>
    simp only [exec_bind]
    split
    · split
      · split
        · exact hr _ _ _
        · simp only [exec_bind]
          split
          · simp only [exec_bind, exec]
            split <;> exact hr _ _ _
          · exact hr _ _ _
      · exact hr _ _ _
    · rfl
theorem tWrite_more (t : Tx) (cell x : Nat) : t.sets.log.length ≤ (tWrite t cell x).2.sets.log.length ∧ (tWrite t cell x).1 ≠ 13 := by
  unfold tWrite Sets.write
  simp only
  split
  · exact ⟨Nat.le_refl _, by simp⟩
  · refine ⟨?_, by simp⟩
    simp only
    split
    · exact Nat.le_refl _
    · simp
theorem qState_writes (r : Ring) (t : Tx) (c : CS) : (exec (qState r t) c).1.2.2.sets.writes = t.sets.writes := by
  have h1 := tRead_writes t r.ins c
  unfold qState
  simp only [exec_bind]
  split
  · simp only [exec_bind, exec]
    rw [tRead_writes, h1]
  · exact h1
theorem qPeek_writes (r : Ring) (t : Tx) (c : CS) : (exec (qPeek r t) c).1.2.2.sets.writes = t.sets.writes := by
  have h1 := qState_writes r t c
  unfold qPeek
  simp only [exec_bind]
  split
  · split
    · exact h1
    · rw [tRead_writes, h1]
  · exact h1
theorem qTake_more (r : Ring) (t : Tx) (c : CS) : t.sets.log.length ≤ (exec (qTake r t) c).1.2.2.sets.log.length ∧ ((exec (qTake r t) c).1.1 = 13 → (exec (qTake r t) c).1.2.2.sets.writes = t.sets.writes ∧ (exec (qTake r t) c).1.2.2.sets.log = t.sets.log) := by
  have h1 := qPeek_log r t c
  have k1 := qPeek_writes r t c
  unfold qTake
  simp only [exec_bind]
  split
  · have h2 := qState_log r (exec (qPeek r t) c).1.2.2 (exec (qPeek r t) c).2
    have k2 := qState_writes r (exec (qPeek r t) c).1.2.2 (exec (qPeek r t) c).2
    simp only [exec_bind]
    split
    · simp only [exec]
      have h3 := tWrite_more (exec (qState r (exec (qPeek r t) c).1.2.2) (exec (qPeek r t) c).2).1.2.2 r.outs (inc (exec (qState r (exec (qPeek r t) c).1.2.2) (exec (qPeek r t) c).2).1.2.1.2)
      exact ⟨Nat.le_trans (by rw [h2.1, h1.1]; exact Nat.le_refl _) h3.1, fun h => absurd h h3.2⟩
    · simp only [exec]
      exact ⟨by rw [h2.1, h1.1]; exact Nat.le_refl _, fun _ => ⟨by rw [k2, k1], by rw [h2.1, h1.1]⟩⟩
  · simp only [exec]
    exact ⟨by rw [h1.1]; exact Nat.le_refl _, fun _ => ⟨k1, h1.1⟩⟩
theorem mark_nil {s : Sets} (h : s.marks = []) : s.mark = (0, 1, { s with marks := [s.log.length] }) := by
  unfold Sets.mark
  rw [if_neg (by simp [h])]
  simp [h]
end Go.Proofs.YtkpdacfiglpgeaaGreatDoor.Th
namespace Go.Proofs.YtkpdacfiglpgeaaGreatDoor
open Go.RowKit Bl Th
set_option maxRecDepth 10000

/-- The variable that a take lays its word in. -/
def xAux (xb : Nat) : Aux Nat := ⟨fun s X w => X = [xb] ∧ Cells w xb [.int .u64 (s : Int)] 25 ∧ s < 18446744073709551616, fun s X w w' ⟨h1, h2, h3⟩ k => ⟨h1, h2.heldBy k (by simp [h1]), h3⟩⟩
theorem either1_ok (pu xb : Nat) (w : World) : Calls Tryz.prog 133 #[.pointer (some ⟨pu, 0, none⟩), .pointer (some ⟨xb, 0, none⟩)] w fun e w' => e = .returned (.func (.func 134) #[] #[.pointer (some ⟨w.heap.size, 0, none⟩), .pointer (some ⟨xb, 0, none⟩)]) ∧ w' = w.alloc (.cells #[.pointer (some ⟨pu, 0, none⟩)] 148) := by
  have hmf : ∀ (fn : Fn) (first cap : Array Value) (w : World), (Instr.makeFunc fn first cap).run Tryz.prog w = .ok (.func fn first cap) w := fun _ _ _ _ => rfl
  go_enter Tryz.func133, Tryz.ntmps133
  go_wp2
  go_ret
  exact ⟨rfl, rfl⟩
theorem ef_take (args : Array Value) (w : World) : (callFunc 134 args).run Tryz.prog w = .ok (.enter 134 args) w := enters_of Tryz.func134 (by kernel_rfl) rfl args w
theorem take_clo {W : World} {R T : List Nat} {pa pb pc pt px pu g n cap xb ab : Nat} {r : Ring} {s : Nat} {t : Tx} {c : CS} {wk : World} (h : PartAt W R T [xb] pa pb pc pt px (xAux xb) s t c wk) (hg : Handle W) (hu : QOther R px pu g n cap r wk) (hab : Cells wk ab [.pointer (some ⟨pu, 0, none⟩)] 148) (hlog : t.sets.log.length < 900000000) (hxb : W.heap.size ≤ xb) :
    Calls Tryz.prog 134 #[.pointer (some ⟨ab, 0, none⟩), .pointer (some ⟨xb, 0, none⟩)] wk (ObPost W R pa pb pc (PartIn W pt (xAux xb)) (T ++ [xb]) wk (qTake r t) c (fun _ v => v)) := by
  obtain ⟨-, hx, -⟩ := h.st.st
  have hq : QIn W ([xb] ++ R) T pa pb pc pt px pu g n cap r t c wk := ⟨h.ctx.less fun b hb => by
    simp only [List.mem_append] at hb ⊢
    rcases hb with q | q | q <;> simp [q], h.st.tx, fun b hb hm => by
    rcases List.mem_append.1 hm with q | q
    · exact h.st.apart b hb q
    · exact h.apart b (by simp [hb]) q, h.tn, by simp [h.inX], hu.use, by simp [hu.inU], by simp [hu.inG], hu.ok, hg⟩
  have HC := Lib.hid (qtake_ok hq hlog)
  have HH := Lib.hid h; have HX := Lib.hid hx; have HXB := Lib.hid hxb
  have a0 := hab.cell 0
  simp only [List.getElem?_cons_zero] at a0
  clear h hg hu hab hlog hx hq hxb
  go_enter Tryz.func134, Tryz.ntmps134
  go_wp2_with fail
  refine HC.out.mono ?_
  rintro e w1 ⟨m, ⟨y, t1⟩, c1, v, E, T1, hx, hy, rfl, he, ht, hc, hh, hB, hEB⟩
  have hx1 := HX.out.heldBy hh (by simp)
  have f0 := hx1.free 0
  have x0 := hx1.cell 0
  have HX1 := Lib.hid hx1; have HR := Lib.hid hx; have HY := Lib.hid hy; have HE := Lib.hid he; have HT := Lib.hid ht; have HCC := Lib.hid hc; have HHH := Lib.hid hh; have HB := Lib.hid hB; have HEB := Lib.hid hEB
  have hsh := he.shape
  have HF : Hid (ObPost W R pa pb pc (PartIn W pt (xAux xb)) (T ++ [xb]) wk (qTake r t) c (fun _ v => v) (.returned v) (w1.setCell ⟨xb, 0, none⟩ (.int .u64 (y : Int)))) := Lib.hid (by
    have nx : xb ∉ E ++ T1 := fun hm => by
      rcases HB.out xb hm with q | q
      · exact HH.out.st.apart xb q (by simp)
      · have := HX.out.lt; omega
    have kk := (Kept.refl (fun b => b = xb) w1).setCell (p := ⟨xb, 0, none⟩) (fun _ => rfl) (.int .u64 (y : Int))
    obtain ⟨e1, e2⟩ := Ctx.objs (B := [xb]) (B' := [xb]) (R := E ++ (T1 ++ R)) (HCC.out.less fun b hb => by
      simp only [List.mem_append] at hb ⊢
      rcases hb with q | q | q | q <;> simp [q]) (kk.mono fun b _ e => by simp [e]) (fun b hb => by simp only [List.mem_singleton] at hb; subst hb; exact HXB.out) (fun b hb hm => by
      simp only [List.mem_singleton] at hb
      subst hb
      simp only [List.mem_append] at hm
      rcases hm with q | q | q
      · exact nx (by simp [q])
      · exact nx (by simp [q])
      · exact HH.out.apart b (by simp) q) (fun b hb => ⟨.inl hb, by simp only [List.mem_singleton] at hb; subst hb; have := HX1.out.lt; simpa using this⟩)
    refine ⟨m, (y, t1), c1, v, E, T1 ++ [xb], HR.out, rfl, HE.out.heldBy e2 (fun b hb => by simp [hb]), ⟨T1, [xb], rfl, HT.out.heldBy e2 (fun b hb => by simp [hb]), ⟨rfl, HX1.out.set 0 _, HY.out⟩, fun b hb hm => by
      simp only [List.mem_singleton] at hm
      subst hm
      exact nx (by simp [hb])⟩, e1.less fun b hb => by
      simp only [List.mem_append] at hb ⊢
      rcases hb with q | (q | q) | q <;> simp [q], (HHH.out.less fun b hb => by simp [hb]).trans (e2.less fun b hb => by simp [hb]), fun b hb => ?_, fun b hb hm => ?_⟩
    · simp only [List.mem_append] at hb
      rcases hb with q | q | q
      · rcases HB.out b (by simp [q]) with z | z
        · exact .inl (by simp [z])
        · exact .inr z
      · rcases HB.out b (by simp [q]) with z | z
        · exact .inl (by simp [z])
        · exact .inr z
      · exact .inl (by simp at q; simp [q])
    · rcases List.mem_append.1 hm with q | q
      · exact HEB.out b hb q
      · simp only [List.mem_singleton] at q
        subst q
        exact nx (by simp [hb]))
  clear hx1 hx hy he ht hc hh hB hEB HX1 HR HY HE HT HCC HHH HB HEB HH HX HC HXB
  rcases hsh with rfl | ⟨tt, xx, rfl⟩
  all_goals
    go_wp2
    go_ret
    exact HF.out
theorem take_part {W : World} {R T : List Nat} {pa pb pc pt px xb : Nat} {s : Nat} {t : Tx} {c : CS} {wk : World} (r : Ring) (h : PartAt W R T [xb] pa pb pc pt px (xAux xb) s t c wk) (hcl : Cln t) : PartOk 13 t (exec (qTake r (t.on t.sets.mark.2.2)) c).1 := by
  have hmk := mark_nil hcl.2
  have h1 := qTake_log r (t.on t.sets.mark.2.2) c
  have h2 := qTake_more r (t.on t.sets.mark.2.2) c
  have e1 : (t.on t.sets.mark.2.2).sets.marks = [t.sets.log.length] := by rw [hmk]; rfl
  have e2 : (t.on t.sets.mark.2.2).sets.log = t.sets.log := by rw [hmk]; rfl
  have e3 : (t.on t.sets.mark.2.2).sets.writes = t.sets.writes := by rw [hmk]; rfl
  obtain ⟨ps, T0, -, -, -, -, ⟨_, _, _, _, _, _, _, _, _, -, hs⟩, -⟩ := h.st.tx
  refine ⟨by rw [h1.2.1, e1, hcl.2]; rfl, by rw [hcl.1]; exact Nat.zero_le _, fun h13 => ?_, by have := h1.1; rw [e2, hcl.1] at this; simp at this; omega⟩
  obtain ⟨k1, k2⟩ := h2.2 h13
  have hf := hs.fewW
  unfold Sets.back
  simp only
  rw [k2, k1, e2, e3, hcl.1]
  simpa using hf
theorem qTake_lim {r : Ring} {s : Nat} {t : Tx} {c : CS} (hcl : Cln t) : (exec (tPart (fun _ t => qTake r t) 13 s t) c).1.2.2.2.sets.log.length < 900000000 ∧ ((exec (tPart (fun _ t => qTake r t) 13 s t) c).1.2.1 = true → Cln (exec (tPart (fun _ t => qTake r t) 13 s t) c).1.2.2.2) := by
  have hmk := mark_nil hcl.2
  have h1 := qTake_log r (t.on t.sets.mark.2.2) c
  have e1 : (t.on t.sets.mark.2.2).sets.marks = [t.sets.log.length] := by rw [hmk]; rfl
  have e2 : (t.on t.sets.mark.2.2).sets.log = t.sets.log := by rw [hmk]; rfl
  rw [e1, e2, hcl.1] at h1
  have em : t.sets.mark.2.1 = 1 := by rw [hmk]
  unfold tPart
  rw [if_pos (by rw [hmk])]
  simp only [exec_bind]
  rw [em]
  have hg : 1 ≤ 1 ∧ 1 ≤ (exec (qTake r (t.on t.sets.mark.2.2)) c).1.2.2.sets.marks.length := ⟨Nat.le_refl _, by rw [h1.2.1]; simp⟩
  split
  · have hb : (exec (qTake r (t.on t.sets.mark.2.2)) c).1.2.2.sets.backN 1 = (0, (exec (qTake r (t.on t.sets.mark.2.2)) c).1.2.2.sets.back 1) := by unfold Sets.backN; rw [if_pos hg]
    simp only [exec, hb]
    have hm0 : (exec (qTake r (t.on t.sets.mark.2.2)) c).1.2.2.sets.marks.getD (1 - 1) 0 = 0 := by rw [h1.2.1]; simp
    refine ⟨?_, fun _ => ⟨?_, ?_⟩⟩
    · show ((exec (qTake r (t.on t.sets.mark.2.2)) c).1.2.2.sets.back 1).log.length < _
      unfold Sets.back
      simp only [hm0]
      simp
    · show ((exec (qTake r (t.on t.sets.mark.2.2)) c).1.2.2.sets.back 1).log = []
      unfold Sets.back
      simp only [hm0]
      simp
    · show ((exec (qTake r (t.on t.sets.mark.2.2)) c).1.2.2.sets.back 1).marks = []
      unfold Sets.back
      simp
  · have hb : (exec (qTake r (t.on t.sets.mark.2.2)) c).1.2.2.sets.keepN 1 = (0, (exec (qTake r (t.on t.sets.mark.2.2)) c).1.2.2.sets.keep 1) := by unfold Sets.keepN; rw [if_pos hg]
    simp only [exec, hb]
    refine ⟨?_, fun h => by simp at h⟩
    show ((exec (qTake r (t.on t.sets.mark.2.2)) c).1.2.2.sets.keep 1).log.length < _
    unfold Sets.keep
    simp
theorem qEither_cln {r o : Ring} {t : Tx} (h : Cln t) (c : CS) : Cln (exec (qEither r o t) c).1.2.2 := by
  have hmk := mark_nil h.2
  have h1 := qTake_log r (t.on t.sets.mark.2.2) c
  have e1 : (t.on t.sets.mark.2.2).sets.marks = [t.sets.log.length] := by rw [hmk]; rfl
  rw [e1] at h1
  have hl := qTake_lim (r := r) (s := 0) (c := c) h
  unfold qEither tOr
  simp only [exec_bind, exec]
  split
  · rename_i hc
    exact qTake_cln (hl.2 hc.2) _
  · rename_i hc
    simp only [exec]
    by_cases hb : (exec (tPart (fun _ t => qTake r t) 13 0 t) c).1.2.1 = true
    · exact hl.2 hb
    · revert hb
      have em : t.sets.mark.2.1 = 1 := by rw [hmk]
      unfold tPart
      rw [if_pos (by rw [hmk])]
      simp only [exec_bind]
      rw [em]
      have hg : 1 ≤ 1 ∧ 1 ≤ (exec (qTake r (t.on t.sets.mark.2.2)) c).1.2.2.sets.marks.length := ⟨Nat.le_refl _, by rw [h1.2.1]; simp⟩
      split
      · intro hb
        simp [exec] at hb
      · intro _
        have hb : (exec (qTake r (t.on t.sets.mark.2.2)) c).1.2.2.sets.keepN 1 = (0, (exec (qTake r (t.on t.sets.mark.2.2)) c).1.2.2.sets.keep 1) := by unfold Sets.keepN; rw [if_pos hg]
        simp only [exec, hb]
        refine ⟨?_, ?_⟩
        · show ((exec (qTake r (t.on t.sets.mark.2.2)) c).1.2.2.sets.keep 1).log = []
          unfold Sets.keep
          simp
        · show ((exec (qTake r (t.on t.sets.mark.2.2)) c).1.2.2.sets.keep 1).marks = []
          unfold Sets.keep
          simp
set_option maxHeartbeats 1000000 in
theorem either_ok {W : World} {R B : List Nat} {pa pb pc pt px pu g n cap pu2 g2 n2 cap2 : Nat} {r r2 : Ring} {t : Tx} {c : CS} {w : World} (h : QIn W R B pa pb pc pt px pu g n cap r t c w) (h2 : QOther R px pu2 g2 n2 cap2 r2 w) (hcl : Cln t) :
    Calls Tryz.prog 96 #[.pointer (some ⟨px, 0, none⟩), .pointer (some ⟨pu, 0, none⟩), .pointer (some ⟨pu2, 0, none⟩)] w (TxPost W R pa pb pc pt B w (qEither r r2 t) c (fun x : Nat × Tx => x.1 < 18446744073709551616) Prod.snd (fun (x : Nat × Tx) v => .tuple #[.int .u64 (x.1 : Int), v])) := by
  have hmf : ∀ (fn : Fn) (first cap : Array Value) (w : World), (Instr.makeFunc fn first cap).run Tryz.prog w = .ok (.func fn first cap) w := fun _ _ _ _ => rfl
  obtain ⟨xb, hxb⟩ : ∃ xb, w.heap.size = xb := ⟨_, rfl⟩
  have C0 : Cells (w.alloc (.cells #[.int .u64 0] 25)) w.heap.size [.int .u64 0] 25 := Cells.new w [.int .u64 0] 25
  have B0 := (Below.refl w.heap.size w).alloc (Nat.le_refl _) (.cells #[.int .u64 0] 25)
  have hz0 : (w.alloc (.cells #[.int .u64 0] 25)).heap.size = xb + 1 := by simp [hxb]
  obtain ⟨w0, hw0⟩ : ∃ w0, w.alloc (.cells #[.int .u64 0] 25) = w0 := ⟨_, rfl⟩
  rw [hw0] at C0 B0 hz0
  rw [hxb] at C0
  have HZW := Lib.hid hxb
  have HW0 := Lib.hid hw0; have HC0 := Lib.hid C0; have HB0 := Lib.hid B0; have HZ0 := Lib.hid hz0; have HH := Lib.hid h; have H2 := Lib.hid h2; have HCL := Lib.hid hcl
  have x0 := C0.cell 0
  have B1 := (Below.refl w0.heap.size w0).alloc (Nat.le_refl _) (.cells #[.pointer (some ⟨pu, 0, none⟩)] 148)
  have C1 : Cells (w0.alloc (.cells #[.pointer (some ⟨pu, 0, none⟩)] 148)) w0.heap.size [.pointer (some ⟨pu, 0, none⟩)] 148 := Cells.new w0 [.pointer (some ⟨pu, 0, none⟩)] 148
  have hz1 : (w0.alloc (.cells #[.pointer (some ⟨pu, 0, none⟩)] 148)).heap.size = xb + 2 := by simp [hz0]
  obtain ⟨w1, hw1⟩ : ∃ w1, w0.alloc (.cells #[.pointer (some ⟨pu, 0, none⟩)] 148) = w1 := ⟨_, rfl⟩
  rw [hw1] at B1 C1 hz1
  have B2 := (Below.refl w1.heap.size w1).alloc (Nat.le_refl _) (.cells #[.pointer (some ⟨pu2, 0, none⟩)] 148)
  have C2 : Cells (w1.alloc (.cells #[.pointer (some ⟨pu2, 0, none⟩)] 148)) w1.heap.size [.pointer (some ⟨pu2, 0, none⟩)] 148 := Cells.new w1 [.pointer (some ⟨pu2, 0, none⟩)] 148
  have hz2 : (w1.alloc (.cells #[.pointer (some ⟨pu2, 0, none⟩)] 148)).heap.size = xb + 3 := by simp [hz1]
  obtain ⟨w2, hw2⟩ : ∃ w2, w1.alloc (.cells #[.pointer (some ⟨pu2, 0, none⟩)] 148) = w2 := ⟨_, rfl⟩
  rw [hw2] at B2 C2 hz2
  rw [hz0] at C1
  rw [hz1] at C2
  have b02 : Below w.heap.size w w2 := (B0.trans (B1.mono B0.size)).trans (B2.mono (Nat.le_trans B0.size B1.size))
  have hr := h.loR
  have hk : HeldBy R w w2 := HeldBy.of_below b02 hr
  have q2 := h.under b02
  have o2 := h2.heldBy hk
  have c0 : Cells w2 xb [.int .u64 ((0 : Nat) : Int)] 25 := by
    have e1 := C0.heldBy (HeldBy.of_below (R := [xb]) B1 (by simp; omega)) (by simp)
    exact e1.heldBy (HeldBy.of_below (R := [xb]) B2 (by simp; omega)) (by simp)
  have c1 : Cells w2 (xb + 1) [.pointer (some ⟨pu, 0, none⟩)] 148 := C1.heldBy (HeldBy.of_below (R := [xb + 1]) B2 (by simp; omega)) (by simp)
  have hlo : ∀ b ∈ B ++ R, b < xb := fun b hb => by rw [← hxb]; exact h.ctx.heldR b hb
  have HP : Hid (PartAt W ((xb + 1) :: (xb + 2) :: R) B [xb] pa pb pc pt px (xAux xb) 0 t c w2) := Lib.hid ⟨(h.ctx.came b02 [xb, xb + 1, xb + 2] (by intro b hb; simp at hb; omega)).less fun b hb => by
      simp only [List.mem_append, List.mem_cons, List.not_mem_nil, or_false] at hb ⊢
      rcases hb with (q | q) | q | q | q <;> simp [q], ⟨q2.tx, ⟨rfl, c0, by omega⟩, fun b hb hm => by
      simp only [List.mem_singleton] at hm
      have := hlo b (by simp [hb]); omega⟩, fun b hb hm => by
      simp only [List.mem_append, List.mem_cons, List.not_mem_nil, or_false] at hb hm
      rcases hb with q | q
      · rcases hm with z | z | z
        · have := hlo b (by simp [q]); omega
        · have := hlo b (by simp [q]); omega
        · exact h.apart b q z
      · rcases hm with z | z | z
        · omega
        · omega
        · have := hlo b (by simp [z]); omega, q2.tn, by simp [h.inX], by rw [hcl.1]; simp⟩
  have HO1 : Hid (QOther ((xb + 1) :: (xb + 2) :: R) px pu g n cap r w2) := Lib.hid ⟨q2.use, by simp [h.inU], by simp [h.inG], h.ok⟩
  have HO2 : Hid (QOther ((xb + 1) :: (xb + 2) :: R) px pu2 g2 n2 cap2 r2 w2) := Lib.hid ⟨o2.use, by simp [o2.inU], by simp [o2.inG], o2.ok⟩
  have HC1 := Lib.hid c1; have HC2 := Lib.hid C2; have HK := Lib.hid hk; have HZ2 := Lib.hid hz2; have HLO := Lib.hid hlo; have HW1 := Lib.hid hw1; have HW2 := Lib.hid hw2; have HZ1 := Lib.hid hz1
  have HXW := Lib.hid (show W.heap.size ≤ xb by rw [← hxb]; exact h.ctx.below.size)
  have HOR := Lib.hid (or_ok (P := fun _ t => qTake r t) (P2 := fun _ t => qTake r2 t) (caps := #[.pointer (some ⟨xb + 1, 0, none⟩), .pointer (some ⟨xb, 0, none⟩)]) (caps2 := #[.pointer (some ⟨xb + 2, 0, none⟩), .pointer (some ⟨xb, 0, none⟩)]) HP.out ef_take ef_take
    (fun _ T' wk hp hh => take_clo hp h.hand (HO1.out.heldBy hh) (c1.heldBy hh (by simp)) (by rw [mark_nil hcl.2]; show t.sets.log.length < _; rw [hcl.1]; simp) HXW.out)
    (fun _ => take_part r HP.out hcl) (by have := (qTake_lim (r := r) (s := 0) (c := c) hcl).1; omega)
    (fun _ hb T' X' wk hp hh => by
      obtain ⟨rfl, -, -⟩ := hp.st.st
      exact take_clo hp h.hand (HO2.out.heldBy hh) (C2.heldBy hh (by simp)) (qTake_lim (r := r) (s := 0) (c := c) hcl).1 HXW.out))
  clear h h2 hcl C0 B0 hz0 hw0 B1 C1 hz1 hw1 B2 C2 hz2 hw2 b02 hr hk q2 o2 c0 c1 hlo
  go_enter Tryz.func96, Tryz.ntmps96
  go_wp2_with fail
  rw [HW0.out]
  refine (either1_ok pu xb w0).mono ?_
  rintro e wx ⟨rfl, rfl⟩
  rw [HW1.out, HZ0.out]
  go_wp2_with fail
  refine (either1_ok pu2 xb w1).mono ?_
  rintro e wx ⟨rfl, rfl⟩
  rw [HW2.out, HZ1.out]
  go_wp2_with fail
  refine HOR.out.mono ?_
  rintro e w3 ⟨m, ⟨y, t3⟩, c3, v, E, B3, hx, rfl, he, ⟨T3, X3, rfl, hst⟩, hc, hh, hB, hEB⟩
  obtain ⟨htx, ⟨rfl, hxc, hy⟩, hap⟩ := hst
  have HX := Lib.hid hx; have HE := Lib.hid he; have HTX := Lib.hid htx; have HCC := Lib.hid hc; have HHH := Lib.hid hh; have HB := Lib.hid hB; have HEB := Lib.hid hEB; have HY := Lib.hid hy
  have x3 := hxc.cell 0
  have HF := Lib.hid (show ∀ z, z = (if m = 0 then y else 0) → TxPost W R pa pb pc pt B w (qEither r r2 t) c (fun x : Nat × Tx => x.1 < 18446744073709551616) Prod.snd (fun (x : Nat × Tx) v => .tuple #[.int .u64 (x.1 : Int), v]) (.returned (.tuple #[.int .u64 (z : Int), v])) w3 from fun z hz => ⟨m, (z, t3), c3, v, E, T3, by
      unfold qEither
      simp only [exec_bind, HX.out, exec]
      rw [hz], by
      show z < 18446744073709551616
      rw [hz]
      split
      · exact HY.out
      · omega, rfl, HE.out, HTX.out, HCC.out.less fun b hb => by
      simp only [List.mem_append, List.mem_cons] at hb ⊢
      rcases hb with q | q | q <;> simp [q], HK.out.trans (HHH.out.less fun b hb => by simp [hb]), fun b hb => by
      rcases HB.out b (by simp only [List.mem_append] at hb ⊢; rcases hb with q | q <;> simp [q]) with q | q
      · rcases List.mem_append.1 q with q | q
        · exact .inl q
        · simp only [List.mem_singleton] at q
          exact .inr (by rw [HZW.out, q]; exact Nat.le_refl _)
      · exact .inr (by have := HZ2.out; have := HZW.out; omega), fun b hb hm => HEB.out b hb (by simp [hm])⟩)
  have HSH := Lib.hid he.shape
  by_cases h0 : m = 0
  · obtain ⟨rfl, -⟩ := he.isNil h0
    have HF0 := Lib.hid (HF.out y (by rw [if_pos h0]))
    clear hx he htx hxc hy hap hc hh hB hEB
    go_wp2
    go_ret2
    exact HF0.out
  · obtain ⟨tt, xx, rfl⟩ := he.iface h0
    have HF0 := Lib.hid (HF.out 0 (by rw [if_neg h0]))
    clear hx he htx hxc hy hap hc hh hB hEB h0
    go_wp2
    go_ret2
    exact HF0.out
end Go.Proofs.YtkpdacfiglpgeaaGreatDoor
