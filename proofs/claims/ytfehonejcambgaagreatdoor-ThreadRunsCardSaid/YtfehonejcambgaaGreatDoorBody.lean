/- Layer 5 (thread): the laws' small programs as bodies. -/
import Derived.Test.YtfehonejcambgaaGreatDoorStep
import Derived.Test.YtfehonejcambgaaGreatDoorMicroPlain
import Derived.Lib.Hide
namespace Go.Proofs.YtfehonejcambgaaGreatDoor
open Go.RowKit Bl Th
set_option maxRecDepth 10000

def encM (m : Micro) : List Value := [.int .i64 m.kind, .int .i64 m.a, .int .i64 m.i, .int .u64 (m.x : Int), .bool m.add, .int .i64 m.to']
/-- A slice of micros lies in a block that is held, or in one that was there in W. -/
structure Prg (W w : World) (v : Value) (Q : List Nat) (l : List Micro) : Prop where
  shape : ∃ p cap, v = .slice p l.length cap ∧ (l ≠ [] → ∃ g o, p = some ⟨g, o, none⟩ ∧ ∀ (k : Nat) m, l[k]? = some m → ∀ j, j < 6 → (g ∈ Q ∧ w.cell? ⟨g, o + k * 6 + j, none⟩ = (encM m)[j]?) ∨ (g < W.heap.size ∧ W.cell? ⟨g, o + k * 6 + j, none⟩ = (encM m)[j]?))
  few : l.length ≤ maxLen
  fit : ∀ m ∈ l, m.x < 18446744073709551616
theorem Prg.heldBy {W w w' : World} {v : Value} {Q : List Nat} {l : List Micro} (h : Prg W w v Q l) (k : HeldBy Q w w') : Prg W w' v Q l := by
  obtain ⟨p, cap, hv, hp⟩ := h.shape
  refine ⟨⟨p, cap, hv, fun hn => ?_⟩, h.few, h.fit⟩
  obtain ⟨g, o, hg, hc⟩ := hp hn
  refine ⟨g, o, hg, fun i m hi j hj => ?_⟩
  rcases hc i m hi j hj with ⟨hm, q⟩ | q
  · exact .inl ⟨hm, (k.cell (a := ⟨g, o + i * 6 + j, none⟩) hm).trans q⟩
  · exact .inr q
/-- What such a body keeps: its program. -/
def prgAux (W : World) (bp : Nat) (l : List Micro) : Aux Unit where
  at' _ Q w := bp ∈ Q ∧ ∃ v, w.cell? ⟨bp, 0, none⟩ = some v ∧ Prg W w v Q l
  loc := by
    rintro _ Q w w' ⟨hm, v, hc, hp⟩ k
    exact ⟨hm, v, (k.cell (a := ⟨bp, 0, none⟩) hm).trans hc, hp.heldBy k⟩

set_option maxHeartbeats 400000 in
theorem reg_ok (n : Int) (w : World) : Calls Tryz.prog 24 #[.int .i64 n] w fun e w' => e = .returned (.int .i64 (regOf n : Int)) ∧ w = w' := by
  have h1 : -4 < n.tmod 4 := Int.lt_tmod_of_pos n (by decide)
  have h2 : n.tmod 4 < 4 := Int.tmod_lt_of_pos n (by decide)
  have h3 : 0 ≤ (n.tmod 4 + 4).tmod 4 := Int.tmod_nonneg _ (by omega)
  have h4 : ((regOf n : Nat) : Int) = (n.tmod 4 + 4).tmod 4 := by unfold regOf; omega
  have H4 := Lib.hid h4
  clear h4
  go_enter Tryz.func24, Tryz.ntmps24
  go_wp2
  go_ret
  refine ⟨ret_one ?_, rfl⟩
  rw [H4.out]
  first | rfl | (rw [IntWalk.wrap64_in _ (by omega)]) | (have := Int.tmod_eq_emod_of_nonneg (a := n.tmod 4 + 4) (b := 4) (by omega); omega)

theorem body_ok (v : Value) (hv : ∃ p n cap, v = .slice p n cap) (w : World) : Calls Tryz.prog 8 #[v] w fun e w' => e = .returned (.func (.func 23) #[] #[.pointer (some ⟨w.heap.size, 0, none⟩)]) ∧ w.alloc (.cells #[v] 22) = w' := by
  obtain ⟨p, n, cap, rfl⟩ := hv
  have hmf : ∀ (fn : Fn) (first cap : Array Value) (w : World), (Instr.makeFunc fn first cap).run Tryz.prog w = .ok (.func fn first cap) w := fun _ _ _ _ => rfl
  go_enter Tryz.func8, Tryz.ntmps8
  go_wp2
  go_ret
  exact ⟨rfl, rfl⟩

/-- What holds at each micro's head. -/
structure At (W : World) (X Q : List Nat) (pa pb pc rb : Nat) (s : MS) (w wr : World) : Prop where
  ctx : Ctx W (rb :: (X ++ Q)) pa pb pc s.c wr
  regs : Cells wr rb (s.r.map fun (x : Nat) => .int .u64 (x : Int)) 60
  held : HeldBy (X ++ Q) w wr
  len : s.r.length = 4
  rfit : ∀ x ∈ s.r, x < 18446744073709551616
  lfit : s.last < 18446744073709551616

theorem six_of {w : World} {g o k : Nat} {m : Micro} (h : ∀ j, j < 6 → w.cell? ⟨g, o + k * 6 + j, none⟩ = (encM m)[j]?) :
    w.cell? ⟨g, o + k * 6, none⟩ = some (.int .i64 m.kind) ∧ w.cell? ⟨g, o + k * 6 + 1, none⟩ = some (.int .i64 m.a) ∧ w.cell? ⟨g, o + k * 6 + 2, none⟩ = some (.int .i64 m.i) ∧ w.cell? ⟨g, o + k * 6 + 3, none⟩ = some (.int .u64 (m.x : Int)) ∧ w.cell? ⟨g, o + k * 6 + 4, none⟩ = some (.bool m.add) ∧ w.cell? ⟨g, o + k * 6 + 5, none⟩ = some (.int .i64 m.to') :=
  ⟨h 0 (by omega), h 1 (by omega), h 2 (by omega), h 3 (by omega), h 4 (by omega), h 5 (by omega)⟩
theorem access_no {op : BS → Ntry × BS} {c : CS} (h : ∀ x ∈ c.log, Fit x) (ho : Fit (op c.bs).1) : (access op c).1 ≤ 17 := by
  unfold access
  cases hx : c.log[c.next]? with
  | some x => have := (h x (List.mem_of_getElem? hx)).err; simp only; omega
  | none =>
    simp only
    split
    · simp
    · split
      · simp
      · have := ho.err; simp only; omega
/-- The end of a body. -/
theorem body_end {W : World} {X Q : List Nat} {pa pb pc rb bp : Nat} {l : List Micro} {s : MS} {w wr w' : World} {n : Nat} (h : At W X Q pa pb pc rb s w wr) (hb : Below wr.heap.size wr w') (ha : (prgAux W bp l).at' () Q w) (hn : n ≤ 17) : BodyPost W pa pb pc (prgAux W bp l) X Q w (n, s.c, ()) (.returned (errV n)) w' := by
  have hh : HeldBy (X ++ Q) w w' := HeldBy.trans h.held (HeldBy.of_below hb (fun b hm => h.ctx.heldR b (by simp only [List.mem_cons]; exact .inr hm)))
  refine ⟨errV n, [], Q, rfl, errV_err _ hn, (prgAux W bp l).loc _ _ _ _ ha (hh.less fun b hm => by simp [hm]), ?_, hh.less (fun b hm => by simp [hm]), fun b hm => .inl (by simpa using hm)⟩
  exact (h.ctx.came hb [] (by simp)).less (fun b hm => by simp only [List.nil_append, List.mem_append, List.mem_cons] at hm ⊢; exact .inr hm)

theorem At.below {W : World} {X Q : List Nat} {pa pb pc rb : Nat} {s : MS} {w wr w' : World} (h : At W X Q pa pb pc rb s w wr) (hb : Below wr.heap.size wr w') : At W X Q pa pb pc rb s w w' :=
  ⟨(h.ctx.came hb [] (by simp)).less (fun b hm => by simpa using hm), h.regs.kept (Kept.of_below hb) (by have := h.regs.lt; omega), HeldBy.trans h.held (HeldBy.of_below hb (fun b hm => h.ctx.heldR b (by simp only [List.mem_cons]; exact .inr hm))), h.len, h.rfit, h.lfit⟩
theorem At.reg {W : World} {X Q : List Nat} {pa pb pc rb : Nat} {s : MS} {w wr : World} (h : At W X Q pa pb pc rb s w wr) {k : Nat} (hk : k < 4) : wr.cell? ⟨rb, k, none⟩ = some (.int .u64 (s.r.getD k 0 : Nat)) := by
  rw [h.regs.cell k, List.getElem?_map, List.getD_eq_getElem?_getD]
  have : k < s.r.length := by rw [h.len]; exact hk
  simp [this]
theorem At.reg_lt {W : World} {X Q : List Nat} {pa pb pc rb : Nat} {s : MS} {w wr : World} (h : At W X Q pa pb pc rb s w wr) (k : Nat) : s.r.getD k 0 < 18446744073709551616 := by
  rw [List.getD_eq_getElem?_getD]
  cases hk : s.r[k]? with
  | none => simp
  | some y => exact h.rfit y (List.mem_of_getElem? hk)
/-- Behind an access: the register is put. -/
theorem At.told {W : World} {X Q : List Nat} {pa pb pc rb bm n last : Nat} {m : Micro} {s : MS} {c' : CS} {w wr w2 : World} (h : At W X Q pa pb pc rb s w wr) (hc : Ctx W (bm :: (rb :: (X ++ Q))) pa pb pc c' w2) (hh : HeldBy (rb :: (X ++ Q)) wr w2) (hrb : W.heap.size ≤ rb) (hrX : rb ∉ X ++ Q) (hl : last < 18446744073709551616) :
    At W X Q pa pb pc rb (told n m s last c').2 w (w2.setCell ⟨rb, regOf m.to', none⟩ (.int .u64 (last : Int))) := by
  have hk : Kept (fun b => b = rb) w2 (w2.setCell ⟨rb, regOf m.to', none⟩ (.int .u64 (last : Int))) := Kept.setCell (S := fun b => b = rb) (Kept.refl _ _) (fun _ => rfl) _
  have h2 : Cells w2 rb (s.r.map fun (x : Nat) => .int .u64 (x : Int)) 60 := h.regs.heldBy hh (by simp)
  refine ⟨hc.step (hk.mono fun b _ e => by simp [e]) (hc.below.trans (hk.below hc.below.size fun k hk' e => by omega)) fun b hb => ⟨.inl (by simp only [List.mem_cons] at hb ⊢; exact .inr hb), Nat.lt_of_lt_of_le (hc.heldR b (by simp only [List.mem_cons] at hb ⊢; exact .inr hb)) hk.size⟩, ?_, fun b hb => ?_, by simp [Th.told, h.len], ?_, hl⟩
  · refine Cells.cast (h2.set (regOf m.to') (.int .u64 (last : Int))) ?_
    simp [Th.told, List.map_set]
  · rw [hk.block b (hc.heldR b (by simp only [List.mem_cons]; exact .inr (.inr hb))) (fun e => hrX (e ▸ hb)), hh b (by simp only [List.mem_cons]; exact .inr hb)]
    exact h.held b hb
  · intro x hx
    rcases List.mem_or_eq_of_mem_set hx with e | e
    · exact h.rfit x e
    · exact e ▸ hl

set_option maxHeartbeats 20000000 in
theorem body1_ok {W : World} {X Q : List Nat} {pa pb pc bp round : Nat} {c : CS} {wi : World} (l : List Micro) (hg : Handle W) (ha : (prgAux W bp l).at' () Q wi) (h : Ctx W (X ++ Q) pa pb pc c wi) :
    Calls Tryz.prog 23 (#[.pointer (some ⟨pc, 0, none⟩), .int .i64 (round : Int)] ++ #[.pointer (some ⟨bp, 0, none⟩)]) wi (BodyPost W pa pb pc (prgAux W bp l) X Q wi (body l () round c)) := by
  have HAUX := Lib.hid ha
  obtain ⟨hbp, v, hcell, hprg⟩ := ha
  obtain ⟨p, cap, rfl, hp⟩ := hprg.shape
  have hfew : l.length ≤ 9223372036854775807 := hprg.few
  have HPP := Lib.hid hp
  have HF := Lib.hid hprg.fit
  have HG := Lib.hid hg
  have lbp := World.block_lt_of_cell? wi _ hcell
  have A0 : At W X Q pa pb pc wi.heap.size ⟨[0, 0, 0, 0], 0, c⟩ wi (wi.alloc (.cells #[.int .u64 0, .int .u64 0, .int .u64 0, .int .u64 0] 60)) :=
    ⟨h.came ((Below.refl _ _).alloc (Nat.le_refl _) _) [wi.heap.size] (by simp), Cells.new wi _ _, HeldBy.of_below ((Below.refl _ _).alloc (Nat.le_refl _) _) h.heldR, rfl, by simp, by simp⟩
  have HA0 := Lib.hid A0
  have HRW := Lib.hid (show W.heap.size ≤ wi.heap.size from h.below.size)
  have HRX := Lib.hid (show wi.heap.size ∉ X ++ Q from fun hm => Nat.lt_irrefl _ (h.heldR _ hm))
  obtain ⟨len, hlen⟩ : ∃ len, l.length = len := ⟨_, rfl⟩
  have HLEN := Lib.hid hlen
  rw [hlen] at hcell hfew
  have lrb : wi.heap.size < (wi.alloc (.cells #[.int .u64 0, .int .u64 0, .int .u64 0, .int .u64 0] 60)).heap.size := by simp
  clear hprg hp hg h hbp A0 hlen
  simp only [List.nil_append, List.cons_append, List.append_toArray]
  go_enter Tryz.func23, Tryz.ntmps23
  go_wp2
  generalize wi.alloc (.cells #[.int .u64 0, .int .u64 0, .int .u64 0, .int .u64 0] 60) = w0 at *
  obtain ⟨rb, hrb⟩ : ∃ rb, wi.heap.size = rb := ⟨_, rfl⟩
  rw [hrb] at HA0 HRW HRX ⊢
  clear hrb hcell lrb
  go_loopw [7, 16] (fun la i wr => ∃ (k : Nat) (s : MS), k ≤ len ∧ i = .int .i64 (k : Int) ∧ la = .int .u64 (s.last : Int) ∧ At W X Q pa pb pc rb s wi wr ∧ go round l ⟨[0, 0, 0, 0], 0, c⟩ = go round (l.drop k) s) (fun _ i _ => len - (intOf i).toNat)
  case atStart => exact ⟨0, _, Nat.zero_le _, rfl, rfl, HA0.out, rfl⟩
  case round =>
    obtain ⟨k, s, hk, rfl, rfl, hat, hgo⟩ := hrel
    have HAT := Lib.hid hat
    have HGO := Lib.hid hgo
    clear hat hgo HA0
    by_cases hlt : k < len
    · have hlen' : k < l.length := by rw [HLEN.out]; exact hlt
      obtain ⟨m, hm⟩ : ∃ m, l[k]? = some m := ⟨l[k], List.getElem?_eq_getElem hlen'⟩
      have hdrop : l.drop k = m :: l.drop (k + 1) := by
        rw [List.drop_eq_getElem_cons hlen']
        rw [List.getElem?_eq_getElem hlen'] at hm
        rw [Option.some.inj hm]
      obtain ⟨g, o, hpg, hcs⟩ := HPP.out (by intro e; rw [e] at hlen'; simp at hlen')
      subst hpg
      obtain ⟨e0, e1, e2, e3, e4, e5⟩ := six_of (w := wr) (g := g) (o := o) (k := k) (m := m) (fun j hj => by
        rcases hcs k m hm j hj with ⟨hgQ, q⟩ | ⟨hgW, q⟩
        · exact (HAT.out.held.cell (a := ⟨g, o + k * 6 + j, none⟩) (by simp [hgQ])).trans q
        · exact (HAT.out.ctx.below.cell (p := ⟨g, o + k * 6 + j, none⟩) hgW).trans q)
      have hmx := HF.out m (List.mem_of_getElem? hm)
      have hgo' : go round l ⟨[0, 0, 0, 0], 0, c⟩ = if (one round m s).1 = 0 then go round (l.drop (k + 1)) (one round m s).2 else one round m s := by
        rw [HGO.out, hdrop]; rfl
      have HGO' := Lib.hid hgo'
      have lg : g < wr.heap.size := World.block_lt_of_cell? wr _ e0
      have hls := HAT.out.lfit
      clear hgo' hdrop hcs HGO hm hlen'
      have hki : (k : Int) < (len : Int) := by omega
      by_cases hyes : m.kind = 6 ∧ s.last = m.x ∧ (round : Int) < m.i
      · have hone : one round m s = (12, s) := by unfold one; rw [if_pos hyes]
        have hfin : body l () round c = (12, s.c, ()) := by
          unfold body
          rw [HGO'.out, hone]; rfl
        have HFIN := Lib.hid hfin
        obtain ⟨h6, hla, hrd⟩ := hyes
        rw [h6] at e0
        have g1 : ((s.last : Int) == (m.x : Int)) = true := by rw [beq_iff_eq]; omega
        have g2 : (s.last == m.x) = true := by rw [beq_iff_eq]; exact hla
        have g3 : decide ((round : Int) < m.i) = true := by simpa using hrd
        clear hone hfin h6 hla hrd HGO'
        go_wp2
        go_ret
        rw [HFIN.out]
        exact body_end HAT.out ((Below.refl _ _).alloc (Nat.le_refl _) _) HAUX.out (by omega)
      by_cases hsk : m.kind < 1 ∨ 5 < m.kind
      · have hone : one round m s = (0, s) := by unfold one; rw [if_neg hyes, if_pos hsk]
        have HR := Lib.hid (show ∃ (k' : Nat) (s' : MS), k' ≤ len ∧ Value.int .i64 ((k : Int) + 1) = .int .i64 (k' : Int) ∧ Value.int .u64 (s.last : Int) = .int .u64 (s'.last : Int) ∧ At W X Q pa pb pc rb s' wi (wr.alloc (.cells #[.int .i64 m.kind, .int .i64 m.a, .int .i64 m.i, .int .u64 (m.x : Int), .bool m.add, .int .i64 m.to'] 54)) ∧ go round l ⟨[0, 0, 0, 0], 0, c⟩ = go round (l.drop k') s' from
          ⟨k + 1, s, by omega, by go_num, rfl, HAT.out.below ((Below.refl _ _).alloc (Nat.le_refl _) _), by rw [HGO'.out, hone]; rfl⟩)
        clear hone HGO'
        by_cases h6 : m.kind = 6
        · rw [h6] at e0 HR
          have hyes' : s.last ≠ m.x ∨ ¬ (round : Int) < m.i := by
            by_cases q : s.last = m.x
            · exact .inr fun r => hyes ⟨h6, q, r⟩
            · exact .inl q
          clear hyes hsk
          rcases hyes' with q | q
          · have g1 : ((s.last : Int) == (m.x : Int)) = false := by rw [beq_eq_false_iff_ne]; omega
            have g2 : (s.last == m.x) = false := by rw [beq_eq_false_iff_ne]; exact q
            clear h6 q
            go_wp2
            go_roundw
            case rel => exact HR.out
            case measure => simp [intOf]; omega
          · by_cases q2 : s.last = m.x
            · have g1 : ((s.last : Int) == (m.x : Int)) = true := by rw [beq_iff_eq]; omega
              have g2 : (s.last == m.x) = true := by rw [beq_iff_eq]; exact q2
              have g3 : decide ((round : Int) < m.i) = false := by simpa using q
              clear h6 q q2
              go_wp2
              go_roundw
              case rel => exact HR.out
              case measure => simp [intOf]; omega
            · have g1 : ((s.last : Int) == (m.x : Int)) = false := by rw [beq_eq_false_iff_ne]; omega
              have g2 : (s.last == m.x) = false := by rw [beq_eq_false_iff_ne]; exact q2
              clear h6 q q2
              go_wp2
              go_roundw
              case rel => exact HR.out
              case measure => simp [intOf]; omega
        · have g1 : (m.kind == 6) = false := by rw [beq_eq_false_iff_ne]; exact h6
          clear hyes h6
          rcases hsk with q | q
          · have g2 : decide (m.kind < 1) = true := by simpa using q
            clear q
            go_wp2
            go_roundw
            case rel => exact HR.out
            case measure => simp [intOf]; omega
          · have g2 : decide (m.kind < 1) = false := by simp; omega
            have g3 : decide (5 < m.kind) = true := by simpa using q
            clear q
            go_wp2
            go_roundw
            case rel => exact HR.out
            case measure => simp [intOf]; omega
      · have hra := regOf_lt m.a
        have hrt := regOf_lt m.to'
        have hB1 : Below wr.heap.size wr (wr.alloc (.cells #[.int .i64 m.kind, .int .i64 m.a, .int .i64 m.i, .int .u64 (m.x : Int), .bool m.add, .int .i64 m.to'] 54)) := (Below.refl _ _).alloc (Nat.le_refl _) _
        have hctx : Ctx W (wr.heap.size :: (rb :: (X ++ Q))) pa pb pc s.c (wr.alloc (.cells #[.int .i64 m.kind, .int .i64 m.a, .int .i64 m.i, .int .u64 (m.x : Int), .bool m.add, .int .i64 m.to'] 54)) := HAT.out.ctx.came hB1 [wr.heap.size] (by simp)
        have hmc := Cells.new wr [.int .i64 m.kind, .int .i64 m.a, .int .i64 m.i, .int .u64 (m.x : Int), .bool m.add, .int .i64 m.to'] 54
        have lrb : rb < wr.heap.size := HAT.out.regs.lt
        have qr := HAT.out.reg hra
        have hrf := HAT.out.reg_lt (regOf m.a)
        have HB1 := Lib.hid (HeldBy.of_below hB1 HAT.out.ctx.heldR)
        have HMC := Lib.hid hmc
        obtain ⟨rf, hRF⟩ : ∃ rf, s.r.getD (regOf m.a) 0 = rf := ⟨_, rfl⟩
        rw [hRF] at qr hrf
        have HRF := Lib.hid hRF
        have hkind : m.kind = 1 ∨ m.kind = 2 ∨ m.kind = 3 ∨ m.kind = 4 ∨ m.kind = 5 := by omega
        obtain ⟨xx, hxx0⟩ : ∃ xx, (if m.add then (m.x + s.last) % 18446744073709551616 else m.x) = xx := ⟨_, rfl⟩
        have hxx : xx < 18446744073709551616 := by
          rw [← hxx0]
          split <;> omega
        have HXX := Lib.hid hxx0
        have HCTX := Lib.hid hctx
        clear hmc hB1 hRF hxx0 hctx
        rcases hkind with hkd | hkd | hkd | hkd | hkd
        · have hact : one round m s = told (access (opLoad rf m.i) s.c).1 m s (access (opLoad rf m.i) s.c).2.1.word (access (opLoad rf m.i) s.c).2.2 := by
            unfold one act
            rw [if_neg hyes, if_neg hsk, HRF.out, HXX.out]
            simp [hkd]
          have HNO := Lib.hid (access_no HAT.out.ctx.fit (fit_load HAT.out.ctx.ok hrf m.i))
          have HFT := Lib.hid (access_fit HAT.out.ctx.fit (fit_load HAT.out.ctx.ok hrf m.i))
          have HC := Lib.hid (cload_ok HCTX.out HG.out hrf m.i)
          obtain ⟨q, hq⟩ : ∃ q, access (opLoad rf m.i) s.c = q := ⟨_, rfl⟩
          rw [hq] at hact HNO HFT HC
          have HACT := Lib.hid hact
          rw [hkd] at e0 HC HMC HB1
          clear hact hq hyes hsk hkd
          obtain ⟨n, x, c'⟩ := q
          cases hadd : m.add
          all_goals
            rw [hadd] at e4 HC HMC HB1 HXX
            simp only [Bool.false_eq_true, if_true, if_false] at HXX
            have hw : IntKind.u64.wrap ((m.x : Int) + (s.last : Int)) = (((m.x + s.last) % 18446744073709551616 : Nat) : Int) := by rw [IntKind.wrap_u64]; omega
            first | (with_reducible have hx2 : m.x = xx := HXX.out; rw [← hx2] at HC; clear hx2) | rw [HXX.out] at hw
            clear HXX hadd
            go_wp2_with fail
            refine (reg_ok _ _).mono ?_
            rintro e w' ⟨rfl, rfl⟩
            go_wp2_with fail
            refine HC.out.mono ?_
            rintro e w2 ⟨he, hc2, hh2⟩
            simp only at he hc2
            subst he
            have T2 := HMC.out.heldBy hh2 (by simp)
            obtain ⟨b0, b1, b2, b3, b4, b5, -⟩ := six T2
            have hwh : HeldBy (rb :: (X ++ Q)) wr w2 := HeldBy.trans HB1.out (hh2.less (fun b hb => by simp only [List.mem_cons] at hb ⊢; exact .inr hb))
            have G2 := HAT.out.regs.heldBy hwh (by simp)
            have r2 := G2.cell (regOf m.to')
            rw [List.getElem?_map, List.getElem?_eq_getElem (show regOf m.to' < s.r.length by rw [HAT.out.len]; exact hrt)] at r2
            simp only [Option.map_some] at r2
            have fr2 := G2.free (regOf m.to')
            have HC2 := Lib.hid hc2; have HWH := Lib.hid hwh
            clear hc2 hh2 hwh T2 G2 HC e0 e1 e2 e3 e4 e5
            have HT := Lib.hid (HAT.out.told (n := n) (m := m) (last := x.word) HC2.out HWH.out HRW.out HRX.out HFT.out.word)
            by_cases hn : n = 0
            · subst hn
              rw [show errV 0 = Value.nilIface from rfl]
              go_wp2_with fail
              refine (reg_ok _ _).mono ?_
              rintro e w' ⟨rfl, rfl⟩
              go_wp2
              go_roundw
              case rel =>
                refine ⟨k + 1, _, by omega, by go_num, ?_, HT.out, ?_⟩
                · rfl
                · rw [HGO'.out, HACT.out]; rfl
              case measure => simp [intOf]; omega
            · have hfin : body l () round c = (n, c', ()) := by
                unfold body
                rw [HGO'.out, HACT.out, if_neg (by simpa [told] using hn)]
                rfl
              have HFIN := Lib.hid hfin
              rw [show errV n = Value.iface 61 (.int .i64 (n : Int)) from if_neg hn]
              have HEV := Lib.hid (show Value.iface 61 (.int .i64 (n : Int)) = errV n from (if_neg hn).symm)
              clear hfin hn
              go_wp2_with fail
              refine (reg_ok _ _).mono ?_
              rintro e w' ⟨rfl, rfl⟩
              go_wp2
              go_ret
              rw [HFIN.out, HEV.out]
              exact body_end HT.out (Below.refl _ _) HAUX.out HNO.out
        · have hact : one round m s = told (access (opStore rf m.i xx) s.c).1 m s s.last (access (opStore rf m.i xx) s.c).2.2 := by
            unfold one act
            rw [if_neg hyes, if_neg hsk, HRF.out, HXX.out]
            simp [hkd]
          have HNO := Lib.hid (access_no HAT.out.ctx.fit (fit_store hrf hxx m.i))
          have HFT := Lib.hid (access_fit HAT.out.ctx.fit (fit_store hrf hxx m.i))
          have HC := Lib.hid (cstore_ok HCTX.out HG.out hrf hxx m.i)
          obtain ⟨q, hq⟩ : ∃ q, access (opStore rf m.i xx) s.c = q := ⟨_, rfl⟩
          rw [hq] at hact HNO HFT HC
          have HACT := Lib.hid hact
          rw [hkd] at e0 HC HMC HB1
          clear hact hq hyes hsk hkd
          obtain ⟨n, x, c'⟩ := q
          cases hadd : m.add
          all_goals
            rw [hadd] at e4 HC HMC HB1 HXX
            simp only [Bool.false_eq_true, if_true, if_false] at HXX
            have hw : IntKind.u64.wrap ((m.x : Int) + (s.last : Int)) = (((m.x + s.last) % 18446744073709551616 : Nat) : Int) := by rw [IntKind.wrap_u64]; omega
            first | (with_reducible have hx2 : m.x = xx := HXX.out; rw [← hx2] at HC; clear hx2) | rw [HXX.out] at hw
            clear HXX hadd
            go_wp2_with fail
            refine (reg_ok _ _).mono ?_
            rintro e w' ⟨rfl, rfl⟩
            go_wp2_with fail
            refine HC.out.mono ?_
            rintro e w2 ⟨he, hc2, hh2⟩
            simp only at he hc2
            subst he
            have T2 := HMC.out.heldBy hh2 (by simp)
            obtain ⟨b0, b1, b2, b3, b4, b5, -⟩ := six T2
            have hwh : HeldBy (rb :: (X ++ Q)) wr w2 := HeldBy.trans HB1.out (hh2.less (fun b hb => by simp only [List.mem_cons] at hb ⊢; exact .inr hb))
            have G2 := HAT.out.regs.heldBy hwh (by simp)
            have r2 := G2.cell (regOf m.to')
            rw [List.getElem?_map, List.getElem?_eq_getElem (show regOf m.to' < s.r.length by rw [HAT.out.len]; exact hrt)] at r2
            simp only [Option.map_some] at r2
            have fr2 := G2.free (regOf m.to')
            have HC2 := Lib.hid hc2; have HWH := Lib.hid hwh
            clear hc2 hh2 hwh T2 G2 HC e0 e1 e2 e3 e4 e5
            have HT := Lib.hid (HAT.out.told (n := n) (m := m) (last := s.last) HC2.out HWH.out HRW.out HRX.out hls)
            by_cases hn : n = 0
            · subst hn
              rw [show errV 0 = Value.nilIface from rfl]
              go_wp2_with fail
              refine (reg_ok _ _).mono ?_
              rintro e w' ⟨rfl, rfl⟩
              go_wp2
              go_roundw
              case rel =>
                refine ⟨k + 1, _, by omega, by go_num, ?_, HT.out, ?_⟩
                · rfl
                · rw [HGO'.out, HACT.out]; rfl
              case measure => simp [intOf]; omega
            · have hfin : body l () round c = (n, c', ()) := by
                unfold body
                rw [HGO'.out, HACT.out, if_neg (by simpa [told] using hn)]
                rfl
              have HFIN := Lib.hid hfin
              rw [show errV n = Value.iface 61 (.int .i64 (n : Int)) from if_neg hn]
              have HEV := Lib.hid (show Value.iface 61 (.int .i64 (n : Int)) = errV n from (if_neg hn).symm)
              clear hfin hn
              go_wp2_with fail
              refine (reg_ok _ _).mono ?_
              rintro e w' ⟨rfl, rfl⟩
              go_wp2
              go_ret
              rw [HFIN.out, HEV.out]
              exact body_end HT.out (Below.refl _ _) HAUX.out HNO.out
        · have hact : one round m s = told (access (opCAS rf m.i s.last xx) s.c).1 m s (if (access (opCAS rf m.i s.last xx) s.c).2.1.done then 1 else 0) (access (opCAS rf m.i s.last xx) s.c).2.2 := by
            unfold one act
            rw [if_neg hyes, if_neg hsk, HRF.out, HXX.out]
            simp [hkd]
          have HNO := Lib.hid (access_no HAT.out.ctx.fit (fit_cas (old := s.last) hrf hxx m.i))
          have HFT := Lib.hid (access_fit HAT.out.ctx.fit (fit_cas (old := s.last) hrf hxx m.i))
          have HC := Lib.hid (ccas_ok HCTX.out HG.out hrf hxx m.i s.last)
          obtain ⟨q, hq⟩ : ∃ q, access (opCAS rf m.i s.last xx) s.c = q := ⟨_, rfl⟩
          rw [hq] at hact HNO HFT HC
          have HACT := Lib.hid hact
          rw [hkd] at e0 HC HMC HB1
          clear hact hq hyes hsk hkd
          obtain ⟨n, x, c'⟩ := q
          cases hadd : m.add
          all_goals
            rw [hadd] at e4 HC HMC HB1 HXX
            simp only [Bool.false_eq_true, if_true, if_false] at HXX
            have hw : IntKind.u64.wrap ((m.x : Int) + (s.last : Int)) = (((m.x + s.last) % 18446744073709551616 : Nat) : Int) := by rw [IntKind.wrap_u64]; omega
            first | (with_reducible have hx2 : m.x = xx := HXX.out; rw [← hx2] at HC; clear hx2) | rw [HXX.out] at hw
            clear HXX hadd
            go_wp2_with fail
            refine (reg_ok _ _).mono ?_
            rintro e w' ⟨rfl, rfl⟩
            go_wp2_with fail
            refine HC.out.mono ?_
            rintro e w2 ⟨he, hc2, hh2⟩
            simp only at he hc2
            subst he
            have T2 := HMC.out.heldBy hh2 (by simp)
            obtain ⟨b0, b1, b2, b3, b4, b5, -⟩ := six T2
            have hwh : HeldBy (rb :: (X ++ Q)) wr w2 := HeldBy.trans HB1.out (hh2.less (fun b hb => by simp only [List.mem_cons] at hb ⊢; exact .inr hb))
            have G2 := HAT.out.regs.heldBy hwh (by simp)
            have r2 := G2.cell (regOf m.to')
            rw [List.getElem?_map, List.getElem?_eq_getElem (show regOf m.to' < s.r.length by rw [HAT.out.len]; exact hrt)] at r2
            simp only [Option.map_some] at r2
            have fr2 := G2.free (regOf m.to')
            have HC2 := Lib.hid hc2; have HWH := Lib.hid hwh
            clear hc2 hh2 hwh T2 G2 HC e0 e1 e2 e3 e4 e5
            cases hdn : x.done
            · rw [hdn] at HACT
              simp only [Bool.false_eq_true, if_false] at HACT
              have HLL := Lib.hid (show (0 : Nat) < 18446744073709551616 by omega)
              have HT := Lib.hid (HAT.out.told (n := n) (m := m) (last := 0) HC2.out HWH.out HRW.out HRX.out HLL.out)
              by_cases hn : n = 0
              · subst hn
                rw [show errV 0 = Value.nilIface from rfl]
                go_wp2_with fail
                refine (reg_ok _ _).mono ?_
                rintro e w' ⟨rfl, rfl⟩
                go_wp2
                go_roundw
                case rel =>
                  refine ⟨k + 1, _, by omega, by go_num, ?_, HT.out, ?_⟩
                  · rfl
                  · rw [HGO'.out, HACT.out]; rfl
                case measure => simp [intOf]; omega
              · have hfin : body l () round c = (n, c', ()) := by
                  unfold body
                  rw [HGO'.out, HACT.out, if_neg (by simpa [told] using hn)]
                  rfl
                have HFIN := Lib.hid hfin
                rw [show errV n = Value.iface 61 (.int .i64 (n : Int)) from if_neg hn]
                have HEV := Lib.hid (show Value.iface 61 (.int .i64 (n : Int)) = errV n from (if_neg hn).symm)
                clear hfin hn
                go_wp2_with fail
                refine (reg_ok _ _).mono ?_
                rintro e w' ⟨rfl, rfl⟩
                go_wp2
                go_ret
                rw [HFIN.out, HEV.out]
                exact body_end HT.out (Below.refl _ _) HAUX.out HNO.out
            · rw [hdn] at HACT
              simp only [if_true] at HACT
              have HLL := Lib.hid (show (1 : Nat) < 18446744073709551616 by omega)
              have HT := Lib.hid (HAT.out.told (n := n) (m := m) (last := 1) HC2.out HWH.out HRW.out HRX.out HLL.out)
              by_cases hn : n = 0
              · subst hn
                rw [show errV 0 = Value.nilIface from rfl]
                go_wp2_with fail
                refine (reg_ok _ _).mono ?_
                rintro e w' ⟨rfl, rfl⟩
                go_wp2
                go_roundw
                case rel =>
                  refine ⟨k + 1, _, by omega, by go_num, ?_, HT.out, ?_⟩
                  · rfl
                  · rw [HGO'.out, HACT.out]; rfl
                case measure => simp [intOf]; omega
              · have hfin : body l () round c = (n, c', ()) := by
                  unfold body
                  rw [HGO'.out, HACT.out, if_neg (by simpa [told] using hn)]
                  rfl
                have HFIN := Lib.hid hfin
                rw [show errV n = Value.iface 61 (.int .i64 (n : Int)) from if_neg hn]
                have HEV := Lib.hid (show Value.iface 61 (.int .i64 (n : Int)) = errV n from (if_neg hn).symm)
                clear hfin hn
                go_wp2_with fail
                refine (reg_ok _ _).mono ?_
                rintro e w' ⟨rfl, rfl⟩
                go_wp2
                go_ret
                rw [HFIN.out, HEV.out]
                exact body_end HT.out (Below.refl _ _) HAUX.out HNO.out
        · have hact : one round m s = told (access (opAlloc m.i) s.c).1 m s (access (opAlloc m.i) s.c).2.1.ref (access (opAlloc m.i) s.c).2.2 := by
            unfold one act
            rw [if_neg hyes, if_neg hsk, HRF.out, HXX.out]
            simp [hkd]
          have HNO := Lib.hid (access_no HAT.out.ctx.fit (fit_alloc HAT.out.ctx.ok m.i))
          have HFT := Lib.hid (access_fit HAT.out.ctx.fit (fit_alloc HAT.out.ctx.ok m.i))
          have HC := Lib.hid (calloc_ok HCTX.out HG.out m.i)
          obtain ⟨q, hq⟩ : ∃ q, access (opAlloc m.i) s.c = q := ⟨_, rfl⟩
          rw [hq] at hact HNO HFT HC
          have HACT := Lib.hid hact
          rw [hkd] at e0 HC HMC HB1
          clear hact hq hyes hsk hkd
          obtain ⟨n, x, c'⟩ := q
          cases hadd : m.add
          all_goals
            rw [hadd] at e4 HC HMC HB1 HXX
            simp only [Bool.false_eq_true, if_true, if_false] at HXX
            have hw : IntKind.u64.wrap ((m.x : Int) + (s.last : Int)) = (((m.x + s.last) % 18446744073709551616 : Nat) : Int) := by rw [IntKind.wrap_u64]; omega
            first | (with_reducible have hx2 : m.x = xx := HXX.out; rw [← hx2] at HC; clear hx2) | rw [HXX.out] at hw
            clear HXX hadd
            go_wp2_with fail
            refine (reg_ok _ _).mono ?_
            rintro e w' ⟨rfl, rfl⟩
            go_wp2_with fail
            refine HC.out.mono ?_
            rintro e w2 ⟨he, hc2, hh2⟩
            simp only at he hc2
            subst he
            have T2 := HMC.out.heldBy hh2 (by simp)
            obtain ⟨b0, b1, b2, b3, b4, b5, -⟩ := six T2
            have hwh : HeldBy (rb :: (X ++ Q)) wr w2 := HeldBy.trans HB1.out (hh2.less (fun b hb => by simp only [List.mem_cons] at hb ⊢; exact .inr hb))
            have G2 := HAT.out.regs.heldBy hwh (by simp)
            have r2 := G2.cell (regOf m.to')
            rw [List.getElem?_map, List.getElem?_eq_getElem (show regOf m.to' < s.r.length by rw [HAT.out.len]; exact hrt)] at r2
            simp only [Option.map_some] at r2
            have fr2 := G2.free (regOf m.to')
            have HC2 := Lib.hid hc2; have HWH := Lib.hid hwh
            clear hc2 hh2 hwh T2 G2 HC e0 e1 e2 e3 e4 e5
            have HT := Lib.hid (HAT.out.told (n := n) (m := m) (last := x.ref) HC2.out HWH.out HRW.out HRX.out HFT.out.ref)
            by_cases hn : n = 0
            · subst hn
              rw [show errV 0 = Value.nilIface from rfl]
              go_wp2_with fail
              refine (reg_ok _ _).mono ?_
              rintro e w' ⟨rfl, rfl⟩
              go_wp2
              go_roundw
              case rel =>
                refine ⟨k + 1, _, by omega, by go_num, ?_, HT.out, ?_⟩
                · rfl
                · rw [HGO'.out, HACT.out]; rfl
              case measure => simp [intOf]; omega
            · have hfin : body l () round c = (n, c', ()) := by
                unfold body
                rw [HGO'.out, HACT.out, if_neg (by simpa [told] using hn)]
                rfl
              have HFIN := Lib.hid hfin
              rw [show errV n = Value.iface 61 (.int .i64 (n : Int)) from if_neg hn]
              have HEV := Lib.hid (show Value.iface 61 (.int .i64 (n : Int)) = errV n from (if_neg hn).symm)
              clear hfin hn
              go_wp2_with fail
              refine (reg_ok _ _).mono ?_
              rintro e w' ⟨rfl, rfl⟩
              go_wp2
              go_ret
              rw [HFIN.out, HEV.out]
              exact body_end HT.out (Below.refl _ _) HAUX.out HNO.out
        · have hact : one round m s = told (access (opFree rf) s.c).1 m s s.last (access (opFree rf) s.c).2.2 := by
            unfold one act
            rw [if_neg hyes, if_neg hsk, HRF.out, HXX.out]
            simp [hkd]
          have HNO := Lib.hid (access_no HAT.out.ctx.fit (fit_free hrf))
          have HFT := Lib.hid (access_fit HAT.out.ctx.fit (fit_free hrf))
          have HC := Lib.hid (cfree_ok HCTX.out HG.out hrf)
          obtain ⟨q, hq⟩ : ∃ q, access (opFree rf) s.c = q := ⟨_, rfl⟩
          rw [hq] at hact HNO HFT HC
          have HACT := Lib.hid hact
          rw [hkd] at e0 HC HMC HB1
          clear hact hq hyes hsk hkd
          obtain ⟨n, x, c'⟩ := q
          cases hadd : m.add
          all_goals
            rw [hadd] at e4 HC HMC HB1 HXX
            simp only [Bool.false_eq_true, if_true, if_false] at HXX
            have hw : IntKind.u64.wrap ((m.x : Int) + (s.last : Int)) = (((m.x + s.last) % 18446744073709551616 : Nat) : Int) := by rw [IntKind.wrap_u64]; omega
            first | (with_reducible have hx2 : m.x = xx := HXX.out; rw [← hx2] at HC; clear hx2) | rw [HXX.out] at hw
            clear HXX hadd
            go_wp2_with fail
            refine (reg_ok _ _).mono ?_
            rintro e w' ⟨rfl, rfl⟩
            go_wp2_with fail
            refine HC.out.mono ?_
            rintro e w2 ⟨he, hc2, hh2⟩
            simp only at he hc2
            subst he
            have T2 := HMC.out.heldBy hh2 (by simp)
            obtain ⟨b0, b1, b2, b3, b4, b5, -⟩ := six T2
            have hwh : HeldBy (rb :: (X ++ Q)) wr w2 := HeldBy.trans HB1.out (hh2.less (fun b hb => by simp only [List.mem_cons] at hb ⊢; exact .inr hb))
            have G2 := HAT.out.regs.heldBy hwh (by simp)
            have r2 := G2.cell (regOf m.to')
            rw [List.getElem?_map, List.getElem?_eq_getElem (show regOf m.to' < s.r.length by rw [HAT.out.len]; exact hrt)] at r2
            simp only [Option.map_some] at r2
            have fr2 := G2.free (regOf m.to')
            have HC2 := Lib.hid hc2; have HWH := Lib.hid hwh
            clear hc2 hh2 hwh T2 G2 HC e0 e1 e2 e3 e4 e5
            have HT := Lib.hid (HAT.out.told (n := n) (m := m) (last := s.last) HC2.out HWH.out HRW.out HRX.out hls)
            by_cases hn : n = 0
            · subst hn
              rw [show errV 0 = Value.nilIface from rfl]
              go_wp2_with fail
              refine (reg_ok _ _).mono ?_
              rintro e w' ⟨rfl, rfl⟩
              go_wp2
              go_roundw
              case rel =>
                refine ⟨k + 1, _, by omega, by go_num, ?_, HT.out, ?_⟩
                · rfl
                · rw [HGO'.out, HACT.out]; rfl
              case measure => simp [intOf]; omega
            · have hfin : body l () round c = (n, c', ()) := by
                unfold body
                rw [HGO'.out, HACT.out, if_neg (by simpa [told] using hn)]
                rfl
              have HFIN := Lib.hid hfin
              rw [show errV n = Value.iface 61 (.int .i64 (n : Int)) from if_neg hn]
              have HEV := Lib.hid (show Value.iface 61 (.int .i64 (n : Int)) = errV n from (if_neg hn).symm)
              clear hfin hn
              go_wp2_with fail
              refine (reg_ok _ _).mono ?_
              rintro e w' ⟨rfl, rfl⟩
              go_wp2
              go_ret
              rw [HFIN.out, HEV.out]
              exact body_end HT.out (Below.refl _ _) HAUX.out HNO.out
    · obtain rfl : len = k := by omega
      have hge : decide ((len : Int) < (len : Int)) = false := by simp
      have hfin : body l () round c = (0, s.c, ()) := by
        unfold body
        rw [HGO.out, List.drop_eq_nil_of_le (by rw [HLEN.out]; exact Nat.le_refl _)]
        rfl
      have HFIN := Lib.hid hfin
      clear hfin
      go_wp2
      go_ret
      rw [HFIN.out]
      exact body_end HAT.out (Below.refl _ _) HAUX.out (by omega)
theorem ef_body (args : Array Value) (w : World) : (callFunc 23 args).run Tryz.prog w = .ok (.enter 23 args) w := enters_of Tryz.func23 (by kernel_rfl) rfl args w
/-- A small program is a body. -/
theorem micro_body {W : World} (hg : Handle W) (pa pb bp : Nat) (l : List Micro) : BodyOk W pa pb 23 #[.pointer (some ⟨bp, 0, none⟩)] (prgAux W bp l) (body l) where
  enters := ef_body
  does := fun _ _ _ _ _ _ _ ha hc _ _ => body1_ok l hg ha hc
end Go.Proofs.YtfehonejcambgaaGreatDoor
