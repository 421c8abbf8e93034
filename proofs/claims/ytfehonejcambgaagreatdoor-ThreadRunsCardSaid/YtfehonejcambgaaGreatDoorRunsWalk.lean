/- ThreadRuns: the walk, whole. -/
import Derived.Test.YtfehonejcambgaaGreatDoorRuns
import Derived.Outline
namespace Go.Proofs.YtfehonejcambgaaGreatDoor
open Go.RowKit Bl Th
set_option maxRecDepth 100000

def thrO (pb f : Nat) (caps : Array Value) : Obj := .cells #[.pointer (some ⟨pb, 0, none⟩), .func (.func f) #[] caps, .slice none 0 0, .int .i64 0, .int .i64 0, .bool false, .nilIface] 58
theorem thr_start {W wr : World} (pb : Nat) (A : Aux Unit) {Q : List Nat} (hq : A.at' () Q wr) (hQ : ∀ b ∈ Q, b < wr.heap.size) (hW : W.heap.size ≤ wr.heap.size) (f : Nat) (caps : Array Value) :
    Thr W pb wr.heap.size (.func (.func f) #[] caps) A (Th.start ()) (wr.heap.size :: Q) (wr.alloc (thrO pb f caps)) := by
  have hB := (Below.refl wr.heap.size wr).alloc (Nat.le_refl _) (thrO pb f caps)
  refine ⟨.slice none 0 0, .nilIface, [], Q, rfl, Cells.new wr _ _, World.ownsRow_nil _ _ _ _, .none, A.loc _ _ _ _ hq (HeldBy.of_below hB hQ), fun hm => ?_, by simp [Value.ownBlock], hW, by simp [Th.start], by simp [Th.start], by simp [Th.start], fun _ => rfl⟩
  have := hQ _ (by simpa [Value.ownBlock] using hm); omega
theorem tnew_at (pb f : Nat) (caps : Array Value) (wr : World) :
    Calls Tryz.prog 7 #[.pointer (some ⟨pb, 0, none⟩), .func (.func f) #[] caps] wr fun e w' => e = .returned (.pointer (some ⟨wr.heap.size, 0, none⟩)) ∧ wr.alloc (thrO pb f caps) = w' := by
  have hn : ∀ w, (binOp .eql 33 (.func (.func f) #[] caps) .nilFunc).run Tryz.prog w = .ok (.bool false) w := fun _ => by kernel_rfl
  go_enter Tryz.func7, Tryz.ntmps7
  go_wp2
  go_ret
  exact ⟨rfl, rfl⟩

theorem in_ten (x : Int) : ∃ N : Nat, N ≤ 9 ∧ (wrap64 (x.tmod 10 + 10)).tmod 10 = (N : Int) := by
  have h1 : -10 < x.tmod 10 := Int.lt_tmod_of_pos x (by decide)
  have h2 : x.tmod 10 < 10 := Int.tmod_lt_of_pos x (by decide)
  have e1 : wrap64 (x.tmod 10 + 10) = x.tmod 10 + 10 := IntWalk.wrap64_in _ (by omega)
  rw [e1]
  have h3 : 0 ≤ (x.tmod 10 + 10).tmod 10 := Int.tmod_nonneg _ (by omega)
  have h4 : (x.tmod 10 + 10).tmod 10 < 10 := Int.tmod_lt_of_pos _ (by decide)
  exact ⟨((x.tmod 10 + 10).tmod 10).toNat, by omega, by omega⟩
def tenOf (x : Int) : Nat := ((x.tmod 10 + 10).tmod 10).toNat

def rS : BS := ⟨List.replicate 300 0, 1, [], []⟩

/-- What is so behind New of both threads. -/
structure Set2 (w : World) (l : List Micro) (pa pb pc pd b1 pt b2 pu : Nat) (w7 : World) : Prop where
  thr : Thr w pb pt (.func (.func 23) #[] #[.pointer (some ⟨b1, 0, none⟩)]) (prgAux w b1 l) (Th.start ()) (pt :: [b1]) w7
  two : ∃ L, L.pa = pc ∧ Idle w pd pu (.func (.func 23) #[] #[.pointer (some ⟨b2, 0, none⟩)]) (prgAux w b2 l) (Th.start ()) rS L (pu :: [b2]) w7 ∧
    Held w ((pt :: [b1]) ++ ((pu :: [b2]) ++ L.all pd)) pa pb rS w7 ∧ ∀ b ∈ pt :: [b1], b ∉ (pu :: [b2]) ++ L.all pd
theorem set2 {w w1 w2 : World} {l : List Micro} {v : Value} {pa pb pc pd : Nat} (h1 : Held w [] pa pb rS w1) (h2 : Held w1 [] pc pd rS w2) (hp : ∀ wr Q, Prg w wr v Q l) (o3 : Obj) (t : TypeId) :
    Set2 w l pa pb pc pd (w2.heap.size + 1) (w2.heap.size + 1 + 1) (w2.heap.size + 1 + 1 + 1) (w2.heap.size + 1 + 1 + 1 + 1)
      (((((w2.alloc o3).alloc (.cells #[v] t)).alloc (thrO pb 23 #[.pointer (some ⟨w2.heap.size + 1, 0, none⟩)])).alloc (.cells #[v] t)).alloc (thrO pd 23 #[.pointer (some ⟨w2.heap.size + 1 + 1 + 1, 0, none⟩)])) := by
  have s1 := h1.below.size
  have s2 := h2.below.size
  obtain ⟨w3, hw3⟩ : ∃ w3 : World, w2.alloc o3 = w3 := ⟨_, rfl⟩
  have z3 : w3.heap.size = w2.heap.size + 1 := by rw [← hw3]; simp
  have b3 : Below w2.heap.size w2 w3 := hw3 ▸ (Below.refl _ _).alloc (Nat.le_refl _) _
  rw [hw3]
  obtain ⟨w4, hw4⟩ : ∃ w4 : World, w3.alloc (.cells #[v] t) = w4 := ⟨_, rfl⟩
  have z4 : w4.heap.size = w2.heap.size + 1 + 1 := by rw [← hw4]; simp [z3]
  have b4 : Below w2.heap.size w2 w4 := hw4 ▸ b3.alloc (by omega) _
  have c4 : Cells w4 (w2.heap.size + 1) [v] t := by have := Cells.new w3 [v] t; rw [z3] at this; rw [← hw4]; exact this
  rw [hw4]
  have t5 := thr_start (W := w) (wr := w4) pb (prgAux w (w2.heap.size + 1) l) (Q := [w2.heap.size + 1]) ⟨by simp, v, c4.cell 0, hp _ _⟩ (by simp [z4]) (by omega) 23 #[.pointer (some ⟨w2.heap.size + 1, 0, none⟩)]
  rw [z4] at t5
  obtain ⟨w5, hw5⟩ : ∃ w5 : World, w4.alloc (thrO pb 23 #[.pointer (some ⟨w2.heap.size + 1, 0, none⟩)]) = w5 := ⟨_, rfl⟩
  have z5 : w5.heap.size = w2.heap.size + 1 + 1 + 1 := by rw [← hw5]; simp [z4]
  have b5 : Below w2.heap.size w2 w5 := hw5 ▸ b4.alloc (by omega) _
  rw [hw5] at t5 ⊢
  obtain ⟨w6, hw6⟩ : ∃ w6 : World, w5.alloc (.cells #[v] t) = w6 := ⟨_, rfl⟩
  have z6 : w6.heap.size = w2.heap.size + 1 + 1 + 1 + 1 := by rw [← hw6]; simp [z5]
  have b6 : Below w2.heap.size w2 w6 := hw6 ▸ b5.alloc (by omega) _
  have c6 : Cells w6 (w2.heap.size + 1 + 1 + 1) [v] t := by have := Cells.new w5 [v] t; rw [z5] at this; rw [← hw6]; exact this
  have b56 : Below w5.heap.size w5 w6 := hw6 ▸ (Below.refl _ _).alloc (Nat.le_refl _) _
  rw [hw6]
  have t7 := thr_start (W := w) (wr := w6) pd (prgAux w (w2.heap.size + 1 + 1 + 1) l) (Q := [w2.heap.size + 1 + 1 + 1]) ⟨by simp, v, c6.cell 0, hp _ _⟩ (by simp [z6]) (by omega) 23 #[.pointer (some ⟨w2.heap.size + 1 + 1 + 1, 0, none⟩)]
  rw [z6] at t7
  obtain ⟨w7, hw7⟩ : ∃ w7 : World, w6.alloc (thrO pd 23 #[.pointer (some ⟨w2.heap.size + 1 + 1 + 1, 0, none⟩)]) = w7 := ⟨_, rfl⟩
  have z7 : w7.heap.size = w2.heap.size + 1 + 1 + 1 + 1 + 1 := by rw [← hw7]; simp [z6]
  have b7 : Below w2.heap.size w2 w7 := hw7 ▸ b6.alloc (by omega) _
  have b57 : Below w5.heap.size w5 w7 := hw7 ▸ b56.alloc (by omega) _
  rw [hw7] at t7 ⊢
  obtain ⟨L, hL, hr, hn⟩ := h2.lay
  have lt := hr.lt
  refine ⟨t5.heldBy (HeldBy.of_below b57 (R := [w2.heap.size + 1 + 1, w2.heap.size + 1]) (by simp [z5])) (fun _ h => h), L, hL, ⟨hr.below b7, h2.uniq, t7, fun b hb => ?_⟩, ?_, ?_⟩
  · have := lt b hb
    have := (hn b hb).1
    refine ⟨by omega, ?_⟩
    simp; omega
  · refine (h1.came (h2.below.trans (b7.mono s2)) (((w2.heap.size + 1 + 1) :: [w2.heap.size + 1]) ++ (((w2.heap.size + 1 + 1 + 1 + 1) :: [w2.heap.size + 1 + 1 + 1]) ++ L.all pd)) fun b hb => ?_).less (fun b hb => by simpa using hb)
    simp only [List.mem_append, List.mem_cons, List.not_mem_nil, or_false] at hb
    rcases hb with (rfl | rfl) | (rfl | rfl) | e
    · omega
    · omega
    · omega
    · omega
    · have := lt b e
      have := (hn b e).1
      omega
  · intro b hb hm
    simp only [List.mem_append, List.mem_cons, List.not_mem_nil, or_false] at hb hm
    rcases hm with e | e
    · omega
    · have := lt b e; omega

/-- Portions that were run. -/
structure Porting (w : World) (l : List Micro) (pa pb b1 pt : Nat) (R : List Nat) (qs : List Nat) (k : Nat) (w7 : World) (B : List Nat) (t : TS Unit) (S : BS) (wr : World) : Prop where
  thr : Thr w pb pt (.func (.func 23) #[] #[.pointer (some ⟨b1, 0, none⟩)]) (prgAux w b1 l) t B wr
  held : Held w (B ++ R) pa pb S wr
  by' : HeldBy R w7 wr
  apart : ∀ b ∈ B, b ∉ R
  port : portions (body l) (qs.take k) (Th.start (), rS) = (t, S)
  steps : t.steps ≤ 9 * k
theorem run_steps {σ : Type} (F : Prog σ) : ∀ (n : Nat) (s : Nat × TS σ × BS), (Th.run F n s).2.1.steps ≤ s.2.1.steps + n
  | 0, s => Nat.le_refl _
  | n + 1, s => by
    unfold Th.run
    split
    · omega
    · have := run_steps F n (Th.step F s.2.1 s.2.2)
      have := step_steps F s.2.1 s.2.2
      omega
theorem Porting.next {w : World} {l : List Micro} {pa pb b1 pt : Nat} {R qs : List Nat} {k n : Nat} {w7 wr w' : World} {B : List Nat} {t : TS Unit} {S : BS} {e : Ending} (h : Porting w l pa pb b1 pt R qs k w7 B t S wr) (hq : qs[k]? = some n) (hn : n ≤ 9)
    (hs : StepPost w R pa pb pt (.func (.func 23) #[] #[.pointer (some ⟨b1, 0, none⟩)]) (prgAux w b1 l) wr (Th.run (body l) n (t.err, t, S)) e w') : ∃ v B' t' S', e = .returned v ∧ (v = .nilIface ∨ ∃ a b, v = .iface a b) ∧ Porting w l pa pb b1 pt R qs (k + 1) w7 B' t' S' w' := by
  obtain ⟨v, E, B', rfl, he, ht, hh, hx, _, ha⟩ := hs
  refine ⟨v, B', _, _, rfl, he.shape, ht, hh, HeldBy.trans h.by' hx, ha, ?_, ?_⟩
  · have hk : k < qs.length := (List.getElem?_eq_some_iff.1 hq).1
    have e1 : qs.take (k + 1) = qs.take k ++ [n] := by
      rw [List.take_succ_eq_append_getElem hk]
      rw [List.getElem?_eq_getElem hk] at hq
      rw [Option.some.inj hq]
    rw [e1, portions_snoc, h.port]
  · have := run_steps (body l) n (t.err, t, S)
    have := h.steps
    simp only at *
    omega

theorem ten_eq (x : Int) : (wrap64 (x.tmod 10 + 10)).tmod 10 = (tenOf x : Int) ∧ tenOf x ≤ 9 := by
  have h1 : -10 < x.tmod 10 := Int.lt_tmod_of_pos x (by decide)
  have h2 : x.tmod 10 < 10 := Int.tmod_lt_of_pos x (by decide)
  have e1 : wrap64 (x.tmod 10 + 10) = x.tmod 10 + 10 := IntWalk.wrap64_in _ (by omega)
  rw [e1]
  have h3 : 0 ≤ (x.tmod 10 + 10).tmod 10 := Int.tmod_nonneg _ (by omega)
  have h4 : (x.tmod 10 + 10).tmod 10 < 10 := Int.tmod_lt_of_pos _ (by decide)
  unfold tenOf
  omega
/-- Both threads at their ends, and both blocks. -/
structure Fin2 (w : World) (l : List Micro) (pb pt b1 pd pu b2 : Nat) (T : TS Unit) (S : BS) (Bt Bu : List Nat) (L0 L1 : Lay) (wr : World) : Prop where
  t : Thr w pb pt (.func (.func 23) #[] #[.pointer (some ⟨b1, 0, none⟩)]) (prgAux w b1 l) T Bt wr
  u : Thr w pd pu (.func (.func 23) #[] #[.pointer (some ⟨b2, 0, none⟩)]) (prgAux w b2 l) T Bu wr
  rb : Rep wr pb L0 S
  rd : Rep wr pd L1 S
  uniq : Uniq S
  below : Below w.heap.size w wr
  lt : ∀ b ∈ Bt ++ Bu, b < wr.heap.size
theorem Fin2.later {w : World} {l : List Micro} {pb pt b1 pd pu b2 : Nat} {T : TS Unit} {S : BS} {Bt Bu : List Nat} {L0 L1 : Lay} {wr w' : World} (h : Fin2 w l pb pt b1 pd pu b2 T S Bt Bu L0 L1 wr) (hb : Below wr.heap.size wr w') : Fin2 w l pb pt b1 pd pu b2 T S Bt Bu L0 L1 w' := by
  have hh : HeldBy (Bt ++ Bu) wr w' := HeldBy.of_below hb h.lt
  exact ⟨h.t.heldBy hh (fun b hm => by simp [hm]), h.u.heldBy hh (fun b hm => by simp [hm]), h.rb.below hb, h.rd.below hb, h.uniq, h.below.trans (hb.mono h.below.size), fun b hm => Nat.lt_of_lt_of_le (h.lt b hm) hb.size⟩
theorem Err.later {w w' : World} {v : Value} {n : Nat} {E : List Nat} (h : Err w v n E) (hb : Below w.heap.size w w') : Err w' v n E := h.heldBy (HeldBy.of_below hb h.lt) (fun _ h => h)
theorem thr_few {σ : Type} {W : World} {pb pt : Nat} {fv : Value} {A : Aux σ} {t : TS σ} {B : List Nat} {w : World} (h : Thr W pb pt fv A t B w) : t.log.length ≤ 6000 := by
  obtain ⟨lv, ev, E, Q, rfl, h⟩ := h
  exact h.few

set_option maxHeartbeats 8000000 in
theorem threadRuns_ok (v v2 : Value) (l : List Micro) (ns : List Int) (w : World) (hg : Handle w) (hp : ∀ wr Q, Prg w wr v Q l) (hv2 : Came w v2 (ns.map (.int .i64))) :
    Calls Tryz.prog 3 #[v, v2] w fun e w' => e = .returned (.bool true) ∧ Below w.heap.size w w' := by
  have HG := Lib.hid hg
  have hgl := Lib.hid hg.lt
  have HP := Lib.hid hp
  have HV2 := Lib.hid hv2
  obtain ⟨p, cap, hv, _⟩ := (hp w []).shape
  have hfew : l.length ≤ 9223372036854775807 := (hp w []).few
  subst hv
  obtain ⟨p2, cap2, hv, hns⟩ := hv2.shape
  rw [List.length_map] at hv hns
  subst hv
  have hns' : ns.length ≤ 9223372036854775807 := hns
  obtain ⟨len, hlen⟩ : ∃ len, l.length = len := ⟨_, rfl⟩
  obtain ⟨nn, hnn⟩ : ∃ nn, ns.length = nn := ⟨_, rfl⟩
  rw [hlen] at hfew
  rw [hnn] at hns'
  have HLEN := Lib.hid hlen; have HNN := Lib.hid hnn
  rw [hlen, hnn]
  clear hg hp hv2 hns hlen hnn
  go_enter Tryz.func3, Tryz.ntmps3
  go_wp2_with fail
  refine (on_held 300 1 (by omega) (by omega) (by omega) w).mono ?_
  rintro e w1 ⟨pa, pb, rfl, h1⟩
  have H1 := Lib.hid (show Held w [] pa pb rS w1 from h1)
  clear h1
  go_wp2_with fail
  refine (on_held 300 1 (by omega) (by omega) (by omega) w1).mono ?_
  rintro e w2 ⟨pc, pd, rfl, h2⟩
  have H2 := Lib.hid (show Held w1 [] pc pd rS w2 from h2)
  clear h2
  have hB3 := Lib.hid (show Below w.heap.size w (w2.alloc (.cells #[.slice p len cap] 22)) from (H1.out.below.trans (H2.out.below.mono H1.out.below.size)).alloc (Nat.le_trans H1.out.below.size H2.out.below.size) _)
  have c3 : (w2.alloc (.cells #[.slice p len cap] 22)).cell? ⟨w2.heap.size, 0, none⟩ = some (.slice p len cap) := (Cells.new w2 [.slice p len cap] 22).cell 0
  by_cases hf : len ≤ 20
  · have HF1 := Lib.hid (few_one w2.heap.size p len cap _ hf c3)
    clear c3
    by_cases h30 : nn ≤ 30
    · have g30 : decide ((30 : Int) < (nn : Int)) = false := by simp; omega
      have HS := Lib.hid (set2 H1.out H2.out (v := .slice p len cap) (fun wr Q => by have := HP.out wr Q; rw [HLEN.out] at this; exact this) (.cells #[.slice p len cap] 22) 22)
      go_wp2_with fail
      refine HF1.out.mono ?_
      rintro e w' ⟨rfl, rfl⟩
      go_wp2_with fail
      refine (body_ok _ ⟨_, _, _, rfl⟩ _).mono ?_
      rintro e w4 ⟨rfl, rfl⟩
      rw [World.size_alloc]
      go_wp2_with fail
      refine (tnew_at _ _ _ _).mono ?_
      rintro e w5 ⟨rfl, rfl⟩
      simp only [World.size_alloc]
      go_wp2_with fail
      refine (body_ok _ ⟨_, _, _, rfl⟩ _).mono ?_
      rintro e w6 ⟨rfl, rfl⟩
      simp only [World.size_alloc]
      go_wp2_with fail
      refine (tnew_at _ _ _ _).mono ?_
      rintro e w7 ⟨rfl, rfl⟩
      simp only [World.size_alloc]
      obtain ⟨w7, hw7⟩ : ∃ w7 : World, (((((w2.alloc (.cells #[.slice p len cap] 22)).alloc (.cells #[.slice p len cap] 22)).alloc (thrO pb 23 #[.pointer (some ⟨w2.heap.size + 1, 0, none⟩)])).alloc (.cells #[.slice p len cap] 22)).alloc (thrO pd 23 #[.pointer (some ⟨w2.heap.size + 1 + 1 + 1, 0, none⟩)])) = w7 := ⟨_, rfl⟩
      rw [hw7] at HS ⊢
      obtain ⟨b1, hb1⟩ : ∃ b1, w2.heap.size + 1 = b1 := ⟨_, rfl⟩
      obtain ⟨pt, hpt⟩ : ∃ pt, w2.heap.size + 1 + 1 = pt := ⟨_, rfl⟩
      obtain ⟨b2, hb2⟩ : ∃ b2, w2.heap.size + 1 + 1 + 1 = b2 := ⟨_, rfl⟩
      obtain ⟨pu, hpu⟩ : ∃ pu, w2.heap.size + 1 + 1 + 1 + 1 = pu := ⟨_, rfl⟩
      rw [hpu, hb2, hpt, hb1] at HS
      simp only [hpu]
      simp only [hb2]
      simp only [hpt]
      simp only [hb1]
      clear hw7 hpu hb2 hpt hb1 HF1 H1 H2 hB3
      obtain ⟨thr0, L, hLp, hidle, hheld, hap⟩ := HS.out
      have HID := Lib.hid hidle
      have HP0 := Lib.hid (show Porting w l pa pb b1 pt ((pu :: [b2]) ++ L.all pd) (ns.map tenOf) 0 w7 (pt :: [b1]) (Th.start ()) rS w7 from ⟨thr0, hheld, HeldBy.refl _ _, hap, rfl, Nat.le_refl _⟩)
      have HBT := Lib.hid (micro_body HG.out pa pb b1 l)
      have HBU := Lib.hid (micro_body HG.out pc pd b2 l)
      have HLP := Lib.hid hLp
      clear thr0 hLp hidle hheld hap HS
      obtain ⟨R, hR⟩ : ∃ R, (pu :: [b2]) ++ L.all pd = R := ⟨_, rfl⟩
      rw [hR] at HP0
      have HRR := Lib.hid hR
      clear hR
      go_wp2
      go_loopw [65] (fun i wr => ∃ (k : Nat) (B : List Nat) (t : TS Unit) (S : BS), k ≤ nn ∧ i = .int .i64 (k : Int) ∧ Porting w l pa pb b1 pt R (ns.map tenOf) k w7 B t S wr) (fun i _ => nn - (intOf i).toNat)
      case atStart => exact ⟨0, _, _, _, Nat.zero_le _, rfl, HP0.out⟩
      case round =>
        obtain ⟨k, B, t, S, hk, rfl, hpo⟩ := hrel
        have HPO := Lib.hid hpo
        clear hpo HP0
        by_cases hlt : k < nn
        · obtain ⟨x, hx⟩ : ∃ x, ns[k]? = some x := ⟨ns[k]'(by rw [HNN.out]; exact hlt), List.getElem?_eq_getElem _⟩
          obtain ⟨a, rfl, hcell⟩ := HV2.out.cell HPO.out.held.below (i := k) (x := .int .i64 x) (by rw [List.getElem?_map, hx]; rfl)
          obtain ⟨t1, t2⟩ := ten_eq x
          have HQ := Lib.hid (show (ns.map tenOf)[k]? = some (tenOf x) by rw [List.getElem?_map, hx]; rfl)
          have HRN := Lib.hid (trun_ok HBT.out HPO.out.thr HPO.out.held HPO.out.apart (tenOf x) (by have := HPO.out.steps; omega))
          have HT1 := Lib.hid t1
          have hlt' : (k : Int) < (nn : Int) := by omega
          clear hx t1
          go_wp2_with fail
          rw [HT1.out]
          refine HRN.out.mono ?_
          rintro e w8 hs8
          obtain ⟨v8, B8, t8, S8, rfl, hv8, hp8⟩ := HPO.out.next HQ.out t2 hs8
          have HP8 := Lib.hid hp8
          clear hs8 hp8 hv8 HRN
          go_wp2
          go_roundw
          case rel => exact ⟨k + 1, B8, t8, S8, by omega, by go_num, HP8.out⟩
          case measure => simp [intOf]; omega
        · obtain rfl : nn = k := by omega
          have hge : decide ((nn : Int) < (nn : Int)) = false := by simp
          have hport : portions (body l) (ns.map tenOf) (Th.start (), rS) = (t, S) := by
            have := HPO.out.port
            rwa [List.take_of_length_le (by rw [List.length_map, HNN.out]; exact Nat.le_refl _)] at this
          have hsame := runs_same (p := l) (by rw [HLEN.out]; exact hf) (ns.map tenOf) rS
          simp only [hport] at hsame
          obtain ⟨s1, s2, s3, s4⟩ := hsame
          have HRA := Lib.hid (trun_ok HBT.out HPO.out.thr HPO.out.held HPO.out.apart 2000 (by have := HPO.out.steps; omega))
          obtain ⟨ra, hra⟩ : ∃ ra, Th.run (body l) 2000 (t.err, t, S) = ra := ⟨_, rfl⟩
          obtain ⟨rb, hrb⟩ : ∃ rb, Th.run (body l) 2000 ((Th.start () : TS Unit).err, Th.start (), rS) = rb := ⟨_, rfl⟩
          rw [hra] at HRA s1 s2 s3
          rw [hrb] at s1 s4
          obtain ⟨ea, T, SF⟩ := ra
          obtain ⟨eb, T2, SF2⟩ := rb
          simp only [Prod.mk.injEq] at s1 s2 s3 s4
          obtain ⟨rfl, rfl⟩ := s1
          subst s3 s4
          have HDN := Lib.hid s2
          have HRBE := Lib.hid hrb
          clear s2 hra hrb hport
          go_wp2_with fail
          refine HRA.out.mono ?_
          rintro e wA ⟨va, Ea, Bt, rfl, hea, hta, hha, hxa, hEa, hapa⟩
          have hidA := HID.out.heldBy (R := R) (HeldBy.trans HPO.out.by' hxa) (fun b hb => by rw [← HRR.out]; exact hb)
          obtain ⟨L0, hidT, hheldU, hapU⟩ := idle_turn hidA hta (by rw [HRR.out]; exact hha) (by rw [HRR.out]; exact hapa)
          rw [HLP.out] at hheldU
          have HRU := Lib.hid (trun_ok HBU.out hidA.thr hheldU hapU 2000 (by simp [Th.start]))
          rw [HRBE.out] at HRU
          have HIT := Lib.hid hidT
          have HEA := Lib.hid hea
          have HEB := Lib.hid hEa
          clear hea hta hha hxa hEa hapa hidA hidT hheldU hapU HRA HRBE HPO HID
          go_wp2_with fail
          refine HRU.out.mono ?_
          rintro e wB ⟨vb, Eb, Bu, rfl, heb, htb, hhb, hxb, hEb, hapb⟩
          have hitB := HIT.out.heldBy (R := Bt ++ L0.all pb) hxb (fun _ h => h)
          obtain ⟨L1, _, hr1, _⟩ := hhb.lay
          have FB := Lib.hid (show Fin2 w l pb pt b1 pd pu b2 T SF Bt Bu L0 L1 wB from ⟨hitB.thr, htb, hitB.rep, hr1, hitB.uniq, hhb.below, fun b hb => hhb.held b (by
            rcases List.mem_append.1 hb with e | e
            · simp [e]
            · simp [e])⟩)
          have HEA2 := Lib.hid (HEA.out.heldBy hxb (fun b hb => by simp [HEB.out b hb]))
          have HEB2 := Lib.hid heb
          clear heb htb hhb hxb hEb hapb hitB hr1 HRU HIT HEA HEB
          go_wp2_with fail
          refine (no_any HEA2.out).mono ?_
          rintro e w' ⟨rfl, rfl⟩
          go_wp2_with fail
          refine (no_any HEB2.out).mono ?_
          rintro e w' ⟨rfl, rfl⟩
          have HD1 := Lib.hid (tdone_ok FB.out.t)
          have HD2 := Lib.hid (tdone_ok FB.out.u)
          rw [HDN.out] at HD1 HD2
          have gq1 : ((T.err : Int) == (T.err : Int)) = true := by simp
          have gq2 : (T.err == T.err) = true := by simp
          go_wp2_with fail
          refine HD1.out.mono ?_
          rintro e w' ⟨rfl, rfl⟩
          go_wp2_with fail
          refine HD2.out.mono ?_
          rintro e w' ⟨rfl, rfl⟩
          go_wp2_with fail
          refine (terr_ok FB.out.t).mono ?_
          rintro e w' ⟨⟨ev, E3, rfl, he3, _⟩, rfl⟩
          have HE3 := Lib.hid he3
          clear he3
          go_wp2_with fail
          refine (no_any HE3.out).mono ?_
          rintro e w' ⟨rfl, rfl⟩
          go_wp2_with fail
          refine (no_any HEA2.out).mono ?_
          rintro e w' ⟨rfl, rfl⟩
          go_wp2_with fail
          refine (tlog_ok FB.out.t).mono ?_
          rintro e w10 ⟨v10, rfl, ho10, hb10⟩
          have F10 := Lib.hid (FB.out.later hb10)
          have HO10 := Lib.hid ho10
          obtain ⟨q10, c10, hv10⟩ := ownsRow_shape ho10
          subst hv10
          clear ho10 hb10
          go_wp2_with fail
          refine (tlog_ok F10.out.u).mono ?_
          rintro e w11 ⟨v11, rfl, ho11, hb11⟩
          have F11 := Lib.hid (F10.out.later hb11)
          have HSL := Lib.hid (sameLog_ok (ownsRow_kept HO10.out (Kept.of_below hb11) (fun b hb => by have := (HO10.out.lt b hb).2; omega)) ho11 (thr_few F10.out.u))
          obtain ⟨q11, c11, hv11⟩ := ownsRow_shape ho11
          subst hv11
          clear ho11 hb11
          go_wp2_with fail
          refine HSL.out.mono ?_
          rintro e w12 ⟨rfl, hb12⟩
          have F12 := Lib.hid (F11.out.later hb12)
          clear hb12 HSL
          go_wp2_with fail
          refine (tsteps_ok F12.out.t).mono ?_
          rintro e w' ⟨rfl, rfl⟩
          go_wp2_with fail
          refine (tsteps_ok F12.out.u).mono ?_
          rintro e w' ⟨rfl, rfl⟩
          have gs1 : ((T.steps : Int) == (T.steps : Int)) = true := by simp
          have gs2 : (T.steps == T.steps) = true := by simp
          go_wp2_with fail
          refine (tround_ok F12.out.t).mono ?_
          rintro e w' ⟨rfl, rfl⟩
          go_wp2_with fail
          refine (tround_ok F12.out.u).mono ?_
          rintro e w' ⟨rfl, rfl⟩
          have gr1 : ((T.round : Int) == (T.round : Int)) = true := by simp
          have gr2 : (T.round == T.round) = true := by simp
          go_wp2_with fail
          refine (live_oks F12.out.rb F12.out.uniq).mono ?_
          rintro e w13 ⟨p13, c13, l13, rfl, hpm13, hb13, hc13, has13⟩
          have F13 := Lib.hid (F12.out.later hb13)
          have HC13 := Lib.hid hc13; have HPM := Lib.hid hpm13; have HAS := Lib.hid has13
          clear hb13 hc13 hpm13 has13
          go_wp2_with fail
          refine (live_oks F13.out.rd F13.out.uniq).mono ?_
          rintro e w14 ⟨p14, c14, l14, rfl, hpm14, hb14, hc14, has14⟩
          have F14 := Lib.hid (F13.out.later hb14)
          have hll : l13 = l14 := asc_eq F13.out.rb.ok F13.out.uniq HPM.out hpm14 HAS.out has14
          subst hll
          have HSR := Lib.hid (sameRefs_ok (w := w14) (p1 := p13) (p2 := p14) (c1 := c13) (c2 := c14) (l := l13) (fun j r hj => by
            obtain ⟨g, h1, h2⟩ := HC13.out j r hj
            exact ⟨g, h1, (hb14.cell (p := ⟨g, j, none⟩) (World.block_lt_of_cell? w13 _ h2)).trans h2⟩) hc14 (by
            have h1 := HPM.out.length_eq
            have h2 := live_len F13.out.rb.ok F13.out.uniq
            omega))
          clear hb14 hc14 hpm14 has14
          go_wp2_with fail
          refine HSR.out.mono ?_
          rintro e w15 ⟨rfl, hb15⟩
          have F15 := Lib.hid (F14.out.later hb15)
          clear hb15 HSR
          go_wp2_with fail
          refine (alive5_ok _ (HG.out.below hgl.out F15.out.below)).mono ?_
          rintro e w16 ⟨rfl, hb16⟩
          have H16 := Lib.hid (F15.out.below.trans (hb16.mono F15.out.below.size))
          clear hb16
          go_wp2
          go_ret
          exact ⟨rfl, H16.out⟩
    · have g30 : decide ((30 : Int) < (nn : Int)) = true := by simp; omega
      go_wp2_with fail
      refine HF1.out.mono ?_
      rintro e w' ⟨rfl, rfl⟩
      go_wp2_with fail
      refine (alive5_ok _ (HG.out.below hgl.out hB3.out)).mono ?_
      rintro e w8 ⟨rfl, hb⟩
      have H8 := Lib.hid (hB3.out.trans (hb.mono hB3.out.size))
      clear hb
      go_wp2
      go_ret
      exact ⟨rfl, H8.out⟩
  · have HF1 := Lib.hid (few_not w2.heap.size p len cap _ hf hfew c3)
    clear c3
    go_wp2_with fail
    refine HF1.out.mono ?_
    rintro e w' ⟨rfl, rfl⟩
    go_wp2_with fail
    refine (alive5_ok _ (HG.out.below hgl.out hB3.out)).mono ?_
    rintro e w8 ⟨rfl, hb⟩
    have H8 := Lib.hid (hB3.out.trans (hb.mono hB3.out.size))
    clear hb
    go_wp2
    go_ret
    exact ⟨rfl, H8.out⟩
end Go.Proofs.YtfehonejcambgaaGreatDoor
