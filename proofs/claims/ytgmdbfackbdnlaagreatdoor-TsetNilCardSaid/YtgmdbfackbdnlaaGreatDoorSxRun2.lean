/- SxRun2: SxRun, SxRun2. -/
import Derived.Test.YtgmdbfackbdnlaaGreatDoorSxPrim

/- The executor: a thread's Run. -/
namespace Go.Proofs.YtgmdbfackbdnlaaGreatDoor
open Go.RowKit Bl Th Go.Sx
set_option maxRecDepth 10000

theorem fresh_some {ib : Nat} {E : Env} {o : SObj} {f : FuncId} {caps : List Value} (h : fresh ib E o = some (f, caps)) : ∃ c, o = .row 7 c none E.thrT false false ∧ c.get? 0 = some (pv ib) ∧ c.get? 1 = some (.func (.func f) ⟨[]⟩ ⟨caps⟩) ∧ c.get? 2 = some (.slice none 0 0) ∧ c.get? 3 = some (.int .i64 (.ofNat 0)) ∧ c.get? 4 = some (.int .i64 (.ofNat 0)) ∧ c.get? 5 = some (.bool false) ∧ c.get? 6 = some .nilIface := by
  unfold fresh at h
  split at h
  · rename_i c e
    split at h
    · rename_i i f' caps' e1 e2 e3 e4 e5 e6 e7 e8
      split at h
      · rename_i hi
        cases h
        have hi : i = ib := Nat.eq_of_beq_eq_true hi
        have he : e = E.thrT := Nat.eq_of_beq_eq_true e1
        subst hi; subst he
        exact ⟨c, rfl, e2, e3, e4, e5, e6, e7, e8⟩
      · cases h
    · cases h
  · cases h
theorem cellAt_get {n : Nat} {c : Tr Value} {d : Option Value} {i : Nat} {v : Value} (hi : i < n) (h : c.get? i = some v) : cellAt n c d i = some v := by
  unfold cellAt
  rw [show Nat.blt i n = true by rw [Nat.blt_eq]; exact hi, h]
  rfl
theorem list7 : ∀ {l : List Value}, l.length = 7 → ∃ a0 a1 a2 a3 a4 a5 a6, l = [a0, a1, a2, a3, a4, a5, a6]
  | [a0, a1, a2, a3, a4, a5, a6], _ => ⟨a0, a1, a2, a3, a4, a5, a6, rfl⟩
/-- What is hinted. -/
def HintOk (m : Mem) (m' : Mem) (hs : List Nat) : Prop := ∀ i ∈ hs, ∃ n c d e c' d', m.tr.get? i = some (.row n c d e false false) ∧ m'.tr.get? i = some (.row n c' d' e false false)
theorem stillO_some {a b : SObj} (h : stillO a b = true) : ∃ n c d e c' d', a = .row n c d e false false ∧ b = .row n c' d' e false false := by
  unfold stillO at h
  split at h
  · rename_i n c d e n' c' d' e'
    rw [Bool.and_eq_true] at h
    have e1 : n = n' := Nat.eq_of_beq_eq_true h.1
    have e2 : e = e' := Nat.eq_of_beq_eq_true h.2
    subst e1; subst e2
    exact ⟨n, c, d, e, c', d', rfl, rfl⟩
  · cases h
theorem stillH_ok {m m' : Mem} : ∀ {hs : List Nat}, stillH m m' hs = true → HintOk m m' hs
  | [], _, i, hi => by cases hi
  | x :: hs, h, i, hi => by
    have h : ((Option.rec false (fun a => Option.rec false (fun b => stillO a b) (m'.tr.get? x)) (m.tr.get? x) : Bool) && stillH m m' hs) = true := h
    rw [Bool.and_eq_true] at h
    rcases List.mem_cons.1 hi with e | e
    · subst e
      have h1 := h.1
      cases ha : m.tr.get? i with
      | none => rw [ha] at h1; cases h1
      | some a =>
        rw [ha] at h1
        cases hb : m'.tr.get? i with
        | none => rw [hb] at h1; cases h1
        | some b =>
          rw [hb] at h1
          obtain ⟨n, c, d, e, c', d', rfl, rfl⟩ := stillO_some h1
          exact ⟨n, c, d, e, c', d', rfl, rfl⟩
    · exact stillH_ok h.2 i e
theorem yields_ok {E : Env} {m : Mem} {hs : List Nat} {j : Nat} : ∀ {l : List (Value × Mem)}, yields E m hs j l = true → ∀ q ∈ l, E.eno q.2 q.1 = some 11 ∧ q.2.mode = 2 ∧ q.2.j < j ∧ HintOk m q.2 hs
  | [], _, q, hq => by cases hq
  | x :: l, h, q, hq => by
    have h : ((Option.rec false (fun n => Nat.beq n 11) (E.eno x.2 x.1) : Bool) && Nat.beq x.2.mode 2 && Nat.blt x.2.j j && stillH m x.2 hs && yields E m hs j l) = true := h
    simp only [Bool.and_eq_true] at h
    rcases List.mem_cons.1 hq with e | e
    · subst e
      obtain ⟨⟨⟨⟨h1, h2⟩, h3⟩, h4⟩, _⟩ := h
      rw [Nat.blt_eq] at h3
      refine ⟨?_, Nat.eq_of_beq_eq_true h2, h3, stillH_ok h4⟩
      cases he : E.eno q.2 q.1 with
      | none => rw [he] at h1; cases h1
      | some n => rw [he] at h1; rw [show n = 11 from Nat.eq_of_beq_eq_true h1]
    · exact yields_ok h.2 q e

/-- What a body leaves at its end. -/
def Fin (E : Env) (G : Gh) (ρ : Ren) (m : Mem) (w : World) (Q R : List Nat) (pb : Nat) (qm : Mem) (Sf : BS) (Q' : List Nat) (w1 : World) : Prop :=
  ∃ ρ2 : Ren, (ρ.le ρ2 ∧ (∀ j, j < m.nx → ρ2 j = ρ j) ∧ (∀ i q, ρ2 i = some q → i < qm.nx ∧ i < lim) ∧ m.nx ≤ qm.nx ∧ (∃ x, ρ2 qm.ib = some (pb, x)) ∧ (∃ x, ρ2 qm.ic = some x) ∧ qm.bs = some Sf) ∧
    (∀ i o, qm.tr.get? i = some o → ∃ p, ρ2 i = some p ∧ (isObj o = true → (p.1 ∈ R ∧ G.ok p.1 ∧ ObjC E ρ2 w p o) ∨ (p.1 ∈ Q' ∧ ObjC E ρ2 w1 p o)) ∧ (chg o = true → G.W.heap.size ≤ p.1 ∧ p.1 ∉ G.X)) ∧
    (∀ i j o o' q q', qm.tr.get? i = some o → qm.tr.get? j = some o' → isObj o = true → isObj o' = true → ρ2 i = some q → ρ2 j = some q' → q.1 = q'.1 → i = j) ∧
    ∀ b ∈ Q', b ∈ Q ∨ w.heap.size ≤ b
def hintAt (ρ : Ren) (m : Mem) (hs : List Nat) (w1 : World) : Prop := ∀ i ∈ hs, ∃ n c d e, m.tr.get? i = some (.row n c d e false false) ∧ ∃ arr, Cells w1 (blk ρ i) arr e ∧ arr.length = n
def runAux (E : Env) (G : Gh) (ρ : Ren) (m : Mem) (w : World) (hs R : List Nat) (pb : Nat) (qm : Mem) (Sf : BS) : Aux Bool where
  at' s Q' w1 := match s with
    | false => Q' = hs.map (blk ρ) ∧ hintAt ρ m hs w1
    | true => Fin E G ρ m w (hs.map (blk ρ)) R pb qm Sf Q' w1
  loc := by
    intro s Q' w1 w2 h k
    cases s with
    | false =>
      obtain ⟨rfl, h⟩ := h
      refine ⟨rfl, fun i hi => ?_⟩
      obtain ⟨n, c, d, e, a, arr, b, l⟩ := h i hi
      exact ⟨n, c, d, e, a, arr, b.heldBy k (List.mem_map.2 ⟨i, hi, rfl⟩), l⟩
    | true =>
      obtain ⟨ρ2, a, b, c, d⟩ := h
      refine ⟨ρ2, a, fun i o ho => ?_, c, d⟩
      obtain ⟨p, p1, p2, p3⟩ := b i o ho
      refine ⟨p, p1, fun hio => ?_, p3⟩
      rcases p2 hio with x | ⟨x, y⟩
      · exact .inl x
      · exact .inr ⟨x, y.to (Ren.le_refl ρ2) fun _ => k.2 p.1 x⟩
def runProg (D : List (Ntry × BS)) (S0 : BS) : Prog Bool := fun _ _ c =>
  if c.log.length + 1 < D.length then (11, ⟨(D.take (c.log.length + 1)).map (·.1), c.log.length + 1, true, last S0 (D.take (c.log.length + 1))⟩, false)
  else (0, ⟨(D.take (c.log.length + 1)).map (·.1), c.log.length + 1, true, last S0 (D.take (c.log.length + 1))⟩, true)
theorem run_k {D : List (Ntry × BS)} {S0 : BS} : ∀ k, k < D.length → Th.run (runProg D S0) k (0, Th.start false, S0) = (0, ⟨(D.take k).map (·.1), 0, k, false, 0, false⟩, last S0 (D.take k))
  | 0, _ => by simp [Th.run, Th.start, last]
  | k + 1, h => by
    rw [run_last, run_k k (by omega)]
    have hl : ((D.take k).map (·.1)).length = k := by rw [List.length_map, List.length_take]; omega
    simp only [Bool.false_eq_true, if_false]
    unfold Th.step runProg
    simp only [Bool.false_eq_true, if_false, hl, if_pos h, if_true]
theorem run_most {D : List (Ntry × BS)} {S0 : BS} {most : Nat} (h1 : 1 ≤ D.length) (h2 : D.length ≤ most) : Th.run (runProg D S0) most (0, Th.start false, S0) = (0, ⟨D.map (·.1), 0, D.length, true, 0, true⟩, last S0 D) := by
  have hend : ∀ n, Th.run (runProg D S0) (D.length + n) (0, Th.start false, S0) = (0, ⟨D.map (·.1), 0, D.length, true, 0, true⟩, last S0 D) := by
    intro n
    induction n with
    | zero =>
      obtain ⟨k, hk⟩ : ∃ k, D.length = k + 1 := ⟨D.length - 1, by omega⟩
      rw [Nat.add_zero, hk, run_last, run_k k (by omega)]
      have hl : ((D.take k).map (·.1)).length = k := by rw [List.length_map, List.length_take]; omega
      have ht : D.take (k + 1) = D := by rw [← hk]; exact List.take_length
      simp only [Bool.false_eq_true, if_false]
      unfold Th.step runProg
      simp only [Bool.false_eq_true, if_false, hl, if_neg (show ¬ k + 1 < D.length by omega), ht]
      simp
    | succ n ih =>
      rw [← Nat.add_assoc, run_last, ih]
      simp
  have := hend (most - D.length)
  rwa [show D.length + (most - D.length) = most by omega] at this
theorem enter_get {E : Env} {t : Nat} {m : Mem} (ht : t ≤ 1048574) (hn : m.nx ≤ 1048574) (j : Nat) : (enterM E t m).tr.get? j = if j = m.nx then some .abs else if j = t then some .dead else (m.tr.get? j).map (enterO (E.hint m.nx) j) := by
  show (Tr.set 20 (Tr.set 20 (m.tr.map (enterO (E.hint m.nx)) 1 0) t .dead) m.nx .abs).get? j = _
  rw [Tr.get_set20 _ _ _ _ hn, Tr.get_set20 _ _ _ _ ht, Tr.get_map1]
theorem enter_obj {hs : List Nat} {j : Nat} {o : SObj} : isObj (enterO hs j o) = isObj o := by
  unfold enterO
  cases o with
  | row n c d e op ro => simp only; split <;> rfl
  | _ => rfl
variable {E : Env} {G : Gh} {ρ : Ren} {m : Mem} {w : World}
/-- The outer things of a Run. -/
structure RunAt (E : Env) (G : Gh) (ρ : Ren) (m : Mem) (w : World) (t pt pa pb f : Nat) (capsl caps' : List Value) (S0 : BS) (R : List Nat) (l : List (Value × Mem)) (qm : Mem) (D : List (Ntry × BS)) (rec' : ExecF) : Prop where
  conc : Conc E G ρ m w
  ht : ∃ c x, m.tr.get? t = some (.row 7 c none E.thrT false false) ∧ ρ t = some (pt, x)
  caps : RelL ρ capsl caps'
  nx : m.nx < lim
  bs : m.bs = some S0
  ib : ∃ x, ρ m.ib = some (pb, x)
  hints : HintOk m m (E.hint m.nx)
  rX : ∀ b ∈ G.X, b ∈ R
  rO : ∀ i o q, m.tr.get? i = some o → isObj o = true → ρ i = some q → i ≠ t → i ∉ E.hint m.nx → q.1 ∈ R
  rT : pt ∉ R
  rH : ∀ i ∈ E.hint m.nx, blk ρ i ∉ R
  run : body E rec' f (pv m.nx :: .int .i64 (.ofNat 0) :: capsl) (enterM E t m) = .ok l
  main : ∃ v ys, l = (v, qm) :: ys ∧ eno xt qm 20 v = some 0 ∧ qm.mode = 1 ∧ ∀ q ∈ ys, eno xt q.2 20 q.1 = some 11 ∧ q.2.mode = 2 ∧ q.2.j < D.length ∧ HintOk m q.2 (E.hint m.nx)
  hD : D = qm.tl.reverse
theorem RunAt.hint {t pt pa pb f : Nat} {capsl caps' : List Value} {S0 : BS} {R : List Nat} {l : List (Value × Mem)} {qm : Mem} {D : List (Ntry × BS)} {rec' : ExecF} (h : RunAt E G ρ m w t pt pa pb f capsl caps' S0 R l qm D rec') {i : Nat} (hi : i ∈ E.hint m.nx) : ∃ n c d e q, m.tr.get? i = some (.row n c d e false false) ∧ ρ i = some q ∧ blk ρ i = q.1 ∧ G.W.heap.size ≤ q.1 ∧ q.1 ∉ G.X ∧ G.ok q.1 ∧ ∃ arr, Cells w q.1 arr e ∧ arr.length = n ∧ n ≤ lim := by
  obtain ⟨n, c, d, e, _, _, h1, _⟩ := h.hints i hi
  obtain ⟨q, a, b, c'⟩ := h.conc.rows i _ h1
  have hb := b
  obtain ⟨arr, b1, _, b3, b4, _⟩ := b
  exact ⟨n, c, d, e, q, h1, a, blk_of a, (c' rfl).1, (c' rfl).2, h.conc.off i _ q h1 rfl a, arr, b1, b4 rfl, b3⟩
theorem obj_to {E : Env} {ρ ρ' : Ren} {w w' : World} {q : Nat × Nat} {o : SObj} {hs : List Nat} {j : Nat} (hj : j ∉ hs) (h : ObjC E ρ w q o) (hr : ρ.le ρ') (hw : isObj o = true → w'.heap[q.1]? = w.heap[q.1]?) : ObjC E ρ' w' q (enterO hs j o) := by
  have h' := h.to hr hw
  unfold enterO
  cases o with
  | row n c d e op ro =>
    simp only
    split
    · rename_i hc
      exact absurd (by simpa using hc) hj
    · exact h'
  | map es cl ro => exact h'
  | abs => trivial
  | dead => trivial
set_option maxHeartbeats 1000000 in
theorem run_step (hE : EnvOk Tryz.prog E) (hfn : ∀ f fn, E.fn f = some fn → FnOk fn) {rec' : ExecF} (hr : RecOk Tryz.prog E rec') (hg : RecGrow rec') {t pt pa pb f : Nat} {capsl caps' : List Value} {S0 : BS} {R : List Nat} {l : List (Value × Mem)} {qm : Mem} {D : List (Ntry × BS)} (h : RunAt E G ρ m w t pt pa pb f capsl caps' S0 R l qm D rec') {k : Nat} (hk : k < D.length) :
    StepBody G.W pa pb f ⟨caps'⟩ (runAux E G ρ m w (E.hint m.nx) R pb qm (last S0 D)) (runProg D S0) R (fun x => HeldBy R w x) false 0 ⟨(D.take k).map (·.1), 0, false, last S0 (D.take k)⟩ := by
  have hbody := body_ok hE hfn hr hg h.run
  refine ⟨hbody.1, fun a b k1 k2 => HeldBy.trans k2 k1, ?_⟩
  intro X Q wr pc hP hSh ha hctx hXQ _
  obtain ⟨rfl, ha⟩ := ha
  obtain ⟨v0, ys, hl, hm0, hmode, hys⟩ := h.main
  obtain ⟨ct, xt0, ht1, ht2⟩ := h.ht
  have htl : t ≤ 1048574 := by have := (h.conc.dom t _ ht2).2; unfold lim at this; omega
  have hnl : m.nx ≤ 1048574 := by have := h.nx; unfold lim at this; omega
  have hget := enter_get (E := E) (m := m) htl hnl
  have hnx : ρ m.nx = none := h.conc.fresh
  have hle : ρ.le (ρ.put m.nx (pc, 0)) := Ren.le_put hnx
  -- objects at the body's begin
  have hobj : ∀ i o q, (enterM E t m).tr.get? i = some o → isObj o = true → (ρ.put m.nx (pc, 0)) i = some q → ∃ o0, m.tr.get? i = some o0 ∧ isObj o0 = true ∧ ρ i = some q ∧ i ≠ t ∧ o = enterO (E.hint m.nx) i o0 := by
    intro i o q h1 h2 h3
    rw [hget] at h1
    split at h1
    · cases h1; cases h2
    · split at h1
      · cases h1; cases h2
      · rename_i n1 n2
        rw [Ren.put_ne _ _ n1] at h3
        cases hm : m.tr.get? i with
        | none => rw [hm] at h1; cases h1
        | some o0 =>
          rw [hm] at h1
          cases h1
          exact ⟨o0, rfl, by rw [enter_obj] at h2; exact h2, h3, n2, rfl⟩
  have hG : Conc E ⟨G.W, X, pa, pb, pc, k, D, S0, fun b => b ∈ (E.hint m.nx).map (blk ρ) ∨ (b ∈ R ∧ G.ok b) ∨ wr.heap.size ≤ b⟩ (ρ.put m.nx (pc, 0)) (enterM E t m) wr := by
    refine ⟨hctx.below, fun i q e => ?_, fun i o ho => ?_, fun i j oi oj qi qj h1 h2 h3 h4 h5 h6 e => ?_, ⟨X ++ (E.hint m.nx).map (blk ρ), fun b hb => List.mem_append_left _ hb, fun i o q h1 h2 h3 => ?_, .inr (.inr ⟨(by show (1 : Nat) ≠ 0; omega), ?_, _, ⟨rfl, .inl ⟨rfl, Nat.zero_le _, rfl⟩⟩, hctx⟩)⟩, fun b hb => hctx.heldR b (List.mem_append_left _ hb), fun _ => ?_, fun _ => ⟨0, Ren.put_self _ _ _⟩, fun i o q h1 h2 h3 => ?_, fun b hb => .inr (.inr hb), h.conc.hand⟩
    · show i < m.nx + 1 ∧ i < lim
      by_cases e1 : i = m.nx
      · subst e1; exact ⟨Nat.lt_succ_self _, h.nx⟩
      · rw [Ren.put_ne _ _ e1] at e
        have := h.conc.dom i q e; omega
    · rw [hget] at ho
      split at ho
      · rename_i e; cases ho; subst e
        exact ⟨_, Ren.put_self _ _ _, trivial, fun hm => by cases hm⟩
      · rename_i n1
        split at ho
        · rename_i e; cases ho; subst e
          exact ⟨_, hle _ _ ht2, trivial, fun hm => by cases hm⟩
        · rename_i n2
          cases hm : m.tr.get? i with
          | none => rw [hm] at ho; cases ho
          | some o0 =>
            rw [hm] at ho
            cases ho
            by_cases hin : i ∈ E.hint m.nx
            · obtain ⟨n, c, d, e, q, a1, a2, a3, a4, a5, a6, _, _, _, a7⟩ := h.hint hin
              rw [hm] at a1; cases a1
              obtain ⟨n', c', d', e', b1, arr, b2, b3⟩ := ha i hin
              rw [hm] at b1; cases b1
              rw [a3] at b2
              have hen : enterO (E.hint m.nx) i (.row n c d e false false) = .row n .nil none e false false := by
                unfold enterO
                simp only
                rw [show (E.hint m.nx).contains i = true by simpa using hin]
              rw [hen]
              refine ⟨q, hle _ _ a2, ⟨arr, b2, by omega, a7, fun _ => b3, (fun e => by cases e), fun j u hu => ?_⟩, fun _ => ⟨a4, fun hx => hXQ _ hx (List.mem_map.2 ⟨i, hin, a3⟩)⟩⟩
              obtain ⟨_, hu⟩ := ifo_some hu
              cases hu
            · obtain ⟨q, a, b, c⟩ := h.conc.rows i o0 hm
              refine ⟨q, hle _ _ a, obj_to hin b hle fun hi => hP.2 _ (h.rO i o0 q hm hi a n2 hin), fun hc => ?_⟩
              exfalso
              unfold enterO at hc
              cases o0 with
              | row n c d e op ro =>
                simp only at hc
                split at hc
                · rename_i hcc
                  exact hin (by simpa using hcc)
                · cases hc
              | map es cl ro => cases hc
              | abs => cases hc
              | dead => cases hc
    · obtain ⟨o1, a1, a2, a3, _⟩ := hobj i oi qi h1 h3 h5
      obtain ⟨o2, b1, b2, b3, _⟩ := hobj j oj qj h2 h4 h6
      exact h.conc.inj i j o1 o2 qi qj a1 b1 a2 b2 a3 b3 e
    · obtain ⟨o1, a1, a2, a3, a4, _⟩ := hobj i o q h1 h2 h3
      by_cases hin : i ∈ E.hint m.nx
      · exact List.mem_append_right _ (List.mem_map.2 ⟨i, hin, blk_of a3⟩)
      · exact List.mem_append_left _ (hSh _ (h.rO i o1 q a1 a2 a3 a4 hin))
    · show m.bs = some (last S0 (D.take 0))
      rw [h.bs]; rfl
    · obtain ⟨x, hx⟩ := h.ib
      exact ⟨x, hle _ _ hx⟩
    · obtain ⟨o1, a1, a2, a3, a4, _⟩ := hobj i o q h1 h2 h3
      by_cases hin : i ∈ E.hint m.nx
      · exact .inl (List.mem_map.2 ⟨i, hin, blk_of a3⟩)
      · exact .inr (.inl ⟨h.rO i o1 q a1 a2 a3 a4 hin, h.conc.off i o1 q a1 a2 a3⟩)
  have hargs : RelL (ρ.put m.nx (pc, 0)) (pv m.nx :: .int .i64 (.ofNat 0) :: capsl) (.pointer (some ⟨pc, 0, none⟩) :: .int .i64 ((0 : Nat) : Int) :: caps') :=
    .cons (.ptr m.nx 0 (pc, 0) (Ren.put_self _ _ _)) (.cons (.int _ _) (h.caps.mono hle))
  have hfit : ∀ q ∈ l, FitM ⟨G.W, X, pa, pb, pc, k, D, S0, fun b => b ∈ (E.hint m.nx).map (blk ρ) ∨ (b ∈ R ∧ G.ok b) ∨ wr.heap.size ≤ b⟩ q.2 := by
    intro q hq hm
    rw [hl] at hq
    rcases List.mem_cons.1 hq with e | e
    · subst e
      show qm.tl.reverse <+: D
      rw [h.hD]; exact List.prefix_rfl
    · have := (hys q e).2.1
      rw [hm] at this; cases this
  have harr : (#[.pointer (some ⟨pc, 0, none⟩), .int .i64 ((0 : Nat) : Int)] ++ ⟨caps'⟩ : Array Value) = ⟨.pointer (some ⟨pc, 0, none⟩) :: .int .i64 ((0 : Nat) : Int) :: caps'⟩ := by apply Array.ext'; simp
  rw [harr]
  refine (hbody.2 _ hfit _ wr _ hG hargs).mono ?_
  rintro e w' ⟨v', rfl, q, hq, ρ2, s1, s2, s3, s4⟩
  have hclen : ((D.take k).map (·.1)).length = k := by rw [List.length_map, List.length_take]; omega
  have hown : ∀ j, j < m.nx → ρ2 j = ρ j := fun j hj => by
    rw [s1.low j (by show j < m.nx + 1; omega), Ren.put_ne _ _ (by omega)]
  have hle2 : ρ.le ρ2 := Ren.le_trans hle s1.le
  obtain ⟨R2, r1, r2, r3⟩ := s4.lay
  have hQlt : ∀ b ∈ (E.hint m.nx).map (blk ρ), b < wr.heap.size := fun b hb => hctx.heldR b (List.mem_append_right _ hb)
  have hXlt : ∀ b ∈ X, b < wr.heap.size := fun b hb => hctx.heldR b (List.mem_append_left _ hb)
  rw [hl] at hq
  rcases List.mem_cons.1 hq with e | e
  · -- the body's end
    subst e
    rcases r3 with ⟨_, a⟩ | ⟨_, _, _, _, a, _⟩ | ⟨_, hbs, c', hcs, hctx'⟩
    · rw [hmode] at a; cases a
    · rw [hmode] at a; cases a
    · have hbs : qm.bs = some (last S0 (D.take qm.j)) := hbs
      have htl : qm.tl.reverse = D.take qm.j := hcs.1
      rw [← h.hD] at htl
      have hDj : D.length ≤ qm.j := by
        have := congrArg List.length htl
        rw [List.length_take] at this; omega
      have hkD : D.length = k + 1 ∧ c' = ⟨(D.take (k + 1)).map (·.1), k + 1, true, last S0 (D.take (k + 1))⟩ := by
        rcases hcs.2 with ⟨_, a, _⟩ | ⟨a, b⟩
        · have a : qm.j ≤ k := a; omega
        · have a : qm.j = k + 1 := a
          exact ⟨by omega, b⟩
      obtain ⟨hkD, hc'⟩ := hkD
      have hF : runProg D S0 false 0 ⟨(D.take k).map (·.1), 0, false, last S0 (D.take k)⟩ = (0, c', true) := by
        unfold runProg
        simp only [hclen]
        rw [if_neg (by omega), hc']
      rw [hF]
      obtain ⟨B, f1, f2⟩ := eno_ok s4 20 v0 v' 0 hm0 s3
      obtain ⟨rfl, rfl⟩ := f1.isNil rfl
      refine ⟨.nilIface, [], (List.range w'.heap.size).filter fun b => decide (b ∈ R2 ∧ (b ∈ (E.hint m.nx).map (blk ρ) ∨ wr.heap.size ≤ b)), rfl, .none, ?_, ?_, s1.by', fun b hb => ?_⟩
      · refine ⟨ρ2, ⟨hle2, hown, s4.dom, Nat.le_of_lt s2, ?_, ?_, ?_⟩, fun i o ho => ?_, s4.inj, fun b hb => ?_⟩
        · exact s4.ib (by rw [hmode]; omega)
        · obtain ⟨x, hx⟩ := s4.ic (by rw [hmode]; omega)
          exact ⟨_, hx⟩
        · rw [hbs, ← htl]
        · obtain ⟨p, p1, p2, p3⟩ := s4.rows i o ho
          refine ⟨p, p1, fun hio => ?_, fun hc => ⟨(p3 hc).1, fun hx => (p3 hc).2 (hSh _ (h.rX _ hx))⟩⟩
          have hin2 := r2 i o p ho hio p1
          have hlt := p2.lt hio
          rcases s4.off i o p ho hio p1 with hb | ⟨hb, hok⟩ | hb
          · right
            refine ⟨?_, p2⟩
            rw [List.mem_filter]
            exact ⟨List.mem_range.2 hlt, by simp only [decide_eq_true_eq]; exact ⟨hin2, .inl hb⟩⟩
          · left
            refine ⟨hb, hok, p2.to (Ren.le_refl ρ2) fun _ => ?_⟩
            rw [s1.by'.2 _ (hSh _ hb), hP.2 _ hb]
          · right
            refine ⟨?_, p2⟩
            rw [List.mem_filter]
            exact ⟨List.mem_range.2 hlt, by simp only [decide_eq_true_eq]; exact ⟨hin2, .inr hb⟩⟩
        · rw [List.mem_filter] at hb
          have hb2 := of_decide_eq_true hb.2
          rcases hb2.2 with x | x
          · exact .inl x
          · exact .inr (Nat.le_trans hP.1 x)
      · refine hctx'.less fun b hb => ?_
        rcases List.mem_append.1 hb with x | x
        · exact r1 b x
        · rw [List.nil_append, List.mem_filter] at x
          exact (of_decide_eq_true x.2).1
      · rw [List.nil_append, List.mem_filter] at hb
        exact (of_decide_eq_true hb.2).2
  · -- the step is over
    obtain ⟨y1, y2, y3, y4⟩ := hys q e
    rcases r3 with ⟨_, a⟩ | ⟨_, _, _, _, a, _⟩ | ⟨_, hbs, c', hcs, hctx'⟩
    · rw [y2] at a; cases a
    · rw [y2] at a; cases a
    · have hkD : q.2.j = k + 1 ∧ c' = ⟨(D.take (k + 1)).map (·.1), k + 1, true, last S0 (D.take (k + 1))⟩ := by
        rcases hcs.2 with ⟨a, _⟩ | ⟨a, b⟩
        · rw [y2] at a; cases a
        · exact ⟨a, b⟩
      obtain ⟨hkD, hc'⟩ := hkD
      have hF : runProg D S0 false 0 ⟨(D.take k).map (·.1), 0, false, last S0 (D.take k)⟩ = (11, c', false) := by
        unfold runProg
        simp only [hclen]
        rw [if_pos (by omega), hc']
      rw [hF]
      obtain ⟨B, f1, f2⟩ := eno_ok s4 20 q.1 v' 11 y1 s3
      have hhint : ∀ i ∈ E.hint m.nx, ∃ n c d e, m.tr.get? i = some (.row n c d e false false) ∧ (∃ arr, Cells w' (blk ρ i) arr e ∧ arr.length = n) ∧ blk ρ i ∈ R2 := by
        intro i hi
        obtain ⟨n, c, d, e, c2, d2, g1, g2⟩ := y4 i hi
        obtain ⟨p, p1, p2, _⟩ := s4.rows i _ g2
        obtain ⟨_, _, _, _, q0, _, b1, b2, _⟩ := h.hint hi
        have := hle2 _ _ b1
        rw [p1] at this; cases this
        have hin := r2 i _ p g2 rfl p1
        obtain ⟨arr, e1, _, _, e4, _⟩ := p2
        rw [b2]
        exact ⟨n, c, d, e, g1, ⟨arr, e1, e4 rfl⟩, hin⟩
      have hB : ∀ b ∈ B, b ∈ R2 ∧ (b ∈ (E.hint m.nx).map (blk ρ) ∨ wr.heap.size ≤ b) := by
        intro b hb
        obtain ⟨i, o, p, g1, g2, g3, rfl⟩ := f2 b hb
        have hio : isObj o = true := by cases o <;> simp [chg, isObj] at g2 ⊢
        obtain ⟨p', p1, _, p3⟩ := s4.rows i o g1
        rw [g3] at p1; cases p1
        refine ⟨r2 i o p g1 hio g3, ?_⟩
        rcases s4.off i o p g1 hio g3 with hb | ⟨hb, _⟩ | hb
        · exact .inl hb
        · exact absurd (hSh _ hb) (p3 g2).2
        · exact .inr hb
      refine ⟨v', B, (E.hint m.nx).map (blk ρ), rfl, f1, ⟨rfl, fun i hi => ?_⟩, ?_, s1.by', fun b hb => ?_⟩
      · obtain ⟨n, c, d, e, g1, g2, _⟩ := hhint i hi
        exact ⟨n, c, d, e, g1, g2⟩
      · refine hctx'.less fun b hb => ?_
        rcases List.mem_append.1 hb with x | x
        · exact r1 b x
        · rcases List.mem_append.1 x with x | x
          · exact (hB b x).1
          · obtain ⟨i, hi, rfl⟩ := List.mem_map.1 x
            obtain ⟨_, _, _, _, _, _, g⟩ := hhint i hi
            exact g
      · rcases List.mem_append.1 hb with x | x
        · exact (hB b x).2
        · exact .inl x
end Go.Proofs.YtgmdbfackbdnlaaGreatDoor

/- The executor: a thread's Run, whole. -/
namespace Go.Proofs.YtgmdbfackbdnlaaGreatDoor
open Go.RowKit Bl Th Go.Sx
set_option maxRecDepth 10000

theorem leave_obj {m : Mem} {j : Nat} {o : SObj} : isObj (leaveO m j o) = isObj o := by
  unfold leaveO
  rw [bif_eq]
  split
  · cases o <;> rfl
  · rfl
theorem leave_objC {E : Env} {ρ : Ren} {w : World} {q : Nat × Nat} {m : Mem} {j : Nat} {o : SObj} (h : ObjC E ρ w q o) : ObjC E ρ w q (leaveO m j o) := by
  unfold leaveO
  rw [bif_eq]
  split
  · cases o <;> exact h
  · exact h
theorem leave_chg {m : Mem} {j : Nat} {o : SObj} (h : chg (leaveO m j o) = true) : (j < m.nx ∧ ∃ o0, m.tr.get? j = some o0 ∧ chg o0 = true) ∨ (m.nx ≤ j ∧ chg o = true) := by
  unfold leaveO at h
  rw [bif_eq] at h
  split at h
  · rename_i hj
    rw [Nat.blt_eq] at hj
    left
    refine ⟨hj, ?_⟩
    have hro : (Option.rec true roOf (m.tr.get? j) : Bool) = false := by
      cases o with
      | row n c d e op ro =>
        have h : (!(Option.rec true roOf (m.tr.get? j) : Bool)) = true := h
        simpa using h
      | map es cl ro =>
        have h : (!(Option.rec true roOf (m.tr.get? j) : Bool)) = true := h
        simpa using h
      | abs => cases h
      | dead => cases h
    cases e : m.tr.get? j with
    | none => rw [e] at hro; cases hro
    | some o0 =>
      rw [e] at hro
      refine ⟨o0, rfl, ?_⟩
      have hro : roOf o0 = false := hro
      cases o0 with
      | row n c d e op ro => have hro : ro = false := hro; subst hro; rfl
      | map es cl ro => have hro : ro = false := hro; subst hro; rfl
      | abs => cases hro
      | dead => cases hro
  · rename_i hj
    rw [Nat.blt_eq] at hj
    exact .inr ⟨by omega, h⟩
variable {E : Env} {G : Gh} {ρ : Ren} {m : Mem} {w : World}
theorem ended_obj {E : Env} {ρ : Ren} {w : World} {qt : Nat × Nat} {ib steps : Nat} {f : FuncId} {caps : List Value} {v0 v1 v2 v3 v4 v5 v6 : Value} (hc : Cells w qt.1 [v0, v1, v2, v3, v4, v5, v6] E.thrT) (r0 : Rel ρ (pv ib) v0) (r1 : Rel ρ (.func (.func f) ⟨[]⟩ ⟨caps⟩) v1) (r3 : Rel ρ (.int .i64 (.ofNat 0)) v3) (r4 : Rel ρ (.int .i64 (.ofNat steps)) v4) (r5 : Rel ρ (.bool true) v5) (r6 : Rel ρ .nilIface v6) : ObjC E ρ w qt (ended E ib steps f caps) := by
  unfold ended
  obtain ⟨T, hT, hg⟩ : ∃ T, (Tr.set 20 (Tr.set 20 (Tr.set 20 (Tr.set 20 (Tr.set 20 (Tr.set 20 .nil 0 (pv ib)) 1 (.func (.func f) ⟨[]⟩ ⟨caps⟩)) 3 (.int .i64 (.ofNat 0))) 4 (.int .i64 (.ofNat steps))) 5 (.bool true)) 6 .nilIface) = T ∧ ∀ i, T.get? i = if i = 6 then some .nilIface else if i = 5 then some (.bool true) else if i = 4 then some (.int .i64 (.ofNat steps)) else if i = 3 then some (.int .i64 (.ofNat 0)) else if i = 1 then some (.func (.func f) ⟨[]⟩ ⟨caps⟩) else if i = 0 then some (pv ib) else none :=
    ⟨_, rfl, fun i => by rw [Tr.get_set20 _ _ _ _ (by omega), Tr.get_set20 _ _ _ _ (by omega), Tr.get_set20 _ _ _ _ (by omega), Tr.get_set20 _ _ _ _ (by omega), Tr.get_set20 _ _ _ _ (by omega), Tr.get_set20 _ _ _ _ (by omega)]; rfl⟩
  rw [hT]
  refine ⟨_, hc, Nat.le_refl 7, by unfold lim; omega, fun _ => rfl, (fun e => by cases e), fun i u hu => ?_⟩
  obtain ⟨z1, z2⟩ := ifo_some hu
  rw [Nat.blt_eq] at z1
  rw [hg] at z2
  have hi7 : i = 0 ∨ i = 1 ∨ i = 2 ∨ i = 3 ∨ i = 4 ∨ i = 5 ∨ i = 6 := by omega
  rcases hi7 with rfl | rfl | rfl | rfl | rfl | rfl | rfl
  · cases z2; exact ⟨_, rfl, r0⟩
  · cases z2; exact ⟨_, rfl, r1⟩
  · cases z2
  · cases z2; exact ⟨_, rfl, r3⟩
  · cases z2; exact ⟨_, rfl, r4⟩
  · cases z2; exact ⟨_, rfl, r5⟩
  · cases z2; exact ⟨_, rfl, r6⟩
set_option maxHeartbeats 1000000 in
theorem run_ok (hE : EnvOk Tryz.prog E) (hfn : ∀ f fn, E.fn f = some fn → FnOk fn) (hthr : E.thrT = 315) (hno : ∀ m v, E.eno m v = eno xt m 20 v) {rec' : ExecF} (hr : RecOk Tryz.prog E rec') (hg : RecGrow rec') {args args' : List Value} {outs : List (Value × Mem)} (h : Go.Sx.runT E rec' m args = .ok outs) (hc : Conc E G ρ m w) (hra : RelL ρ args args') :
    Calls Tryz.prog 156 ⟨args'⟩ w fun e w' => ∃ v', e = .returned v' ∧ ∃ q ∈ outs, EffPost E G ρ m w q.1 q.2 v' w' := by
  unfold Go.Sx.runT at h
  split at h
  · rename_i t most
    obtain ⟨S0, hbs, h1⟩ := orb_ok h
    obtain ⟨o, ho, h2⟩ := orb_ok h1
    obtain ⟨⟨f, capsl⟩, hfr, h3⟩ := orb_ok h2
    clear h h1 h2
    split at h3
    · rename_i hcond
      rw [Bool.and_eq_true] at hcond
      have hmode : m.mode = 0 := Nat.eq_of_beq_eq_true hcond.1
      have hnx := hcond.2
      rw [Nat.blt_eq] at hnx
      obtain ⟨l, hrun, h4⟩ := rb_ok h3
      unfold runEnd at h4
      split at h4
      · rename_i q ys
        split at h4
        · rename_i hcond2
          have h5 := Go.Sx.R.ok.inj h4
          subst h5
          clear h3 h4
          simp only [Bool.and_eq_true] at hcond2
          obtain ⟨⟨⟨⟨⟨⟨⟨k0, k1⟩, k2⟩, k3⟩, k4⟩, k5⟩, k6⟩, k7⟩ := hcond2
          have k4 : q.2.mode = 1 := Nat.eq_of_beq_eq_true k4
          have k5 : q.2.tl.length ≤ most := Nat.le_of_ble_eq_true k5
          have k6 : most ≤ 1000000 := Nat.le_of_ble_eq_true k6
          have k7 : 1 ≤ q.2.tl.length := Nat.le_of_ble_eq_true k7
          have k2 := stillH_ok k2
          have k1 := yields_ok k1
          have k3 : t ∉ E.hint m.nx := by simpa using k3
          have k0 : eno xt q.2 20 q.1 = some 0 := by
            rw [hno] at k0
            cases he : eno xt q.2 20 q.1 with
            | none => rw [he] at k0; cases k0
            | some n => rw [he] at k0; rw [show n = 0 from Nat.eq_of_beq_eq_true k0]
          -- the thread
          obtain ⟨ct, rfl, c0, c1, c2, c3, c4, c5, c6⟩ := fresh_some hfr
          obtain ⟨p', mo', rfl, rp, rm⟩ := hra.two
          obtain rfl := rel_int rm
          obtain ⟨qt, arr, hqt, hcells, _, hlen, hcell⟩ := row_at hc ho
          cases rp with
          | ptr _ _ q0 hq0 =>
          rw [hqt] at hq0; cases hq0
          have htl : t ≤ 1048574 := by have := (hc.dom t _ hqt).2; unfold lim at this; omega
          obtain ⟨a0, a1, a2, a3, a4, a5, a6, rfl⟩ := list7 (hlen rfl)
          obtain ⟨v0, e0, r0⟩ := hcell 0 _ (cellAt_get (by omega) c0)
          obtain ⟨v1, e1, r1⟩ := hcell 1 _ (cellAt_get (by omega) c1)
          obtain ⟨v2, e2, r2⟩ := hcell 2 _ (cellAt_get (by omega) c2)
          obtain ⟨v3, e3, r3⟩ := hcell 3 _ (cellAt_get (by omega) c3)
          obtain ⟨v4, e4, r4⟩ := hcell 4 _ (cellAt_get (by omega) c4)
          obtain ⟨v5, e5, r5⟩ := hcell 5 _ (cellAt_get (by omega) c5)
          obtain ⟨v6, e6, r6⟩ := hcell 6 _ (cellAt_get (by omega) c6)
          simp only [List.getElem?_cons_zero, List.getElem?_cons_succ, Option.some.injEq] at e0 e1 e2 e3 e4 e5 e6
          subst e0 e1 e2 e3 e4 e5 e6
          obtain rfl := rel_int r3
          obtain rfl := rel_int r4
          obtain rfl := rel_bool r5
          cases r6
          cases r2 with
          | sl0 _ _ _ =>
          obtain ⟨R0, x1, x2, x3⟩ := hc.lay
          rcases x3 with ⟨a, _⟩ | ⟨S', pa, qb, a, _, hib, hheld⟩ | ⟨a, _⟩
          · rw [a] at hbs; cases hbs
          · rw [a] at hbs; cases hbs
            cases r0 with
            | ptr _ _ qb' hib' =>
            rw [hib] at hib'; cases hib'
            cases r1 with
            | func _ _ bb _ dd g1 g2 g3 g4 =>
            obtain rfl : bb = [] := List.length_eq_zero_iff.1 g1.symm
            have hcaps : RelL ρ capsl dd := ⟨g3, g4⟩
            clear g1 g2 g3 g4
            obtain ⟨htrow, htnew⟩ : ObjC E ρ w qt (.row 7 ct none E.thrT false false) ∧ (G.W.heap.size ≤ qt.1 ∧ qt.1 ∉ G.X) := by
              obtain ⟨q', a1, b1, c1⟩ := hc.rows t _ ho
              rw [hqt] at a1; cases a1
              exact ⟨b1, c1 rfl⟩
            have hptR0 : qt.1 ∈ R0 := x2 t _ qt ho rfl hqt
            -- what is held
            obtain ⟨Q, hQ⟩ : ∃ Q, Q = (E.hint m.nx).map (blk ρ) := ⟨_, rfl⟩
            obtain ⟨R, hR⟩ : ∃ R, R = (List.range w.heap.size).filter fun b => decide (b ∈ R0 ∧ b ≠ qt.1 ∧ b ∉ Q) := ⟨_, rfl⟩
            have memR : ∀ b, b ∈ R ↔ b < w.heap.size ∧ b ∈ R0 ∧ b ≠ qt.1 ∧ b ∉ Q := fun b => by
              rw [hR, List.mem_filter, List.mem_range, decide_eq_true_eq]
            have hhint : ∀ i ∈ E.hint m.nx, ∃ n c d e q, m.tr.get? i = some (.row n c d e false false) ∧ ρ i = some q ∧ blk ρ i = q.1 ∧ q.1 ∈ R0 ∧ q.1 ∉ G.X ∧ G.ok q.1 ∧ i ≠ t ∧ ∃ arr, Cells w q.1 arr e ∧ arr.length = n := by
              intro i hi
              obtain ⟨n, c, d, e, _, _, y1, _⟩ := k2 i hi
              obtain ⟨q, a, b, c'⟩ := hc.rows i _ y1
              obtain ⟨arr, b1, _, _, b4, _⟩ := b
              exact ⟨n, c, d, e, q, y1, a, blk_of a, x2 i _ q y1 rfl a, (c' rfl).2, hc.off i _ q y1 rfl a, fun e => k3 (e ▸ hi), arr, b1, b4 rfl⟩
            have hQmem : ∀ b ∈ Q, ∃ i o q, i ∈ E.hint m.nx ∧ m.tr.get? i = some o ∧ isObj o = true ∧ ρ i = some q ∧ q.1 = b ∧ b ∈ R0 ∧ b ∉ G.X ∧ G.ok b ∧ i ≠ t := by
              intro b hb
              rw [hQ] at hb
              obtain ⟨i, hi, rfl⟩ := List.mem_map.1 hb
              obtain ⟨n, c, d, e, q, y1, y2, y3, y4, y5, y6, y7, _⟩ := hhint i hi
              rw [y3]
              exact ⟨i, _, q, hi, y1, rfl, y2, rfl, y4, y5, y6, y7⟩
            have hptQ : qt.1 ∉ Q := by
              intro hb
              obtain ⟨i, o, q, _, y1, y2, y3, y4, _, _, _, y5⟩ := hQmem _ hb
              exact y5 (hc.inj i t o _ q qt y1 ho y2 rfl y3 hqt y4)
            have hrX : ∀ b ∈ G.X, b ∈ R := fun b hb => (memR b).2 ⟨hc.xlt b hb, x1 b hb, fun e => htnew.2 (e ▸ hb), fun hq => by
              obtain ⟨_, _, _, _, _, _, _, _, _, y, _⟩ := hQmem b hq
              exact y hb⟩
            have hrO : ∀ i o q, m.tr.get? i = some o → isObj o = true → ρ i = some q → i ≠ t → i ∉ E.hint m.nx → q.1 ∈ R := by
              intro i o q y1 y2 y3 y4 y5
              obtain ⟨q', a, b, _⟩ := hc.rows i o y1
              rw [y3] at a; cases a
              refine (memR _).2 ⟨b.lt y2, x2 i o q y1 y2 y3, fun e => y4 (hc.inj i t o _ q qt y1 ho y2 rfl y3 hqt e), fun hq => ?_⟩
              obtain ⟨i', o', q', z1, z2, z3, z4, z5, _⟩ := hQmem _ hq
              have := hc.inj i' i o' o q' q z2 y1 z3 y2 z4 y3 z5
              exact y5 (this ▸ z1)
            have hAt : RunAt E G ρ m w t qt.1 pa qb.1 f capsl dd S0 R (q :: ys) q.2 q.2.tl.reverse rec' :=
              ⟨hc, ⟨ct, qt.2, ho, hqt⟩, hcaps, hnx, a, ⟨qb.2, hib⟩, k2, hrX, hrO, fun hm => ((memR _).1 hm).2.2.1 rfl, fun i hi hm => ((memR _).1 hm).2.2.2 (by rw [hQ]; exact List.mem_map.2 ⟨i, hi, rfl⟩), hrun, ⟨q.1, ys, rfl, k0, k4, fun y hy => by
                obtain ⟨z1, z2, z3, z4⟩ := k1 y hy
                rw [hno] at z1
                exact ⟨z1, z2, by rw [List.length_reverse]; exact z3, z4⟩⟩, rfl⟩
            have hD1 : 1 ≤ q.2.tl.reverse.length := by rw [List.length_reverse]; exact k7
            have hD2 : q.2.tl.reverse.length ≤ most := by rw [List.length_reverse]; exact k5
            have hTh : Thr G.W qb.1 qt.1 (.func (.func f) #[] ⟨dd⟩) (runAux E G ρ m w (E.hint m.nx) R qb.1 q.2 (last S0 q.2.tl.reverse)) (Th.start false) (qt.1 :: Q) w := by
              refine ⟨.slice none 0 0, .nilIface, [], Q, rfl, ⟨by rw [← hthr]; exact hcells, World.ownsRow_nil _ _ _ _, .none, ⟨hQ, fun i hi => ?_⟩, ?_, by simp [Value.ownBlock], htnew.1, by simp [Th.start], by simp [Th.start], by simp [Th.start], fun _ => rfl⟩⟩
              · obtain ⟨n, c, d, e, q, y1, y2, y3, _, _, _, _, arr, y4, y5⟩ := hhint i hi
                exact ⟨n, c, d, e, y1, arr, by rw [y3]; exact y4, y5⟩
              · simpa [Value.ownBlock] using hptQ
            have hH : Held G.W ((qt.1 :: Q) ++ R) pa qb.1 S0 w := hheld.less fun b hb => by
              rcases List.mem_append.1 hb with y | y
              · rcases List.mem_cons.1 y with y | y
                · rw [y]; exact hptR0
                · obtain ⟨_, _, _, _, _, _, _, _, z, _⟩ := hQmem b y
                  exact z
              · exact ((memR b).1 y).2.1
            have hBR : ∀ b ∈ qt.1 :: Q, b ∉ R := fun b hb hm => by
              obtain ⟨_, _, z1, z2⟩ := (memR b).1 hm
              rcases List.mem_cons.1 hb with y | y
              · exact z1 y
              · exact z2 y
            have hall := trun_at (F := runProg q.2.tl.reverse S0) (P := fun x => HeldBy R w x) hTh hH hBR (Sh := R) (fun _ h => h) (HeldBy.refl _ _) most (fun k hk hd => by
              by_cases hkD : k < q.2.tl.reverse.length
              · have e : Th.run (runProg q.2.tl.reverse S0) k ((Th.start false : TS Bool).err, Th.start false, S0) = (0, ⟨(q.2.tl.reverse.take k).map (·.1), 0, k, false, 0, false⟩, last S0 (q.2.tl.reverse.take k)) := run_k k hkD
                rw [e]
                exact run_step hE hfn hr hg hAt hkD
              · have e : Th.run (runProg q.2.tl.reverse S0) k ((Th.start false : TS Bool).err, Th.start false, S0) = _ := run_most hD1 (by omega)
                rw [e] at hd
                cases hd) (by simp [Th.start]; omega)
            have e : Th.run (runProg q.2.tl.reverse S0) most ((Th.start false : TS Bool).err, Th.start false, S0) = _ := run_most hD1 hD2
            rw [e] at hall
            refine hall.mono ?_
            rintro e w' ⟨v, E', B', rfl, he, hthr', hheld', hby, hE', hB'⟩
            obtain ⟨rfl, _⟩ := he.isNil rfl
            obtain ⟨lv, ev, E2, Q2, rfl, hl⟩ := hthr'
            obtain ⟨rfl, _⟩ := hl.err.isNil rfl
            obtain ⟨ρ2, ⟨f1, f2, f3, f4, ⟨fx, f5⟩, ⟨fy, f6⟩, f10⟩, f7, f8, f9⟩ := hl.aux
            have hicl : q.2.ic ≤ 1048574 := by have := (f3 _ _ f6).2; unfold lim at this; omega
            have hget : ∀ j, (Tr.set 20 (Tr.set 20 (q.2.tr.map (leaveO m) 1 0) q.2.ic .dead) t (ended E q.2.ib q.2.tl.length f capsl)).get? j = if j = t then some (ended E q.2.ib q.2.tl.length f capsl) else if j = q.2.ic then some .dead else (q.2.tr.get? j).map (leaveO m j) := fun j => by
              rw [Tr.get_set20 _ _ _ _ htl, Tr.get_set20 _ _ _ _ hicl, Tr.get_map1]
            have hold : ∀ j o, (Tr.set 20 (Tr.set 20 (q.2.tr.map (leaveO m) 1 0) q.2.ic .dead) t (ended E q.2.ib q.2.tl.length f capsl)).get? j = some o → (j = t ∧ o = ended E q.2.ib q.2.tl.length f capsl) ∨ (o = .dead ∧ j = q.2.ic) ∨ (j ≠ t ∧ ∃ o0, q.2.tr.get? j = some o0 ∧ o = leaveO m j o0) := by
              intro j o hj
              rw [hget] at hj
              split at hj
              · rename_i e; cases hj; exact .inl ⟨e, rfl⟩
              · rename_i n1
                split at hj
                · rename_i e; cases hj; exact .inr (.inl ⟨rfl, e⟩)
                · cases e : q.2.tr.get? j with
                  | none => rw [e] at hj; cases hj
                  | some o0 => rw [e] at hj; cases hj; exact .inr (.inr ⟨n1, o0, rfl, rfl⟩)
            have hρt : ρ2 t = some qt := f1 _ _ hqt
            have hR' : ∀ b ∈ R, w'.heap[b]? = w.heap[b]? := hby.2
            have hobj : ∀ j o0, q.2.tr.get? j = some o0 → isObj o0 = true → ∃ p, ρ2 j = some p ∧ ((p.1 ∈ R ∧ G.ok p.1) ∨ p.1 ∈ Q2) ∧ ObjC E ρ2 w' p o0 := by
              intro j o0 hj hio
              obtain ⟨p, p1, p2, _⟩ := f7 j o0 hj
              rcases p2 hio with ⟨y1, y2, y3⟩ | ⟨y1, y2⟩
              · exact ⟨p, p1, .inl ⟨y1, y2⟩, y3.to (Ren.le_refl ρ2) fun _ => hR' _ y1⟩
              · exact ⟨p, p1, .inr y1, y2⟩
            have hQ2pt : qt.1 ∉ Q2 := fun hm => hl.ptR (by simp [hm])
            refine ⟨.nilIface, rfl, _, List.mem_singleton.2 rfl, ρ2, ⟨f1, f2, hby.less hrX⟩, f4, .nilIface, ?_⟩
            have hcl := hl.cells
            rw [← hthr] at hcl
            have hEnd := ended_obj (steps := q.2.tl.reverse.length) hcl (.ptr q.2.ib 0 (qb.1, fx) f5) (.func (.func f) [] [] capsl dd rfl (RelL.nil _).2 hcaps.1 (hcaps.mono f1).2) (.int _ _) (.int _ _) (.bool _) .nilIface
            rw [List.length_reverse] at hEnd
            dsimp only
            suffices hfin : ∀ M' : Mem, M'.tr = Tr.set 20 (Tr.set 20 (q.2.tr.map (leaveO m) 1 0) q.2.ic .dead) t (ended E q.2.ib q.2.tl.length f capsl) → M'.nx = q.2.nx → M'.bs = q.2.bs → M'.ib = q.2.ib → M'.mode = 0 → Conc E G ρ2 M' w' from hfin _ rfl rfl rfl rfl rfl
            intro M' h1 h2 h3 h4 h5
            refine ⟨hheld'.below, by rw [h2]; exact f3, fun j o hj => ?_, fun i j oi oj qi qj hi hj hoi hoj hqi hqj e => ?_, ⟨(qt.1 :: (lv.ownBlock.toList ++ (E2 ++ Q2))) ++ R, fun b hb => List.mem_append_right _ (hrX b hb), fun j o qj hj hio hqj => ?_, .inr (.inl ⟨last S0 q.2.tl.reverse, pa, (qb.1, fx), ?_, h5, by rw [h4]; exact f5, hheld'⟩)⟩, fun b hb => Nat.lt_of_lt_of_le (hc.xlt b hb) hby.1, fun hm => absurd h5 hm, fun hm => absurd h5 hm, fun j o qj hj hio hqj => ?_, fun b hb => hc.new b (Nat.le_trans hby.1 hb), hc.hand⟩
            · rw [h1] at hj
              rcases hold j o hj with ⟨rfl, rfl⟩ | ⟨rfl, rfl⟩ | ⟨n1, o0, y1, rfl⟩
              · exact ⟨qt, hρt, hEnd, fun _ => htnew⟩
              · exact ⟨fy, f6, trivial, fun hm => by cases hm⟩
              · obtain ⟨p, p1, _, p3⟩ := f7 j o0 y1
                refine ⟨p, p1, ?_, fun hm => ?_⟩
                · cases hio : isObj o0 with
                  | true =>
                    obtain ⟨p', p1', _, p3'⟩ := hobj j o0 y1 hio
                    rw [p1] at p1'; cases p1'
                    exact leave_objC p3'
                  | false =>
                    apply leave_objC
                    cases o0 <;> first | trivial | (cases hio; done)
                · rcases leave_chg hm with ⟨z1, o1, z2, z3⟩ | ⟨_, z3⟩
                  · obtain ⟨p', b1, _, b3⟩ := hc.rows j o1 z2
                    have := f1 _ _ b1
                    rw [p1] at this; cases this
                    exact b3 z3
                  · exact p3 z3
            · rw [h1] at hi hj
              have key : ∀ x ox qx, (Tr.set 20 (Tr.set 20 (q.2.tr.map (leaveO m) 1 0) q.2.ic .dead) t (ended E q.2.ib q.2.tl.length f capsl)).get? x = some ox → isObj ox = true → ρ2 x = some qx → (x = t ∧ qx = qt) ∨ (x ≠ t ∧ qx.1 ≠ qt.1 ∧ ∃ o0, q.2.tr.get? x = some o0 ∧ isObj o0 = true) := by
                intro x ox qx z1 z2 z3
                rcases hold x ox z1 with ⟨rfl, rfl⟩ | ⟨rfl, rfl⟩ | ⟨n1, o0, y1, rfl⟩
                · rw [hρt] at z3; cases z3; exact .inl ⟨rfl, rfl⟩
                · cases z2
                · rw [leave_obj] at z2
                  obtain ⟨p, p1, p2, _⟩ := hobj x o0 y1 z2
                  rw [z3] at p1; cases p1
                  refine .inr ⟨n1, fun e => ?_, o0, y1, z2⟩
                  rcases p2 with ⟨y, _⟩ | y
                  · exact ((memR _).1 y).2.2.1 e
                  · exact hQ2pt (e ▸ y)
              rcases key i oi qi hi hoi hqi with ⟨y1, y2⟩ | ⟨y1, y2, o1, y3, y4⟩ <;> rcases key j oj qj hj hoj hqj with ⟨z1, z2⟩ | ⟨z1, z2, o2, z3, z4⟩
              · omega
              · rw [y2] at e; exact absurd e.symm z2
              · rw [z2] at e; exact absurd e y2
              · exact f8 i j o1 o2 qi qj y3 z3 y4 z4 hqi hqj e
            · rw [h1] at hj
              rcases hold j o hj with ⟨rfl, rfl⟩ | ⟨rfl, rfl⟩ | ⟨n1, o0, y1, rfl⟩
              · rw [hρt] at hqj; cases hqj
                exact List.mem_append_left _ (List.mem_cons_self ..)
              · cases hio
              · rw [leave_obj] at hio
                obtain ⟨p, p1, p2, _⟩ := hobj j o0 y1 hio
                rw [hqj] at p1; cases p1
                rcases p2 with ⟨y, _⟩ | y
                · exact List.mem_append_right _ y
                · exact List.mem_append_left _ (by simp [y])
            · rw [h3]; exact f10
            · rw [h1] at hj
              rcases hold j o hj with ⟨rfl, rfl⟩ | ⟨rfl, rfl⟩ | ⟨n1, o0, y1, rfl⟩
              · rw [hρt] at hqj; cases hqj
                exact hc.off _ _ qt ho rfl hqt
              · cases hio
              · rw [leave_obj] at hio
                obtain ⟨p, p1, p2, _⟩ := hobj j o0 y1 hio
                rw [hqj] at p1; cases p1
                rcases p2 with ⟨_, y⟩ | y
                · exact y
                · rcases f9 _ y with z | z
                  · rw [← hQ] at z
                    obtain ⟨_, _, _, _, _, _, _, _, _, _, z2, _⟩ := hQmem _ z
                    exact z2
                  · exact hc.new _ z
          · exact absurd hmode a
        · cases h4
      · cases h4
    · cases h3
  · cases h
end Go.Proofs.YtgmdbfackbdnlaaGreatDoor
