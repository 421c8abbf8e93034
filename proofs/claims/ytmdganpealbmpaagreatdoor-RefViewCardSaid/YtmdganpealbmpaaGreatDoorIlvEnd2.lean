/- IlvEnd2: IlvBody, IlvPlay, IlvSys, IlvEnd, OrdPlain, IlvEnd2. -/
import Derived.Test.YtmdganpealbmpaaGreatDoorIlvRef3

/- Layer 13's laws: what a transaction as a body keeps to, in any order of steps. No program stands here. -/
namespace Go.Proofs.YtmdganpealbmpaaGreatDoor.Th
open Bl

/-- Values, and what is written on them. -/
def ov (f : Nat → Nat) (ws : List (Nat × Nat)) : Nat → Nat := fun j => (wget (3 + 3 * j) ws).getD (f j)
theorem ov_nil (f : Nat → Nat) : ov f [] = f := rfl
theorem ov_put (f : Nat → Nat) (ws : List (Nat × Nat)) (j x : Nat) : ov f (wput (3 + 3 * j) x ws) = upd (ov f ws) j x := by
  funext i
  unfold ov upd
  rw [wget_wput]
  by_cases e : i = j
  · subst e; simp
  · rw [if_neg (by omega), if_neg e]
theorem doOps_told {n : Nat} : ∀ (l : List Op13) (acc : Nat) (now : Nat → Nat) (told : List Nat), told <+: (doOps n l acc now told).1
  | [], _, _, told => List.prefix_refl told
  | o :: l, acc, now, told => by
    unfold doOps
    split
    · exact (List.prefix_append _ _).trans (doOps_told l _ _ _)
    · split
      · exact doOps_told l _ _ _
      · exact doOps_told l _ _ _
/-- Values are those that were read. -/
def Agree (n : Nat) (ini : Nat → Nat) (reads : List (Nat × Int)) (g : Gh) (f : Nat → Nat) : Prop := ∀ j V, j < n → (3 + 3 * j, ((V : Nat) : Int)) ∈ reads → f j = vAt ini g V j
/-- What was read stood at a time. -/
def View (n : Nat) (reads : List (Nat × Int)) (T : Nat) (g : Gh) : Prop := ∀ x ∈ reads, ∃ j V, j < n ∧ x = (3 + 3 * j, ((V : Nat) : Int)) ∧ V ≤ T ∧ Made g j V ∧ NoneB g j V T
/-- What was told is the beginning of what is told at a time. -/
def SeenT (n : Nat) (ini : Nat → Nat) (l : List Op13) (told : List Nat) (g : Gh) : Prop := ∃ T reads, T ≤ g.clk ∧ View n reads T g ∧ ∀ f, Agree n ini reads g f → told <+: (doOps n l 0 f []).1
theorem View.gv {n T : Nat} {reads : List (Nat × Int)} {g g' : Gh} (h : View n reads T g) (v : GV n g g') (hT : T ≤ g.clk) : View n reads T g' := fun x hx => by
  obtain ⟨j, V, a, b, c, d, e⟩ := h x hx
  exact ⟨j, V, a, b, c, d.gv v (Nat.le_trans c hT), e.gv v hT⟩
theorem vAt_gv {n : Nat} {ini : Nat → Nat} {g g' : Gh} (v : GV n g g') {V : Nat} (hV : V ≤ g.clk) (j : Nat) : vAt ini g' V j = vAt ini g V j := by
  unfold vAt
  rw [(v.old V hV).1]
theorem Agree.back {n T : Nat} {ini : Nat → Nat} {reads : List (Nat × Int)} {g g' : Gh} {f : Nat → Nat} (h : Agree n ini reads g' f) (w : View n reads T g) (v : GV n g g') (hT : T ≤ g.clk) : Agree n ini reads g f := fun j V hj hx => by
  obtain ⟨j', V', a, b, c, _⟩ := w _ hx
  simp only [Prod.mk.injEq] at b
  rw [h j V hj hx, vAt_gv v (by omega)]
theorem SeenT.gv {n : Nat} {ini : Nat → Nat} {l : List Op13} {told : List Nat} {g g' : Gh} (h : SeenT n ini l told g) (v : GV n g g') : SeenT n ini l told g' := by
  obtain ⟨T, reads, a, b, c⟩ := h
  exact ⟨T, reads, Nat.le_trans a v.clk, b.gv v a, fun f hf => c f (hf.back b v a)⟩
theorem seen_nil {n : Nat} {ini : Nat → Nat} {l : List Op13} (g : Gh) : SeenT n ini l [] g := ⟨0, [], Nat.zero_le _, fun _ h => (by cases h), fun _ _ => List.nil_prefix⟩
/-- What came of a transaction that is done, by its stamp. -/
structure ReadOnly (n : Nat) (ini : Nat → Nat) (i : Nat) (l : List Op13) (lb : Nat) (told : List Nat) (T : Nat) (g : Gh) : Prop where
  lb : lb ≤ T
  le : T ≤ g.clk
  void : Void i g
  view : ∃ reads, View n reads T g ∧ ∀ f, Agree n ini reads g f → (doOps n l 0 f []).1 = told ∧ (doOps n l 0 f []).2 = f
structure Wrote (n : Nat) (ini : Nat → Nat) (i : Nat) (l : List Op13) (lb : Nat) (told : List Nat) (sN : Nat) (g : Gh) : Prop where
  lb : lb < sN
  le : sN ≤ g.clk
  own : g.own sN = i
  made : g.st sN = .made
  only : ∀ k, 1 ≤ k → k ≤ g.clk → g.own k = i → g.st k ≠ .void → k = sN
  view : ∃ reads, View n reads (sN - 1) g ∧ ∀ f, Agree n ini reads g f → (doOps n l 0 f []).1 = told ∧ ∀ j, (doOps n l 0 f []).2 j = (g.wr sN j).getD (f j)
/-- What comes of a body. -/
inductive BodyQ (n : Nat) (ini : Nat → Nat) (i : Nat) (l : List Op13) (lb : Nat) (a : Nat × (Out13 → Out13)) (g : Gh) : Prop
  | no (h : a.1 = 12) (hi : IdleI n i g) (hs : ∀ o, SeenT n ini l (a.2 o).told g) (hd : ∀ o, (a.2 o).done = false)
  | read (T : Nat) (told : List Nat) (h : a.1 = 0) (ho : ∀ o, a.2 o = ⟨told, true, false, (T : Int)⟩) (hl : ∀ j, j < n → g.lk j ≠ some i) (hr : ReadOnly n ini i l lb told T g)
  | wrote (sN : Nat) (told : List Nat) (h : a.1 = 0) (ho : ∀ o, a.2 o = ⟨told, true, true, (sN : Int)⟩) (hl : ∀ j, j < n → g.lk j ≠ some i) (hw : Wrote n ini i l lb told sN g)
/-- A step of it is over. -/
def BodyE (n : Nat) (ini : Nat → Nat) (i : Nat) (l : List Op13) (lb : Nat) (a : Nat × (Out13 → Out13)) (g : Gh) : Prop := (a.1 = 11 ∧ ∀ o, SeenT n ini l (a.2 o).told g) ∨ BodyQ n ini i l lb a g

section
variable {n : Nat} {ini ow : Nat → Nat} {i : Nat}
/-- How far the operations are. -/
structure Far (n : Nat) (ini : Nat → Nat) (l rest : List Op13) (t : Tx) (acc : Nat) (told : List Nat) (g : Gh) : Prop where
  go : ∀ f, Agree n ini t.sets.reads g f → doOps n l 0 f [] = doOps n rest acc (ov f t.sets.writes) told
theorem Far.seen {k T : Nat} {own : Int} {l rest : List Op13} {t : Tx} {acc : Nat} {told : List Nat} {g : Gh} (h : Far n ini l rest t acc told g) (ht : TxI n i own k T t g) : SeenT n ini l told g :=
  ⟨T, t.sets.reads, ht.le, ht.reads, fun f hf => by rw [h.go f hf]; exact doOps_told _ _ _ _⟩
theorem Far.gv {k T : Nat} {own : Int} {l rest : List Op13} {t : Tx} {acc : Nat} {told : List Nat} {g g' : Gh} (h : Far n ini l rest t acc told g) (ht : TxI n i own k T t g) (v : GV n g g') : Far n ini l rest t acc told g' :=
  ⟨fun f hf => h.go f (hf.back ht.reads v ht.le)⟩
/-- An end of the operations: how many errors, and what is so then. -/
def OpsPost (n : Nat) (ini ow : Nat → Nat) (i : Nat) (l : List Op13) (lb k : Nat) (a : Nat × (Tx × List Nat)) (g : Gh) : Prop :=
  (a.1 = 12 ∧ IdleI n i g ∧ SeenT n ini l a.2.2 g) ∨ (a.1 = 0 ∧ IdleI n i g ∧ ∃ T, lb ≤ T ∧ TxI n i (ow i : Int) k T a.2.1 g ∧ ∃ acc, Far n ini l [] a.2.1 acc a.2.2 g)
theorem bodyOps_keeps (ho : ∀ i, ow i ≤ 255) {cells : List Nat} (hn : 1 ≤ n) (hcell : ∀ a : Int, cellAt cells a = 3 + 3 * (a % (n : Int)).toNat) {l : List Op13} {lb : Nat} {E Q : Nat × (Tx × List Nat) → Gh → Prop} (hE : ∀ e t told s, (e = 11 ∨ e = 12 ∧ IdleI n i s) → GOk n ini ow s → SeenT n ini l told s → E (e, t, told) s) {m : Nat} (hQ : ∀ a s, GOk n ini ow s → OpsPost n ini ow i l lb m a s → Q a s) :
    ∀ (rest : List Op13) (t : Tx) (acc : Nat) (told : List Nat) (k T : Nat) (s : Gh), GOk n ini ow s → IdleI n i s → TxI n i (ow i : Int) k T t s → lb ≤ T → Far n ini l rest t acc told s → k + rest.length ≤ m → m ≤ 40 → Keeps (gm n ini ow i) E (bodyOps cells rest t acc told) (60 * rest.length) Q s
  | [], t, acc, told, k, T, s, hs, hi, ht, hlb, hf, hm, _ => by
    unfold bodyOps
    exact hQ _ s hs (.inr ⟨rfl, hi, T, hlb, ht.more (by simpa using hm), acc, hf⟩)
  | o :: rest, t, acc, told, k, T, s, hs, hi, ht, hlb, hf, hm, hm' => by
    simp only [List.length_cons] at hm
    have hj : (o.a % (n : Int)).toNat < n := by
      have h1 := Int.emod_nonneg o.a (b := (n : Int)) (by omega)
      have h2 := Int.emod_lt_of_pos o.a (b := (n : Int)) (by omega)
      omega
    have hgo := hf.go
    unfold bodyOps
    rw [hcell]
    by_cases h1 : o.kind = 1
    · rw [if_pos h1]
      refine Keeps.bindM (m := 19 + k) (n := 60 * rest.length) (tRead_keeps ho hj (by omega) hs ht (fun e x s1 he hv ho1 => ⟨(e, x.2, told), by rcases he with rfl | rfl <;> rfl, hE e x.2 told s1 (by rcases he with rfl | rfl; exact .inl rfl; exact .inr ⟨rfl, hi.gr hv⟩) ho1 ((hf.seen ht).gv hv.gv)⟩) fun r s1 k1 k2 kp => ?_) (by simp only [List.length_cons]; omega)
      · rcases kp with e | ⟨v, t', T', rfl, e1, e2, e3, e4, e5⟩
        · rw [if_neg (by rw [e]; decide)]
          exact hQ _ s1 k2 (.inl ⟨e, hi.gr k1, (hf.seen ht).gv k1.gv⟩)
        · simp only [if_true]
          refine bodyOps_keeps ho hn hcell hE hQ rest t' _ _ (k + 1) T' s1 k2 (hi.gr k1) e1 (Nat.le_trans hlb e2) ⟨fun f hA => ?_⟩ (by omega) hm'
          have hA0 : Agree n ini t.sets.reads s1 f := fun j V hj' hx => hA j V hj' (e4 _ hx)
          rw [hgo f (hA0.back ht.reads k1.gv ht.le)]
          conv => lhs; unfold doOps
          rw [if_pos h1, e3]
          have hv : ov f t.sets.writes (o.a % (n : Int)).toNat = v := by
            unfold ov
            rcases e5 with q | ⟨q, V, q1, q2⟩
            · rw [q]; rfl
            · rw [q, q2]
              exact hA _ V hj q1
          rw [hv]
    · rw [if_neg h1]
      by_cases h2 : o.kind = 2
      · rw [if_pos h2]
        obtain ⟨t', e0, e1, e2, e3⟩ := tWrite_keeps ht (by omega) hj ((acc + o.x) % 18446744073709551616)
        rw [e0]
        simp only [if_true]
        refine (bodyOps_keeps ho hn hcell hE hQ rest t' acc told (k + 1) T s hs hi e1 hlb ⟨fun f hA => ?_⟩ (by omega) hm').more (by simp only [List.length_cons]; omega)
        rw [e3] at hA
        rw [hgo f hA, e2, ov_put]
        conv => lhs; unfold doOps
        rw [if_neg h1, if_pos h2]
      · rw [if_neg h2]
        have hskip : ∀ f, doOps n (o :: rest) acc (ov f t.sets.writes) told = doOps n rest acc (ov f t.sets.writes) told := fun f => by
          conv => lhs; unfold doOps
          rw [if_neg h1, if_neg h2]
        have hf' : Far n ini l rest t acc told s := ⟨fun f hA => by rw [hgo f hA, hskip]⟩
        by_cases h3 : o.kind = 3
        · rw [if_pos h3]
          refine Keeps.bindM (m := k) (n := 60 * rest.length) (tCheck_keeps ho hs ht (fun x s1 hv ho1 => ⟨(11, t, told), rfl, hE 11 t told s1 (.inl rfl) ho1 ((hf.seen ht).gv hv.gv)⟩) fun r s1 k1 k2 kp => ?_) (by simp only [List.length_cons]; omega)
          rcases kp with rfl | rfl
          · exact hQ _ s1 k2 (.inl ⟨rfl, hi.gr k1, (hf.seen ht).gv k1.gv⟩)
          · simp only [if_true]
            exact bodyOps_keeps ho hn hcell hE hQ rest t acc told k T s1 k2 (hi.gr k1) (ht.gv k1.gv) hlb (hf'.gv ht k1.gv) (by omega) hm'
        · rw [if_neg h3]
          exact (bodyOps_keeps ho hn hcell hE hQ rest t acc told k T s hs hi ht hlb hf' (by omega) hm').more (by simp only [List.length_cons]; omega)
theorem body_keeps (ho : ∀ i, ow i ≤ 255) {cells : List Nat} (hn : 1 ≤ n) (hcell : ∀ a : Int, cellAt cells a = 3 + 3 * (a % (n : Int)).toNat) {l : List Op13} (hl : l.length ≤ 10) {lb : Nat} {s : Gh} (_hs : GOk n ini ow s) (hi : IdleI n i s) (hlb : lb ≤ s.clk) :
    Keeps (gm n ini ow i) (BodyE n ini i l lb) (bodyT l 1 cells (ow i : Int)) 1000 (BodyQ n ini i l lb) s := by
  unfold bodyT
  refine Keeps.bindM (m := 1) (n := 999) (tBegin_keeps (fun x s1 _ _ => ⟨_, rfl, .inl ⟨rfl, fun _ => seen_nil s1⟩⟩) fun t s1 k1 k2 k3 k4 => ?_) (by omega)
  simp only [if_true]
  have hi1 := hi.gr k1
  have hlb1 : lb ≤ s1.clk := Nat.le_trans hlb k1.clk
  refine Keeps.bindM (m := 60 * l.length) (n := 300) (bodyOps_keeps ho hn hcell (l := l) (lb := lb) (m := 10) ?_ ?_ l t 0 [] 0 s1.clk s1 k2 hi1 k3 hlb1 ⟨fun f _ => by rw [k4]; rfl⟩ (by omega) (by omega)) (by omega)
  · rintro e t told s2 he h2 h3
    rcases he with rfl | ⟨rfl, he⟩
    · exact ⟨_, rfl, .inl ⟨rfl, fun _ => h3⟩⟩
    · exact ⟨_, rfl, .inr (.no rfl he (fun _ => h3) fun _ => rfl)⟩
  · rintro ⟨e, t2, told⟩ s2 g2 hp
    unfold bodyEnd
    rcases hp with ⟨e12, a1, a2⟩ | ⟨e0, a1, T, a2, a3, acc, a4⟩
    · simp only at e12
      subst e12
      exact .no rfl a1 (fun _ => a2) fun _ => rfl
    · simp only at e0 a2 a3 a4
      subst e0
      simp only [if_true]
      have hseen := a4.seen a3
      have hfin : ∀ f, Agree n ini t2.sets.reads s2 f → doOps n l 0 f [] = (told, ov f t2.sets.writes) := fun f hA => by rw [a4.go f hA]; rfl
      by_cases hw : t2.sets.writes = []
      · unfold tCommit
        rw [if_pos hw]
        refine BodyQ.read T told rfl (fun o => ?_) a1.lk ⟨a2, a3.le, a1.void, t2.sets.reads, a3.reads, fun f hA => ?_⟩
        · simp [hw, a3.stamp]
        · rw [hfin f hA, hw]
          exact ⟨rfl, rfl⟩
      · refine Keeps.bindM (m := 22 * 10 + 16 + 10) (n := 0) (tCommit_keeps ho g2 a3 a1 (by omega) hw (fun x s3 hv h3 => ⟨_, rfl, .inl ⟨rfl, fun _ => hseen.gv hv⟩⟩) fun r s3 h1 h2 hp => ?_) (by omega)
        cases hp with
        | no h h' =>
          subst h
          exact .no rfl h' (fun _ => hseen.gv h1) fun _ => rfl
        | done sN w h hp hm hT hr =>
          subst h
          refine BodyQ.wrote sN told rfl (fun o => ?_) (fun j hj e => (hp.lk j hj).1 e) ⟨by omega, hp.le, hp.own, hm, hp.only, t2.sets.reads, fun x hx => ?_, fun f hA => ?_⟩
          · simp [hw]
          · obtain ⟨j, V, b1, b2, b3, b4, b5⟩ := hr x hx
            exact ⟨j, V, b1, b2, by omega, b4, b5⟩
          · rw [hfin f (hA.back a3.reads h1 a3.le)]
            refine ⟨rfl, fun j => ?_⟩
            rw [hp.wr]
            rfl
end
end Go.Proofs.YtmdganpealbmpaaGreatDoor.Th

/- Layer 13's laws: several transactions that go on in any order of steps, and their times. No program stands here. -/
namespace Go.Proofs.YtmdganpealbmpaaGreatDoor.Th
open Bl

/-- Transactions that run: the threads, when their rounds began, when they ended, the time, the blocks. -/
structure Sys where
  ts : List (TS Out13)
  beg : List Nat
  fin : List Nat
  now : Nat
  S : BS
def prog13 (l : List Op13) (cells : List Nat) (k : Nat) : Prog Out13 := treeBody fun _ => bodyT l 1 cells ((k + 1 : Nat) : Int)
/-- One of them goes on. -/
def pstep (L : List (List Op13)) (cells : List Nat) (k : Nat) (y : Sys) : Sys :=
  match y.ts[k]? with
  | none => y
  | some t => if t.done = true then { y with now := y.now + 1 } else
    let r := step (prog13 (L.getD k []) cells k) t y.S
    let b1 := if t.steps = 0 then y.beg.set k (y.now + 1) else y.beg
    ⟨y.ts.set k r.2.1, if r.2.1.round ≠ t.round then b1.set k (y.now + 2) else b1, if r.2.1.done = true then y.fin.set k (y.now + 1) else y.fin, y.now + 1, r.2.2⟩
/-- What came of one that is at its end, by the ghost. -/
inductive Fin13 (n : Nat) (ini : Nat → Nat) (k : Nat) (l : List Op13) (lb up : Nat) (o : Out13) (g : Gh) : Prop
  | no (h : o.done = false) (hi : IdleI n k g)
  | read (T : Nat) (h : o.done = true) (hw : o.wrote = false) (hs : o.stamp = (T : Int)) (hu : T ≤ up) (hl : ∀ j, j < n → g.lk j ≠ some k) (hr : ReadOnly n ini k l lb o.told T g)
  | wrote (sN : Nat) (h : o.done = true) (hw : o.wrote = true) (hs : o.stamp = (sN : Int)) (hu : sN ≤ up) (hl : ∀ j, j < n → g.lk j ≠ some k) (hr : Wrote n ini k l lb o.told sN g)
inductive TInv (n : Nat) (ini ow : Nat → Nat) (cells : List Nat) (k : Nat) (l : List Op13) (now : Nat) (H : Nat → Nat) (g : Gh) (P : Nat) (t : TS Out13) (b f : Nat) : Prop
  | fresh (hd : t.done = false) (hl : t.log = []) (hr : t.round < 40) (hP : (40 - t.round) * 1001 ≤ P) (hi : IdleI n k g) (hb : t.steps = 0 ∨ (1 ≤ b ∧ b ≤ now + 1))
  | runs (hd : t.done = false) (hs : t.steps ≠ 0) (hr : t.round < 40) (m : Nat) (op : BS → Ntry × BS) (kk : Nat → Ntry → Tree (Nat × (Out13 → Out13))) (hP : (39 - t.round) * 1001 + m + 1 ≤ P) (hm : t.log.length + m ≤ 3400) (hb : 1 ≤ b ∧ b ≤ now) (hq : res (bodyT l 1 cells ((k + 1 : Nat) : Int)) 0 t.log = some (.acc op kk))
      (hk : Keeps (gm n ini ow k) (BodyE n ini k l (H (b - 1))) (.acc op kk) m (BodyQ n ini k l (H (b - 1))) g)
  | over (hd : t.done = true) (hb : 1 ≤ b ∧ b ≤ f ∧ f ≤ now) (hf : Fin13 n ini k l (H (b - 1)) (H f) t.aux g)

section
variable {n : Nat} {ini ow : Nat → Nat}
theorem ReadOnly.gr {i lb T : Nat} {l : List Op13} {told : List Nat} {g g' : Gh} (h : ReadOnly n ini i l lb told T g) (r : GR n i g g') : ReadOnly n ini i l lb told T g' := by
  obtain ⟨reads, hv, hf⟩ := h.view
  exact ⟨h.lb, Nat.le_trans h.le r.clk, h.void.gr r, reads, hv.gv r.gv h.le, fun f hA => hf f (hA.back hv r.gv h.le)⟩
theorem Wrote.gr {i lb sN : Nat} {l : List Op13} {told : List Nat} {g g' : Gh} (h : Wrote n ini i l lb told sN g) (r : GR n i g g') : Wrote n ini i l lb told sN g' := by
  obtain ⟨reads, hv, hf⟩ := h.view
  have hle : sN - 1 ≤ g.clk := by have := h.le; omega
  refine ⟨h.lb, Nat.le_trans h.le r.clk, by rw [(r.old sN h.le).2]; exact h.own, (r.st sN h.le (by rw [h.made]; decide)).trans h.made, fun k h1 h2 h3 h4 => ?_, reads, hv.gv r.gv hle, fun f hA => ?_⟩
  · obtain ⟨a, b⟩ := r.mine k h2 h3
    exact h.only k h1 a (by rw [← (r.old k a).2]; exact h3) (by rw [← b]; exact h4)
  · rw [(r.old sN h.le).1]
    exact hf f (hA.back hv r.gv hle)
theorem Fin13.gr {k lb up : Nat} {l : List Op13} {o : Out13} {g g' : Gh} (h : Fin13 n ini k l lb up o g) (r : GR n k g g') : Fin13 n ini k l lb up o g' := by
  cases h with
  | no h hi => exact .no h (hi.gr r)
  | read T h hw hs hu hl hr => exact .read T h hw hs hu (fun j hj e => hl j hj ((r.lk j hj).2 e)) (hr.gr r)
  | wrote sN h hw hs hu hl hr => exact .wrote sN h hw hs hu (fun j hj e => hl j hj ((r.lk j hj).2 e)) (hr.gr r)
/-- Another one goes on. -/
theorem TInv.gr {cells : List Nat} {k now now' P b f : Nat} {l : List Op13} {H H' : Nat → Nat} {g g' : Gh} {t : TS Out13} (h : TInv n ini ow cells k l now H g P t b f) (r : GR n k g g') (hn : now ≤ now') (hH : ∀ x, x ≤ now → H' x = H x) : TInv n ini ow cells k l now' H' g' P t b f := by
  cases h with
  | fresh hd hl hr hP hi hb => exact .fresh hd hl hr hP (hi.gr r) (hb.imp id fun h => ⟨h.1, by omega⟩)
  | runs hd hs hr m op kk hP hm hb hq hk =>
    refine .runs hd hs hr m op kk hP hm ⟨hb.1, by omega⟩ hq ?_
    rw [hH (b - 1) (by omega)]
    exact hk.rely gm_good r
  | over hd hb hf =>
    refine .over hd ⟨hb.1, hb.2.1, by omega⟩ ?_
    rw [hH (b - 1) (by omega), hH f (by omega)]
    exact hf.gr r
set_option maxRecDepth 10000 in
/-- It goes on itself. -/
theorem TInv.step {cells : List Nat} (ho : ∀ i, ow i ≤ 255) (hn : 1 ≤ n) (hcell : ∀ a : Int, cellAt cells a = 3 + 3 * (a % (n : Int)).toNat) {k now P b f : Nat} {l : List Op13} (hl : l.length ≤ 10) (hown : ow k = k + 1) {H : Nat → Nat} {g : Gh} {t : TS Out13} (hg : GOk n ini ow g) (hs : GSmall g) (h : TInv n ini ow cells k l now H g P t b f) (hd : t.done = false) (hHn : H now = g.clk) (hmono : ∀ x, x ≤ now → H x ≤ H now) :
    ∃ g', GOk n ini ow g' ∧ GG n k g g' ∧ g'.S = (Th.step (prog13 l cells k) t g.S).2.2 ∧ (∀ H' : Nat → Nat, (∀ x, x ≤ now → H' x = H x) → H' (now + 1) = g'.clk → ∀ P', P ≤ P' + 1 → TInv n ini ow cells k l (now + 1) H' g' P' (Th.step (prog13 l cells k) t g.S).2.1
        (if (Th.step (prog13 l cells k) t g.S).2.1.round ≠ t.round then now + 2 else if t.steps = 0 then now + 1 else b) (if (Th.step (prog13 l cells k) t g.S).2.1.done = true then now + 1 else f)) ∧ (SeenT n ini l t.aux.told g → SeenT n ini l (Th.step (prog13 l cells k) t g.S).2.1.aux.told g') := by
  -- as it stands ahead of the step
  obtain ⟨b', hb'⟩ : ∃ b', (if t.steps = 0 then now + 1 else b) = b' := ⟨_, rfl⟩
  obtain ⟨m, op, kk, hr40, hP, hm, hbb, hq, hk⟩ : ∃ m op kk, t.round < 40 ∧ (39 - t.round) * 1001 + m + 1 ≤ P ∧ t.log.length + m ≤ 3400 ∧ (1 ≤ b' ∧ b' ≤ now + 1) ∧ res (bodyT l 1 cells ((k + 1 : Nat) : Int)) 0 t.log = some (.acc op kk) ∧ Keeps (gm n ini ow k) (BodyE n ini k l (H (b' - 1))) (.acc op kk) m (BodyQ n ini k l (H (b' - 1))) g := by
    cases h with
    | fresh _ hl' hr hP hi hb =>
      have hb1 : 1 ≤ b' ∧ b' ≤ now + 1 := by
        rw [← hb']
        split
        · omega
        · rename_i e
          rcases hb with q | q
          · exact absurd q e
          · exact q
      have hlb : H (b' - 1) ≤ g.clk := by rw [← hHn]; exact hmono _ (by omega)
      have hK := body_keeps (i := k) ho hn hcell hl hg hi hlb
      rw [hown] at hK
      obtain ⟨op, kk, e⟩ : ∃ op kk, bodyT l 1 cells ((k + 1 : Nat) : Int) = .acc op kk := ⟨_, _, rfl⟩
      rw [e] at hK
      refine ⟨1000, op, kk, hr, ?_, by rw [hl']; simp, hb1, by rw [hl', e]; rfl, hK⟩
      have : (40 - t.round) * 1001 = (39 - t.round) * 1001 + 1001 := by
        rw [show 40 - t.round = (39 - t.round) + 1 by omega, Nat.add_mul, Nat.one_mul]
      omega
    | runs _ hs0 hr m op kk hP hm hb hq hk =>
      rw [if_neg hs0] at hb'
      subst hb'
      exact ⟨m, op, kk, hr, hP, hm, ⟨hb.1, by omega⟩, hq, hk⟩
    | over hd' _ _ => rw [hd] at hd'; cases hd'
  obtain ⟨g', o1, o2, o3, hc⟩ := step_keeps (P := fun _ => bodyT l 1 cells ((k + 1 : Nat) : Int)) (t := t) gm_good (fun a s h => by rcases h with h | h; exact .inl h.1; exact .inr h) (fun a s h => by cases h with
    | no h => rw [h]; decide
    | read _ _ h => rw [h]; decide
    | wrote _ _ h => rw [h]; decide) hd hq hk hm hg hs
  have o3' : g'.S = (Th.step (prog13 l cells k) t g.S).2.2 := o3
  refine ⟨g', o1, o2, o3', ?_⟩
  obtain ⟨t', ht'⟩ : ∃ t', (Th.step (prog13 l cells k) t g.S).2.1 = t' := ⟨_, rfl⟩
  have hc' : Came Out13 Gh (BodyE n ini k l (H (b' - 1))) (BodyQ n ini k l (H (b' - 1))) (gm n ini ow k) (fun _ => bodyT l 1 cells ((k + 1 : Nat) : Int)) t t' m g' := by rw [← ht']; exact hc
  rw [ht', hb']
  have hov : ∀ (H' : Nat → Nat) (a : Nat × (Out13 → Out13)), (∀ x, x ≤ now → H' x = H x) → a.1 ≠ 12 → BodyQ n ini k l (H (b' - 1)) a g' → H' (now + 1) = g'.clk → Fin13 n ini k l (H' (b' - 1)) (H' (now + 1)) (a.2 t.aux) g' := fun H' a hH h12 hqa hHn' => by
    rw [hHn', hH _ (by omega : b' - 1 ≤ now)]
    cases hqa with
    | no h _ _ => exact absurd h h12
    | read T told h ho hl hr => rw [ho]; exact .read T rfl rfl rfl hr.le hl hr
    | wrote sN told h ho hl hr => rw [ho]; exact .wrote sN rfl rfl rfl hr.le hl hr
  have hsq : ∀ a : Nat × (Out13 → Out13), BodyQ n ini k l (H (b' - 1)) a g' → SeenT n ini l (a.2 t.aux).told g' := fun a hqa => by
    cases hqa with
    | no h _ hs => exact hs t.aux
    | read T told h ho hl hr =>
      rw [ho]
      obtain ⟨reads, hv, hf⟩ := hr.view
      exact ⟨T, reads, hr.le, hv, fun f hA => by rw [(hf f hA).1]; exact List.prefix_refl _⟩
    | wrote sN told h ho hl hr =>
      rw [ho]
      obtain ⟨reads, hv, hf⟩ := hr.view
      exact ⟨sN - 1, reads, by have := hr.le; omega, hv, fun f hA => by rw [(hf f hA).1]; exact List.prefix_refl _⟩
  cases hc' with
  | on x bb op' kk' ht he h11 hr hk' =>
    subst ht
    refine ⟨fun H' hH hHn' P' hP' => ?_, fun _ => ?_⟩
    · simp only [ne_eq, not_true, if_false, Bool.false_eq_true]
      refine .runs rfl (Nat.succ_ne_zero _) hr40 (m - 1) op' kk' ?_ ?_ hbb hr (by rw [hH _ (by omega : b' - 1 ≤ now)]; exact hk')
      · have := hk.1
        simp only
        omega
      · have := hk.1
        simp
        omega
    · rcases he with ⟨_, q⟩ | q
      · exact q t.aux
      · exact hsq bb q
  | over Lg a h12 ht hqa =>
    subst ht
    refine ⟨fun H' hH hHn' P' hP' => ?_, fun _ => hsq a hqa⟩
    simp only [ne_eq, not_true, if_false, if_true]
    exact .over rfl ⟨hbb.1, by omega, Nat.le_refl _⟩ (hov H' a hH h12 hqa hHn')
  | last Lg a h12 hr ht hqa =>
    subst ht
    refine ⟨fun H' hH hHn' P' hP' => ?_, fun _ => hsq a hqa⟩
    simp only [ne_eq, not_true, if_false, if_true]
    refine .over rfl ⟨hbb.1, by omega, Nat.le_refl _⟩ ?_
    cases hqa with
    | no h hi _ hd0 => exact .no (hd0 _) hi
    | read _ _ h => rw [h] at h12; cases h12
    | wrote _ _ h => rw [h] at h12; cases h12
  | anew a h12 hr ht hqa =>
    subst ht
    refine ⟨fun H' hH hHn' P' hP' => ?_, fun _ => hsq a hqa⟩
    simp only [ne_eq, Nat.succ_ne_self, not_false_eq_true, if_true, Bool.false_eq_true, if_false]
    cases hqa with
    | no h hi _ hd0 =>
      refine .fresh rfl rfl hr ?_ hi (.inr ⟨by omega, by omega⟩)
      simp only
      have : 40 - (t.round + 1) = 39 - t.round := by omega
      rw [this]
      omega
    | read _ _ h => rw [h] at h12; cases h12
    | wrote _ _ h => rw [h] at h12; cases h12
end
end Go.Proofs.YtmdganpealbmpaaGreatDoor.Th

/- Layer 13's laws: what is so of several transactions at each time, and when all are at their ends. No program stands here. -/
namespace Go.Proofs.YtmdganpealbmpaaGreatDoor.Th
open Bl

structure SysI (n : Nat) (ini ow : Nat → Nat) (cells : List Nat) (L : List (List Op13)) (y : Sys) (H : Nat → Nat) (g : Gh) (P : Nat → Nat) : Prop where
  gS : g.S = y.S
  ok : GOk n ini ow g
  clk : g.clk ≤ y.now
  Hn : H y.now = g.clk
  mono : ∀ a b, a ≤ b → b ≤ y.now → H a ≤ H b
  lens : y.ts.length = L.length ∧ y.beg.length = L.length ∧ y.fin.length = L.length
  own : ∀ s, 1 ≤ s → s ≤ g.clk → g.own s < L.length
  lks : ∀ j i, j < n → g.lk j = some i → i < L.length
  thr : ∀ k t, y.ts[k]? = some t → TInv n ini ow cells k (L.getD k []) y.now H g (P k) t (y.beg.getD k 0) (y.fin.getD k 0) ∧ SeenT n ini (L.getD k []) t.aux.told g
def less1 (P : Nat → Nat) (k : Nat) : Nat → Nat := fun j => if j = k then P j - 1 else P j
theorem getD_set {α : Type} (l : List α) (k j : Nat) (x d : α) (hk : k < l.length) : (l.set k x).getD j d = if j = k then x else l.getD j d := by
  simp only [List.getD_eq_getElem?_getD, List.getElem?_set]
  by_cases e : k = j
  · subst e; simp [hk]
  · have : ¬ j = k := fun q => e q.symm
    simp [e, this]
section
variable {n : Nat} {ini ow : Nat → Nat} {cells : List Nat} {L : List (List Op13)}
theorem SysI.step (ho : ∀ i, ow i ≤ 255) (hn : 1 ≤ n) (hcell : ∀ a : Int, cellAt cells a = 3 + 3 * (a % (n : Int)).toNat) (hL : ∀ k, (L.getD k []).length ≤ 10) (hown : ∀ k, k < L.length → ow k = k + 1) {y : Sys} {H : Nat → Nat} {g : Gh} {P : Nat → Nat} (h : SysI n ini ow cells L y H g P) (hnow : y.now < 281474976700000) {k : Nat} (hk : k < L.length) :
    ∃ H' g', SysI n ini ow cells L (pstep L cells k y) H' g' (less1 P k) ∧ GV n g g' := by
  obtain ⟨t, ht⟩ : ∃ t, y.ts[k]? = some t := ⟨y.ts[k]'(by rw [h.lens.1]; exact hk), List.getElem?_eq_getElem _⟩
  obtain ⟨hT, hS⟩ := h.thr k t ht
  unfold pstep
  rw [ht]
  simp only
  by_cases hd : t.done = true
  · rw [if_pos hd]
    refine ⟨fun x => if x ≤ y.now then H x else g.clk, g, ⟨h.gS, h.ok, Nat.le_succ_of_le h.clk, ?_, fun a b hab hb => ?_, h.lens, h.own, h.lks, fun j t' ht' => ?_⟩, GV.refl g⟩
    · simp only; rw [if_neg (by omega)]
    · simp only at hb ⊢
      by_cases e : b ≤ y.now
      · rw [if_pos e, if_pos (by omega)]; exact h.mono a b hab e
      · rw [if_neg e]
        by_cases e' : a ≤ y.now
        · rw [if_pos e', ← h.Hn]; exact h.mono _ _ e' (Nat.le_refl _)
        · rw [if_neg e']; exact Nat.le_refl _
    · obtain ⟨a, b⟩ := h.thr j t' ht'
      have a' := a.gr (now' := y.now + 1) (H' := fun x => if x ≤ y.now then H x else g.clk) (GR.refl g) (Nat.le_succ _) (fun x hx => if_pos hx)
      refine ⟨?_, b⟩
      by_cases e : j = k
      · subst e
        rw [ht] at ht'
        obtain rfl := Option.some.inj ht'
        cases a' with
        | fresh q => rw [hd] at q; cases q
        | runs q => rw [hd] at q; cases q
        | over q1 q2 q3 => exact .over q1 q2 q3
      · unfold less1; rw [if_neg e]; exact a'
  · rw [if_neg hd]
    have hd' : t.done = false := by simpa using hd
    have hsm : GSmall g := by
      have := h.clk
      unfold GSmall
      omega
    obtain ⟨g', o1, o2, o3, o4, o5⟩ := TInv.step ho hn hcell (hL k) (hown k hk) h.ok hsm hT hd' h.Hn (fun x hx => h.mono x _ hx (Nat.le_refl _))
    rw [h.gS] at o3 o4 o5
    obtain ⟨r, hr⟩ : ∃ r, Th.step (prog13 (L.getD k []) cells k) t y.S = r := ⟨_, rfl⟩
    rw [hr] at o3 o4 o5 ⊢
    have hclk := (o2.1 (k + 1) (Nat.succ_ne_self k)).clk
    refine ⟨fun x => if x ≤ y.now then H x else g'.clk, g', ⟨o3, o1, ?_, ?_, fun a b hab hb => ?_, ?_, fun s h1 h2 => ?_, fun j i hj hi => ?_, fun j t' ht' => ?_⟩, o2.gv⟩
    · have := h.clk
      have := o2.2
      simp only
      omega
    · simp only; rw [if_neg (by omega)]
    · simp only at hb ⊢
      by_cases e : b ≤ y.now
      · rw [if_pos e, if_pos (by omega)]; exact h.mono a b hab e
      · rw [if_neg e]
        by_cases e' : a ≤ y.now
        · rw [if_pos e']
          have := h.mono _ _ e' (Nat.le_refl _)
          have := h.Hn
          omega
        · rw [if_neg e']; exact Nat.le_refl _
    · obtain ⟨l1, l2, l3⟩ := h.lens
      refine ⟨by simpa using l1, ?_, ?_⟩
      · show (if r.2.1.round ≠ t.round then (if t.steps = 0 then y.beg.set k (y.now + 1) else y.beg).set k (y.now + 2) else if t.steps = 0 then y.beg.set k (y.now + 1) else y.beg).length = L.length
        repeat' split
        all_goals simpa using l2
      · show (if r.2.1.done = true then y.fin.set k (y.now + 1) else y.fin).length = L.length
        split
        · simpa using l3
        · exact l3
    · by_cases e : g'.own s = k
      · rw [e]; exact hk
      · obtain ⟨q, _⟩ := (o2.1 _ e).mine s h2 rfl
        rw [((o2.1 _ e).old s q).2]
        exact h.own s h1 q
    · by_cases e : i = k
      · rw [e]; exact hk
      · exact h.lks j i hj (((o2.1 i e).lk j hj).2 hi)
    · simp only at ht' ⊢
      have hb1 : k < y.beg.length := by rw [h.lens.2.1]; exact hk
      have hf1 : k < y.fin.length := by rw [h.lens.2.2]; exact hk
      have htl : k < y.ts.length := by rw [h.lens.1]; exact hk
      by_cases e : j = k
      · subst e
        rw [List.getElem?_set_self htl] at ht'
        obtain rfl := Option.some.inj ht'
        refine ⟨?_, o5 hS⟩
        have := o4 (fun x => if x ≤ y.now then H x else g'.clk) (fun x hx => if_pos hx) (if_neg (by omega)) (P j - 1) (by omega)
        unfold less1
        rw [if_pos rfl]
        have e1 : (if r.2.1.round ≠ t.round then (if t.steps = 0 then y.beg.set j (y.now + 1) else y.beg).set j (y.now + 2) else if t.steps = 0 then y.beg.set j (y.now + 1) else y.beg).getD j 0 = (if r.2.1.round ≠ t.round then y.now + 2 else if t.steps = 0 then y.now + 1 else y.beg.getD j 0) := by
          by_cases q1 : r.2.1.round ≠ t.round
          · rw [if_pos q1, if_pos q1, getD_set _ _ _ _ _ (by split <;> simpa using hb1), if_pos rfl]
          · rw [if_neg q1, if_neg q1]
            by_cases q2 : t.steps = 0
            · rw [if_pos q2, if_pos q2, getD_set _ _ _ _ _ hb1, if_pos rfl]
            · rw [if_neg q2, if_neg q2]
        have e2 : (if r.2.1.done = true then y.fin.set j (y.now + 1) else y.fin).getD j 0 = (if r.2.1.done = true then y.now + 1 else y.fin.getD j 0) := by
          split
          · rw [getD_set _ _ _ _ _ hf1, if_pos rfl]
          · rfl
        rw [e1, e2]
        exact this
      · rw [List.getElem?_set_ne (fun q => e q.symm)] at ht'
        obtain ⟨a, b⟩ := h.thr j t' ht'
        have hR := o2.1 j e
        refine ⟨?_, b.gv hR.gv⟩
        have e1 : (if r.2.1.round ≠ t.round then (if t.steps = 0 then y.beg.set k (y.now + 1) else y.beg).set k (y.now + 2) else if t.steps = 0 then y.beg.set k (y.now + 1) else y.beg).getD j 0 = y.beg.getD j 0 := by
          by_cases q1 : r.2.1.round ≠ t.round
          · rw [if_pos q1, getD_set _ _ _ _ _ (by split <;> simpa using hb1), if_neg e]
            split
            · rw [getD_set _ _ _ _ _ hb1, if_neg e]
            · rfl
          · rw [if_neg q1]
            split
            · rw [getD_set _ _ _ _ _ hb1, if_neg e]
            · rfl
        have e2 : (if r.2.1.done = true then y.fin.set k (y.now + 1) else y.fin).getD j 0 = y.fin.getD j 0 := by
          split
          · rw [getD_set _ _ _ _ _ hf1, if_neg e]
          · rfl
        rw [e1, e2]
        unfold less1
        rw [if_neg e]
        exact a.gr hR (Nat.le_succ _) (fun x hx => if_pos hx)
end
end Go.Proofs.YtmdganpealbmpaaGreatDoor.Th

/- Layer 13's laws: when all transactions are at their ends, they were done one behind the other. No program stands here. -/
namespace Go.Proofs.YtmdganpealbmpaaGreatDoor.Th
open Bl

/-! What cells have at each stamp. -/
def snapG (ini : Nat → Nat) (g : Gh) : Nat → Nat → Nat
  | 0, j => ini j
  | T + 1, j => if g.st (T + 1) = .made then (g.wr (T + 1) j).getD (snapG ini g T j) else snapG ini g T j
theorem snap_view {ini : Nat → Nat} {g : Gh} {j V : Nat} (hm : Made g j V) : ∀ T, V ≤ T → NoneB g j V T → snapG ini g T j = vAt ini g V j
  | 0, hV, _ => by
    obtain rfl : V = 0 := by omega
    rfl
  | T + 1, hV, hN => by
    unfold snapG
    by_cases e : V = T + 1
    · subst e
      rcases hm with a | ⟨a, b⟩
      · omega
      · rw [if_pos a]
        unfold vAt
        rw [if_neg (by omega)]
        cases q : g.wr (T + 1) j with
        | none => rw [q] at b; cases b
        | some x => rfl
    · have ih := snap_view (ini := ini) hm T (by omega) (hN.less (Nat.le_succ T))
      rcases hN (T + 1) (by omega) (Nat.le_refl _) with a | a
      · rw [if_neg (by rw [a]; decide)]; exact ih
      · split
        · rw [a]; exact ih
        · exact ih
theorem agree_snap {n T : Nat} {ini : Nat → Nat} {reads : List (Nat × Int)} {g : Gh} (h : View n reads T g) : Agree n ini reads g (snapG ini g T) := fun j V hj hx => by
  obtain ⟨j', V', a, b, c, d, e⟩ := h _ hx
  simp only [Prod.mk.injEq] at b
  obtain rfl : j = j' := by omega
  obtain rfl : V = V' := by omega
  exact snap_view d T c e

/-! A history of what is done, by stamps. -/
structure Hist (dn wt : Nat → Bool) (st : Nat → Nat) (D : Nat → (Nat → Nat) → List Nat × (Nat → Nat)) (told : Nat → List Nat) (snap : Nat → Nat → Nat) (C : Nat) : Prop where
  le : ∀ k, dn k = true → st k ≤ C
  rd : ∀ k, dn k = true → wt k = false → D k (snap (st k)) = (told k, snap (st k))
  wr : ∀ k, dn k = true → wt k = true → 1 ≤ st k ∧ D k (snap (st k - 1)) = (told k, snap (st k))
  uniq : ∀ k j, dn k = true → dn j = true → wt k = true → wt j = true → st k = st j → k = j
  gap : ∀ s, 1 ≤ s → s ≤ C → (∃ k, dn k = true ∧ wt k = true ∧ st k = s) ∨ snap s = snap (s - 1)
/-- One may stand ahead of another one. -/
def Bef (wt : Nat → Bool) (st : Nat → Nat) (k j : Nat) : Prop := st k < st j ∨ (st k = st j ∧ (wt j = true → wt k = true))
/-- They are told what they were, one behind the other. -/
def GoodO (D : Nat → (Nat → Nat) → List Nat × (Nat → Nat)) (told : Nat → List Nat) : List Nat → (Nat → Nat) → Prop
  | [], _ => True
  | k :: r, now => (D k now).1 = told k ∧ GoodO D told r (D k now).2
def lastO (D : Nat → (Nat → Nat) → List Nat × (Nat → Nat)) : List Nat → (Nat → Nat) → (Nat → Nat)
  | [], now => now
  | k :: r, now => lastO D r (D k now).2
def statesO (D : Nat → (Nat → Nat) → List Nat × (Nat → Nat)) : List Nat → (Nat → Nat) → List (Nat → Nat)
  | [], now => [now]
  | k :: r, now => now :: statesO D r (D k now).2
section
variable {dn wt : Nat → Bool} {st : Nat → Nat} {D : Nat → (Nat → Nat) → List Nat × (Nat → Nat)} {told : Nat → List Nat} {snap : Nat → Nat → Nat} {C : Nat}
theorem Hist.same (h : Hist dn wt st D told snap C) {a : Nat} : ∀ b, a ≤ b → b ≤ C → (∀ k, dn k = true → wt k = true → a < st k → st k ≤ b → False) → snap b = snap a
  | 0, hab, _, _ => by
    obtain rfl : a = 0 := by omega
    rfl
  | b + 1, hab, hb, hn => by
    by_cases e : a = b + 1
    · rw [e]
    · have ih := h.same b (by omega) (by omega) fun k h1 h2 h3 h4 => hn k h1 h2 h3 (by omega)
      rcases h.gap (b + 1) (by omega) hb with ⟨k, h1, h2, h3⟩ | q
      · exact (hn k h1 h2 (by omega) (by omega)).elim
      · rw [q]; exact ih
theorem Hist.go (h : Hist dn wt st D told snap C) : ∀ (r : List Nat) (m : Nat), m ≤ C → (∀ k ∈ r, dn k = true ∧ m ≤ st k ∧ (wt k = true → m < st k)) → (∀ k, dn k = true → wt k = true → m < st k → k ∈ r) → r.Pairwise (Bef wt st) → r.Nodup →
    GoodO D told r (snap m) ∧ lastO D r (snap m) = snap C ∧ ∀ T, m ≤ T → T ≤ C → snap T ∈ statesO D r (snap m)
  | [], m, hm, _, hall, _, _ => by
    have e : ∀ T, m ≤ T → T ≤ C → snap T = snap m := fun T h1 h2 => h.same T h1 h2 fun k a b c _ => by have := hall k a b c; cases this
    exact ⟨trivial, (e C hm (Nat.le_refl _)).symm, fun T h1 h2 => by rw [e T h1 h2]; exact List.mem_singleton.2 rfl⟩
  | k :: r, m, hm, hr, hall, hp, hnd => by
    obtain ⟨hk1, hk2, hk3⟩ := hr k (List.mem_cons_self ..)
    obtain ⟨hp1, hp2⟩ := List.pairwise_cons.1 hp
    have hkC := h.le k hk1
    cases hw : wt k with
    | false =>
      have none : ∀ j, dn j = true → wt j = true → m < st j → st j ≤ st k → False := fun j a b c d => by
        rcases List.mem_cons.1 (hall j a b c) with e | e
        · rw [e, hw] at b; cases b
        · rcases hp1 j e with q | ⟨q1, q2⟩
          · omega
          · have := q2 b
            rw [hw] at this; cases this
      have e : snap (st k) = snap m := h.same _ hk2 hkC none
      have hd := h.rd k hk1 hw
      rw [e] at hd
      obtain ⟨g1, g2, g3⟩ := h.go r m hm (fun j hj => hr j (List.mem_cons_of_mem _ hj)) (fun j a b c => by
        rcases List.mem_cons.1 (hall j a b c) with q | q
        · rw [q, hw] at b; cases b
        · exact q) hp2 (List.nodup_cons.1 hnd).2
      refine ⟨⟨by rw [hd], by rw [hd]; exact g1⟩, by unfold lastO; rw [hd]; exact g2, fun T h1 h2 => ?_⟩
      unfold statesO
      rw [hd]
      exact List.mem_cons_of_mem _ (g3 T h1 h2)
    | true =>
      have hlt := hk3 hw
      have none : ∀ T, T < st k → ∀ j, dn j = true → wt j = true → m < st j → st j ≤ T → False := fun T hT j a b c d => by
        rcases List.mem_cons.1 (hall j a b c) with e | e
        · rw [e] at d; omega
        · rcases hp1 j e with q | ⟨q1, _⟩ <;> omega
      obtain ⟨h1k, hd⟩ := h.wr k hk1 hw
      have e : ∀ T, m ≤ T → T < st k → snap T = snap m := fun T h1 h2 => h.same T h1 (by omega) (none T h2)
      rw [e (st k - 1) (by omega) (by omega)] at hd
      obtain ⟨g1, g2, g3⟩ := h.go r (st k) hkC (fun j hj => by
        obtain ⟨a1, a2, a3⟩ := hr j (List.mem_cons_of_mem _ hj)
        refine ⟨a1, ?_, fun b => ?_⟩
        · rcases hp1 j hj with q | ⟨q, _⟩ <;> omega
        · rcases hp1 j hj with q | ⟨q, _⟩
          · exact q
          · have ek := h.uniq k j hk1 a1 hw b q
            rw [← ek] at hj
            exact absurd hj (List.nodup_cons.1 hnd).1) (fun j a b c => by
        rcases List.mem_cons.1 (hall j a b (by omega)) with q | q
        · rw [q] at c; omega
        · exact q) hp2 (List.nodup_cons.1 hnd).2
      refine ⟨⟨by rw [hd], by rw [hd]; exact g1⟩, by unfold lastO; rw [hd]; exact g2, fun T h1 h2 => ?_⟩
      unfold statesO
      rw [hd]
      by_cases q : T < st k
      · rw [e T h1 q]; exact List.mem_cons_self ..
      · exact List.mem_cons_of_mem _ (g3 T (by omega) h2)
end
end Go.Proofs.YtmdganpealbmpaaGreatDoor.Th

/- Layer 12's document: attempts, and their order. No program stands here. -/
namespace Go.Proofs.YtmdganpealbmpaaGreatDoor.Th

structure Att where
  stamp : Int
  wrote : Bool
  beg : Int
  fin : Int
def Att.zero : Att := ⟨0, false, 0, 0⟩
def aheadV (a b : Att) (i j : Nat) : Bool :=
  if a.stamp ≠ b.stamp then decide (a.stamp < b.stamp) else if a.wrote ≠ b.wrote then a.wrote else if a.fin ≠ b.fin then decide (a.fin < b.fin) else decide (i < j)
/-- Does one stand ahead of another one? -/
def aheadA (A : List Att) (i j : Nat) : Bool := aheadV (A.getD i .zero) (A.getD j .zero) i j
/-- How many of them stand ahead of it, from the first one on. -/
def insK (A : List Att) (i : Nat) : List Nat → Nat
  | [] => 0
  | x :: l => if aheadA A x i = true then insK A i l + 1 else 0
def insA (A : List Att) (i : Nat) (l : List Nat) : List Nat := l.take (insK A i l) ++ [i] ++ l.drop (insK A i l)
def sortA (A : List Att) : Nat → List Nat
  | 0 => []
  | m + 1 => insA A m (sortA A m)

/-- The document's check finds nothing. -/
structure FairA (A : List Att) : Prop where
  time : ∀ a, a < A.length → (A.getD a .zero).beg ≤ (A.getD a .zero).fin
  uniq : ∀ a b, a < A.length → b < A.length → a ≠ b → (A.getD a .zero).wrote = true → (A.getD b .zero).wrote = true → (A.getD a .zero).stamp ≠ (A.getD b .zero).stamp
  order : ∀ a b, a < A.length → b < A.length → a ≠ b → (A.getD b .zero).fin < (A.getD a .zero).beg → aheadA A b a = true
theorem aheadV_iff (a b : Att) (i j : Nat) : aheadV a b i j = true ↔ a.stamp < b.stamp ∨ (a.stamp = b.stamp ∧ (b.wrote.toNat < a.wrote.toNat ∨ (a.wrote.toNat = b.wrote.toNat ∧ (a.fin < b.fin ∨ (a.fin = b.fin ∧ i < j))))) := by
  obtain ⟨s1, w1, b1, f1⟩ := a
  obtain ⟨s2, w2, b2, f2⟩ := b
  unfold aheadV
  simp only
  by_cases h1 : s1 = s2
  · subst h1
    by_cases h2 : f1 = f2
    · subst h2
      cases w1 <;> cases w2 <;> simp
    · cases w1 <;> cases w2 <;> simp [h2]
  · simp [h1]
theorem ahead_iff {A : List Att} {i j : Nat} : aheadA A i j = true ↔ (A.getD i .zero).stamp < (A.getD j .zero).stamp ∨ ((A.getD i .zero).stamp = (A.getD j .zero).stamp ∧ ((A.getD j .zero).wrote.toNat < (A.getD i .zero).wrote.toNat ∨ ((A.getD i .zero).wrote.toNat = (A.getD j .zero).wrote.toNat ∧ ((A.getD i .zero).fin < (A.getD j .zero).fin ∨ ((A.getD i .zero).fin = (A.getD j .zero).fin ∧ i < j))))) := aheadV_iff _ _ _ _
theorem ahead_asym {A : List Att} {i j : Nat} (h : aheadA A i j = true) : aheadA A j i = false := by
  cases e : aheadA A j i with
  | false => rfl
  | true =>
    rw [ahead_iff] at h e
    omega
theorem ahead_total {A : List Att} {i j : Nat} (h : aheadA A i j = false) (hn : i ≠ j) : aheadA A j i = true := by
  cases e : aheadA A j i with
  | true => rfl
  | false =>
    have h' : ¬ aheadA A i j = true := by rw [h]; decide
    have e' : ¬ aheadA A j i = true := by rw [e]; decide
    rw [ahead_iff] at h' e'
    omega
theorem ahead_trans {A : List Att} {i j k : Nat} (h : aheadA A i j = true) (h2 : aheadA A j k = true) : aheadA A i k = true := by
  rw [ahead_iff] at *
  omega
theorem insK_le (A : List Att) (i : Nat) : ∀ l : List Nat, insK A i l ≤ l.length
  | [] => Nat.le_refl _
  | x :: l => by
    unfold insK
    split
    · have := insK_le A i l
      simp only [List.length_cons]
      omega
    · exact Nat.zero_le _
theorem ins_split (A : List Att) (i : Nat) : ∀ l : List Nat, (∀ x ∈ l.take (insK A i l), aheadA A x i = true) ∧ ∀ x r, l.drop (insK A i l) = x :: r → aheadA A x i = false
  | [] => ⟨fun _ h => (by cases h), fun _ _ h => (by cases h)⟩
  | x :: l => by
    obtain ⟨h1, h2⟩ := ins_split A i l
    unfold insK
    by_cases e : aheadA A x i = true
    · rw [if_pos e]
      refine ⟨fun y hy => ?_, fun y r hy => h2 y r hy⟩
      rw [List.take_succ_cons] at hy
      rcases List.mem_cons.1 hy with q | q
      · rw [q]; exact e
      · exact h1 y q
    · rw [if_neg e]
      refine ⟨fun y hy => (by cases hy), fun y r hy => ?_⟩
      cases hy
      simpa using e
theorem ins_mem {A : List Att} {i : Nat} {l : List Nat} {x : Nat} : x ∈ insA A i l ↔ x = i ∨ x ∈ l := by
  unfold insA
  have : x ∈ l ↔ x ∈ l.take (insK A i l) ∨ x ∈ l.drop (insK A i l) := by
    rw [← List.mem_append, List.take_append_drop]
  rw [this]
  simp only [List.mem_append, List.mem_singleton]
  constructor
  · rintro ((h | h) | h)
    · exact .inr (.inl h)
    · exact .inl h
    · exact .inr (.inr h)
  · rintro (h | h | h)
    · exact .inl (.inr h)
    · exact .inl (.inl h)
    · exact .inr h
theorem sort_mem {A : List Att} : ∀ {m x : Nat}, x ∈ sortA A m ↔ x < m
  | 0, x => by simp [sortA]
  | m + 1, x => by
    unfold sortA
    rw [ins_mem, sort_mem]
    omega
theorem sort_nodup {A : List Att} : ∀ m : Nat, (sortA A m).Nodup
  | 0 => List.nodup_nil
  | m + 1 => by
    have ih := sort_nodup (A := A) m
    have hm : m ∉ sortA A m := fun h => by have := sort_mem.1 h; omega
    unfold sortA insA
    have e := List.take_append_drop (insK A m (sortA A m)) (sortA A m)
    rw [← e, List.nodup_append] at ih
    obtain ⟨i1, i2, i3⟩ := ih
    have n1 : m ∉ (sortA A m).take (insK A m (sortA A m)) := fun h => hm (List.mem_of_mem_take h)
    have n2 : m ∉ (sortA A m).drop (insK A m (sortA A m)) := fun h => hm (List.mem_of_mem_drop h)
    generalize (sortA A m).take (insK A m (sortA A m)) = a at *
    generalize (sortA A m).drop (insK A m (sortA A m)) = b at *
    rw [List.append_assoc, List.nodup_append]
    refine ⟨i1, List.nodup_cons.2 ⟨n2, i2⟩, fun x hx y hy e => ?_⟩
    subst e
    rcases List.mem_cons.1 hy with q | q
    · rw [q] at hx; exact n1 hx
    · exact i3 x hx x q rfl
theorem sort_len {A : List Att} : ∀ m : Nat, (sortA A m).length = m
  | 0 => rfl
  | m + 1 => by
    unfold sortA insA
    have := sort_len (A := A) m
    have := insK_le A m (sortA A m)
    simp
    omega
/-- None stands ahead of one that is ahead of it. -/
theorem sort_pair {A : List Att} : ∀ m : Nat, (sortA A m).Pairwise fun a b => aheadA A b a = false
  | 0 => List.Pairwise.nil
  | m + 1 => by
    have ih := sort_pair (A := A) m
    have hm : ∀ x ∈ sortA A m, x < m := fun x h => sort_mem.1 h
    obtain ⟨s1, s2⟩ := ins_split A m (sortA A m)
    unfold sortA insA
    have e := List.take_append_drop (insK A m (sortA A m)) (sortA A m)
    have n2 : ∀ x ∈ (sortA A m).drop (insK A m (sortA A m)), x < m := fun x h => hm x (List.mem_of_mem_drop h)
    rw [← e, List.pairwise_append] at ih
    obtain ⟨i1, i2, i3⟩ := ih
    generalize (sortA A m).take (insK A m (sortA A m)) = a at *
    generalize (sortA A m).drop (insK A m (sortA A m)) = b at *
    have hb : ∀ x ∈ b, aheadA A x m = false := by
      cases b with
      | nil => intro x h; cases h
      | cons y b =>
        have hy := s2 y b rfl
        intro x hx
        rcases List.mem_cons.1 hx with q | q
        · rw [q]; exact hy
        · have h1 := (List.pairwise_cons.1 i2).1 x q
          cases z : aheadA A x m with
          | false => rfl
          | true =>
            by_cases exy : x = y
            · rw [exy, hy] at z; cases z
            · have := ahead_trans (ahead_total h1 exy) z
              rw [hy] at this; cases this
    rw [List.append_assoc, List.pairwise_append]
    refine ⟨i1, List.pairwise_cons.2 ⟨fun x hx => hb x hx, i2⟩, fun x hx y hy => ?_⟩
    rcases List.mem_cons.1 hy with q | q
    · rw [q]; exact ahead_asym (s1 x hx)
    · exact i3 x hx y q
end Go.Proofs.YtmdganpealbmpaaGreatDoor.Th

/- Layer 13's laws: the order of the transactions that are done. No program stands here. -/
namespace Go.Proofs.YtmdganpealbmpaaGreatDoor.Th
open Bl

def outK (y : Sys) (k : Nat) : Out13 := match y.ts[k]? with
  | some t => t.aux
  | none => ⟨[], false, false, 0⟩
def dnK (y : Sys) (k : Nat) : Bool := (outK y k).done
def wtK (y : Sys) (k : Nat) : Bool := (outK y k).wrote
def stK (y : Sys) (k : Nat) : Nat := (outK y k).stamp.toNat
def tdK (y : Sys) (k : Nat) : List Nat := (outK y k).told
def attK (y : Sys) (k : Nat) : Att := ⟨(outK y k).stamp, (outK y k).wrote, ((y.beg.getD k 0 : Nat) : Int), ((y.fin.getD k 0 : Nat) : Int)⟩
/-- Those that are done, and as attempts. -/
def whichK (y : Sys) (N : Nat) : List Nat := (List.range N).filter (dnK y)
def attsK (y : Sys) (N : Nat) : List Att := (whichK y N).map (attK y)
def orderK (y : Sys) (N : Nat) : List Nat := (sortA (attsK y N) (attsK y N).length).map fun a => (whichK y N).getD a 0
section
variable {n : Nat} {ini ow : Nat → Nat} {cells : List Nat} {L : List (List Op13)} {y : Sys} {H : Nat → Nat} {g : Gh} {P : Nat → Nat}
/-- What came of one that is done. -/
structure Came13 (n : Nat) (ini : Nat → Nat) (L : List (List Op13)) (y : Sys) (H : Nat → Nat) (g : Gh) (k : Nat) : Prop where
  lt : k < L.length
  time : 1 ≤ y.beg.getD k 0 ∧ y.beg.getD k 0 ≤ y.fin.getD k 0 ∧ y.fin.getD k 0 ≤ y.now
  stamp : (outK y k).stamp = (stK y k : Int)
  up : stK y k ≤ H (y.fin.getD k 0)
  read : wtK y k = false → ReadOnly n ini k (L.getD k []) (H (y.beg.getD k 0 - 1)) (tdK y k) (stK y k) g
  wrote : wtK y k = true → Wrote n ini k (L.getD k []) (H (y.beg.getD k 0 - 1)) (tdK y k) (stK y k) g
theorem SysI.came (h : SysI n ini ow cells L y H g P) (hd : ∀ t ∈ y.ts, t.done = true) {k : Nat} (hk : dnK y k = true) : Came13 n ini L y H g k := by
  unfold dnK outK at hk
  cases ht : y.ts[k]? with
  | none => rw [ht] at hk; cases hk
  | some t =>
    rw [ht] at hk
    simp only at hk
    have eo : outK y k = t.aux := by unfold outK; rw [ht]
    have hlt : k < L.length := by
      rw [← h.lens.1]
      exact (List.getElem?_eq_some_iff.1 ht).1
    obtain ⟨hT, _⟩ := h.thr k t ht
    have hdt := hd t (List.mem_of_getElem? ht)
    cases hT with
    | fresh q => rw [hdt] at q; cases q
    | runs q => rw [hdt] at q; cases q
    | over _ hb hf =>
      cases hf with
      | no q => rw [hk] at q; cases q
      | read T _ hw hs hu hl hr =>
        have e : stK y k = T := by unfold stK; rw [eo, hs]; rfl
        exact ⟨hlt, hb, by rw [eo, hs, e], by rw [e]; exact hu, fun _ => by rw [e]; unfold tdK; rw [eo]; exact hr, fun q => (by unfold wtK at q; rw [eo, hw] at q; cases q)⟩
      | wrote sN _ hw hs hu hl hr =>
        have e : stK y k = sN := by unfold stK; rw [eo, hs]; rfl
        exact ⟨hlt, hb, by rw [eo, hs, e], by rw [e]; exact hu, fun q => (by unfold wtK at q; rw [eo, hw] at q; cases q), fun _ => by rw [e]; unfold tdK; rw [eo]; exact hr⟩
theorem SysI.hist (h : SysI n ini ow cells L y H g P) (hd : ∀ t ∈ y.ts, t.done = true) : Hist (dnK y) (wtK y) (stK y) (fun k f => doOps n (L.getD k []) 0 f []) (tdK y) (snapG ini g) g.clk := by
  refine ⟨fun k hk => ?_, fun k hk hw => ?_, fun k hk hw => ?_, fun k j hk hj hwk hwj e => ?_, fun s h1 h2 => ?_⟩
  · have c := h.came hd hk
    cases e : wtK y k with
    | false => exact (c.read e).le
    | true => exact (c.wrote e).le
  · obtain ⟨reads, hv, hf⟩ := ((h.came hd hk).read hw).view
    obtain ⟨a, b⟩ := hf _ (agree_snap hv)
    exact Prod.ext a b
  · have c := (h.came hd hk).wrote hw
    obtain ⟨reads, hv, hf⟩ := c.view
    obtain ⟨a, b⟩ := hf _ (agree_snap hv)
    have h1 : 1 ≤ stK y k := by have := c.lb; omega
    refine ⟨h1, Prod.ext a (funext fun j => ?_)⟩
    rw [b j]
    conv => rhs; rw [show stK y k = (stK y k - 1) + 1 by omega]; unfold snapG
    rw [show stK y k - 1 + 1 = stK y k by omega, if_pos c.made]
  · have a := ((h.came hd hk).wrote hwk).own
    have b := ((h.came hd hj).wrote hwj).own
    rw [e] at a
    exact a.symm.trans b
  · by_cases e : g.st s = .made
    · left
      have hlt := h.own s h1 h2
      obtain ⟨t, ht⟩ : ∃ t, y.ts[g.own s]? = some t := ⟨y.ts[g.own s]'(by rw [h.lens.1]; exact hlt), List.getElem?_eq_getElem _⟩
      have eo : outK y (g.own s) = t.aux := by unfold outK; rw [ht]
      obtain ⟨hT, _⟩ := h.thr _ t ht
      have hdt := hd t (List.mem_of_getElem? ht)
      cases hT with
      | fresh q => rw [hdt] at q; cases q
      | runs q => rw [hdt] at q; cases q
      | over _ hb hf =>
        cases hf with
        | no _ hi => have := hi.void s h1 h2 rfl; rw [e] at this; cases this
        | read T _ hw hs hu hl hr => have := hr.void s h1 h2 rfl; rw [e] at this; cases this
        | wrote sN hdn hw hs hu hl hr =>
          have := hr.only s h1 h2 rfl (by rw [e]; decide)
          refine ⟨g.own s, by unfold dnK; rw [eo]; exact hdn, by unfold wtK; rw [eo]; exact hw, ?_⟩
          unfold stK
          rw [eo, hs, this]
          rfl
    · right
      funext j
      conv => lhs; rw [show s = (s - 1) + 1 by omega]; unfold snapG
      rw [show s - 1 + 1 = s by omega, if_neg e]
theorem SysI.scene (h : SysI n ini ow cells L y H g P) (hd : ∀ t ∈ y.ts, t.done = true) : Sc n y.S g.clk (fun j => rest (g.ver j)) (snapG ini g g.clk) := by
  have hfree : ∀ j, j < n → g.lk j = none := fun j hj => by
    cases q : g.lk j with
    | none => rfl
    | some i =>
      exfalso
      have hlt := h.lks j i hj q
      obtain ⟨t, ht⟩ : ∃ t, y.ts[i]? = some t := ⟨y.ts[i]'(by rw [h.lens.1]; exact hlt), List.getElem?_eq_getElem _⟩
      obtain ⟨hT, _⟩ := h.thr _ t ht
      have hdt := hd t (List.mem_of_getElem? ht)
      cases hT with
      | fresh q => rw [hdt] at q; cases q
      | runs q => rw [hdt] at q; cases q
      | over _ hb hf =>
        cases hf with
        | no _ hi => exact hi.lk j hj q
        | read T _ hw hs hu hl hr => exact hl j hj q
        | wrote sN hdn hw hs hu hl hr => exact hl j hj q
  rw [← h.gS]
  refine h.ok.sc.cast (fun j hj => ?_) (fun j hj => ?_)
  · unfold mwOf; rw [hfree j hj]
  · have hle := h.ok.le j hj
    rw [snap_view (h.ok.put j hj) g.clk (by omega) (none_free h.ok hj (hfree j hj)), h.ok.un j hj (hfree j hj)]
theorem which_get {N a : Nat} (ha : a < (whichK y N).length) : dnK y ((whichK y N).getD a 0) = true ∧ (whichK y N).getD a 0 < N ∧ (attsK y N).getD a .zero = attK y ((whichK y N).getD a 0) := by
  have e : (whichK y N).getD a 0 = (whichK y N)[a] := by simp [List.getD_eq_getElem?_getD, ha]
  have hm : (whichK y N)[a] ∈ whichK y N := List.getElem_mem ha
  rw [e]
  unfold whichK at hm
  rw [List.mem_filter, List.mem_range] at hm
  exact ⟨hm.2, hm.1, by simp [attsK, List.getD_eq_getElem?_getD, ha]⟩
theorem which_nodup (y : Sys) (N : Nat) : (whichK y N).Nodup := List.nodup_range.filter _
theorem which_inj {N a b : Nat} (ha : a < (whichK y N).length) (hb : b < (whichK y N).length) (e : (whichK y N).getD a 0 = (whichK y N).getD b 0) : a = b := by
  rw [show (whichK y N).getD a 0 = (whichK y N)[a] by simp [List.getD_eq_getElem?_getD, ha], show (whichK y N).getD b 0 = (whichK y N)[b] by simp [List.getD_eq_getElem?_getD, hb]] at e
  have nd := List.pairwise_iff_getElem.1 (which_nodup y N)
  rcases Nat.lt_trichotomy a b with q | q | q
  · exact absurd e (nd a b ha hb q)
  · exact q
  · exact absurd e.symm (nd b a hb ha q)
theorem SysI.fair (h : SysI n ini ow cells L y H g P) (hd : ∀ t ∈ y.ts, t.done = true) : FairA (attsK y L.length) := by
  have hlen : (attsK y L.length).length = (whichK y L.length).length := by simp [attsK]
  refine ⟨fun a ha => ?_, fun a b ha hb hab hwa hwb e => ?_, fun a b ha hb hab hlt => ?_⟩
  · rw [hlen] at ha
    obtain ⟨a1, a2, a3⟩ := which_get ha
    have c := (h.came hd a1).time
    rw [a3]
    simp only [attK]
    omega
  · rw [hlen] at ha hb
    obtain ⟨a1, a2, a3⟩ := which_get ha
    obtain ⟨b1, b2, b3⟩ := which_get hb
    rw [a3] at hwa e
    rw [b3] at hwb e
    have ca := h.came hd a1
    have cb := h.came hd b1
    simp only [attK, ca.stamp, cb.stamp] at e
    exact hab (which_inj ha hb ((h.hist hd).uniq _ _ a1 b1 hwa hwb (by omega)))
  · rw [hlen] at ha hb
    obtain ⟨a1, a2, a3⟩ := which_get ha
    obtain ⟨b1, b2, b3⟩ := which_get hb
    have ca := h.came hd a1
    have cb := h.came hd b1
    rw [ahead_iff, a3, b3]
    rw [a3, b3] at hlt
    simp only [attK, ca.stamp, cb.stamp] at hlt ⊢
    have t1 := ca.time
    have t2 := cb.time
    have hm := h.mono (y.fin.getD ((whichK y L.length).getD b 0) 0) (y.beg.getD ((whichK y L.length).getD a 0) 0 - 1) (by omega) (by omega)
    have hub := cb.up
    cases hw : wtK y ((whichK y L.length).getD a 0) with
    | true =>
      have := (ca.wrote hw).lb
      left
      omega
    | false =>
      have := (ca.read hw).lb
      have ew : (outK y ((whichK y L.length).getD a 0)).wrote = false := hw
      rw [ew]
      cases (outK y ((whichK y L.length).getD b 0)).wrote
      · simp only [Bool.toNat_false, true_and]
        omega
      · simp only [Bool.toNat_false, Bool.toNat_true]
        omega
theorem order_mem {N k : Nat} : k ∈ orderK y N ↔ k < N ∧ dnK y k = true := by
  have hlen : (attsK y N).length = (whichK y N).length := by simp [attsK]
  unfold orderK
  rw [List.mem_map]
  constructor
  · rintro ⟨a, ha, rfl⟩
    rw [sort_mem, hlen] at ha
    obtain ⟨h1, h2, _⟩ := which_get ha
    exact ⟨h2, h1⟩
  · rintro ⟨h1, h2⟩
    have hm : k ∈ whichK y N := List.mem_filter.2 ⟨List.mem_range.2 h1, h2⟩
    obtain ⟨a, ha, e⟩ := List.getElem_of_mem hm
    exact ⟨a, by rw [sort_mem, hlen]; exact ha, by simp [List.getD_eq_getElem?_getD, ha, e]⟩
theorem order_nodup (N : Nat) : (orderK y N).Nodup := by
  have hlen : (attsK y N).length = (whichK y N).length := by simp [attsK]
  unfold orderK
  rw [List.Nodup, List.pairwise_map]
  refine List.Pairwise.imp_of_mem ?_ (sort_nodup (A := attsK y N) (attsK y N).length)
  intro a b ha hb hab e
  rw [sort_mem, hlen] at ha hb
  exact hab (which_inj ha hb e)
theorem SysI.pair (h : SysI n ini ow cells L y H g P) (hd : ∀ t ∈ y.ts, t.done = true) : (orderK y L.length).Pairwise (Bef (wtK y) (stK y)) := by
  have hlen : (attsK y L.length).length = (whichK y L.length).length := by simp [attsK]
  unfold orderK
  rw [List.pairwise_map]
  refine List.Pairwise.imp_of_mem ?_ (sort_pair (A := attsK y L.length) (attsK y L.length).length)
  intro a b ha hb hab
  rw [sort_mem, hlen] at ha hb
  obtain ⟨a1, a2, a3⟩ := which_get ha
  obtain ⟨b1, b2, b3⟩ := which_get hb
  have ca := h.came hd a1
  have cb := h.came hd b1
  have hab' : ¬ aheadA (attsK y L.length) b a = true := by rw [hab]; decide
  rw [ahead_iff, a3, b3] at hab'
  simp only [attK, ca.stamp, cb.stamp] at hab'
  unfold Bef
  by_cases q : stK y ((whichK y L.length).getD a 0) < stK y ((whichK y L.length).getD b 0)
  · exact .inl q
  · refine .inr ⟨by omega, fun hw => ?_⟩
    have hwb : (outK y ((whichK y L.length).getD b 0)).wrote = true := hw
    rw [hwb] at hab'
    show (outK y ((whichK y L.length).getD a 0)).wrote = true
    cases z : (outK y ((whichK y L.length).getD a 0)).wrote with
    | true => rfl
    | false =>
      rw [z] at hab'
      simp only [Bool.toNat_false, Bool.toNat_true] at hab'
      omega
/-- They were done one behind the other, in the document's order. -/
theorem SysI.inOrder (h : SysI n ini ow cells L y H g P) (hd : ∀ t ∈ y.ts, t.done = true) :
    GoodO (fun k f => doOps n (L.getD k []) 0 f []) (tdK y) (orderK y L.length) ini ∧ lastO (fun k f => doOps n (L.getD k []) 0 f []) (orderK y L.length) ini = snapG ini g g.clk ∧ ∀ T, T ≤ g.clk → snapG ini g T ∈ statesO (fun k f => doOps n (L.getD k []) 0 f []) (orderK y L.length) ini := by
  have hh := h.hist hd
  have := hh.go (orderK y L.length) 0 (Nat.zero_le _) (fun k hk => by
    obtain ⟨h1, h2⟩ := order_mem.1 hk
    exact ⟨h2, Nat.zero_le _, fun hw => (hh.wr k h2 hw).1⟩) (fun k h1 _ _ => order_mem.2 ⟨(h.came hd h1).lt, h1⟩) (h.pair hd) (order_nodup _)
  exact ⟨this.1, this.2.1, fun T hT => this.2.2 T (Nat.zero_le _) hT⟩
theorem SeenT.state (h : SysI n ini ow cells L y H g P) (hd : ∀ t ∈ y.ts, t.done = true) {l : List Op13} {told : List Nat} (hs : SeenT n ini l told g) : ∃ s ∈ statesO (fun k f => doOps n (L.getD k []) 0 f []) (orderK y L.length) ini, told <+: (doOps n l 0 s []).1 := by
  obtain ⟨T, reads, a, b, c⟩ := hs
  exact ⟨_, (h.inOrder hd).2.2 T a, c _ (agree_snap b)⟩
end
end Go.Proofs.YtmdganpealbmpaaGreatDoor.Th
