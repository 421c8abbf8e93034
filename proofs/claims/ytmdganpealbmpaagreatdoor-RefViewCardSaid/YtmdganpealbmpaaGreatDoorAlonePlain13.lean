/- Layer 13's laws: transactions that run alone, one behind the other, on a scene of some cells. No program stands here. -/
import Derived.Test.YtmdganpealbmpaaGreatDoorRefPlain
namespace Go.Proofs.YtmdganpealbmpaaGreatDoor.Th
open Bl

/-! What a tree does at once, if it is at an early place of the log. -/
def Goes {β : Type} (p : Tree (Nat × β)) (S : BS) (a : Nat × β) (S' : BS) (k : Nat) : Prop :=
  ∀ i, i + k ≤ 3400 → quits (fun _ => True) p i S ∧ (direct p i S).1 = a ∧ (direct p i S).2.length ≤ k ∧ last S (direct p i S).2 = S'
theorem Goes.ret {β : Type} (a : Nat × β) (S : BS) : Goes (.ret a) S a S 0 := fun _ _ => ⟨trivial, rfl, Nat.le_refl _, rfl⟩
theorem Goes.more {β : Type} {p : Tree (Nat × β)} {S S' : BS} {a : Nat × β} {k m : Nat} (h : Goes p S a S' k) (hk : k ≤ m) : Goes p S a S' m := fun i hi => by
  obtain ⟨h1, h2, h3, h4⟩ := h i (by omega)
  exact ⟨h1, h2, Nat.le_trans h3 hk, h4⟩
theorem Goes.acc {β : Type} {op : BS → Ntry × BS} {f : Nat → Ntry → Tree (Nat × β)} {S S1 S2 : BS} {x : Ntry} {a : Nat × β} {k : Nat} (ho : op S = (x, S1)) (he : x.err = 0) (h11 : ∃ b, f 11 blank = .ret (11, b)) (h : Goes (f 0 x) S1 a S2 k) : Goes (.acc op f) S a S2 (k + 1) := fun i hi => by
  obtain ⟨b, h11⟩ := h11
  obtain ⟨h1, h2, h3, h4⟩ := h (i + 1) (by omega)
  simp only [quits, direct, ho, he, List.length_cons, last_cons]
  exact ⟨⟨by omega, ⟨b, trivial, h11⟩, h1⟩, h2, by omega, h4⟩
theorem Goes.bind {β γ : Type} {p : Tree (Nat × β)} {f : Nat × β → Tree (Nat × γ)} {S S1 S2 : BS} {b : Nat × β} {c : Nat × γ} {k m : Nat} (h : Goes p S b S1 k) (h11 : ∀ x, ∃ y, f (11, x) = .ret (11, y)) (hf : Goes (f b) S1 c S2 m) : Goes (p.bind f) S c S2 (k + m) := fun i hi => by
  obtain ⟨h1, h2, h3, h4⟩ := h i (by omega)
  obtain ⟨g1, g2, g3, g4⟩ := hf (i + (direct p i S).2.length) (by omega)
  refine ⟨quits_bind (Y := fun _ => True) (Z := fun _ => True) (fun b _ => ?_) p i S h1 ?_, ?_, ?_, ?_⟩
  · obtain ⟨y, hy⟩ := h11 b
    exact ⟨y, trivial, hy⟩
  · rw [h2, h4]; exact g1
  · rw [direct_bind, h2, h4]; exact g2
  · rw [direct_bind, h2, h4]
    simp only [List.length_append]
    omega
  · rw [direct_bind, h2, h4]
    simp only [last_append, h4]
    exact g4
theorem Goes.bindM {β γ : Type} {p : Tree (Nat × β)} {f : Nat × β → Tree (Nat × γ)} {S S1 S2 : BS} {b : Nat × β} {c : Nat × γ} {k m n : Nat} (h : Goes p S b S1 k) (h11 : ∀ x, ∃ y, f (11, x) = .ret (11, y)) (hf : Goes (f b) S1 c S2 m) (hle : k + m ≤ n) : Goes (p.bind f) S c S2 n := (h.bind h11 hf).more hle
theorem Goes.left {β : Type} {f : Int → Tree (Nat × β)} {S S' : BS} {a : Nat × β} {k : Nat} (h : ∀ l, 2600 ≤ l → Goes (f l) S a S' k) : Goes (.left f) S a S' k := fun i hi => by
  have := h (6000 - (i : Int)) (by omega) i hi
  simpa only [quits, direct] using this

/-! Words. -/
theorem ld_goes {S : BS} {ref k : Nat} {i : Int} (h : word S ref i = .ok k) : Goes (ld ref i) S (0, S.ws.getD k 0) S 1 := by
  refine Goes.acc (x := ⟨1, ref, i, S.ws.getD k 0, false, 0⟩) (S1 := S) ?_ rfl ⟨_, rfl⟩ (Goes.ret _ _)
  unfold opLoad
  rw [h]
theorem sto_goes {S : BS} {ref k : Nat} {i : Int} (h : word S ref i = .ok k) (x : Nat) : Goes (sto ref i x) S (0, ()) { S with ws := S.ws.set k x } 1 := by
  refine Goes.acc (x := ⟨2, ref, i, x, false, 0⟩) (S1 := { S with ws := S.ws.set k x }) ?_ rfl ⟨_, rfl⟩ (Goes.ret _ _)
  unfold opStore
  rw [h]
theorem cas_goes {S : BS} {ref k : Nat} {i : Int} (h : word S ref i = .ok k) {old : Nat} (ho : S.ws.getD k 0 = old) (x : Nat) : Goes (cas ref i old x) S (0, true) { S with ws := S.ws.set k x } 1 := by
  refine Goes.acc (x := ⟨3, ref, i, x, true, 0⟩) (S1 := { S with ws := S.ws.set k x }) ?_ rfl ⟨_, rfl⟩ (Goes.ret _ _)
  unfold opCAS
  rw [h]
  simp only [ho, if_true, decide_true]

/-! A scene: its clock, and n cells. -/
structure Sc (n : Nat) (S : BS) (clk : Nat) (mw val : Nat → Nat) : Prop where
  w0 : word S 1 0 = .ok 2
  wm : ∀ i, i < n → word S (3 + 3 * i) 0 = .ok (4 + 3 * i)
  wv : ∀ i, i < n → word S (3 + 3 * i) 1 = .ok (5 + 3 * i)
  now : S.ws.getD 2 0 = clk
  ms : ∀ i, i < n → S.ws.getD (4 + 3 * i) 0 = mw i
  vs : ∀ i, i < n → S.ws.getD (5 + 3 * i) 0 = val i
  len : 2 < S.ws.length ∧ ∀ i, i < n → 5 + 3 * i < S.ws.length
def upd (f : Nat → Nat) (j x : Nat) : Nat → Nat := fun i => if i = j then x else f i
theorem getD_set_same {l : List Nat} {k x : Nat} (h : k < l.length) : (l.set k x).getD k 0 = x := by
  simp [List.getD_eq_getElem?_getD, h]
theorem getD_set_ne {l : List Nat} {k j x : Nat} (h : j ≠ k) : (l.set k x).getD j 0 = l.getD j 0 := by
  simp [List.getD_eq_getElem?_getD, List.getElem?_set_ne (fun e => h e.symm)]
theorem Sc.tick {n : Nat} {S : BS} {clk : Nat} {mw val : Nat → Nat} (h : Sc n S clk mw val) (x : Nat) : Sc n { S with ws := S.ws.set 2 x } x mw val :=
  ⟨h.w0, h.wm, h.wv, getD_set_same h.len.1, fun i hi => (getD_set_ne (by omega)).trans (h.ms i hi), fun i hi => (getD_set_ne (by omega)).trans (h.vs i hi), by simpa using h.len⟩
theorem Sc.mword {n : Nat} {S : BS} {clk : Nat} {mw val : Nat → Nat} (h : Sc n S clk mw val) {j : Nat} (hj : j < n) (x : Nat) : Sc n { S with ws := S.ws.set (4 + 3 * j) x } clk (upd mw j x) val := by
  refine ⟨h.w0, h.wm, h.wv, (getD_set_ne (by omega)).trans h.now, fun i hi => ?_, fun i hi => (getD_set_ne (by omega)).trans (h.vs i hi), by simpa using h.len⟩
  unfold upd
  by_cases e : i = j
  · subst e
    rw [if_pos rfl]
    have := h.len.2 i hj
    exact getD_set_same (by omega)
  · rw [if_neg e]
    exact (getD_set_ne (by omega)).trans (h.ms i hi)
theorem Sc.value {n : Nat} {S : BS} {clk : Nat} {mw val : Nat → Nat} (h : Sc n S clk mw val) {j : Nat} (hj : j < n) (x : Nat) : Sc n { S with ws := S.ws.set (5 + 3 * j) x } clk mw (upd val j x) := by
  refine ⟨h.w0, h.wm, h.wv, (getD_set_ne (by omega)).trans h.now, fun i hi => (getD_set_ne (by omega)).trans (h.ms i hi), fun i hi => ?_, by simpa using h.len⟩
  unfold upd
  by_cases e : i = j
  · subst e
    rw [if_pos rfl]
    exact getD_set_same (h.len.2 i hj)
  · rw [if_neg e]
    exact (getD_set_ne (by omega)).trans (h.vs i hi)
theorem Sc.cast {n : Nat} {S : BS} {clk : Nat} {mw val mw' val' : Nat → Nat} (h : Sc n S clk mw val) (h1 : ∀ i, i < n → mw i = mw' i) (h2 : ∀ i, i < n → val i = val' i) : Sc n S clk mw' val' :=
  ⟨h.w0, h.wm, h.wv, h.now, fun i hi => (h.ms i hi).trans (h1 i hi), fun i hi => (h.vs i hi).trans (h2 i hi), h.len⟩

/-! Cells. -/
/-- A word that is not locked, of a version; one that is. -/
def rest (v : Nat) : Nat := 65536 * v
def lockd (v own : Nat) : Nat := 65536 * v + 256 * own + 1
theorem unM_rest (v : Nat) : unM (rest v) = ⟨(v : Int), 0, false, false⟩ := by
  unfold unM rest
  simp only [Mt.mk.injEq]
  refine ⟨by omega, by omega, by simp; omega, by simp; omega⟩
theorem unM_lockd (v own : Nat) (ho : own ≤ 255) : unM (lockd v own) = ⟨(v : Int), (own : Int), true, false⟩ := by
  unfold unM lockd
  simp only [Mt.mk.injEq]
  refine ⟨by omega, by omega, by simp; omega, by simp; omega⟩
theorem pack_rest {v : Nat} (hv : v ≤ 281474976710655) : packM ⟨(v : Int), 0, false, false⟩ = (0, rest v) := by
  unfold packM
  rw [if_pos (by unfold Mt.fits; simp only; omega)]
  simp [rest]
theorem pack_lockd {v own : Nat} (hv : v ≤ 281474976710655) (ho : own ≤ 255) : packM ⟨(v : Int), (own : Int), true, false⟩ = (0, lockd v own) := by
  unfold packM
  rw [if_pos (by unfold Mt.fits; simp only; omega)]
  simp [lockd]
section
variable {n : Nat} {S : BS} {clk : Nat} {mw val : Nat → Nat}
theorem mNow_goes (h : Sc n S clk mw val) (hc : clk < 9223372036854775808) : Goes (mNow 1) S (0, (clk : Int)) S 1 := by
  have := ld_goes h.w0
  rw [h.now] at this
  show Goes ((ld 1 0).bind fun r => .ret (r.1, toI r.2)) _ _ _ _
  refine this.bind (m := 0) (fun x => ⟨_, rfl⟩) ?_
  simp only [toI, hc, if_true]
  exact Goes.ret _ _
theorem mTick_goes (h : Sc n S clk mw val) (hc : clk + 1 < 9223372036854775808) : Goes (mTick 1) S (0, ((clk + 1 : Nat) : Int)) { S with ws := S.ws.set 2 (clk + 1) } 2 := by
  have h1 := ld_goes h.w0
  rw [h.now] at h1
  have e : inc clk = clk + 1 := by unfold inc; omega
  have h2 := cas_goes h.w0 h.now (inc clk)
  rw [e] at h2
  show Goes ((ld 1 0).bind fun r => if r.1 = 0 then (cas 1 0 r.2 (inc r.2)).bind fun q => if q.1 = 0 then (if q.2 then .ret (0, toI (inc r.2)) else mTickN 1 7) else .ret (q.1, 0) else .ret (r.1, 0)) _ _ _ _
  refine h1.bind (m := 1) (fun x => ⟨_, rfl⟩) ?_
  simp only [if_true, e]
  refine h2.bind (m := 0) (fun x => ⟨_, rfl⟩) ?_
  simp only [if_true, toI, hc]
  exact Goes.ret _ _
theorem mPeek_goes (h : Sc n S clk mw val) {j : Nat} (hj : j < n) : Goes (mPeek (3 + 3 * j)) S (0, unM (mw j)) S 1 := by
  have h1 := ld_goes (h.wm j hj)
  rw [h.ms j hj] at h1
  show Goes ((ld (3 + 3 * j) 0).bind fun r => .ret (r.1, if r.1 = 0 then unM r.2 else .zero)) _ _ _ _
  refine h1.bind (m := 0) (fun x => ⟨_, rfl⟩) ?_
  simp only [if_true]
  exact Goes.ret _ _
theorem mRead_goes (h : Sc n S clk mw val) {j v : Nat} (hj : j < n) (hm : mw j = rest v) : Goes (mRead (3 + 3 * j)) S (0, val j, (v : Int)) S 3 := by
  have h1 := ld_goes (h.wm j hj)
  have h2 := ld_goes (h.wv j hj)
  rw [h.ms j hj, hm] at h1
  rw [h.vs j hj] at h2
  refine h1.bind (m := 2) (fun x => ⟨(0, 0), by simp [mReadN]⟩) ?_
  simp only [mReadN, if_true, unM_rest, Bool.false_eq_true, if_false]
  refine h2.bind (m := 1) (fun x => ⟨_, rfl⟩) ?_
  simp only [if_true]
  refine h1.bind (m := 0) (fun x => ⟨(0, 0), by simp⟩) ?_
  simp only [and_self, if_true]
  exact Goes.ret _ _
theorem mLock_goes (h : Sc n S clk mw val) {j v own : Nat} (hj : j < n) (hm : mw j = rest v) (hv : v ≤ 281474976710655) (ho : own ≤ 255) : Goes (mLock (3 + 3 * j) (v : Int) (own : Int)) S (0, ()) { S with ws := S.ws.set (4 + 3 * j) (lockd v own) } 2 := by
  have h1 := mPeek_goes h hj
  rw [hm, unM_rest] at h1
  have h2 := cas_goes (h.wm j hj) ((h.ms j hj).trans hm) (lockd v own)
  show Goes ((mPeek (3 + 3 * j)).bind fun r => if r.1 = 0 then mTurnIn (3 + 3 * j) (v : Int) r.2 { r.2 with own := (own : Int), chg := true } (mTurnN (3 + 3 * j) (v : Int) (fun m => { m with own := (own : Int), chg := true }) 7) else .ret (r.1, ())) _ _ _ _
  refine h1.bind (m := 1) (fun x => ⟨_, rfl⟩) ?_
  simp only [if_true, mTurnIn, Bool.false_eq_true, ne_eq, not_true, or_self, if_false, Mt.mk.injEq, Bool.true_eq_false, and_false, false_and, pack_rest hv, pack_lockd hv ho]
  refine h2.bind (m := 0) (fun x => ⟨_, rfl⟩) ?_
  simp only [if_true]
  exact Goes.ret _ _
theorem mCommit_goes (h : Sc n S clk mw val) {j v own st : Nat} (hj : j < n) (hm : mw j = lockd v own) (ho : own ≤ 255) (hs : st ≤ 281474976710655) (x : Nat) :
    ∃ S', Goes (mCommit (3 + 3 * j) x (st : Int)) S (0, false) S' 3 ∧ Sc n S' clk (upd mw j (rest st)) (upd val j x) := by
  have h1 := mPeek_goes h hj
  rw [hm, unM_lockd v own ho] at h1
  have h2 := sto_goes (h.wv j hj) x
  have k2 := h.value hj x
  have h3 := sto_goes (k2.wm j hj) (rest st)
  refine ⟨_, ?_, k2.mword hj (rest st)⟩
  have hl : Goes (mLocked (3 + 3 * j)) S (0, ⟨(v : Int), (own : Int), true, false⟩) S 1 := by
    show Goes ((mPeek (3 + 3 * j)).bind fun r => .ret (if r.1 = 0 then (if r.2.chg then 0 else 2) else r.1, r.2)) _ _ _ _
    refine h1.bind (m := 0) (fun x => ⟨_, rfl⟩) ?_
    simp only [if_true]
    exact Goes.ret _ _
  refine hl.bind (m := 2) (fun x => ⟨_, rfl⟩) ?_
  simp only [if_true]
  refine h2.bind (m := 1) (fun x => ⟨_, rfl⟩) ?_
  simp only [if_true, mPut, pack_rest hs]
  refine h3.bind (m := 0) (fun x => ⟨_, rfl⟩) ?_
  simp only [if_true]
  exact Goes.ret _ _
theorem tStill_goes (h : Sc n S clk mw val) (which : Nat → Bool) : ∀ l : List (Nat × Int), (∀ x ∈ l, which x.1 = true → ∃ j v, j < n ∧ x = (3 + 3 * j, ((v : Nat) : Int)) ∧ mw j = rest v) → Goes (tStill which l) S (0, ()) S l.length
  | [], _ => Goes.ret _ _
  | x :: l, hl => by
    have ih := tStill_goes h which l (fun y hy => hl y (List.mem_cons_of_mem _ hy))
    unfold tStill
    by_cases e : which x.1 = true
    · rw [if_pos e]
      obtain ⟨j, v, hj, rfl, hm⟩ := hl x (List.mem_cons_self ..) e
      have h1 := mPeek_goes h hj
      rw [hm, unM_rest] at h1
      refine Goes.bindM (m := l.length) h1 (fun x => ⟨_, rfl⟩) ?_ (by first | omega | (simp only [List.length_cons]; omega))
      simp only [if_true, Bool.false_eq_true, ne_eq, not_true, or_self, if_false]
      exact ih
    · rw [if_neg e]
      exact ih.more (by first | omega | (simp only [List.length_cons]; omega))

end
/-! Sets. -/
theorem at_some {k : Nat} : ∀ {l : List (Nat × Int)} {i m : Nat}, at? k l i = some m → ∃ x, (l.map (·.2)).getD (m - i) 0 = x ∧ (k, x) ∈ l ∧ i ≤ m
  | [], _, _, h => by cases h
  | y :: l, i, m, h => by
    unfold at? at h
    split at h
    · rename_i e
      cases h
      refine ⟨y.2, by simp, ?_, Nat.le_refl _⟩
      rw [e]
      exact List.mem_cons_self ..
    · obtain ⟨x, h1, h2, h3⟩ := at_some h
      refine ⟨x, ?_, List.mem_cons_of_mem _ h2, by omega⟩
      rw [show m - i = (m - (i + 1)) + 1 by omega]
      simpa using h1
theorem wget_cons (k : Nat) (x : Nat × Nat) (l : List (Nat × Nat)) : wget k (x :: l) = if k = x.1 then some x.2 else wget k l := rfl
theorem wget_wput (k v j : Nat) : ∀ l, wget j (wput k v l) = if j = k then some v else wget j l
  | [] => by simp [wput, wget]
  | x :: l => by
    unfold wput
    split
    · simp [wget]
    · split
      · rename_i e
        by_cases h : j = k
        · simp [wget, h]
        · have : ¬ j = x.1 := fun q => h (q.trans e.symm)
          simp [wget, h, this]
      · rename_i e
        simp only [wget]
        rw [wget_wput k v j l]
        by_cases h : j = x.1
        · have : ¬ j = k := fun q => e (q.symm.trans h)
          rw [if_pos h, if_pos h, if_neg this]
        · rw [if_neg h, if_neg h]
theorem mem_wput {k v : Nat} {y : Nat × Nat} : ∀ {l}, y ∈ wput k v l → y = (k, v) ∨ y ∈ l
  | [], h => .inl (by simpa [wput] using h)
  | x :: l, h => by
    unfold wput at h
    split at h
    · rcases List.mem_cons.1 h with e | e
      · exact .inl e
      · exact .inr e
    · split at h
      · rcases List.mem_cons.1 h with e | e
        · exact .inl e
        · exact .inr (List.mem_cons_of_mem _ e)
      · rcases List.mem_cons.1 h with e | e
        · exact .inr (e ▸ List.mem_cons_self ..)
        · rcases mem_wput e with e | e
          · exact .inl e
          · exact .inr (List.mem_cons_of_mem _ e)
theorem sorted_wput {k v : Nat} : ∀ {l}, Sorted l → Sorted (wput k v l)
  | [], _ => ⟨fun _ h => (by cases h), trivial⟩
  | x :: l, h => by
    unfold wput
    split
    · rename_i e
      refine ⟨fun y hy => ?_, h⟩
      rcases List.mem_cons.1 hy with q | q
      · rw [q]; exact e
      · exact Nat.lt_trans e (h.1 y q)
    · split
      · rename_i e
        refine ⟨fun y hy => ?_, h.2⟩
        show k < y.1
        rw [e]
        exact h.1 y hy
      · rename_i e1 e2
        refine ⟨fun y hy => ?_, sorted_wput h.2⟩
        rcases mem_wput hy with q | q
        · rw [q]
          show x.1 < k
          omega
        · exact h.1 y q
theorem length_wput {k v : Nat} : ∀ l, (wput k v l).length ≤ l.length + 1
  | [] => by simp [wput]
  | x :: l => by
    unfold wput
    split
    · simp
    · split
      · simp
      · have := length_wput (k := k) (v := v) l
        simp
        omega
theorem wget_none {k : Nat} : ∀ {l : List (Nat × Nat)}, (∀ y ∈ l, k < y.1) → wget k l = none
  | [], _ => rfl
  | x :: l, h => by
    unfold wget
    rw [if_neg (by have := h x (List.mem_cons_self ..); omega)]
    exact wget_none fun y hy => h y (List.mem_cons_of_mem _ hy)
theorem wget_absent {x : Nat × Nat} : ∀ {l : List (Nat × Nat)}, x ∈ l → wget x.1 l = none → False
  | y :: l, h, hg => by
    unfold wget at hg
    split at hg
    · cases hg
    · rename_i e
      rcases List.mem_cons.1 h with q | q
      · exact e (by rw [q])
      · exact wget_absent q hg
theorem wget_mem {k v : Nat} : ∀ {l : List (Nat × Nat)}, wget k l = some v → (k, v) ∈ l
  | [], h => by cases h
  | x :: l, h => by
    unfold wget at h
    split at h
    · rename_i e
      cases h
      rw [e]
      exact List.mem_cons_self ..
    · exact List.mem_cons_of_mem _ (wget_mem h)

/-! A transaction of cells at rest. -/
structure TxS (n clk own : Nat) (ver val now : Nat → Nat) (k : Nat) (t : Tx) : Prop where
  clock : t.clock = 1
  owner : t.owner = (own : Int)
  stamp : t.stamp = (clk : Int)
  reads : ∀ x ∈ t.sets.reads, ∃ j, j < n ∧ x = (3 + 3 * j, ((ver j : Nat) : Int))
  few : t.sets.reads.length ≤ k
  writes : ∀ x ∈ t.sets.writes, ∃ j, j < n ∧ x.1 = 3 + 3 * j
  sorted : Sorted t.sets.writes
  fewW : t.sets.writes.length ≤ k
  now : ∀ j, j < n → now j = (wget (3 + 3 * j) t.sets.writes).getD (val j)
section
variable {n clk own k : Nat} {S : BS} {mw ver val now : Nat → Nat} {t : Tx}
theorem TxS.vers (h : TxS n clk own ver val now k t) {j m : Nat} (ha : at? (3 + 3 * j) t.sets.reads 0 = some m) : (t.sets.reads.map (·.2)).getD m 0 = ((ver j : Nat) : Int) := by
  obtain ⟨x, h1, h2, _⟩ := at_some ha
  obtain ⟨i, _, e⟩ := h.reads _ h2
  simp only [Prod.mk.injEq] at e
  obtain rfl : i = j := by omega
  rw [← e.2]
  exact h1
theorem TxS.more (h : TxS n clk own ver val now k t) {m : Nat} (hm : k ≤ m) : TxS n clk own ver val now m t := { h with few := Nat.le_trans h.few hm, fewW := Nat.le_trans h.fewW hm }
theorem tRead_goes (hs : Sc n S clk (fun i => rest (ver i)) val) (h : TxS n clk own ver val now k t) (hv : ∀ i, i < n → ver i ≤ clk) (hk : k < 400) {j : Nat} (hj : j < n) :
    ∃ t', Goes (tRead t (3 + 3 * j)) S (0, now j, t') S 3 ∧ TxS n clk own ver val now (k + 1) t' ∧ t'.sets.writes = t.sets.writes := by
  cases hw : wget (3 + 3 * j) t.sets.writes with
  | some v =>
    refine ⟨t, ?_, h.more (by omega), rfl⟩
    have e := h.now j hj
    rw [hw] at e
    unfold tRead
    rw [hw, e]
    exact (Goes.ret _ _).more (by omega)
  | none =>
    have e := h.now j hj
    rw [hw] at e
    have h1 := mRead_goes hs hj (v := ver j) rfl
    have key : ∀ s' : Sets, t.sets.read (3 + 3 * j) ((ver j : Nat) : Int) = (0, s') → TxS n clk own ver val now (k + 1) { t with sets := s' } → s'.writes = t.sets.writes → ∃ t', Goes (tRead t (3 + 3 * j)) S (0, now j, t') S 3 ∧ TxS n clk own ver val now (k + 1) t' ∧ t'.sets.writes = t.sets.writes := by
      intro s' hr ht hws
      refine ⟨{ t with sets := s' }, ?_, ht, hws⟩
      unfold tRead
      rw [hw]
      refine h1.bind (m := 0) (fun x => ⟨_, rfl⟩) ?_
      simp only [if_true, hr, h.stamp]
      rw [if_pos (by have := hv j hj; omega), e]
      exact Goes.ret _ _
    cases ha : at? (3 + 3 * j) t.sets.reads 0 with
    | some m =>
      refine key t.sets ?_ (h.more (by omega)) rfl
      unfold Sets.read
      simp only [ha]
      rw [if_neg (by rw [h.vers ha]; simp)]
    | none =>
      have hf := h.few
      refine key { t.sets with reads := t.sets.reads ++ [(3 + 3 * j, ((ver j : Nat) : Int))] } ?_ ?_ rfl
      · unfold Sets.read
        simp only [ha]
        rw [if_neg (by omega)]
      · refine ⟨h.clock, h.owner, h.stamp, fun x hx => ?_, by simp; omega, h.writes, h.sorted, by have := h.fewW; simp; omega, h.now⟩
        rcases List.mem_append.1 hx with q | q
        · exact h.reads x q
        · exact ⟨j, hj, by simpa using q⟩
theorem tWrite_does (h : TxS n clk own ver val now k t) (hk : k < 400) {j : Nat} (hj : j < n) (x : Nat) :
    ∃ t', tWrite t (3 + 3 * j) x = (0, t') ∧ TxS n clk own ver val (upd now j x) (k + 1) t' ∧ t'.sets.writes ≠ [] := by
  have hf := h.fewW
  have hfr := h.few
  have hl := length_wput (k := 3 + 3 * j) (v := x) t.sets.writes
  have e : (t.sets.write (3 + 3 * j) x) = (0, { t.sets with writes := wput (3 + 3 * j) x t.sets.writes, log := if t.sets.marks = [] then t.sets.log else t.sets.log ++ [⟨3 + 3 * j, (wget (3 + 3 * j) t.sets.writes).getD 0, (wget (3 + 3 * j) t.sets.writes).isSome⟩] }) := by
    unfold Sets.write
    rw [if_neg (by omega)]
  refine ⟨(tWrite t (3 + 3 * j) x).2, ?_, ?_, ?_⟩
  · unfold tWrite
    rw [e]
  · unfold tWrite
    rw [e]
    refine ⟨h.clock, h.owner, h.stamp, h.reads, Nat.le_trans hfr (Nat.le_succ k), fun y hy => ?_, sorted_wput h.sorted, Nat.le_trans hl (Nat.succ_le_succ hf), fun i hi => ?_⟩
    · rcases mem_wput hy with q | q
      · exact ⟨j, hj, by rw [q]⟩
      · exact h.writes y q
    · simp only [wget_wput, upd]
      by_cases e : i = j
      · simp [e]
      · rw [if_neg e, if_neg (by omega)]
        exact h.now i hi
  · unfold tWrite
    rw [e]
    intro e2
    have := wget_wput (3 + 3 * j) x (3 + 3 * j) t.sets.writes
    simp only at e2
    rw [e2] at this
    simp [wget] at this
theorem tCheck_goes (hs : Sc n S clk (fun i => rest (ver i)) val) (h : TxS n clk own ver val now k t) : Goes (tCheck t) S (0, ()) S k := by
  refine (tStill_goes hs _ t.sets.reads fun x hx _ => ?_).more h.few
  obtain ⟨j, hj, e⟩ := h.reads x hx
  exact ⟨j, ver j, hj, e, rfl⟩
theorem tLock_goes {val' : Nat → Nat} (hs : Sc n S clk mw val) (h : TxS n clk own ver val' now k t) (ho : own ≤ 255) {j : Nat} (hj : j < n) (hm : mw j = rest (ver j)) (hv : ver j ≤ 281474976710655) :
    Goes (tLock t (3 + 3 * j)) S (0, ()) { S with ws := S.ws.set (4 + 3 * j) (lockd (ver j) own) } 3 := by
  have h2 := mLock_goes hs hj hm hv ho
  unfold tLock Sets.version
  cases ha : at? (3 + 3 * j) t.sets.reads 0 with
  | some m =>
    simp only [Option.map_some, h.vers ha, h.owner]
    exact h2.more (by omega)
  | none =>
    simp only [Option.map_none, h.owner]
    have h1 := mPeek_goes hs hj
    rw [hm, unM_rest] at h1
    refine h1.bind (m := 2) (fun x => ⟨_, rfl⟩) ?_
    simp only [if_true]
    exact h2
theorem tLocks_goes {val' : Nat → Nat} (h : TxS n clk own ver val' now k t) (ho : own ≤ 255) (hv : ∀ i, i < n → ver i ≤ 281474976710655) : ∀ (l done : List (Nat × Nat)) (S : BS) (mw : Nat → Nat), Sc n S clk mw val → (∀ x ∈ l, ∃ j, j < n ∧ x.1 = 3 + 3 * j ∧ mw j = rest (ver j)) → Sorted l →
    ∃ S' mw', Goes (tLocks t done l) S (0, ()) S' (3 * l.length) ∧ Sc n S' clk mw' val ∧ ∀ j, j < n → mw' j = if (wget (3 + 3 * j) l).isSome then lockd (ver j) own else mw j
  | [], done, S, mw, hs, _, _ => ⟨S, mw, Goes.ret _ _, hs, fun j _ => by simp [wget]⟩
  | x :: l, done, S, mw, hs, hl, hso => by
    obtain ⟨j, hj, e, hm⟩ := hl x (List.mem_cons_self ..)
    have h1 := tLock_goes hs h ho hj hm (hv j hj)
    have hs1 := hs.mword hj (lockd (ver j) own)
    obtain ⟨S', mw', g1, g2, g3⟩ := tLocks_goes h ho hv l (done ++ [x]) _ _ hs1 (fun y hy => by
      obtain ⟨i, hi, e', hm'⟩ := hl y (List.mem_cons_of_mem _ hy)
      have := hso.1 y hy
      refine ⟨i, hi, e', ?_⟩
      unfold upd
      rw [if_neg (by omega)]
      exact hm') hso.2
    refine ⟨S', mw', ?_, g2, fun i hi => ?_⟩
    · unfold tLocks
      rw [e]
      refine Goes.bindM (m := 3 * l.length) h1 (fun x => ⟨(), by simp [tFail]⟩) ?_ (by first | omega | (simp only [List.length_cons]; omega))
      simp only [if_true]
      exact g1
    · rw [g3 i hi, wget_cons]
      unfold upd
      by_cases q : i = j
      · subst q
        simp [e]
      · rw [if_neg q, if_neg (show ¬ (3 + 3 * i = x.1) by omega)]
theorem tPuts_goes {st : Nat} (ho : own ≤ 255) (hst : st ≤ 281474976710655) : ∀ (l : List (Nat × Nat)) (waits : Bool) (S : BS) (mw val : Nat → Nat), Sc n S clk mw val → (∀ x ∈ l, ∃ j, j < n ∧ x.1 = 3 + 3 * j ∧ mw j = lockd (ver j) own) → Sorted l →
    ∃ S' mw' val', Goes (tPuts (st : Int) waits l) S (0, waits) S' (3 * l.length) ∧ Sc n S' clk mw' val' ∧ (∀ j, j < n → mw' j = if (wget (3 + 3 * j) l).isSome then rest st else mw j) ∧ ∀ j, j < n → val' j = (wget (3 + 3 * j) l).getD (val j)
  | [], waits, S, mw, val, hs, _, _ => ⟨S, mw, val, Goes.ret _ _, hs, fun j _ => by simp [wget], fun j _ => by simp [wget]⟩
  | x :: l, waits, S, mw, val, hs, hl, hso => by
    obtain ⟨j, hj, e, hm⟩ := hl x (List.mem_cons_self ..)
    obtain ⟨S1, h1, hs1⟩ := mCommit_goes hs hj hm ho hst x.2
    obtain ⟨S', mw', val', g1, g2, g3, g4⟩ := tPuts_goes ho hst l (waits || false) S1 _ _ hs1 (fun y hy => by
      obtain ⟨i, hi, e', hm'⟩ := hl y (List.mem_cons_of_mem _ hy)
      have := hso.1 y hy
      refine ⟨i, hi, e', ?_⟩
      unfold upd
      rw [if_neg (by omega)]
      exact hm') hso.2
    have hnone : wget (3 + 3 * j) l = none := wget_none fun y hy => by have := hso.1 y hy; omega
    refine ⟨S', mw', val', ?_, g2, fun i hi => ?_, fun i hi => ?_⟩
    · unfold tPuts
      rw [e]
      refine Goes.bindM (m := 3 * l.length) h1 (fun x => ⟨_, rfl⟩) ?_ (by first | omega | (simp only [List.length_cons]; omega))
      simp only [if_true]
      rw [Bool.or_false] at g1 ⊢
      exact g1
    · rw [g3 i hi, wget_cons]
      unfold upd
      by_cases q : i = j
      · subst q
        simp [e, hnone]
      · rw [if_neg q, if_neg (show ¬ (3 + 3 * i = x.1) by omega)]
    · rw [g4 i hi, wget_cons]
      unfold upd
      by_cases q : i = j
      · subst q
        simp [e, hnone]
      · rw [if_neg q, if_neg (show ¬ (3 + 3 * i = x.1) by omega)]
/-- It is committed: what it wrote is there, with a new stamp, if it wrote something. -/
theorem tCommit_goesK (hs : Sc n S clk (fun i => rest (ver i)) val) (h : TxS n clk own ver val now k t) (ho : own ≤ 255) (hv : ∀ i, i < n → ver i ≤ clk) (hc : clk + 1 ≤ 281474976710655) (hk : k ≤ 60) :
    ∃ (S' : BS) (clk' : Nat) (ver' : Nat → Nat) (t' : Tx), Goes (tCommit t) S (0, (clk' : Int), false, t') S' (7 * k + 2) ∧ Sc n S' clk' (fun i => rest (ver' i)) now ∧ (∀ i, i < n → ver' i ≤ clk') ∧ clk' = if t.sets.writes = [] then clk else clk + 1 := by
  by_cases hw : t.sets.writes = []
  · refine ⟨S, clk, ver, t, ?_, hs.cast (fun _ _ => rfl) fun i hi => ?_, hv, by rw [if_pos hw]⟩
    · unfold tCommit
      rw [if_pos hw, h.stamp]
      exact (Goes.ret _ _).more (by omega)
    · rw [h.now i hi, hw]
      rfl
  · have hf := h.few
    have hfw := h.fewW
    obtain ⟨S1, mw1, a1, a2, a3⟩ := tLocks_goes h ho (fun i hi => by have := hv i hi; omega) t.sets.writes [] S _ hs (fun x hx => by
      obtain ⟨j, hj, e⟩ := h.writes x hx
      exact ⟨j, hj, e, rfl⟩) h.sorted
    have b1 := mTick_goes a2 (by omega)
    have b2 := a2.tick (clk + 1)
    have c1 := tStill_goes b2 (fun c => (wget c t.sets.writes).isNone) t.sets.reads (fun x hx hx' => by
      obtain ⟨j, hj, rfl⟩ := h.reads x hx
      refine ⟨j, ver j, hj, rfl, ?_⟩
      rw [a3 j hj, if_neg (by simpa using hx')])
    obtain ⟨S3, mw3, val3, d1, d2, d3, d4⟩ := tPuts_goes (st := clk + 1) ho hc t.sets.writes false _ _ _ b2 (fun x hx => by
      obtain ⟨j, hj, e⟩ := h.writes x hx
      refine ⟨j, hj, e, ?_⟩
      rw [a3 j hj, if_pos]
      have hx' : x ∈ t.sets.writes := hx
      cases hg : wget (3 + 3 * j) t.sets.writes with
      | some v => rfl
      | none =>
        exfalso
        rw [← e] at hg
        exact wget_absent hx' hg) h.sorted
    refine ⟨S3, clk + 1, fun i => if (wget (3 + 3 * i) t.sets.writes).isSome then clk + 1 else ver i, { t with stamp := ((clk + 1 : Nat) : Int) }, ?_, d2.cast (fun i hi => ?_) (fun i hi => ?_), fun i hi => ?_, by rw [if_neg hw]⟩
    · unfold tCommit
      rw [if_neg hw]
      refine Goes.left fun l hl => ?_
      rw [if_neg (by omega)]
      refine Goes.bindM (m := 2 + (k + 3 * k)) a1 (fun x => ⟨_, rfl⟩) ?_ (by omega)
      simp only [if_true, h.clock]
      refine (b1.bind (m := k + 3 * k) (fun x => ⟨(0, false, t), by simp [Tree.bind, tFail]⟩) ?_)
      simp only [if_true]
      refine Goes.bindM (m := 3 * k) c1 (fun x => ⟨(0, false, t), by simp [Tree.bind, tFail]⟩) ?_ (by omega)
      simp only [if_true]
      refine Goes.bindM (m := 0) d1 (fun x => ⟨_, rfl⟩) ?_ (by omega)
      simp only [if_true]
      exact Goes.ret _ _
    · rw [d3 i hi]
      by_cases q : (wget (3 + 3 * i) t.sets.writes).isSome
      · rw [if_pos q]
        simp only [q, if_true]
      · rw [if_neg q, a3 i hi, if_neg q]
        simp only [if_neg q]
    · rw [d4 i hi]
      exact (h.now i hi).symm
    · by_cases q : (wget (3 + 3 * i) t.sets.writes).isSome
      · simp only [if_pos q]
        omega
      · simp only [if_neg q]
        have := hv i hi
        omega
theorem tCommit_goes (hs : Sc n S clk (fun i => rest (ver i)) val) (h : TxS n clk own ver val now k t) (ho : own ≤ 255) (hv : ∀ i, i < n → ver i ≤ clk) (hc : clk + 1 ≤ 281474976710655) (hk : k ≤ 20) :
    ∃ (S' : BS) (clk' : Nat) (ver' : Nat → Nat) (t' : Tx), Goes (tCommit t) S (0, (clk' : Int), false, t') S' 200 ∧ Sc n S' clk' (fun i => rest (ver' i)) now ∧ (∀ i, i < n → ver' i ≤ clk') ∧ clk' = if t.sets.writes = [] then clk else clk + 1 := by
  obtain ⟨S', clk', ver', t', h1, h2⟩ := tCommit_goesK hs h ho hv hc (by omega)
  exact ⟨S', clk', ver', t', h1.more (by omega), h2⟩
end

/-! The law's transactions. -/
def doOps (n : Nat) : List Op13 → Nat → (Nat → Nat) → List Nat → List Nat × (Nat → Nat)
  | [], _, now, told => (told, now)
  | o :: l, acc, now, told =>
    if o.kind = 1 then doOps n l ((acc + now (o.a % (n : Int)).toNat) % 18446744073709551616) now (told ++ [now (o.a % (n : Int)).toNat])
    else if o.kind = 2 then doOps n l acc (upd now (o.a % (n : Int)).toNat ((acc + o.x) % 18446744073709551616)) told
    else doOps n l acc now told
def wr (l : List Op13) : Bool := l.any fun o => decide (o.kind = 2)
section
variable {n clk own : Nat} {S : BS} {ver val : Nat → Nat} {cells : List Nat}
theorem bodyOps_goes (hn : 1 ≤ n) (hcell : ∀ a : Int, cellAt cells a = 3 + 3 * (a % (n : Int)).toNat) (hs : Sc n S clk (fun i => rest (ver i)) val) (hv : ∀ i, i < n → ver i ≤ clk) : ∀ (l : List Op13) (t : Tx) (acc : Nat) (told : List Nat) (k : Nat) (now : Nat → Nat), TxS n clk own ver val now k t → k + l.length ≤ 20 →
    ∃ t', Goes (bodyOps cells l t acc told) S (0, t', (doOps n l acc now told).1) S (20 * l.length) ∧ TxS n clk own ver val (doOps n l acc now told).2 (k + l.length) t' ∧ (t'.sets.writes ≠ [] ↔ t.sets.writes ≠ [] ∨ wr l = true)
  | [], t, acc, told, k, now, h, hk => ⟨t, Goes.ret _ _, h, by simp [wr]⟩
  | o :: l, t, acc, told, k, now, h, hk => by
    simp only [List.length_cons] at hk
    have hj : (o.a % (n : Int)).toNat < n := by
      have h1 := Int.emod_nonneg o.a (b := (n : Int)) (by omega)
      have h2 := Int.emod_lt_of_pos o.a (b := (n : Int)) (by omega)
      omega
    unfold bodyOps doOps
    rw [hcell]
    by_cases h1 : o.kind = 1
    · rw [if_pos h1, if_pos h1]
      obtain ⟨t1, g1, g2, g3⟩ := tRead_goes hs h hv (by omega) hj
      obtain ⟨t', a1, a2, a3⟩ := bodyOps_goes hn hcell hs hv l t1 ((acc + now (o.a % (n : Int)).toNat) % 18446744073709551616) (told ++ [now (o.a % (n : Int)).toNat]) (k + 1) now g2 (by omega)
      refine ⟨t', ?_, a2.more (by first | omega | (simp only [List.length_cons]; omega)), ?_⟩
      · refine Goes.bindM (m := 20 * l.length) g1 (fun x => ⟨_, rfl⟩) ?_ (by first | omega | (simp only [List.length_cons]; omega))
        simp only [if_true]
        exact a1
      · rw [a3, g3]
        simp [wr, h1]
    · rw [if_neg h1, if_neg h1]
      by_cases h2 : o.kind = 2
      · rw [if_pos h2, if_pos h2]
        obtain ⟨t1, g1, g2, g3⟩ := tWrite_does h (by omega) hj ((acc + o.x) % 18446744073709551616)
        obtain ⟨t', a1, a2, a3⟩ := bodyOps_goes hn hcell hs hv l t1 acc told (k + 1) _ g2 (by omega)
        refine ⟨t', ?_, a2.more (by first | omega | (simp only [List.length_cons]; omega)), ?_⟩
        · rw [g1]
          simp only [if_true]
          exact a1.more (by first | omega | (simp only [List.length_cons]; omega))
        · rw [a3]
          simp [wr, h2, g3]
      · rw [if_neg h2, if_neg h2]
        by_cases h3 : o.kind = 3
        · rw [if_pos h3]
          have g1 := tCheck_goes hs h
          obtain ⟨t', a1, a2, a3⟩ := bodyOps_goes hn hcell hs hv l t acc told (k + 1) now (h.more (by omega)) (by omega)
          refine ⟨t', ?_, a2.more (by first | omega | (simp only [List.length_cons]; omega)), ?_⟩
          · refine Goes.bindM (m := 20 * l.length) g1 (fun x => ⟨_, rfl⟩) ?_ (by first | omega | (simp only [List.length_cons]; omega))
            simp only [if_true]
            exact a1
          · rw [a3]
            simp [wr, h2]
        · rw [if_neg h3]
          obtain ⟨t', a1, a2, a3⟩ := bodyOps_goes hn hcell hs hv l t acc told (k + 1) now (h.more (by omega)) (by omega)
          refine ⟨t', a1.more (by first | omega | (simp only [List.length_cons]; omega)), a2.more (by first | omega | (simp only [List.length_cons]; omega)), ?_⟩
          rw [a3]
          simp [wr, h2]
theorem body_goes (hn : 1 ≤ n) (hcell : ∀ a : Int, cellAt cells a = 3 + 3 * (a % (n : Int)).toNat) (hs : Sc n S clk (fun i => rest (ver i)) val) (hv : ∀ i, i < n → ver i ≤ clk) (hc : clk + 1 ≤ 281474976710655) (ho : own ≤ 255) {l : List Op13} (hl : l.length ≤ 10) :
    ∃ (S' : BS) (ver' : Nat → Nat) (f : Out13 → Out13), Goes (bodyT l 1 cells (own : Int)) S (0, f) S' 420 ∧ (∀ s, f s = ⟨(doOps n l 0 val []).1, true, wr l, (((if wr l = true then clk + 1 else clk) : Nat) : Int)⟩) ∧ Sc n S' (if wr l = true then clk + 1 else clk) (fun i => rest (ver' i)) (doOps n l 0 val []).2 ∧ ∀ i, i < n → ver' i ≤ if wr l = true then clk + 1 else clk := by
  have b1 := mNow_goes hs (by omega)
  have hb : Goes (tBegin 1 (own : Int)) S (0, ⟨.empty, 1, (own : Int), (clk : Int)⟩) S 1 := by
    show Goes ((mNow 1).bind fun r => .ret (r.1, (⟨.empty, 1, (own : Int), r.2⟩ : Tx))) _ _ _ _
    exact b1.bind (m := 0) (fun x => ⟨_, rfl⟩) (Goes.ret _ _)
  obtain ⟨t', a1, a2, a3⟩ := bodyOps_goes (own := own) hn hcell hs hv l ⟨.empty, 1, (own : Int), (clk : Int)⟩ 0 [] 0 val ⟨rfl, rfl, rfl, fun _ h => (by cases h), Nat.le_refl _, fun _ h => (by cases h), trivial, Nat.le_refl _, fun _ _ => rfl⟩ (by omega)
  obtain ⟨S', clk', ver', t2, c1, c2, c3, c4⟩ := tCommit_goes hs a2 ho hv hc (by omega)
  have hwr : t'.sets.writes ≠ [] ↔ wr l = true := by
    rw [a3]
    constructor
    · intro q
      rcases q with q | q
      · exact absurd rfl q
      · exact q
    · exact fun q => .inr q
  have hw : decide (t'.sets.writes ≠ []) = wr l := by
    cases e : wr l with
    | true => exact decide_eq_true (hwr.2 e)
    | false =>
      refine decide_eq_false (fun q => ?_)
      rw [hwr.1 q] at e
      cases e
  have hclk : clk' = if wr l = true then clk + 1 else clk := by
    rw [c4]
    by_cases e : t'.sets.writes = []
    · rw [if_pos e, if_neg (fun q => hwr.2 q e)]
    · rw [if_neg e, if_pos (hwr.1 e)]
  subst hclk
  refine ⟨S', ver', fun _ => ⟨(doOps n l 0 val []).1, true, decide (t'.sets.writes ≠ []), (((if wr l = true then clk + 1 else clk) : Nat) : Int)⟩, ?_, fun s => by simp only [hw], c2, c3⟩
  · unfold bodyT
    refine Goes.bindM (m := 20 * l.length + 200) hb (fun x => ⟨_, rfl⟩) ?_ (by omega)
    simp only [if_true]
    refine a1.bind (m := 200) (fun x => ⟨_, rfl⟩) ?_
    unfold bodyEnd
    simp only [if_true]
    refine Goes.bindM (m := 0) c1 (fun x => ⟨_, rfl⟩) ?_ (Nat.le_refl _)
    simp only [if_true]
    exact Goes.ret _ _
theorem quits_any {β : Type} {Y : β → Prop} (hY : ∀ b, Y b) : ∀ (p : Tree (Nat × β)) (i : Nat) (S : BS), quits (fun _ => True) p i S → quits Y p i S
  | .ret _, _, _, _ => trivial
  | .acc _ k, _, _, ⟨h1, ⟨b, _, h2⟩, h3⟩ => ⟨h1, ⟨b, hY b, h2⟩, quits_any hY (k _ _) _ _ h3⟩
  | .left k, i, S, h => quits_any hY (k _) i S h
/-- A thread that runs such a tree alone. -/
theorem goes_run {σ : Type} {P : Tree (Nat × (σ → σ))} {S S' : BS} {f : σ → σ} {k : Nat} (h : Goes P S (0, f) S' k) (hk : k ≤ 3400) (m : Nat) (hm : k ≤ m) (hm1 : 1 ≤ m) (s : σ) : ∃ s' L n, run (treeBody fun _ => P) m (0, start s, S) = (0, ⟨L, 0, n, true, 0, f s'⟩, S') := by
  obtain ⟨h1, h2, h3, h4⟩ := h 0 (by omega)
  obtain ⟨s', _, e⟩ := run_alone (P := fun _ => P) (J := fun _ => True) (S := S) (quits_any (fun _ _ _ => trivial) _ _ _ h1) (a := (direct P 0 S).1) (D := (direct P 0 S).2) rfl (by omega) (by rw [h2]; exact fun q => by cases q) (by rw [h2]; exact fun q => by cases q) m 0 0 s trivial (by omega) (by omega)
  rw [h2, h4] at e
  exact ⟨s', _, _, e⟩
end
end Go.Proofs.YtmdganpealbmpaaGreatDoor.Th
