/- TqScene0: TqGoes, TqGoes2, TqGoes3, TqGoes4, TqScene0. -/
import Derived.Test.YtkpdacfiglpgeaaGreatDoorTqPlain

/- Layer 29's transactions that run alone: what they do with lists. No program stands here. -/
namespace Go.Proofs.YtkpdacfiglpgeaaGreatDoor.Th
open Bl

/-! Queues as lists. -/
def updB {α : Type} (f : Bool → α) (k : Bool) (x : α) : Bool → α := fun j => if j = k then x else f j
/-- What a call tells of two lists with so many places, and leaves; none: it has to wait. -/
def mdl1 (pl : Bool → Nat) (a : ActQ) (q : Bool → List Nat) : Option (List Nat × (Bool → List Nat)) :=
  if a.kind = 0 then some ([(q a.other).length], q)
  else if a.kind = 1 ∨ a.kind = 2 then (if (q a.other).length = pl a.other then none else some ([], updB q a.other (q a.other ++ [a.x])))
  else if a.kind = 3 then (match q a.other with | [] => none | x :: _ => some ([x], q))
  else if a.kind = 4 then (match q a.other with | [] => none | x :: r => some ([x], updB q a.other r))
  else if a.kind = 5 then (match q a.other with | [] => some ([], q) | x :: r => some ([x], updB q a.other r))
  else if a.kind = 6 then some (q a.other, q)
  else if a.kind = 7 then some (q a.other, updB q a.other [])
  else if a.kind = 8 then (match q a.other with | [] => none | x :: r => if (q (!a.other)).length = pl (!a.other) then none else some ([], updB (updB q a.other r) (!a.other) (q (!a.other) ++ [x])))
  else if a.kind = 9 then (match q a.other with
    | x :: r => some ([x], updB q a.other r)
    | [] => match q (!a.other) with | [] => none | x :: r => some ([x], updB q (!a.other) r))
  else some ([], q)
def mdl (pl : Bool → Nat) : List ActQ → List Nat → (Bool → List Nat) → List Nat × (Bool → List Nat) × Bool
  | [], told, q => (told, q, true)
  | a :: l, told, q => match mdl1 pl a q with
    | some r => mdl pl l (told ++ r.1) r.2
    | none => (told, q, false)

/-! Transactions: what was read is known but once. -/
theorem keys_len {n : Nat} {l : List Nat} (h : l.Nodup) (hj : ∀ x ∈ l, ∃ j, j < n ∧ x = 3 + 3 * j) : l.length ≤ n := by
  have := nodup_bound n (l.map fun x => (x - 3) / 3) (by
    rw [List.Nodup, List.pairwise_map]
    refine List.Pairwise.imp_of_mem ?_ h
    intro a b ha hb hab e
    obtain ⟨i, _, rfl⟩ := hj a ha
    obtain ⟨j, _, rfl⟩ := hj b hb
    exact hab (by omega)) (by
    intro x hx
    obtain ⟨y, hy, rfl⟩ := List.mem_map.1 hx
    obtain ⟨i, hi, rfl⟩ := hj y hy
    omega)
  simpa using this
theorem sorted_nodup : ∀ {l : List (Nat × Nat)}, Sorted l → (l.map (·.1)).Nodup
  | [], _ => by simp
  | x :: l, h => by
    rw [List.map_cons, List.nodup_cons]
    refine ⟨fun hm => ?_, sorted_nodup h.2⟩
    obtain ⟨y, hy, e⟩ := List.mem_map.1 hm
    have := h.1 y hy
    omega
theorem at_none {k : Nat} : ∀ {l : List (Nat × Int)} {i : Nat}, at? k l i = none → k ∉ l.map (·.1)
  | [], _, _ => by simp
  | x :: l, i, h => by
    unfold at? at h
    split at h
    · cases h
    · rename_i e
      rw [List.map_cons, List.mem_cons, not_or]
      exact ⟨e, at_none h⟩
/-- A transaction of cells at rest; N: how many cells. -/
structure TxQ (n clk : Nat) (ver val now : Nat → Nat) (t : Tx) : Prop where
  tx : TxS n clk 1 ver val now n t
  dist : (t.sets.reads.map (·.1)).Nodup
section
variable {n clk : Nat} {S : BS} {ver val now : Nat → Nat} {t : Tx}
theorem tRead_q (hs : Sc n S clk (fun i => rest (ver i)) val) (h : TxQ n clk ver val now t) (hv : ∀ i, i < n → ver i ≤ clk) (hn : n < 400) {j : Nat} (hj : j < n) :
    ∃ rd, Goes (tRead t (3 + 3 * j)) S (0, now j, t.on { t.sets with reads := rd }) S 3 ∧ TxQ n clk ver val now (t.on { t.sets with reads := rd }) := by
  have e := h.tx.now j hj
  cases hw : wget (3 + 3 * j) t.sets.writes with
  | some v =>
    refine ⟨t.sets.reads, ?_, h⟩
    rw [hw] at e
    unfold tRead
    rw [hw, e]
    exact (Goes.ret _ _).more (by omega)
  | none =>
    rw [hw] at e
    have h1 := mRead_goes hs hj (v := ver j) rfl
    have key : ∀ rd, t.sets.read (3 + 3 * j) ((ver j : Nat) : Int) = (0, { t.sets with reads := rd }) → TxQ n clk ver val now (t.on { t.sets with reads := rd }) → ∃ rd, Goes (tRead t (3 + 3 * j)) S (0, now j, t.on { t.sets with reads := rd }) S 3 ∧ TxQ n clk ver val now (t.on { t.sets with reads := rd }) := by
      intro rd hr ht
      refine ⟨rd, ?_, ht⟩
      unfold tRead
      rw [hw]
      refine h1.bind (m := 0) (fun x => ⟨_, rfl⟩) ?_
      simp only [if_true, hr]
      rw [if_pos (by rw [h.tx.stamp]; have := hv j hj; omega), e]
      exact Goes.ret _ _
    cases ha : at? (3 + 3 * j) t.sets.reads 0 with
    | some m =>
      refine key t.sets.reads ?_ h
      unfold Sets.read
      simp only [ha]
      rw [if_neg (by rw [h.tx.vers ha]; simp)]
    | none =>
      have hf := h.tx.few
      refine key (t.sets.reads ++ [(3 + 3 * j, ((ver j : Nat) : Int))]) ?_ ?_
      · unfold Sets.read
        simp only [ha]
        rw [if_neg (by omega)]
      · have hr : ∀ x ∈ t.sets.reads ++ [(3 + 3 * j, ((ver j : Nat) : Int))], ∃ j, j < n ∧ x = (3 + 3 * j, ((ver j : Nat) : Int)) := by
          intro x hx
          rcases List.mem_append.1 hx with q | q
          · exact h.tx.reads x q
          · exact ⟨j, hj, by simpa using q⟩
        have hd : ((t.sets.reads ++ [(3 + 3 * j, ((ver j : Nat) : Int))]).map (·.1)).Nodup := by
          rw [List.map_append, List.nodup_append]
          refine ⟨h.dist, by simp, fun a ha' b hb e => ?_⟩
          simp only [List.map_cons, List.map_nil, List.mem_singleton] at hb
          exact at_none ha (by rw [← hb, ← e]; exact ha')
        refine ⟨⟨h.tx.clock, h.tx.owner, h.tx.stamp, hr, ?_, h.tx.writes, h.tx.sorted, h.tx.fewW, h.tx.now⟩, hd⟩
        have := keys_len (n := n) hd (fun x hx => by
          obtain ⟨y, hy, rfl⟩ := List.mem_map.1 hx
          obtain ⟨i, hi, e'⟩ := hr y hy
          exact ⟨i, hi, by rw [e']⟩)
        rw [List.length_map] at this
        exact this
theorem tWrite_q (h : TxQ n clk ver val now t) (hn : n < 400) {j : Nat} (hj : j < n) (x : Nat) :
    (tWrite t (3 + 3 * j) x).1 = 0 ∧ TxQ n clk ver val (upd now j x) (tWrite t (3 + 3 * j) x).2 ∧ (tWrite t (3 + 3 * j) x).2.sets.writes ≠ [] := by
  obtain ⟨t', e, ht, hw⟩ := tWrite_does h.tx hn hj x
  rw [e]
  have hr : t'.sets.reads = t.sets.reads := by
    have : t' = (tWrite t (3 + 3 * j) x).2 := by rw [e]
    rw [this]
    unfold tWrite Sets.write
    simp only
    split <;> rfl
  refine ⟨rfl, ⟨⟨ht.clock, ht.owner, ht.stamp, ht.reads, by rw [hr]; exact h.tx.few, ht.writes, ht.sorted, ?_, ht.now⟩, by rw [hr]; exact h.dist⟩, hw⟩
  have := keys_len (n := n) (sorted_nodup ht.sorted) (fun y hy => by
    obtain ⟨z, hz, rfl⟩ := List.mem_map.1 hy
    exact ht.writes z hz)
  simpa using this

/-! A queue's cells. -/
def ringAt (b m : Nat) : Ring := ⟨3 + 3 * b, 3 + 3 * (b + 1), (List.range m).map fun i => 3 + 3 * (b + 2 + i)⟩
theorem plc_ringAt {b m : Nat} (hm : 1 ≤ m) (k : Nat) : plc (ringAt b m) k = 3 + 3 * (b + 2 + k % m) := by
  have hk : k % m < m := Nat.mod_lt _ (by omega)
  unfold plc ringAt
  simp [List.getD_eq_getElem?_getD, hk]
/-- A list in a queue's cells: so many places, at most so many were put in. -/
structure QAt (now : Nat → Nat) (b m K : Nat) (q : List Nat) : Prop where
  ins : now b = now (b + 1) + q.length
  few : q.length ≤ m
  at' : ∀ k x, q[k]? = some x → now (b + 2 + (now (b + 1) + k) % m) = x
  small : now b ≤ K
theorem QAt.sub {b m K : Nat} {q : List Nat} (h : QAt now b m K q) (hK : K ≤ 1000000) : subU (now b) (now (b + 1)) = q.length := by
  have := h.ins
  have := h.small
  unfold subU
  omega
theorem QAt.other {b m K : Nat} {q : List Nat} (h : QAt now b m K q) {j x : Nat} (hj : j < b ∨ b + 2 + m ≤ j) (hm : 1 ≤ m) : QAt (upd now j x) b m K q := by
  have e : ∀ i, b ≤ i → i < b + 2 + m → upd now j x i = now i := fun i h1 h2 => by unfold upd; rw [if_neg (by omega)]
  refine ⟨by rw [e _ (by omega) (by omega), e _ (by omega) (by omega)]; exact h.ins, h.few, fun k y hk => ?_, by rw [e _ (by omega) (by omega)]; exact h.small⟩
  have hl : (now (b + 1) + k) % m < m := Nat.mod_lt _ (by omega)
  rw [e (b + 1) (by omega) (by omega), e _ (by omega) (by omega)]
  exact h.at' k y hk
theorem QAt.more {b m K K' : Nat} {q : List Nat} (h : QAt now b m K q) (hK : K ≤ K') : QAt now b m K' q := ⟨h.ins, h.few, h.at', Nat.le_trans h.small hK⟩
/-- One more. -/
theorem QAt.put {b m K : Nat} {q : List Nat} (h : QAt now b m K q) (hm : 1 ≤ m) (hK : K ≤ 1000000) (hl : q.length ≠ m) (x : Nat) : QAt (upd (upd now (b + 2 + now b % m) x) b (inc (now b))) b m (K + 1) (q ++ [x]) := by
  have hi := h.ins
  have hf := h.few
  have hs := h.small
  have hmod : now b % m < m := Nat.mod_lt _ (by omega)
  have hinc : inc (now b) = now b + 1 := by unfold inc; omega
  have e0 : ∀ y, upd (upd now (b + 2 + now b % m) x) b y b = y := fun y => by simp [upd]
  have e1 : ∀ y, upd (upd now (b + 2 + now b % m) x) b y (b + 1) = now (b + 1) := fun y => by unfold upd; rw [if_neg (by omega), if_neg (by omega)]
  refine ⟨by rw [e0, e1, hinc]; simp; omega, by simp; omega, fun k y hk => ?_, by rw [e0, hinc]; omega⟩
  rw [e1]
  have hlt : (now (b + 1) + k) % m < m := Nat.mod_lt _ (by omega)
  have hk' := (List.getElem?_eq_some_iff.1 hk).1
  simp only [List.length_append, List.length_singleton] at hk'
  by_cases e : k = q.length
  · subst e
    rw [List.getElem?_append_right (Nat.le_refl _)] at hk
    simp only [Nat.sub_self, List.getElem?_cons_zero, Option.some.injEq] at hk
    subst hk
    rw [← hi]
    unfold upd
    rw [if_neg (by omega), if_pos rfl]
  · rw [List.getElem?_append_left (by omega)] at hk
    have hne : (now (b + 1) + k) % m ≠ now b % m := by
      intro e'
      rw [hi] at e'
      have h1 := Nat.div_add_mod (now (b + 1) + k) m
      have h2 := Nat.div_add_mod (now (b + 1) + q.length) m
      have h3 : (now (b + 1) + k) / m ≤ (now (b + 1) + q.length) / m := Nat.div_le_div_right (by omega)
      rcases Nat.lt_or_ge ((now (b + 1) + k) / m) ((now (b + 1) + q.length) / m) with q1 | q1
      · have h4 : m * ((now (b + 1) + k) / m + 1) ≤ m * ((now (b + 1) + q.length) / m) := Nat.mul_le_mul_left m q1
        rw [Nat.mul_add] at h4
        omega
      · have h5 : (now (b + 1) + k) / m = (now (b + 1) + q.length) / m := Nat.le_antisymm h3 q1
        rw [h5] at h1
        omega
    unfold upd
    rw [if_neg (by omega), if_neg (by omega)]
    exact h.at' k y hk
/-- One less, or none at all. -/
theorem QAt.drop {b m K : Nat} {q : List Nat} (h : QAt now b m K q) (hm : 1 ≤ m) {d o : Nat} (hd : d ≤ q.length) (ho : o = now (b + 1) + d) : QAt (upd now (b + 1) o) b m K (q.drop d) := by
  subst ho
  have hi := h.ins
  have hf := h.few
  have e0 : upd now (b + 1) (now (b + 1) + d) b = now b := by unfold upd; rw [if_neg (by omega)]
  have e1 : upd now (b + 1) (now (b + 1) + d) (b + 1) = now (b + 1) + d := by simp [upd]
  refine ⟨by rw [e0, e1]; simp; omega, by simp; omega, fun k y hk => ?_, by rw [e0]; exact h.small⟩
  rw [List.getElem?_drop] at hk
  rw [e1]
  have := h.at' _ _ hk
  rw [show now (b + 1) + d + k = now (b + 1) + (d + k) by omega]
  have hlt : (now (b + 1) + (d + k)) % m < m := Nat.mod_lt _ (by omega)
  unfold upd
  rw [if_neg (by omega)]
  exact this
end
end Go.Proofs.YtkpdacfiglpgeaaGreatDoor.Th

/- Layer 29's calls that run alone. No program stands here. -/
namespace Go.Proofs.YtkpdacfiglpgeaaGreatDoor.Th
open Bl

/-- The same transaction, with other reads. -/
def Tx.rd (t : Tx) (rd : List (Nat × Int)) : Tx := t.on { t.sets with reads := rd }
theorem Tx.rd_rd (t : Tx) (a b : List (Nat × Int)) : (t.rd a).rd b = t.rd b := rfl
section
variable {N clk : Nat} {S : BS} {ver val now : Nat → Nat} {t : Tx}
theorem TxQ.on (h : TxQ N clk ver val now t) {s : Sets} (h1 : s.reads = t.sets.reads) (h2 : s.writes = t.sets.writes) : TxQ N clk ver val now (t.on s) := by
  have e1 : (t.on s).sets.reads = t.sets.reads := h1
  have e2 : (t.on s).sets.writes = t.sets.writes := h2
  refine ⟨⟨h.tx.clock, h.tx.owner, h.tx.stamp, ?_, ?_, ?_, ?_, ?_, ?_⟩, ?_⟩
  · rw [e1]; exact h.tx.reads
  · rw [e1]; exact h.tx.few
  · rw [e2]; exact h.tx.writes
  · rw [e2]; exact h.tx.sorted
  · rw [e2]; exact h.tx.fewW
  · rw [e2]; exact h.tx.now
  · rw [e1]; exact h.dist
variable (hs : Sc N S clk (fun i => rest (ver i)) val) (hv : ∀ i, i < N → ver i ≤ clk) (hN : N ≤ 60)
include hs hv hN
theorem qState_q (h : TxQ N clk ver val now t) {b m : Nat} (hb : b + 2 + m ≤ N) : ∃ rd, Goes (qState (ringAt b m) t) S (0, (now b, now (b + 1)), t.rd rd) S 6 ∧ TxQ N clk ver val now (t.rd rd) := by
  obtain ⟨r1, g1, q1⟩ := tRead_q hs h hv (by omega) (j := b) (by omega)
  obtain ⟨r2, g2, q2⟩ := tRead_q hs q1 hv (by omega) (j := b + 1) (by omega)
  refine ⟨r2, ?_, q2⟩
  unfold qState
  refine Goes.bindM (m := 3) g1 (fun x => ⟨_, rfl⟩) ?_ (by omega)
  simp only [if_true]
  refine Goes.bindM (m := 0) g2 (fun x => ⟨_, rfl⟩) ?_ (by omega)
  exact Goes.ret _ _
theorem qLen_q (h : TxQ N clk ver val now t) {b m K : Nat} {q : List Nat} (hb : b + 2 + m ≤ N) (hq : QAt now b m K q) (hK : K ≤ 1000000) : ∃ rd, Goes (qLen (ringAt b m) t) S (0, (q.length : Int), t.rd rd) S 6 ∧ TxQ N clk ver val now (t.rd rd) := by
  obtain ⟨r1, g1, q1⟩ := qState_q hs hv hN h hb
  refine ⟨r1, ?_, q1⟩
  unfold qLen
  refine Goes.bindM (m := 0) g1 (fun x => ⟨_, rfl⟩) ?_ (by omega)
  simp only [hq.sub hK]
  have : q.length ≤ 1000000 := by have := hq.ins; have := hq.small; omega
  rw [show toI q.length = (q.length : Int) by unfold toI; rw [if_pos (by omega)]]
  exact Goes.ret _ _
theorem qPut_q (h : TxQ N clk ver val now t) {b m K : Nat} {q : List Nat} (hm : 1 ≤ m) (hb : b + 2 + m ≤ N) (hq : QAt now b m K q) (hK : K ≤ 1000000) (x : Nat) :
    (q.length = m ∧ ∃ rd, Goes (qPut (ringAt b m) x t) S (13, t.rd rd) S 6 ∧ TxQ N clk ver val now (t.rd rd)) ∨
    (q.length ≠ m ∧ ∃ t', Goes (qPut (ringAt b m) x t) S (0, t') S 6 ∧ TxQ N clk ver val (upd (upd now (b + 2 + now b % m) x) b (inc (now b))) t' ∧ t'.sets.marks = t.sets.marks) := by
  obtain ⟨r1, g1, q1⟩ := qState_q hs hv hN h hb
  have hpl : (ringAt b m).places.length = m := by simp [ringAt]
  have hmod : now b % m < m := Nat.mod_lt _ (by omega)
  by_cases hl : q.length = m
  · refine .inl ⟨hl, r1, ?_, q1⟩
    unfold qPut
    refine Goes.bindM (m := 0) g1 (fun x => ⟨_, rfl⟩) ?_ (by omega)
    unfold qPutIn
    simp only [if_true, hq.sub hK, hpl, hl]
    exact Goes.ret _ _
  · obtain ⟨w1, w2, -⟩ := tWrite_q q1 (by omega) (j := b + 2 + now b % m) (by omega) x
    obtain ⟨v1, v2, -⟩ := tWrite_q w2 (by omega) (j := b) (by omega) (inc (now b))
    refine .inr ⟨hl, _, ?_, v2, ?_⟩
    · unfold qPut
      refine Goes.bindM (m := 0) g1 (fun x => ⟨_, rfl⟩) ?_ (by omega)
      unfold qPutIn
      simp only [if_true, hq.sub hK, hpl, hl, if_false, plc_ringAt hm, w1]
      have : ∀ (p : Nat × Tx), p.1 = 0 → p = (0, p.2) := fun p hp => by rw [← hp]
      rw [this (tWrite _ (ringAt b m).ins _) v1]
      exact Goes.ret _ _
    · rw [(tWrite_same _ _ _).1, (tWrite_same _ _ _).1]
      rfl
theorem qPeek_q (h : TxQ N clk ver val now t) {b m K : Nat} {q : List Nat} (hm : 1 ≤ m) (hb : b + 2 + m ≤ N) (hq : QAt now b m K q) :
    ∃ rd, TxQ N clk ver val now (t.rd rd) ∧ match (generalizing := false) q with
      | [] => Goes (qPeek (ringAt b m) t) S (13, 0, t.rd rd) S 9
      | x :: _ => Goes (qPeek (ringAt b m) t) S (0, x, t.rd rd) S 9 := by
  obtain ⟨r1, g1, q1⟩ := qState_q hs hv hN h hb
  have hi := hq.ins
  cases q with
  | nil =>
    refine ⟨r1, q1, ?_⟩
    simp only
    unfold qPeek
    refine Goes.bindM (m := 0) g1 (fun x => ⟨_, rfl⟩) ?_ (by omega)
    simp only [List.length_nil, Nat.add_zero] at hi
    simp only [if_true, hi]
    exact Goes.ret _ _
  | cons x l =>
    have hmod : now (b + 1) % m < m := Nat.mod_lt _ (by omega)
    obtain ⟨r2, g2, q2⟩ := tRead_q hs q1 hv (by omega) (j := b + 2 + now (b + 1) % m) (by omega)
    have hx := hq.at' 0 x rfl
    simp only [Nat.add_zero] at hx
    rw [hx] at g2
    refine ⟨r2, q2, ?_⟩
    simp only
    unfold qPeek
    refine Goes.bindM (m := 3) g1 (fun x => ⟨_, rfl⟩) ?_ (by omega)
    simp only [List.length_cons] at hi
    simp only [if_true]
    rw [if_neg (by omega), plc_ringAt hm]
    exact g2
theorem qTake_q (h : TxQ N clk ver val now t) {b m K : Nat} {q : List Nat} (hm : 1 ≤ m) (hb : b + 2 + m ≤ N) (hq : QAt now b m K q) :
    match (generalizing := false) q with
      | [] => ∃ rd, Goes (qTake (ringAt b m) t) S (13, 0, t.rd rd) S 15 ∧ TxQ N clk ver val now (t.rd rd)
      | x :: _ => ∃ t', Goes (qTake (ringAt b m) t) S (0, x, t') S 15 ∧ TxQ N clk ver val (upd now (b + 1) (inc (now (b + 1)))) t' ∧ t'.sets.marks = t.sets.marks := by
  obtain ⟨r1, q1, g1⟩ := qPeek_q hs hv hN h hm hb hq
  cases q with
  | nil =>
    simp only at g1 ⊢
    refine ⟨r1, ?_, q1⟩
    unfold qTake
    refine Goes.bindM (m := 0) g1 (fun x => ⟨_, rfl⟩) ?_ (by omega)
    exact Goes.ret _ _
  | cons x l =>
    simp only at g1 ⊢
    obtain ⟨r2, g2, q2⟩ := qState_q hs hv hN q1 hb
    obtain ⟨w1, w2, -⟩ := tWrite_q q2 (by omega) (j := b + 1) (by omega) (inc (now (b + 1)))
    refine ⟨_, ?_, w2, (tWrite_same _ _ _).1⟩
    unfold qTake
    refine Goes.bindM (m := 6) g1 (fun x => ⟨_, rfl⟩) ?_ (by omega)
    simp only [if_true]
    refine Goes.bindM (m := 0) g2 (fun x => ⟨_, rfl⟩) ?_ (by omega)
    simp only [if_true]
    show Goes (.ret ((tWrite (t.rd r2) (3 + 3 * (b + 1)) (inc (now (b + 1)))).1, x, (tWrite (t.rd r2) (3 + 3 * (b + 1)) (inc (now (b + 1)))).2)) S _ S 0
    have w1' : (tWrite (t.rd r2) (3 + 3 * (b + 1)) (inc (now (b + 1)))).1 = 0 := w1
    rw [w1']
    exact Goes.ret _ _
theorem qTry_q (h : TxQ N clk ver val now t) {b m K : Nat} {q : List Nat} (hm : 1 ≤ m) (hb : b + 2 + m ≤ N) (hq : QAt now b m K q) (hK : K ≤ 1000000) :
    match (generalizing := false) q with
      | [] => ∃ rd, Goes (qTry (ringAt b m) t) S (0, (0, false), t.rd rd) S 21 ∧ TxQ N clk ver val now (t.rd rd)
      | x :: _ => ∃ t', Goes (qTry (ringAt b m) t) S (0, (x, true), t') S 21 ∧ TxQ N clk ver val (upd now (b + 1) (inc (now (b + 1)))) t' ∧ t'.sets.marks = t.sets.marks := by
  obtain ⟨r1, g1, q1⟩ := qLen_q hs hv hN h hb hq hK
  have g2 := qTake_q hs hv hN q1 hm hb hq
  cases q with
  | nil =>
    simp only at g2 ⊢
    refine ⟨r1, ?_, q1⟩
    unfold qTry
    refine Goes.bindM (m := 0) g1 (fun x => ⟨((0, false), x.2), by rw [if_neg (by simp)]⟩) ?_ (by omega)
    exact Goes.ret _ _
  | cons x l =>
    simp only at g2 ⊢
    obtain ⟨t', g3, q3, m3⟩ := g2
    refine ⟨t', ?_, q3, m3⟩
    unfold qTry
    refine Goes.bindM (m := 15) g1 (fun x => ⟨((0, false), x.2), by rw [if_neg (by simp)]⟩) ?_ (by omega)
    rw [if_pos ⟨rfl, by simp only [List.length_cons]; omega⟩]
    refine Goes.bindM (m := 0) g3 (fun x => ⟨_, rfl⟩) ?_ (by omega)
    exact Goes.ret _ _
theorem qReads_q {b m K : Nat} {q : List Nat} (hm : 1 ≤ m) (hb : b + 2 + m ≤ N) (hq : QAt now b m K q) (hK : K ≤ 1000000) : ∀ (k d : Nat) (l : List Nat) (t : Tx), TxQ N clk ver val now t → d + k = q.length →
    ∃ rd, Goes (qReads (ringAt b m) k (now (b + 1) + d) l t) S (0, l ++ q.drop d, t.rd rd) S (3 * k) ∧ TxQ N clk ver val now (t.rd rd)
  | 0, d, l, t, h, hd => by
    refine ⟨t.sets.reads, ?_, h⟩
    rw [List.drop_eq_nil_of_le (by omega), List.append_nil]
    exact Goes.ret _ _
  | k + 1, d, l, t, h, hd => by
    obtain ⟨x, hx⟩ : ∃ x, q[d]? = some x := ⟨_, List.getElem?_eq_getElem (by omega)⟩
    have hmod : (now (b + 1) + d) % m < m := Nat.mod_lt _ (by omega)
    obtain ⟨r1, g1, q1⟩ := tRead_q hs h hv (by omega) (j := b + 2 + (now (b + 1) + d) % m) (by omega)
    rw [hq.at' d x hx] at g1
    obtain ⟨r2, g2, q2⟩ := qReads_q hm hb hq hK k (d + 1) (l ++ [x]) _ q1 (by omega)
    refine ⟨r2, ?_, q2⟩
    unfold qReads
    rw [plc_ringAt hm]
    refine Goes.bindM (m := 3 * k) g1 (fun x => ⟨_, rfl⟩) ?_ (by omega)
    simp only [if_true]
    have hi := hq.ins
    have hsm := hq.small
    rw [show inc (now (b + 1) + d) = now (b + 1) + (d + 1) by unfold inc; omega]
    have hdr : q.drop d = x :: q.drop (d + 1) := by
      have hd' : d < q.length := by omega
      rw [List.drop_eq_getElem_cons hd']
      rw [List.getElem?_eq_getElem hd'] at hx
      rw [Option.some.inj hx]
    rw [hdr, List.append_cons l x (q.drop (d + 1))]
    exact g2
theorem qAll_q (h : TxQ N clk ver val now t) {b m K : Nat} {q : List Nat} (hm : 1 ≤ m) (hb : b + 2 + m ≤ N) (hq : QAt now b m K q) (hK : K ≤ 1000000) : ∃ rd, Goes (qAll (ringAt b m) t) S (0, q, t.rd rd) S (6 + 3 * m) ∧ TxQ N clk ver val now (t.rd rd) := by
  obtain ⟨r1, g1, q1⟩ := qState_q hs hv hN h hb
  obtain ⟨r2, g2, q2⟩ := qReads_q hs hv hN hm hb hq hK q.length 0 [] _ q1 (by omega)
  have hf := hq.few
  refine ⟨r2, ?_, q2⟩
  unfold qAll
  refine Goes.bindM (m := 3 * m) g1 (fun x => ⟨_, rfl⟩) ?_ (by omega)
  simp only [if_true, hq.sub hK]
  rw [if_neg (by omega)]
  exact g2.more (by omega)
theorem qDrain_q (h : TxQ N clk ver val now t) {b m K : Nat} {q : List Nat} (hm : 1 ≤ m) (hb : b + 2 + m ≤ N) (hq : QAt now b m K q) (hK : K ≤ 1000000) : ∃ t', Goes (qDrain (ringAt b m) t) S (0, q, t') S (12 + 3 * m) ∧ TxQ N clk ver val (upd now (b + 1) (now b)) t' ∧ t'.sets.marks = t.sets.marks := by
  obtain ⟨r1, g1, q1⟩ := qAll_q hs hv hN h hm hb hq hK
  obtain ⟨r2, g2, q2⟩ := qState_q hs hv hN q1 hb
  obtain ⟨w1, w2, -⟩ := tWrite_q q2 (by omega) (j := b + 1) (by omega) (now b)
  refine ⟨_, ?_, w2, (tWrite_same _ _ _).1⟩
  unfold qDrain
  refine Goes.bindM (m := 6) g1 (fun x => ⟨_, rfl⟩) ?_ (by omega)
  simp only [if_true]
  refine Goes.bindM (m := 0) g2 (fun x => ⟨_, rfl⟩) ?_ (by omega)
  simp only [if_true]
  show Goes (.ret ((tWrite (t.rd r2) (3 + 3 * (b + 1)) (now b)).1, q, (tWrite (t.rd r2) (3 + 3 * (b + 1)) (now b)).2)) S _ S 0
  have w1' : (tWrite (t.rd r2) (3 + 3 * (b + 1)) (now b)).1 = 0 := w1
  rw [w1']
  exact Goes.ret _ _
end
end Go.Proofs.YtkpdacfiglpgeaaGreatDoor.Th

/- Layer 29's transactions that run alone. No program stands here. -/
namespace Go.Proofs.YtkpdacfiglpgeaaGreatDoor.Th
open Bl

/-- Where a queue's cells begin, of two. -/
def baseQ (pl : Bool → Nat) (k : Bool) : Nat := if k = true then pl false + 2 else 0
def ringQ (pl : Bool → Nat) (k : Bool) : Ring := ringAt (baseQ pl k) (pl k)
def cellsQ (pl : Bool → Nat) : Nat := pl false + pl true + 4
theorem baseQ_le (pl : Bool → Nat) (k : Bool) : baseQ pl k + 2 + pl k ≤ cellsQ pl := by
  cases k <;> simp [baseQ, cellsQ] <;> omega
/-- Two lists. -/
def QsAt (now : Nat → Nat) (pl : Bool → Nat) (K : Nat) (q : Bool → List Nat) : Prop := ∀ k, QAt now (baseQ pl k) (pl k) K (q k)
theorem QsAt.set2 {now now' : Nat → Nat} {pl : Bool → Nat} {K K' : Nat} {q : Bool → List Nat} {k : Bool} {l : List Nat} (_h : QsAt now pl K q) (_hK : K ≤ K') (hl : QAt now' (baseQ pl k) (pl k) K' l) (ho : QAt now' (baseQ pl (!k)) (pl (!k)) K' (q (!k))) : QsAt now' pl K' (updB q k l) := by
  intro j
  unfold updB
  by_cases e : j = k
  · subst e
    rw [if_pos rfl]
    exact hl
  · rw [if_neg e]
    obtain rfl : j = !k := by cases j <;> cases k <;> simp_all
    exact ho
theorem QsAt.other {now : Nat → Nat} {pl : Bool → Nat} {K : Nat} {q : Bool → List Nat} (h : QsAt now pl K q) (hpl : ∀ k, 1 ≤ pl k) (k : Bool) {j x : Nat} (h1 : baseQ pl k ≤ j) (h2 : j < baseQ pl k + 2 + pl k) : QAt (upd now j x) (baseQ pl (!k)) (pl (!k)) K (q (!k)) := by
  refine (h (!k)).other ?_ (hpl _)
  cases k <;> simp [baseQ] at h1 h2 ⊢ <;> omega
theorem QAt.other' {now : Nat → Nat} {pl : Bool → Nat} {K : Nat} {l : List Nat} {k : Bool} (h : QAt now (baseQ pl (!k)) (pl (!k)) K l) (hpl : ∀ k, 1 ≤ pl k) {j x : Nat} (h1 : baseQ pl k ≤ j) (h2 : j < baseQ pl k + 2 + pl k) : QAt (upd now j x) (baseQ pl (!k)) (pl (!k)) K l := by
  refine h.other ?_ (hpl _)
  cases k <;> simp [baseQ] at h1 h2 ⊢ <;> omega
section
variable {clk : Nat} {S : BS} {ver val now : Nat → Nat} {t : Tx} {pl : Bool → Nat} {K : Nat} {q : Bool → List Nat}
/-- What a call that runs alone comes to. -/
def ActGoes (pl : Bool → Nat) (S : BS) (clk : Nat) (ver val : Nat → Nat) (t : Tx) (K : Nat) (a : ActQ) (q : Bool → List Nat) (cost : Nat) : Prop :=
  match mdl1 pl a q with
  | some r => ∃ t' now', Goes (qAct (ringQ pl a.other) (ringQ pl (!a.other)) a t) S (0, r.1, t') S cost ∧ TxQ (cellsQ pl) clk ver val now' t' ∧ QsAt now' pl (K + 1) r.2 ∧ t'.sets.marks = []
  | none => ∃ t' now' x, Goes (qAct (ringQ pl a.other) (ringQ pl (!a.other)) a t) S (13, x, t') S cost ∧ TxQ (cellsQ pl) clk ver val now' t'
def costA (M : Nat) (a : ActQ) : Nat := if a.kind = 6 ∨ a.kind = 7 then 12 + 3 * M else 30
variable (hs : Sc (cellsQ pl) S clk (fun i => rest (ver i)) val) (hv : ∀ i, i < cellsQ pl → ver i ≤ clk) (hN : cellsQ pl ≤ 60) (hpl : ∀ k, 1 ≤ pl k)
include hs hv hN hpl
theorem qPutQ (h : TxQ (cellsQ pl) clk ver val now t) (hq : QsAt now pl K q) (hK : K ≤ 100000) (k : Bool) (x : Nat) :
    ((q k).length = pl k ∧ ∃ t', Goes (qPut (ringQ pl k) x t) S (13, t') S 6 ∧ TxQ (cellsQ pl) clk ver val now t') ∨
    ((q k).length ≠ pl k ∧ ∃ t' now', Goes (qPut (ringQ pl k) x t) S (0, t') S 6 ∧ TxQ (cellsQ pl) clk ver val now' t' ∧ QsAt now' pl (K + 1) (updB q k (q k ++ [x])) ∧ t'.sets.marks = t.sets.marks) := by
  have hb := baseQ_le pl k
  have hmod : now (baseQ pl k) % pl k < pl k := Nat.mod_lt _ (hpl k)
  rcases qPut_q hs hv hN h (hpl k) hb (hq k) (by omega) x with ⟨e, rd, g, ht⟩ | ⟨e, t', g, ht, hm⟩
  · exact .inl ⟨e, _, g, ht⟩
  · exact .inr ⟨e, t', _, g, ht, hq.set2 (Nat.le_succ _) ((hq k).put (hpl k) (by omega) e x) (((hq.other hpl k (j := baseQ pl k + 2 + now (baseQ pl k) % pl k) (by omega) (by omega)).other' hpl (j := baseQ pl k) (by omega) (by omega)).more (Nat.le_succ _)), hm⟩
theorem qTakeQ (h : TxQ (cellsQ pl) clk ver val now t) (hq : QsAt now pl K q) (hK : K ≤ 100000) (k : Bool) :
    match (generalizing := false) q k with
      | [] => ∃ rd, Goes (qTake (ringQ pl k) t) S (13, 0, t.rd rd) S 15 ∧ TxQ (cellsQ pl) clk ver val now (t.rd rd)
      | x :: r => ∃ t' now', Goes (qTake (ringQ pl k) t) S (0, x, t') S 15 ∧ TxQ (cellsQ pl) clk ver val now' t' ∧ QsAt now' pl K (updB q k r) ∧ t'.sets.marks = t.sets.marks := by
  have hb := baseQ_le pl k
  have g := qTake_q hs hv hN h (hpl k) hb (hq k)
  have hi := (hq k).ins
  have hsm := (hq k).small
  cases e : q k with
  | nil =>
    rw [e] at g
    exact g
  | cons x r =>
    rw [e] at g
    simp only at g ⊢
    obtain ⟨t', g1, g2, g3⟩ := g
    have hd := (hq k).drop (hpl k) (d := 1) (o := inc (now (baseQ pl k + 1))) (by rw [e]; simp) (by unfold inc; omega)
    rw [e] at hd
    exact ⟨t', _, g1, g2, hq.set2 (Nat.le_refl _) hd (hq.other hpl k (j := baseQ pl k + 1) (by omega) (by have := hpl k; omega)), g3⟩
theorem qMoveQ (h : TxQ (cellsQ pl) clk ver val now t) (hm : t.sets.marks = []) (hq : QsAt now pl K q) (hK : K ≤ 99999) (k : Bool) :
    match (generalizing := false) q k with
      | [] => ∃ t', Goes (qMove (ringQ pl k) (ringQ pl (!k)) t) S (13, t') S 30 ∧ TxQ (cellsQ pl) clk ver val now t'
      | x :: r => if (q (!k)).length = pl (!k) then ∃ t' now', Goes (qMove (ringQ pl k) (ringQ pl (!k)) t) S (13, t') S 30 ∧ TxQ (cellsQ pl) clk ver val now' t'
        else ∃ t' now', Goes (qMove (ringQ pl k) (ringQ pl (!k)) t) S (0, t') S 30 ∧ TxQ (cellsQ pl) clk ver val now' t' ∧ QsAt now' pl (K + 1) (updB (updB q k r) (!k) (q (!k) ++ [x])) ∧ t'.sets.marks = [] := by
  have g := qTakeQ hs hv hN hpl h hq (by omega) k
  cases e : q k with
  | nil =>
    rw [e] at g
    simp only at g ⊢
    obtain ⟨rd, g1, g2⟩ := g
    refine ⟨_, ?_, g2⟩
    unfold qMove
    refine Goes.bindM (m := 0) g1 (fun x => ⟨_, rfl⟩) ?_ (by omega)
    exact Goes.ret _ _
  | cons x r =>
    rw [e] at g
    simp only at g ⊢
    obtain ⟨t1, now1, g1, g2, g3, g4⟩ := g
    have eo : updB q k r (!k) = q (!k) := by unfold updB; rw [if_neg (by cases k <;> simp)]
    have go : ∀ (n : Nat) (t2 : Tx), Goes (qPut (ringQ pl (!k)) x t1) S (n, t2) S 6 → Goes (qMove (ringQ pl k) (ringQ pl (!k)) t) S (n, t2) S 30 := by
      intro n t2 g
      unfold qMove
      refine Goes.bindM (m := 6) g1 (fun x => ⟨_, rfl⟩) ?_ (by omega)
      simp only [if_true]
      exact g
    rcases qPutQ hs hv hN hpl g2 g3 (by omega) (!k) x with ⟨e2, t2, p1, p2⟩ | ⟨e2, t2, now2, p1, p2, p3, p4⟩
    · rw [eo] at e2
      rw [if_pos e2]
      exact ⟨t2, _, go _ _ p1, p2⟩
    · rw [eo] at e2 p3
      rw [if_neg e2]
      exact ⟨t2, _, go _ _ p1, p2, p3, by rw [p4, g4, hm]⟩
theorem qEitherQ (h : TxQ (cellsQ pl) clk ver val now t) (hm : t.sets.marks = []) (hq : QsAt now pl K q) (hK : K ≤ 99999) (k : Bool) :
    match (generalizing := false) q k with
      | x :: r => ∃ t' now', Goes (qEither (ringQ pl k) (ringQ pl (!k)) t) S (0, x, t') S 30 ∧ TxQ (cellsQ pl) clk ver val now' t' ∧ QsAt now' pl (K + 1) (updB q k r) ∧ t'.sets.marks = []
      | [] => match (generalizing := false) q (!k) with
        | [] => ∃ t', Goes (qEither (ringQ pl k) (ringQ pl (!k)) t) S (13, 0, t') S 30 ∧ TxQ (cellsQ pl) clk ver val now t'
        | x :: r => ∃ t' now', Goes (qEither (ringQ pl k) (ringQ pl (!k)) t) S (0, x, t') S 30 ∧ TxQ (cellsQ pl) clk ver val now' t' ∧ QsAt now' pl (K + 1) (updB q (!k) r) ∧ t'.sets.marks = [] := by
  have hmk : t.sets.mark = (0, 1, { t.sets with marks := [t.sets.log.length] }) := by
    unfold Sets.mark
    rw [if_neg (by simp [hm])]
    simp [hm]
  obtain ⟨t0, ht0⟩ : ∃ t0, t.on { t.sets with marks := [t.sets.log.length] } = t0 := ⟨_, rfl⟩
  have h0 : TxQ (cellsQ pl) clk ver val now t0 := by rw [← ht0]; exact h.on rfl rfl
  have m0 : t0.sets.marks = [t.sets.log.length] := by rw [← ht0]; rfl
  have l0 : t0.sets.log = t.sets.log := by rw [← ht0]; rfl
  have g := qTakeQ hs hv hN hpl h0 hq (by omega) k
  cases e : q k with
  | cons x r =>
    rw [e] at g
    simp only at g ⊢
    obtain ⟨t1, now1, g1, g2, g3, g4⟩ := g
    rw [m0] at g4
    have hkp : t1.sets.keepN 1 = (0, t1.sets.keep 1) := by
      unfold Sets.keepN
      rw [if_pos (by rw [g4]; simp)]
    refine ⟨t1.on (t1.sets.keep 1), now1, ?_, g2.on rfl rfl, fun j => (g3 j).more (Nat.le_succ _), ?_⟩
    · unfold qEither tOr tPart
      rw [hmk]
      simp only [if_true, ht0]
      refine Goes.bindM (m := 0) (S1 := S) (b := (0, x, t1.on (t1.sets.keep 1))) (k := 15) ?_ (fun x => ⟨_, rfl⟩) (Goes.ret _ _) (by omega)
      refine Goes.bindM (m := 0) (S1 := S) (b := (0, false, x, t1.on (t1.sets.keep 1))) (k := 15) ?_ (fun x => ⟨_, rfl⟩) ?_ (by omega)
      · refine Goes.bindM (m := 0) g1 (fun x => ⟨_, rfl⟩) ?_ (by omega)
        simp only [hkp]
        exact Goes.ret _ _
      · exact Goes.ret _ _
    · show (t1.sets.keep 1).marks = []
      unfold Sets.keep
      simp
  | nil =>
    rw [e] at g
    simp only at g ⊢
    obtain ⟨rd, g1, g2⟩ := g
    have hbk : (t0.rd rd).sets.backN 1 = (0, { t.sets with reads := rd }) := by
      have m1 : (t0.rd rd).sets.marks = [t.sets.log.length] := m0
      have l1 : (t0.rd rd).sets.log = t.sets.log := l0
      unfold Sets.backN
      rw [if_pos (by rw [m1]; simp)]
      unfold Sets.back
      rw [m1, l1]
      simp only [Nat.sub_self, List.getD_cons_zero, List.drop_length, List.reverse_nil, List.foldl_nil, List.take_length, List.take_zero]
      rw [← hm, ← ht0]
      rfl
    have hb2 : (t0.rd rd).on { t.sets with reads := rd } = t.rd rd := by rw [← ht0]; rfl
    have q2 : TxQ (cellsQ pl) clk ver val now (t.rd rd) := by
      have := g2.on (s := { t.sets with reads := rd }) rfl (by rw [← ht0]; rfl)
      rw [hb2] at this
      exact this
    have part : Goes (tPart (fun _ t => qTake (ringQ pl k) t) 13 0 t) S (0, true, 0, t.rd rd) S 15 := by
      unfold tPart
      rw [hmk]
      simp only [if_true, ht0]
      refine Goes.bindM (m := 0) g1 (fun x => ⟨_, rfl⟩) ?_ (by omega)
      simp only [if_true, hbk, hb2]
      exact Goes.ret _ _
    have go : ∀ (n x : Nat) (t2 : Tx), Goes (qTake (ringQ pl (!k)) (t.rd rd)) S (n, x, t2) S 15 → Goes (qEither (ringQ pl k) (ringQ pl (!k)) t) S (n, (if n = 0 then x else 0), t2) S 30 := by
      intro n x t2 g
      unfold qEither tOr
      refine Goes.bindM (m := 0) (S1 := S) (b := (n, x, t2)) (k := 30) ?_ (fun x => ⟨_, rfl⟩) (Goes.ret _ _) (by omega)
      refine Goes.bindM (m := 15) part (fun x => ⟨_, rfl⟩) ?_ (by omega)
      simp only [and_self, if_true]
      exact g
    have g' := qTakeQ hs hv hN hpl q2 hq (by omega) (!k)
    cases e2 : q (!k) with
    | nil =>
      rw [e2] at g'
      simp only at g' ⊢
      obtain ⟨rd2, g3, g4⟩ := g'
      exact ⟨_, go _ _ _ g3, g4⟩
    | cons x r =>
      rw [e2] at g'
      simp only at g' ⊢
      obtain ⟨t1, now1, g3, g4, g5, g6⟩ := g'
      exact ⟨t1, now1, go _ _ _ g3, g4, fun j => (g5 j).more (Nat.le_succ _), by rw [g6]; exact hm⟩
end
end Go.Proofs.YtkpdacfiglpgeaaGreatDoor.Th

/- Layer 29's transactions that run alone: any calls; whole transactions. No program stands here. -/
namespace Go.Proofs.YtkpdacfiglpgeaaGreatDoor.Th
open Bl

section
variable {clk : Nat} {S : BS} {ver val now : Nat → Nat} {t : Tx} {pl : Bool → Nat} {K : Nat} {q : Bool → List Nat}
variable (hs : Sc (cellsQ pl) S clk (fun i => rest (ver i)) val) (hv : ∀ i, i < cellsQ pl → ver i ≤ clk) (hN : cellsQ pl ≤ 60) (hpl : ∀ k, 1 ≤ pl k)
include hs hv hN hpl
theorem act_goes (h : TxQ (cellsQ pl) clk ver val now t) (hm : t.sets.marks = []) (hq : QsAt now pl K q) (hK : K ≤ 99999) {M : Nat} (hM : ∀ k, pl k ≤ M) (a : ActQ) : ActGoes pl S clk ver val t K a q (costA M a) := by
  have hb := baseQ_le pl a.other
  have hMk := hM a.other
  have more : ∀ {now' : Nat → Nat} {q' : Bool → List Nat}, QsAt now' pl K q' → QsAt now' pl (K + 1) q' := fun h j => (h j).more (Nat.le_succ _)
  by_cases k0 : a.kind = 0
  · obtain ⟨rd, g, ht⟩ := qLen_q hs hv hN h hb (hq a.other) (by omega)
    have hl : (q a.other).length ≤ 1000000 := by have := (hq a.other).ins; have := (hq a.other).small; omega
    unfold ActGoes mdl1 qAct
    rw [if_pos k0, if_pos k0, show costA M a = 30 from if_neg (by omega)]
    refine ⟨t.rd rd, now, ?_, ht, more hq, hm⟩
    refine Goes.bindM (m := 0) g (fun x => ⟨_, rfl⟩) ?_ (by omega)
    simp only
    rw [show toU ((q a.other).length : Int) = (q a.other).length by unfold toU; omega]
    exact Goes.ret _ _
  by_cases k1 : a.kind = 1 ∨ a.kind = 2
  · unfold ActGoes mdl1 qAct
    rw [if_neg k0, if_neg k0, if_pos k1, if_pos k1, show costA M a = 30 from if_neg (by omega)]
    rcases qPutQ hs hv hN hpl h hq (by omega) a.other a.x with ⟨e, t', g, ht⟩ | ⟨e, t', now', g, ht, hq', hm'⟩
    · rw [if_pos e]
      refine ⟨t', now, [], ?_, ht⟩
      refine Goes.bindM (m := 0) g (fun x => ⟨_, rfl⟩) (Goes.ret _ _) (by omega)
    · rw [if_neg e]
      refine ⟨t', now', ?_, ht, hq', by rw [hm', hm]⟩
      refine Goes.bindM (m := 0) g (fun x => ⟨_, rfl⟩) (Goes.ret _ _) (by omega)
  by_cases k3 : a.kind = 3
  · unfold ActGoes mdl1 qAct
    rw [if_neg k0, if_neg k0, if_neg k1, if_neg k1, if_pos k3, if_pos k3, show costA M a = 30 from if_neg (by omega)]
    obtain ⟨rd, ht, g⟩ := qPeek_q hs hv hN h (hpl _) hb (hq a.other)
    cases e : q a.other with
    | nil =>
      rw [e] at g
      simp only at g ⊢
      refine ⟨_, now, [0], ?_, ht⟩
      refine Goes.bindM (m := 0) g (fun x => ⟨_, rfl⟩) (Goes.ret _ _) (by omega)
    | cons x r =>
      rw [e] at g
      simp only at g ⊢
      refine ⟨_, now, ?_, ht, more hq, hm⟩
      refine Goes.bindM (m := 0) g (fun x => ⟨_, rfl⟩) (Goes.ret _ _) (by omega)
  by_cases k4 : a.kind = 4
  · unfold ActGoes mdl1 qAct
    rw [if_neg k0, if_neg k0, if_neg k1, if_neg k1, if_neg k3, if_neg k3, if_pos k4, if_pos k4, show costA M a = 30 from if_neg (by omega)]
    have g := qTakeQ hs hv hN hpl h hq (by omega) a.other
    cases e : q a.other with
    | nil =>
      rw [e] at g
      simp only at g ⊢
      obtain ⟨rd, g1, g2⟩ := g
      refine ⟨_, now, [0], ?_, g2⟩
      refine Goes.bindM (m := 0) g1 (fun x => ⟨_, rfl⟩) (Goes.ret _ _) (by omega)
    | cons x r =>
      rw [e] at g
      simp only at g ⊢
      obtain ⟨t', now', g1, g2, g3, g4⟩ := g
      refine ⟨t', now', ?_, g2, more g3, by rw [g4, hm]⟩
      refine Goes.bindM (m := 0) g1 (fun x => ⟨_, rfl⟩) (Goes.ret _ _) (by omega)
  by_cases k5 : a.kind = 5
  · unfold ActGoes mdl1 qAct
    rw [if_neg k0, if_neg k0, if_neg k1, if_neg k1, if_neg k3, if_neg k3, if_neg k4, if_neg k4, if_pos k5, if_pos k5, show costA M a = 30 from if_neg (by omega)]
    have g := qTry_q hs hv hN h (hpl _) hb (hq a.other) (by omega)
    have hi := (hq a.other).ins
    have hsm := (hq a.other).small
    cases e : q a.other with
    | nil =>
      rw [e] at g
      simp only at g ⊢
      obtain ⟨rd, g1, g2⟩ := g
      refine ⟨_, now, ?_, g2, more hq, hm⟩
      refine Goes.bindM (m := 0) g1 (fun x => ⟨_, rfl⟩) (Goes.ret _ _) (by omega)
    | cons x r =>
      rw [e] at g
      simp only at g ⊢
      obtain ⟨t', g1, g2, g4⟩ := g
      have hd := (hq a.other).drop (hpl _) (d := 1) (o := inc (now (baseQ pl a.other + 1))) (by rw [e]; simp) (by unfold inc; omega)
      rw [e] at hd
      refine ⟨t', _, ?_, g2, more (hq.set2 (Nat.le_refl _) hd (hq.other hpl a.other (j := baseQ pl a.other + 1) (by omega) (by have := hpl a.other; omega))), by rw [g4, hm]⟩
      refine Goes.bindM (m := 0) g1 (fun x => ⟨_, rfl⟩) (Goes.ret _ _) (by omega)
  by_cases k6 : a.kind = 6
  · unfold ActGoes mdl1 qAct
    rw [if_neg k0, if_neg k0, if_neg k1, if_neg k1, if_neg k3, if_neg k3, if_neg k4, if_neg k4, if_neg k5, if_neg k5, if_pos k6, if_pos k6, show costA M a = 12 + 3 * M from if_pos (.inl k6)]
    obtain ⟨rd, g, ht⟩ := qAll_q hs hv hN h (hpl _) hb (hq a.other) (by omega)
    exact ⟨_, now, g.more (by omega), ht, more hq, hm⟩
  by_cases k7 : a.kind = 7
  · unfold ActGoes mdl1 qAct
    rw [if_neg k0, if_neg k0, if_neg k1, if_neg k1, if_neg k3, if_neg k3, if_neg k4, if_neg k4, if_neg k5, if_neg k5, if_neg k6, if_neg k6, if_pos k7, if_pos k7, show costA M a = 12 + 3 * M from if_pos (.inr k7)]
    obtain ⟨t', g, ht, hm'⟩ := qDrain_q hs hv hN h (hpl _) hb (hq a.other) (by omega)
    have hi := (hq a.other).ins
    have hd := (hq a.other).drop (hpl _) (d := (q a.other).length) (o := now (baseQ pl a.other)) (Nat.le_refl _) hi
    rw [List.drop_length] at hd
    exact ⟨_, _, g.more (by omega), ht, more (hq.set2 (Nat.le_refl _) hd (hq.other hpl a.other (j := baseQ pl a.other + 1) (by omega) (by have := hpl a.other; omega))), by rw [hm', hm]⟩
  by_cases k8 : a.kind = 8
  · unfold ActGoes mdl1 qAct
    rw [if_neg k0, if_neg k0, if_neg k1, if_neg k1, if_neg k3, if_neg k3, if_neg k4, if_neg k4, if_neg k5, if_neg k5, if_neg k6, if_neg k6, if_neg k7, if_neg k7, if_pos k8, if_pos k8, show costA M a = 30 from if_neg (by omega)]
    have g := qMoveQ hs hv hN hpl h hm hq (by omega) a.other
    cases e : q a.other with
    | nil =>
      rw [e] at g
      simp only at g ⊢
      obtain ⟨t', g1, g2⟩ := g
      refine ⟨_, now, [], ?_, g2⟩
      refine Goes.bindM (m := 0) g1 (fun x => ⟨_, rfl⟩) (Goes.ret _ _) (by omega)
    | cons x r =>
      rw [e] at g
      simp only at g ⊢
      by_cases e2 : (q (!a.other)).length = pl (!a.other)
      · rw [if_pos e2] at g ⊢
        obtain ⟨t', now', g1, g2⟩ := g
        refine ⟨_, now', [], ?_, g2⟩
        refine Goes.bindM (m := 0) g1 (fun x => ⟨_, rfl⟩) (Goes.ret _ _) (by omega)
      · rw [if_neg e2] at g ⊢
        obtain ⟨t', now', g1, g2, g3, g4⟩ := g
        refine ⟨_, now', ?_, g2, g3, g4⟩
        refine Goes.bindM (m := 0) g1 (fun x => ⟨_, rfl⟩) (Goes.ret _ _) (by omega)
  by_cases k9 : a.kind = 9
  · unfold ActGoes mdl1 qAct
    rw [if_neg k0, if_neg k0, if_neg k1, if_neg k1, if_neg k3, if_neg k3, if_neg k4, if_neg k4, if_neg k5, if_neg k5, if_neg k6, if_neg k6, if_neg k7, if_neg k7, if_neg k8, if_neg k8, if_pos k9, if_pos k9, show costA M a = 30 from if_neg (by omega)]
    have g := qEitherQ hs hv hN hpl h hm hq (by omega) a.other
    cases e : q a.other with
    | cons x r =>
      rw [e] at g
      simp only at g ⊢
      obtain ⟨t', now', g1, g2, g3, g4⟩ := g
      refine ⟨_, now', ?_, g2, g3, g4⟩
      refine Goes.bindM (m := 0) g1 (fun x => ⟨_, rfl⟩) (Goes.ret _ _) (by omega)
    | nil =>
      rw [e] at g
      simp only at g ⊢
      cases e2 : q (!a.other) with
      | nil =>
        rw [e2] at g
        simp only at g ⊢
        obtain ⟨t', g1, g2⟩ := g
        refine ⟨_, now, [0], ?_, g2⟩
        refine Goes.bindM (m := 0) g1 (fun x => ⟨_, rfl⟩) (Goes.ret _ _) (by omega)
      | cons x r =>
        rw [e2] at g
        simp only at g ⊢
        obtain ⟨t', now', g1, g2, g3, g4⟩ := g
        refine ⟨_, now', ?_, g2, g3, g4⟩
        refine Goes.bindM (m := 0) g1 (fun x => ⟨_, rfl⟩) (Goes.ret _ _) (by omega)
  · unfold ActGoes mdl1 qAct
    rw [if_neg k0, if_neg k0, if_neg k1, if_neg k1, if_neg k3, if_neg k3, if_neg k4, if_neg k4, if_neg k5, if_neg k5, if_neg k6, if_neg k6, if_neg k7, if_neg k7, if_neg k8, if_neg k8, if_neg k9, if_neg k9, show costA M a = 30 from if_neg (by omega)]
    exact ⟨t, now, (Goes.ret _ _).more (by omega), h, more hq, hm⟩
/-- Calls one behind the other. -/
theorem ask_goes {M : Nat} (hM : ∀ k, pl k ≤ M) : ∀ (l : List ActQ) (told : List Nat) (t : Tx) (now : Nat → Nat) (K : Nat) (q : Bool → List Nat), TxQ (cellsQ pl) clk ver val now t → t.sets.marks = [] → QsAt now pl K q → K + l.length ≤ 99999 →
    ∃ t' now', Goes (qAsk (ringQ pl false) (ringQ pl true) l told t) S ((if (mdl pl l told q).2.2 = true then 0 else 13), (mdl pl l told q).1, t') S ((l.map (costA M)).sum) ∧ TxQ (cellsQ pl) clk ver val now' t' ∧ ((mdl pl l told q).2.2 = true → QsAt now' pl (K + l.length) (mdl pl l told q).2.1)
  | [], told, t, now, K, q, h, hm, hq, hK => ⟨t, now, Goes.ret _ _, h, fun _ => hq⟩
  | a :: l, told, t, now, K, q, h, hm, hq, hK => by
    simp only [List.length_cons] at hK
    have g := act_goes hs hv hN hpl h hm hq (by omega) hM a
    have hr : qAsk (ringQ pl false) (ringQ pl true) (a :: l) told t = (qAct (ringQ pl a.other) (ringQ pl (!a.other)) a t).bind fun r => if r.1 = 0 then qAsk (ringQ pl false) (ringQ pl true) l (told ++ r.2.1) r.2.2 else .ret (r.1, told, r.2.2) := by
      rw [qAsk]
      cases e : a.other <;> simp
    rw [hr]
    unfold ActGoes at g
    unfold mdl
    cases e : mdl1 pl a q with
    | none =>
      rw [e] at g
      simp only at g ⊢
      obtain ⟨t', now', x, g1, g2⟩ := g
      refine ⟨t', now', ?_, g2, fun q => by cases q⟩
      refine Goes.bindM (m := 0) g1 (fun x => ⟨_, rfl⟩) (Goes.ret _ _) (by simp only [List.map_cons, List.sum_cons]; omega)
    | some r =>
      rw [e] at g
      simp only at g ⊢
      obtain ⟨t1, now1, g1, g2, g3, g4⟩ := g
      obtain ⟨t', now', a1, a2, a3⟩ := ask_goes hM l (told ++ r.1) t1 now1 (K + 1) r.2 g2 g4 g3 (by omega)
      refine ⟨t', now', ?_, a2, fun q => by rw [List.length_cons, show K + (l.length + 1) = K + 1 + l.length by omega]; exact a3 q⟩
      refine Goes.bindM (m := (l.map (costA M)).sum) g1 (fun x => ⟨_, rfl⟩) ?_ (by simp only [List.map_cons, List.sum_cons]; omega)
      simp only [if_true]
      exact a1
end
/-- One transaction that runs alone. -/
theorem bodyQ_goes {pl : Bool → Nat} {clk : Nat} {S : BS} {ver val : Nat → Nat} {K M : Nat} {q : Bool → List Nat} {l : List ActQ} (hs : Sc (cellsQ pl) S clk (fun i => rest (ver i)) val) (hv : ∀ i, i < cellsQ pl → ver i ≤ clk) (hN : cellsQ pl ≤ 60) (hpl : ∀ k, 1 ≤ pl k) (hM : ∀ k, pl k ≤ M) (hq : QsAt val pl K q) (hK : K + l.length ≤ 99999) (hc : clk + 1 ≤ 281474976710655) (hcost : (l.map (costA M)).sum ≤ 1500) :
    ∃ (S' : BS) (clk' : Nat) (ver' val' : Nat → Nat) (f : List Nat × Int → List Nat × Int), Goes (bodyQ (ringQ pl false) (ringQ pl true) l 1) S (0, f) S' 2000 ∧ (∀ s, f s = ((mdl pl l [] q).1, if (mdl pl l [] q).2.2 = true then 1 else 3)) ∧ Sc (cellsQ pl) S' clk' (fun i => rest (ver' i)) val' ∧ (∀ i, i < cellsQ pl → ver' i ≤ clk') ∧ clk' ≤ clk + 1 ∧ QsAt val' pl (K + l.length) (if (mdl pl l [] q).2.2 = true then (mdl pl l [] q).2.1 else q) := by
  have b1 := mNow_goes hs (by omega)
  have hb : Goes (tBegin 1 1) S (0, ⟨.empty, 1, ((1 : Nat) : Int), (clk : Int)⟩) S 1 := by
    show Goes ((mNow 1).bind fun r => .ret (r.1, (⟨.empty, 1, 1, r.2⟩ : Tx))) _ _ _ _
    exact b1.bind (m := 0) (fun x => ⟨_, rfl⟩) (Goes.ret _ _)
  have h0 : TxQ (cellsQ pl) clk ver val val ⟨.empty, 1, ((1 : Nat) : Int), (clk : Int)⟩ := ⟨⟨rfl, rfl, rfl, fun _ h => (by cases h), Nat.zero_le _, fun _ h => (by cases h), trivial, Nat.zero_le _, fun _ _ => rfl⟩, by simp [Sets.empty]⟩
  obtain ⟨t1, now1, a1, a2, a3⟩ := ask_goes hs hv hN hpl hM l [] _ val K q h0 rfl hq hK
  have main : ∀ (S' : BS) (rs : Rsl) (t4 : Tx), Goes (tEnd t1 (if (mdl pl l [] q).2.2 = true then 0 else 13)) S (0, rs, t4) S' 450 → Goes (bodyQ (ringQ pl false) (ringQ pl true) l 1) S (0, fun _ => ((mdl pl l [] q).1, rs.fin)) S' 2000 := by
    intro S' rs t4 g
    unfold bodyQ
    refine Goes.bindM (m := 1950) hb (fun x => ⟨_, rfl⟩) ?_ (by omega)
    simp only [if_true]
    refine Goes.bindM (m := 450) a1 (fun x => ⟨_, rfl⟩) ?_ (by omega)
    exact g.bind (m := 0) (fun x => ⟨_, rfl⟩) (Goes.ret _ _)
  by_cases e : (mdl pl l [] q).2.2 = true
  · rw [if_pos e] at main
    obtain ⟨S', clk', ver', t4, c1, c2, c3, c4⟩ := tCommit_goesK hs a2.tx (by omega) hv hc (by omega)
    refine ⟨S', clk', ver', now1, _, main S' ⟨1, (clk' : Int), decide (t1.sets.writes ≠ []), false⟩ t4 ?_, fun s => by rw [if_pos e], c2, c3, by rw [c4]; split <;> omega, by rw [if_pos e]; exact a3 e⟩
    unfold tEnd
    simp only [if_true]
    refine Goes.bindM (m := 0) c1 (fun x => ⟨_, rfl⟩) ?_ (by omega)
    simp only [if_true]
    exact Goes.ret _ _
  · rw [if_neg e] at main
    refine ⟨S, clk, ver, val, _, main S ⟨3, t1.stamp, false, false⟩ t1 ?_, fun s => by rw [if_neg e], hs, hv, by omega, by rw [if_neg e]; exact fun k => (hq k).more (by omega)⟩
    unfold tEnd
    rw [if_neg (by omega), if_neg (by omega), if_pos rfl]
    refine Goes.bindM (m := 0) (tCheck_goes hs a2.tx) (fun x => ⟨_, rfl⟩) ?_ (by omega)
    simp only [if_true]
    exact Goes.ret _ _
theorem run_last' {σ : Type} (F : Prog σ) : ∀ (n : Nat) (s : Nat × TS σ × BS), run F (n + 1) s = if (run F n s).2.1.done then run F n s else step F (run F n s).2.1 (run F n s).2.2
  | 0, s => rfl
  | n + 1, s => by
    conv => lhs; unfold run
    conv => rhs; unfold run
    split
    · rfl
    · exact run_last' F n _
/-- Along its way it never comes to the number 99. -/
theorem goes_mid {σ : Type} {P : Tree (Nat × (σ → σ))} {S S' : BS} {f : σ → σ} {k : Nat} (h : Goes P S (0, f) S' k) (hk : k ≤ 3400) (s : σ) : ∀ m, (run (treeBody fun _ => P) m (0, start s, S)).2.1.done = false →
    (exec P ⟨(run (treeBody fun _ => P) m (0, start s, S)).2.1.log, 0, false, (run (treeBody fun _ => P) m (0, start s, S)).2.2⟩).1.1 ≠ 99 := by
  obtain ⟨h1, h2, h3, h4⟩ := h 0 (by omega)
  obtain ⟨D, hD⟩ : ∃ D, (direct P 0 S).2 = D := ⟨_, rfl⟩
  have hd : direct P 0 S = ((0, f), D) := by rw [← h2, ← hD]
  rw [hD] at h3 h4
  have hst := fun j => exec_step P [] j S h1
  simp only [List.length_nil, hd, List.nil_append, Nat.zero_add] at hst
  have key : ∀ m, (∃ e s', run (treeBody fun _ => P) m (0, start s, S) = (e, ⟨(D.take m).map (·.1), 0, m, false, 0, s'⟩, last S (D.take m)) ∧ m < max 1 D.length) ∨ (run (treeBody fun _ => P) m (0, start s, S)).2.1.done = true := by
    intro m
    induction m with
    | zero => exact .inl ⟨0, s, rfl, by omega⟩
    | succ m ih =>
      rw [Th.run_last']
      rcases ih with ⟨e, s', ih, hm⟩ | ih
      · rw [ih]
        simp only [Bool.false_eq_true, if_false]
        have hs1 : ∀ (x : Nat × (σ → σ)) (c : CS), exec P ⟨(D.take m).map (·.1), 0, false, last S (D.take m)⟩ = (x, c) → step (treeBody fun _ => P) ⟨(D.take m).map (·.1), 0, m, false, 0, s'⟩ (last S (D.take m)) = if x.1 = 11 then (0, ⟨c.log, 0, m + 1, false, 0, x.2 s'⟩, c.bs) else if x.1 ≠ 12 then (x.1, ⟨c.log, 0, m + 1, true, x.1, x.2 s'⟩, c.bs) else (0, ⟨[], 1, m + 1, false, 0, x.2 s'⟩, c.bs) := by
          intro x c hx
          unfold step
          rw [if_neg (by simp)]
          simp only [treeBody, hx, show ¬ (40 ≤ 0 + 1) by omega, if_false, Nat.zero_add]
        rcases hst m (by omega) (by omega) with ⟨hlt, a', he, h⟩ | ⟨he0, he⟩
        · rw [hs1 _ _ he]
          rcases h with ⟨h1, rfl⟩ | ⟨h1, b, hb, rfl⟩
          · right
            rw [if_neg (fun q => by cases q), if_pos (fun q => by cases q)]
          · left
            rw [if_pos rfl]
            exact ⟨0, _, rfl, by omega⟩
        · right
          have hz : D.length = 0 := by omega
          rw [List.length_eq_zero_iff] at hz
          subst hz
          simp only [List.length_nil] at he0
          subst he0
          simp only [List.map_nil] at he
          rw [hs1 _ _ (by simpa using he), if_neg (fun q => by cases q), if_pos (fun q => by cases q)]
      · rw [if_pos ih]
        exact .inr ih
  intro m hm
  rcases key m with ⟨e, s', hr, hlt⟩ | q
  · rw [hr]
    simp only
    rcases hst m (by omega) (by omega) with ⟨hlt, a', he, h⟩ | ⟨he0, he⟩
    · rw [he]
      rcases h with ⟨_, rfl⟩ | ⟨_, b, _, rfl⟩
      · exact fun q => by cases q
      · exact fun q => by cases q
    · have hz : D.length = 0 := by omega
      rw [List.length_eq_zero_iff] at hz
      subst hz
      simp only [List.take_nil, List.map_nil] at he ⊢
      rw [he]
      exact fun q => by cases q
  · rw [q] at hm
    cases hm
end Go.Proofs.YtkpdacfiglpgeaaGreatDoor.Th

/- Layer 29's scene: two queues on fresh blocks. No program stands here. -/
namespace Go.Proofs.YtkpdacfiglpgeaaGreatDoor.Th
open Bl

/-- A fresh scene: its cells lie one behind the other, and all that is behind them was never used. -/
structure Fr (n : Nat) (S : BS) : Prop where
  sc : Sc n S 0 (fun _ => rest 0) (fun _ => 0)
  top : S.top = 3 + 3 * n
  fr : S.fr = []
  len : S.ws.length = 4000
theorem word_put {S : BS} {p : Nat} {b : Blk} {ref : Nat} {i : Int} (ws : List Nat) (top : Nat) (h : ref % 4294967296 ≠ p) : word { S with ws := ws, top := top, bl := aput p b S.bl } ref i = word S ref i := by
  unfold word find
  simp only [aget_aput, if_neg h]
theorem word_new {S : BS} {p n : Nat} (hp : p < 4294967296) {i : Int} (h0 : 0 ≤ i) (h1 : i < n) : word { S with bl := aput p ⟨n, 0, true⟩ S.bl } p i = .ok (p + 1 + i.toNat) := by
  unfold word find
  have e : p % 4294967296 = p := Nat.mod_eq_of_lt hp
  simp only [e, aget_aput, if_true]
  rw [if_pos ⟨trivial, by omega⟩]
  simp only
  rw [if_pos ⟨h0, h1⟩]
theorem alloc_new {S : BS} (hf : S.fr = []) {n : Nat} (hn : 1 ≤ n ∧ n ≤ 64) (hl : S.top + n + 1 ≤ S.ws.length) :
    alloc S (n : Int) = .ok (S.top, { S with top := S.top + n + 1, bl := aput S.top ⟨n, 0, true⟩ (aput S.top ⟨n, 0, false⟩ S.bl), ws := zeros (S.ws.set S.top (headOf ⟨n, 0, true⟩)) (S.top + 1) n }) := by
  have ht : take S n = some (S.top, { S with top := S.top + n + 1, bl := aput S.top ⟨n, 0, false⟩ S.bl }) := by
    unfold take
    rw [hf]
    simp only [aget]
    rw [if_neg (by omega)]
  unfold alloc
  rw [if_pos (by omega)]
  simp only [Int.toNat_natCast, ht, aget_aput, if_true]
  simp [refOf]
theorem al_goes {S S' : BS} {n : Int} {ref : Nat} (h : alloc S n = .ok (ref, S')) : Goes (al n) S (0, ref) S' 1 := by
  refine Goes.acc (x := ⟨4, ref, n, 0, false, 0⟩) (S1 := S') ?_ rfl ⟨_, rfl⟩ (Goes.ret _ _)
  unfold opAlloc
  rw [h]
theorem zeros_getD (l : List Nat) (p k : Nat) : ∀ n, (zeros l p n).getD k 0 = if p ≤ k ∧ k < p + n then 0 else l.getD k 0
  | 0 => by rw [if_neg (by omega)]; rfl
  | n + 1 => by
    unfold zeros
    by_cases e : k = p + n
    · subst e
      rw [if_pos (by omega)]
      by_cases hl : p + n < (zeros l p n).length
      · exact getD_set_same hl
      · rw [List.getD_eq_getElem?_getD, List.getElem?_eq_none (by simp; omega)]
        rfl
    · rw [getD_set_ne e, zeros_getD l p k n]
      by_cases h : p ≤ k ∧ k < p + n
      · rw [if_pos h, if_pos (by omega)]
      · rw [if_neg h, if_neg (by omega)]
theorem mod_ne {i n : Nat} (hi : i < n + 1) (hn : n ≤ 1000) (e : ¬ i = n) : (3 + 3 * i) % 4294967296 ≠ 3 + 3 * n := by
  rw [Nat.mod_eq_of_lt (by omega)]
  omega
theorem mod_ne1 (n : Nat) : 1 % 4294967296 ≠ 3 + 3 * n := by
  rw [Nat.mod_eq_of_lt (by omega)]
  omega
/-- One more cell. -/
theorem newCell_goes {n : Nat} {S : BS} (h : Fr n S) (hn : n ≤ 1000) : ∃ S', Goes (mNewCell 0) S (0, 3 + 3 * n) S' 2 ∧ Fr (n + 1) S' := by
  have htop := h.top
  have hlen := h.len
  have ha := alloc_new h.fr (n := 2) (by omega) (by omega)
  rw [htop] at ha
  obtain ⟨S1, hS1⟩ : ∃ S1 : BS, ({ S with top := 3 + 3 * n + 2 + 1, bl := aput (3 + 3 * n) ⟨2, 0, true⟩ (aput (3 + 3 * n) ⟨2, 0, false⟩ S.bl), ws := zeros (S.ws.set (3 + 3 * n) (headOf ⟨2, 0, true⟩)) (3 + 3 * n + 1) 2 } : BS) = S1 := ⟨_, rfl⟩
  have hws : S1.ws = zeros (S.ws.set (3 + 3 * n) (headOf ⟨2, 0, true⟩)) (3 + 3 * n + 1) 2 := by rw [← hS1]
  have hl1 : S1.ws.length = 4000 := by rw [hws, zeros_length]; simp [hlen]
  have hg : ∀ k, k ≠ 3 + 3 * n → S1.ws.getD k 0 = if 4 + 3 * n ≤ k ∧ k < 6 + 3 * n then 0 else S.ws.getD k 0 := by
    intro k hk
    rw [hws, zeros_getD, getD_set_ne hk]
    by_cases e : 4 + 3 * n ≤ k ∧ k < 6 + 3 * n
    · rw [if_pos e, if_pos (by omega)]
    · rw [if_neg e, if_neg (by omega)]
  have hwo : ∀ ref i, ref % 4294967296 ≠ 3 + 3 * n → word S1 ref i = word S ref i := by
    intro ref i hr
    rw [← hS1]
    unfold word find
    simp only [aget_aput, if_neg hr]
  have hwn : ∀ i : Int, 0 ≤ i → i < 2 → word S1 (3 + 3 * n) i = .ok (4 + 3 * n + i.toNat) := by
    intro i h0 h1
    rw [← hS1]
    have e : (3 + 3 * n) % 4294967296 = 3 + 3 * n := Nat.mod_eq_of_lt (by omega)
    unfold word find
    simp only [e, aget_aput, if_true]
    rw [if_pos ⟨trivial, by omega⟩]
    simp only
    rw [if_pos ⟨h0, by omega⟩]
    congr 1
    omega
  have hal : alloc S ((2 : Nat) : Int) = .ok (3 + 3 * n, S1) := by rw [ha, hS1]
  have g1 := al_goes hal
  have g2 := sto_goes (hwn 1 (by omega) (by omega)) 0
  have e5 : 4 + 3 * n + (1 : Int).toNat = 5 + 3 * n := by
    show 4 + 3 * n + 1 = _
    omega
  rw [e5] at g2
  have hwS : ∀ (r : Nat) (i : Int), word { S1 with ws := S1.ws.set (5 + 3 * n) 0 } r i = word S1 r i := fun _ _ => rfl
  refine ⟨{ S1 with ws := S1.ws.set (5 + 3 * n) 0 }, ?_, ⟨⟨?_, ?_, ?_, ?_, ?_, ?_, ?_⟩, ?_, ?_, ?_⟩⟩
  · unfold mNewCell
    refine Goes.bindM (m := 1) g1 (fun x => ⟨_, rfl⟩) ?_ (by omega)
    simp only [if_true]
    refine Goes.bindM (m := 0) g2 (fun x => ⟨_, rfl⟩) ?_ (by omega)
    simp only [if_true]
    exact Goes.ret _ _
  · rw [hwS, hwo 1 0 (mod_ne1 n)]
    exact h.sc.w0
  · intro i hi
    rw [hwS]
    by_cases e : i = n
    · subst e
      rw [hwn 0 (by omega) (by omega)]
      rfl
    · rw [hwo (3 + 3 * i) 0 (mod_ne hi hn e)]
      exact h.sc.wm i (by omega)
  · intro i hi
    rw [hwS]
    by_cases e : i = n
    · subst e
      rw [hwn 1 (by omega) (by omega), e5]
    · rw [hwo (3 + 3 * i) 1 (mod_ne hi hn e)]
      exact h.sc.wv i (by omega)
  · show (S1.ws.set (5 + 3 * n) 0).getD 2 0 = 0
    rw [getD_set_ne (by omega), hg 2 (by omega), if_neg (by omega)]
    exact h.sc.now
  · intro i hi
    show (S1.ws.set (5 + 3 * n) 0).getD (4 + 3 * i) 0 = rest 0
    rw [getD_set_ne (by omega), hg _ (by omega)]
    by_cases e : i = n
    · subst e
      rw [if_pos (by omega)]
      rfl
    · rw [if_neg (by omega)]
      exact h.sc.ms i (by omega)
  · intro i hi
    show (S1.ws.set (5 + 3 * n) 0).getD (5 + 3 * i) 0 = 0
    by_cases e : i = n
    · subst e
      exact getD_set_same (by omega)
    · rw [getD_set_ne (by omega), hg _ (by omega), if_neg (by omega)]
      exact h.sc.vs i (by omega)
  · refine ⟨?_, fun i hi => ?_⟩
    · show 2 < (S1.ws.set (5 + 3 * n) 0).length
      simp
      omega
    · show _ < (S1.ws.set (5 + 3 * n) 0).length
      simp
      omega
  · show S1.top = _
    rw [← hS1]
    simp only
    omega
  · show S1.fr = _
    rw [← hS1]
    exact h.fr
  · show (S1.ws.set (5 + 3 * n) 0).length = _
    simp
    omega
theorem qNewN_goes : ∀ (m : Nat) (l : List Nat) (n : Nat) (S : BS), Fr n S → n + m ≤ 1000 → ∃ S', Goes (qNewN m l) S (0, l ++ (List.range m).map fun i => 3 + 3 * (n + i)) S' (2 * m) ∧ Fr (n + m) S'
  | 0, l, n, S, h, _ => ⟨S, by
    rw [List.range_zero, List.map_nil, List.append_nil]
    exact Goes.ret (0, l) S, h⟩
  | m + 1, l, n, S, h, hm => by
    obtain ⟨S1, g1, h1⟩ := newCell_goes h (by omega)
    obtain ⟨S', g2, h2⟩ := qNewN_goes m (l ++ [3 + 3 * n]) (n + 1) S1 h1 (by omega)
    refine ⟨S', ?_, by rw [show n + (m + 1) = n + 1 + m by omega]; exact h2⟩
    unfold qNewN
    refine Goes.bindM (m := 2 * m) g1 (fun x => ⟨_, rfl⟩) ?_ (by omega)
    simp only [if_true]
    rw [List.range_succ_eq_map, List.map_cons, List.map_map]
    have e : (fun i => 3 + 3 * (n + i)) ∘ Nat.succ = fun i => 3 + 3 * (n + 1 + i) := by
      funext i
      simp only [Function.comp]
      omega
    rw [e, Nat.add_zero, List.append_cons l (3 + 3 * n) ((List.range m).map fun i => 3 + 3 * (n + 1 + i))]
    exact g2
theorem qNew_goes {n m : Nat} {S : BS} (h : Fr n S) (hm : n + m + 2 ≤ 1000) : ∃ S', Goes (qNew m) S (0, ringAt n m) S' (4 + 2 * m) ∧ Fr (n + 2 + m) S' := by
  obtain ⟨S1, g1, h1⟩ := newCell_goes h (by omega)
  obtain ⟨S2, g2, h2⟩ := newCell_goes h1 (by omega)
  obtain ⟨S3, g3, h3⟩ := qNewN_goes m [] (n + 1 + 1) S2 h2 (by omega)
  refine ⟨S3, ?_, h3⟩
  unfold qNew
  refine Goes.bindM (m := 2 + 2 * m) g1 (fun x => ⟨_, rfl⟩) ?_ (by omega)
  simp only [if_true]
  refine Goes.bindM (m := 2 * m) g2 (fun x => ⟨_, rfl⟩) ?_ (by omega)
  simp only [if_true]
  refine Goes.bindM (m := 0) g3 (fun x => ⟨_, rfl⟩) ?_ (by omega)
  simp only [if_true]
  exact Goes.ret _ _
theorem clock_goes {ws : List Nat} (hl : ws.length = 4000) : ∃ S, Goes (al 1) ⟨ws, 1, [], []⟩ (0, 1) S 1 ∧ Fr 0 S := by
  have ha := alloc_new (S := ⟨ws, 1, [], []⟩) rfl (n := 1) (by omega) (by simp only; omega)
  refine ⟨_, al_goes ha, ⟨⟨?_, fun i hi => (by omega), fun i hi => (by omega), ?_, fun i hi => (by omega), fun i hi => (by omega), ?_, fun i hi => (by omega)⟩, rfl, rfl, ?_⟩⟩
  · unfold word find
    simp [aput, aget]
  · simp only [zeros_getD]
    rw [if_pos (by omega)]
  · simp only [zeros_length, List.length_set]
    omega
  · simp only [zeros_length, List.length_set]
    exact hl
def plOf (n m : Nat) (k : Bool) : Nat := if k = true then m else n
theorem sceneQ_goes {ws : List Nat} (hl : ws.length = 4000) {n m : Nat} (hn : n + m ≤ 100) : ∃ (S' : BS) (f : Nat × Ring × Ring → Nat × Ring × Ring), Goes (sceneQ n m) ⟨ws, 1, [], []⟩ (0, f) S' 400 ∧ (∀ s, f s = (1, ringQ (plOf n m) false, ringQ (plOf n m) true)) ∧ Sc (cellsQ (plOf n m)) S' 0 (fun _ => rest 0) (fun _ => 0) := by
  obtain ⟨S0, g0, h0⟩ := clock_goes hl
  obtain ⟨S1, g1, h1⟩ := qNew_goes (m := n) h0 (by omega)
  obtain ⟨S2, g2, h2⟩ := qNew_goes (m := m) h1 (by omega)
  refine ⟨S2, fun _ => (1, ringAt 0 n, ringAt (0 + 2 + n) m), ?_, fun s => ?_, ?_⟩
  · unfold sceneQ
    refine Goes.bindM (m := 4 + 2 * n + (4 + 2 * m)) g0 (fun x => ⟨_, rfl⟩) ?_ (by omega)
    simp only [if_true]
    refine Goes.bindM (m := 4 + 2 * m) g1 (fun x => ⟨_, rfl⟩) ?_ (by omega)
    simp only [if_true]
    refine Goes.bindM (m := 0) g2 (fun x => ⟨_, rfl⟩) ?_ (by omega)
    exact Goes.ret _ _
  · simp [ringQ, baseQ, plOf, Nat.add_comm]
  · have := h2.sc
    rw [show cellsQ (plOf n m) = 0 + 2 + n + 2 + m by simp [cellsQ, plOf]; omega]
    exact this
theorem qsAt_none (pl : Bool → Nat) : QsAt (fun _ => 0) pl 0 (fun _ => []) := fun k => ⟨rfl, Nat.zero_le _, fun k x h => by simp at h, Nat.le_refl _⟩
end Go.Proofs.YtkpdacfiglpgeaaGreatDoor.Th
