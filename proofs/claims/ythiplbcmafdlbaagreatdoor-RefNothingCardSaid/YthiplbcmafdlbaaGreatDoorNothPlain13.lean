/- Layer 13's laws: a transaction that reads and writes, and is not committed: it changes nothing. No program stands here. -/
import Derived.Test.YthiplbcmafdlbaaGreatDoorAlonePlain13
namespace Go.Proofs.YthiplbcmafdlbaaGreatDoor.Th
open Bl

def nothOps (cells : List Nat) : List Op13 → Tx → Tree (Nat × Tx)
  | [], t => .ret (0, t)
  | o :: l, t =>
    if o.kind = 2 then (if (tWrite t (cellAt cells o.a) o.x).1 = 0 then nothOps cells l (tWrite t (cellAt cells o.a) o.x).2 else .ret ((tWrite t (cellAt cells o.a) o.x).1, (tWrite t (cellAt cells o.a) o.x).2))
    else (tRead t (cellAt cells o.a)).bind fun r => if r.1 = 0 then nothOps cells l r.2.2 else .ret (r.1, r.2.2)
/-- What it keeps: what it read, and what it would write. -/
def nothT (l : List Op13) (clock : Nat) (cells : List Nat) (owner : Int) : Tree (Nat × (Sets → Sets)) :=
  (tBegin clock owner).bind fun b => if b.1 = 0 then (nothOps cells l b.2).bind fun r => .ret (r.1, fun _ => r.2.sets) else .ret (b.1, fun _ => .empty)

theorem len_filter (n : Nat) : ∀ l : List Nat, l.Nodup → l.length ≤ (l.filter fun x => decide (x ≠ n)).length + 1
  | [], _ => by simp
  | x :: l, h => by
    have h1 := (List.nodup_cons.1 h).1
    have h2 := (List.nodup_cons.1 h).2
    by_cases e : x = n
    · have : l.filter (fun y => decide (y ≠ n)) = l := List.filter_eq_self.2 fun y hy => decide_eq_true fun q => h1 (by rw [e, ← q]; exact hy)
      rw [List.filter_cons_of_neg (by simp [e]), this]
      exact Nat.le_refl _
    · rw [List.filter_cons_of_pos (by simp [e])]
      have := len_filter n l h2
      simp only [List.length_cons]
      omega
theorem nodup_map (f : Nat → Nat) : ∀ l : List Nat, (∀ x ∈ l, ∀ y ∈ l, f x = f y → x = y) → l.Nodup → (l.map f).Nodup
  | [], _, _ => List.nodup_nil
  | x :: l, h, hn => by
    have h1 := List.nodup_cons.1 hn
    rw [List.map_cons, List.nodup_cons]
    refine ⟨fun hm => ?_, nodup_map f l (fun a ha b hb => h a (List.mem_cons_of_mem _ ha) b (List.mem_cons_of_mem _ hb)) h1.2⟩
    obtain ⟨y, hy, e⟩ := List.mem_map.1 hm
    have := h x (List.mem_cons_self ..) y (List.mem_cons_of_mem _ hy) e.symm
    rw [this] at h1
    exact h1.1 hy
theorem nodup_len : ∀ (n : Nat) (l : List Nat), l.Nodup → (∀ x ∈ l, x < n) → l.length ≤ n
  | 0, l, _, h => by
    cases l with
    | nil => simp
    | cons x l => exact absurd (h x (List.mem_cons_self ..)) (Nat.not_lt_zero x)
  | n + 1, l, hn, h => by
    have h1 := len_filter n l hn
    have h2 := nodup_len n (l.filter fun x => decide (x ≠ n)) (hn.sublist List.filter_sublist) fun x hx => by
      have hx' := List.mem_filter.1 hx
      have := h x hx'.1
      have hne : x ≠ n := of_decide_eq_true hx'.2
      omega
    omega
theorem at_none {k : Nat} : ∀ {l : List (Nat × Int)} {i : Nat}, at? k l i = none → ∀ x ∈ l, x.1 ≠ k
  | [], _, _, _, h => by cases h
  | y :: l, i, h, x, hx => by
    unfold at? at h
    split at h
    · cases h
    · rename_i e
      rcases List.mem_cons.1 hx with q | q
      · rw [q]; exact fun z => e z.symm
      · exact at_none h x q
theorem sorted_len {n : Nat} : ∀ (l : List (Nat × Nat)) (a : Nat), Sorted l → (∀ x ∈ l, ∃ j, j < n ∧ a ≤ j ∧ x.1 = 3 + 3 * j) → l.length ≤ n - a
  | [], _, _, _ => Nat.zero_le _
  | x :: l, a, h, hx => by
    obtain ⟨j, hj, haj, e⟩ := hx x (List.mem_cons_self ..)
    have := sorted_len l (j + 1) h.2 fun y hy => by
      obtain ⟨i, hi, _, e'⟩ := hx y (List.mem_cons_of_mem _ hy)
      have := h.1 y hy
      exact ⟨i, hi, by omega, e'⟩
    simp only [List.length_cons]
    omega
section
variable {n clk own : Nat} {S : BS} {ver val : Nat → Nat} {cells : List Nat}
/-- No cell is read twice. -/
def Once (t : Tx) : Prop := (t.sets.reads.map (·.1)).Nodup
theorem tRead_once {t : Tx} {now : Nat → Nat} {k : Nat} (hs : Sc n S clk (fun i => rest (ver i)) val) (h : TxS n clk own ver val now k t) (hv : ∀ i, i < n → ver i ≤ clk) (hk : k < 400) {j : Nat} (hj : j < n) (ho : Once t) :
    ∃ t', Goes (tRead t (3 + 3 * j)) S (0, now j, t') S 3 ∧ TxS n clk own ver val now (k + 1) t' ∧ Once t' := by
  cases hw : wget (3 + 3 * j) t.sets.writes with
  | some v =>
    have e := h.now j hj
    rw [hw] at e
    refine ⟨t, ?_, h.more (by omega), ho⟩
    unfold tRead
    rw [hw, e]
    exact (Goes.ret _ _).more (by omega)
  | none =>
    have e := h.now j hj
    rw [hw] at e
    have h1 := mRead_goes hs hj (v := ver j) rfl
    have key : ∀ s' : Sets, t.sets.read (3 + 3 * j) ((ver j : Nat) : Int) = (0, s') → TxS n clk own ver val now (k + 1) { t with sets := s' } → Once { t with sets := s' } → ∃ t', Goes (tRead t (3 + 3 * j)) S (0, now j, t') S 3 ∧ TxS n clk own ver val now (k + 1) t' ∧ Once t' := by
      intro s' hr ht hws
      refine ⟨{ t with sets := s' }, ?_, ht, hws⟩
      unfold tRead
      rw [hw]
      refine h1.bind (m := 0) (fun x => ⟨_, rfl⟩) ?_
      simp only [if_true, hr, h.stamp]
      rw [if_pos (by have := hv j hj; omega), e]
      exact Goes.ret _ _
    cases ha : at? (3 + 3 * j) t.sets.reads 0 with
    | some m =>
      refine key t.sets ?_ (h.more (by omega)) ho
      unfold Sets.read
      simp only [ha]
      rw [if_neg (by rw [h.vers ha]; simp)]
    | none =>
      have hf := h.few
      refine key { t.sets with reads := t.sets.reads ++ [(3 + 3 * j, ((ver j : Nat) : Int))] } ?_ ?_ ?_
      · unfold Sets.read
        simp only [ha]
        rw [if_neg (by omega)]
      · refine ⟨h.clock, h.owner, h.stamp, fun x hx => ?_, by simp; omega, h.writes, h.sorted, by have := h.fewW; simp; omega, h.now⟩
        rcases List.mem_append.1 hx with q | q
        · exact h.reads x q
        · exact ⟨j, hj, by simpa using q⟩
      · show ((t.sets.reads ++ [(3 + 3 * j, ((ver j : Nat) : Int))]).map (·.1)).Nodup
        rw [List.map_append, List.nodup_append]
        refine ⟨ho, by simp, fun a ha' b hb => ?_⟩
        obtain ⟨x, hx, rfl⟩ := List.mem_map.1 ha'
        have := at_none ha x hx
        simp only [List.map_cons, List.map_nil, List.mem_singleton] at hb
        rw [hb]
        exact this
theorem nothOps_goes (hn : 1 ≤ n) (hcell : ∀ a : Int, cellAt cells a = 3 + 3 * (a % (n : Int)).toNat) (hs : Sc n S clk (fun i => rest (ver i)) val) (hv : ∀ i, i < n → ver i ≤ clk) : ∀ (l : List Op13) (t : Tx) (k : Nat) (now : Nat → Nat), TxS n clk own ver val now k t → Once t → k + l.length ≤ 20 →
    ∃ t' now', Goes (nothOps cells l t) S (0, t') S (3 * l.length) ∧ TxS n clk own ver val now' (k + l.length) t' ∧ Once t'
  | [], t, k, now, h, ho, hk => ⟨t, now, Goes.ret _ _, h, ho⟩
  | o :: l, t, k, now, h, ho, hk => by
    simp only [List.length_cons] at hk
    have hj : (o.a % (n : Int)).toNat < n := by
      have h1 := Int.emod_nonneg o.a (b := (n : Int)) (by omega)
      have h2 := Int.emod_lt_of_pos o.a (b := (n : Int)) (by omega)
      omega
    unfold nothOps
    rw [hcell]
    by_cases h2 : o.kind = 2
    · rw [if_pos h2]
      obtain ⟨t1, g1, g2, g3⟩ := tWrite_does h (by omega) hj o.x
      have ho1 : Once t1 := by
        have : t1.sets.reads = t.sets.reads := by
          have e : t1 = (tWrite t (3 + 3 * (o.a % (n : Int)).toNat) o.x).2 := by rw [g1]
          rw [e]
          unfold tWrite Sets.write
          split <;> rfl
        unfold Once
        rw [this]
        exact ho
      obtain ⟨t', now', a1, a2, a3⟩ := nothOps_goes hn hcell hs hv l t1 (k + 1) _ g2 ho1 (by omega)
      refine ⟨t', now', ?_, a2.more (by first | omega | (simp only [List.length_cons]; omega)), a3⟩
      rw [g1]
      simp only [if_true]
      exact a1.more (by first | omega | (simp only [List.length_cons]; omega))
    · rw [if_neg h2]
      obtain ⟨t1, g1, g2, g3⟩ := tRead_once hs h hv (by omega) hj ho
      obtain ⟨t', now', a1, a2, a3⟩ := nothOps_goes hn hcell hs hv l t1 (k + 1) now g2 g3 (by omega)
      refine ⟨t', now', ?_, a2.more (by first | omega | (simp only [List.length_cons]; omega)), a3⟩
      refine Goes.bindM (m := 3 * l.length) g1 (fun x => ⟨_, rfl⟩) ?_ (by first | omega | (simp only [List.length_cons]; omega))
      simp only [if_true]
      exact a1
/-- It changes no block; it knows of each cell once. -/
theorem noth_goes (hn : 1 ≤ n) (hcell : ∀ a : Int, cellAt cells a = 3 + 3 * (a % (n : Int)).toNat) (hs : Sc n S clk (fun i => rest (ver i)) val) (hv : ∀ i, i < n → ver i ≤ clk) (hc : clk < 9223372036854775808) {l : List Op13} (hl : l.length ≤ 10) :
    ∃ s : Sets, Goes (nothT l 1 cells (own : Int)) S (0, fun _ => s) S 40 ∧ s.reads.length ≤ n ∧ s.writes.length ≤ n := by
  have b1 := mNow_goes hs hc
  have hb : Goes (tBegin 1 (own : Int)) S (0, ⟨.empty, 1, (own : Int), (clk : Int)⟩) S 1 := by
    show Goes ((mNow 1).bind fun r => .ret (r.1, (⟨.empty, 1, (own : Int), r.2⟩ : Tx))) _ _ _ _
    exact b1.bind (m := 0) (fun x => ⟨_, rfl⟩) (Goes.ret _ _)
  obtain ⟨t', now', a1, a2, a3⟩ := nothOps_goes (own := own) hn hcell hs hv l ⟨.empty, 1, (own : Int), (clk : Int)⟩ 0 val ⟨rfl, rfl, rfl, fun _ h => (by cases h), Nat.le_refl _, fun _ h => (by cases h), trivial, Nat.le_refl _, fun _ _ => rfl⟩ List.nodup_nil (by omega)
  refine ⟨t'.sets, ?_, ?_, ?_⟩
  · unfold nothT
    refine Goes.bindM (m := 39) hb (fun x => ⟨_, rfl⟩) ?_ (by omega)
    simp only [if_true]
    refine Goes.bindM (m := 0) a1 (fun x => ⟨_, rfl⟩) ?_ (by omega)
    exact Goes.ret _ _
  · have h1 : ((t'.sets.reads.map (·.1)).map fun x => (x - 3) / 3).length ≤ n := nodup_len n _ (nodup_map _ _ (by
      intro x hx y hy e
      obtain ⟨p, hp, rfl⟩ := List.mem_map.1 hx
      obtain ⟨q, hq, rfl⟩ := List.mem_map.1 hy
      obtain ⟨i, _, rfl⟩ := a2.reads p hp
      obtain ⟨j, _, rfl⟩ := a2.reads q hq
      simp only at e ⊢
      omega) a3) (fun x hx => by
      obtain ⟨y, hy, rfl⟩ := List.mem_map.1 hx
      obtain ⟨p, hp, rfl⟩ := List.mem_map.1 hy
      obtain ⟨i, hi, rfl⟩ := a2.reads p hp
      simp only
      omega)
    simpa using h1
  · have := sorted_len (n := n) t'.sets.writes 0 a2.sorted fun x hx => by
      obtain ⟨j, hj, e⟩ := a2.writes x hx
      exact ⟨j, hj, Nat.zero_le _, e⟩
    simpa using this
end
end Go.Proofs.YthiplbcmafdlbaaGreatDoor.Th
