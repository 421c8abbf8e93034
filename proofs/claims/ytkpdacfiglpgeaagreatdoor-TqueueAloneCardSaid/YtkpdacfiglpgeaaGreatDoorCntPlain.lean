/- Layers 14 (the end of a transaction) and 18 (a size in stripes), and its law's transactions, as trees. No program stands here. -/
import Derived.Test.YtkpdacfiglpgeaaGreatDoorAlonePlain13
namespace Go.Proofs.YtkpdacfiglpgeaaGreatDoor.Th
open Bl

/-- How a transaction ended. -/
structure Rsl where
  fin : Int
  stamp : Int
  wrote : Bool
  waits : Bool
def Rsl.zero : Rsl := ⟨0, 0, false, false⟩
def tEnd (t : Tx) (e : Nat) : Tree (Nat × (Rsl × Tx)) :=
  if e = 0 then (tCommit t).bind fun r => .ret (r.1, (if r.1 = 0 then ⟨1, r.2.1, decide (t.sets.writes ≠ []), r.2.2.1⟩ else .zero), r.2.2.2)
  else if e = 14 then .ret (0, ⟨2, t.stamp, false, false⟩, t)
  else if e = 13 then (tCheck t).bind fun r => .ret (r.1, (if r.1 = 0 then ⟨3, t.stamp, false, false⟩ else .zero), t)
  else .ret (e, .zero, t)

/-! A size in stripes. -/
def cSum : List Nat → Tx → Nat → Tree (Nat × (Nat × Tx))
  | [], t, n => .ret (0, n, t)
  | x :: l, t, n => (tRead t x).bind fun r => if r.1 = 0 then cSum l r.2.2 ((n + r.2.1) % 18446744073709551616) else .ret (r.1, 0, r.2.2)
def stripe (cells : List Nat) (key : Int) : Nat := cells.getD (toU key % cells.length) 0
def cAdd (cells : List Nat) (t : Tx) (key n : Int) : Tree (Nat × Tx) :=
  (tRead t (stripe cells key)).bind fun r => if r.1 = 0 then .ret (tWrite r.2.2 (stripe cells key) ((r.2.1 + toU n) % 18446744073709551616)) else .ret (r.1, r.2.2)
def cAdds (cells : List Nat) : List (Int × Int) → Tx → Tree (Nat × Tx)
  | [], t => .ret (0, t)
  | a :: l, t => (cAdd cells t a.1 a.2).bind fun r => if r.1 = 0 then cAdds cells l r.2 else .ret r
def cEnd (abort : Bool) (a : Nat) (r : Nat × (Nat × Tx)) : Tree (Nat × (Int × Int → Int × Int)) :=
  (tEnd r.2.2 (if r.1 = 0 ∧ abort = true then 14 else r.1)).bind fun f => .ret (f.1, fun s => if f.1 = 0 then (toI a, toI r.2.1) else s)
def cMid (cells : List Nat) (abort : Bool) (a : Nat) (r : Nat × Tx) : Tree (Nat × (Int × Int → Int × Int)) :=
  (if r.1 = 0 then cSum cells r.2 0 else .ret (r.1, 0, r.2)).bind (cEnd abort a)
def bodyC (adds : List (Int × Int)) (abort : Bool) (clock : Nat) (cells : List Nat) : Tree (Nat × (Int × Int → Int × Int)) :=
  (tBegin clock 1).bind fun b => if b.1 = 0 then (cSum cells b.2 0).bind fun a => (if a.1 = 0 then cAdds cells adds a.2.2 else .ret (a.1, a.2.2)).bind (cMid cells abort a.2.1)
    else .ret (b.1, id)

/-! What they do alone. -/
def sumJ (now : Nat → Nat) : List Nat → Nat → Nat
  | [], n => n
  | j :: l, n => sumJ now l ((n + now j) % 18446744073709551616)
def addJ (n : Nat) : List (Int × Int) → (Nat → Nat) → (Nat → Nat)
  | [], now => now
  | a :: l, now => addJ n l (upd now (toU a.1 % n) ((now (toU a.1 % n) + toU a.2) % 18446744073709551616))
section
variable {n clk own : Nat} {S : BS} {ver val : Nat → Nat} {cells : List Nat}
theorem cSum_goes (hs : Sc n S clk (fun i => rest (ver i)) val) (hv : ∀ i, i < n → ver i ≤ clk) {now : Nat → Nat} : ∀ (js : List Nat) (t : Tx) (m k : Nat), TxS n clk own ver val now k t → k + js.length ≤ 60 → (∀ j ∈ js, j < n) →
    ∃ t', Goes (cSum (js.map (3 + 3 * ·)) t m) S (0, sumJ now js m, t') S (3 * js.length) ∧ TxS n clk own ver val now (k + js.length) t' ∧ t'.sets.writes = t.sets.writes
  | [], t, m, k, h, _, _ => ⟨t, Goes.ret _ _, h, rfl⟩
  | j :: js, t, m, k, h, hk, hj => by
    simp only [List.length_cons] at hk
    obtain ⟨t1, g1, g2, g3⟩ := tRead_goes hs h hv (by omega) (hj j (List.mem_cons_self ..))
    obtain ⟨t', a1, a2, a3⟩ := cSum_goes hs hv js t1 ((m + now j) % 18446744073709551616) (k + 1) g2 (by omega) (fun i hi => hj i (List.mem_cons_of_mem _ hi))
    refine ⟨t', ?_, a2.more (by simp only [List.length_cons]; omega), a3.trans g3⟩
    rw [List.map_cons]
    refine Goes.bindM (m := 3 * js.length) g1 (fun x => ⟨_, rfl⟩) ?_ (by simp only [List.length_cons]; omega)
    simp only [if_true]
    exact a1
theorem cAdds_goes (hn : 1 ≤ n) (hcell : ∀ a : Int, stripe cells a = 3 + 3 * (toU a % n)) (hs : Sc n S clk (fun i => rest (ver i)) val) (hv : ∀ i, i < n → ver i ≤ clk) : ∀ (l : List (Int × Int)) (t : Tx) (k : Nat) (now : Nat → Nat), TxS n clk own ver val now k t → k + 2 * l.length ≤ 60 →
    ∃ t', Goes (cAdds cells l t) S (0, t') S (3 * l.length) ∧ TxS n clk own ver val (addJ n l now) (k + 2 * l.length) t'
  | [], t, k, now, h, hk => ⟨t, Goes.ret _ _, h⟩
  | a :: l, t, k, now, h, hk => by
    simp only [List.length_cons] at hk
    have hj : toU a.1 % n < n := Nat.mod_lt _ (by omega)
    obtain ⟨t1, g1, g2, -⟩ := tRead_goes hs h hv (by omega) hj
    obtain ⟨t2, b1, b2, -⟩ := tWrite_does g2 (by omega) hj ((now (toU a.1 % n) + toU a.2) % 18446744073709551616)
    obtain ⟨t', a1, a2⟩ := cAdds_goes hn hcell hs hv l t2 (k + 1 + 1) _ b2 (by omega)
    refine ⟨t', ?_, a2.more (by simp only [List.length_cons]; omega)⟩
    unfold cAdds cAdd
    rw [hcell]
    refine Goes.bindM (k := 3) (m := 3 * l.length) (S1 := S) (b := (0, t2)) ?_ (fun x => ⟨_, rfl⟩) ?_ (by simp only [List.length_cons]; omega)
    · refine Goes.bindM (m := 0) g1 (fun x => ⟨_, rfl⟩) ?_ (Nat.le_refl _)
      simp only [if_true, b1]
      exact Goes.ret _ _
    · simp only [if_true]
      exact a1
/-- One transaction. -/
theorem bodyC_goes (hn : 1 ≤ n) (hn4 : n ≤ 4) (hc0 : cells = (List.range n).map (3 + 3 * ·)) (hcell : ∀ a : Int, stripe cells a = 3 + 3 * (toU a % n)) (hs : Sc n S clk (fun i => rest (ver i)) val) (hv : ∀ i, i < n → ver i ≤ clk) (hc : clk + 1 ≤ 281474976710655) {l : List (Int × Int)} (hl : l.length ≤ 20) (abort : Bool) :
    ∃ (S' : BS) (clk' : Nat) (ver' : Nat → Nat) (f : Int × Int → Int × Int), Goes (bodyC l abort 1 cells) S (0, f) S' 480 ∧ (∀ s, f s = (toI (sumJ val (List.range n) 0), toI (sumJ (addJ n l val) (List.range n) 0))) ∧ Sc n S' clk' (fun i => rest (ver' i)) (if abort = true then val else addJ n l val) ∧ (∀ i, i < n → ver' i ≤ clk') ∧ clk' ≤ clk + 1 := by
  have b1 := mNow_goes hs (by omega)
  have hb : Goes (tBegin 1 1) S (0, ⟨.empty, 1, ((1 : Nat) : Int), (clk : Int)⟩) S 1 := by
    show Goes ((mNow 1).bind fun r => .ret (r.1, (⟨.empty, 1, 1, r.2⟩ : Tx))) _ _ _ _
    exact b1.bind (m := 0) (fun x => ⟨_, rfl⟩) (Goes.ret _ _)
  have hr : (List.range n).length = n := List.length_range
  obtain ⟨t1, a1, a2, -⟩ := cSum_goes (own := 1) hs hv (now := val) (List.range n) ⟨.empty, 1, ((1 : Nat) : Int), (clk : Int)⟩ 0 0 ⟨rfl, rfl, rfl, fun _ h => (by cases h), Nat.le_refl _, fun _ h => (by cases h), trivial, Nat.le_refl _, fun _ _ => rfl⟩ (by omega) (fun j hj => List.mem_range.1 hj)
  rw [hr] at a1 a2
  obtain ⟨t2, d1, d2⟩ := cAdds_goes hn hcell hs hv l t1 _ _ a2 (by omega)
  obtain ⟨t3, e1, e2, -⟩ := cSum_goes hs hv (List.range n) t2 0 _ d2 (by omega) (fun j hj => List.mem_range.1 hj)
  rw [hr] at e1 e2
  rw [← hc0] at a1 e1
  have main : ∀ (S' : BS) (rs : Rsl) (t4 : Tx), Goes (tEnd t3 (if (0 : Nat) = 0 ∧ abort = true then 14 else 0)) S (0, rs, t4) S' 360 → Goes (bodyC l abort 1 cells) S (0, fun s => if (0 : Nat) = 0 then (toI (sumJ val (List.range n) 0), toI (sumJ (addJ n l val) (List.range n) 0)) else s) S' 480 := by
    intro S' rs t4 g
    unfold bodyC
    refine Goes.bindM (m := 12 + (60 + (12 + 360))) hb (fun x => ⟨_, rfl⟩) ?_ (by omega)
    simp only [if_true]
    refine (Goes.bindM (m := 60 + (12 + 360)) a1 (fun x => ⟨_, rfl⟩) ?_ (by omega))
    simp only [if_true]
    refine (Goes.bindM (m := 12 + 360) d1 (fun x => ⟨_, rfl⟩) ?_ (by omega))
    unfold cMid
    simp only [if_true]
    refine (Goes.bindM (m := 360) e1 (fun x => ⟨_, rfl⟩) ?_ (by omega))
    unfold cEnd
    exact g.bind (m := 0) (fun x => ⟨_, rfl⟩) (Goes.ret _ _)
  cases abort with
  | true =>
    refine ⟨S, clk, ver, _, main S ⟨2, t3.stamp, false, false⟩ t3 ?_, fun s => rfl, hs, hv, by omega⟩
    unfold tEnd
    simp only [and_self, if_true]
    exact (Goes.ret _ _).more (by omega)
  | false =>
    obtain ⟨S', clk', ver', t4, c1, c2, c3, c4⟩ := tCommit_goesK hs e2 (by omega) hv hc (by omega)
    refine ⟨S', clk', ver', _, main S' ⟨1, (clk' : Int), decide (t3.sets.writes ≠ []), false⟩ t4 ?_, fun s => rfl, c2, c3, by rw [c4]; split <;> omega⟩
    unfold tEnd
    simp only [Bool.false_eq_true, and_false, if_false, if_true]
    refine Goes.bindM (m := 0) c1 (fun x => ⟨_, rfl⟩) ?_ (by omega)
    simp only [if_true]
    exact Goes.ret _ _
end
/-! The sum. -/
theorem sum_addJ (l : List (Int × Int)) : ∀ now : Nat → Nat, sumJ (addJ 4 l now) (List.range 4) 0 = (sumJ now (List.range 4) 0 + (l.map fun a => toU a.2).sum) % 18446744073709551616 := by
  induction l with
  | nil =>
    intro now
    simp only [addJ, List.map_nil, List.sum_nil, Nat.add_zero]
    show (_ % _) = ((_ % _) % _)
    rw [Nat.mod_mod]
  | cons a l ih =>
    intro now
    have e4 : List.range 4 = [0, 1, 2, 3] := rfl
    have h4 : toU a.1 % 4 < 4 := Nat.mod_lt _ (by omega)
    unfold addJ
    rw [ih, List.map_cons, List.sum_cons]
    generalize (l.map fun a => toU a.2).sum = s
    generalize toU a.2 = u
    rw [e4]
    simp only [sumJ, upd]
    rcases (by omega : toU a.1 % 4 = 0 ∨ toU a.1 % 4 = 1 ∨ toU a.1 % 4 = 2 ∨ toU a.1 % 4 = 3) with h | h | h | h
    all_goals
      rw [h]
      simp only [if_true, Nat.reduceEqDiff, if_false, Nat.succ_ne_self, Nat.zero_ne_one]
      simp
      omega
end Go.Proofs.YtkpdacfiglpgeaaGreatDoor.Th
