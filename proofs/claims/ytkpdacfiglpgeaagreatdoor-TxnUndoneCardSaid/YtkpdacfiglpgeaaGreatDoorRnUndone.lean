/- RnUndone: Und15, RnUndone. -/
import Derived.OrdersHeld
import Derived.Deep.RegionHeld3
import Derived.Test.YtkpdacfiglpgeaaGreatDoorRnTail

/- Und15: AnyI, Und15. -/
/- A region that draws its order, gone through by what holds whichever operations were done. No program stands here. -/
namespace Go.Proofs.YtkpdacfiglpgeaaGreatDoor
open Go

section
variable {P : Program} {ops : Array Oper} {Q : Exit → Act → World → Prop} {md : Region.Mode}
def leftOf (L : Array Bool) : Nat := (L.toList.filter (! ·)).length
theorem leftOf_list : ∀ (l : List Bool) (i : Nat), l[i]? = some false → ((l.set i true).filter (! ·)).length + 1 = (l.filter (! ·)).length
 | [], i, h => by simp at h
 | x :: l, 0, h => by
  simp only [List.getElem?_cons_zero, Option.some.injEq] at h
  subst h
  simp
 | x :: l, i + 1, h => by
  have := leftOf_list l i (by simpa using h)
  cases x <;> simp <;> simpa using this
theorem getD_some {L : Array Bool} {i : Nat} (h : L.getD i true = false) : L.toList[i]? = some false := by
 rcases Nat.lt_or_ge i L.size with q | q
 ·simp [Array.getD, q] at h
  simp [q, h]
 ·simp [Array.getD, Nat.not_lt.2 q] at h
theorem leftOf_set {L : Array Bool} {i : Nat} (h : L.getD i true = false) : leftOf (L.setIfInBounds i true) + 1 = leftOf L := by
 have := leftOf_list L.toList i (getD_some h)
 unfold leftOf
 rw [Array.toList_setIfInBounds]
 exact this
theorem leftOf_pos {L : Array Bool} {i : Nat} (h : L.getD i true = false) : 0 < leftOf L := by
 have := leftOf_set h
 omega
/-- What holds whichever operations were done, holds at the end. -/
theorem wpAny_inv {I : Array Bool → Act → World → Prop}
  (hstep : ∀ (i : Nat) (o : Oper) (L : Array Bool) (a : Act) (w : World), ops[i]? = some o → L.size = ops.size → L.getD i true = false → (∀ e ∈ o.after, Region.binds md e = true → L.getD e.on false = true) → I L a w → wpOp P ops Q i (I (L.setIfInBounds i true)) a w)
  (hfin : ∀ (L : Array Bool) (a : Act) (w : World), L.size = ops.size → Region.ready md ops L = [] → I L a w → Q .normal a w) :
  ∀ (fuel : Nat) (L : Array Bool) (a : Act) (w : World), L.size = ops.size → leftOf L ≤ fuel → I L a w → wpAny P md ops Q fuel L a w := by
 intro fuel
 induction fuel with
 | zero =>
  intro L a w hs hl hI
  have hr : Region.ready md ops L = [] := by
   cases hq : Region.ready md ops L with
   | nil => rfl
   | cons j l =>
    have : j ∈ Region.ready md ops L := by rw [hq]; exact List.mem_cons_self ..
    have := leftOf_pos (mem_ready.1 this).1
    omega
  exact ⟨hr, hfin L a w hs hr hI⟩
 | succ fuel ih =>
  intro L a w hs hl hI
  refine ⟨fun hr => hfin L a w hs hr hI, fun i hi => ?_⟩
  obtain ⟨h1, o, h2, h3⟩ := mem_ready.1 hi
  refine wpOp_mono (fun a' w' h => ih _ a' w' (by simpa using hs) ?_ h) (hstep i o L a w h2 hs h1 h3 hI)
  have := leftOf_set h1
  omega
theorem leftOf_none (n : Nat) : leftOf (Array.replicate n false) ≤ n := by
 unfold leftOf
 simp
/-- Behind the last one all were done, if each waits for elder ones alone. -/
theorem all_done {L : Array Bool} (hr : Region.ready md ops L = []) (ho : (List.range ops.size).all (fun j => (ops[j]?).all fun o => o.after.all fun e => !Region.binds md e || Nat.blt e.on j) = true) : ∀ j, j < ops.size → L.getD j true = true := by
 intro j
 induction j using Nat.strongRecOn with
 | ind j ih =>
  intro hj
  cases h : L.getD j true with
  | true => rfl
  | false =>
   exfalso
   obtain ⟨o, hoj⟩ : ∃ o, ops[j]? = some o := ⟨_, Array.getElem?_eq_getElem hj⟩
   have hall := List.all_eq_true.1 ho j (List.mem_range.2 hj)
   rw [hoj] at hall
   simp only [Option.all_some] at hall
   have : j ∈ Region.ready md ops L := mem_ready.2 ⟨h, o, hoj, fun e he hb => by
    have h1 := Array.all_eq_true'.1 hall e he
    rw [hb] at h1
    have hlt : e.on < j := by simpa using h1
    have h2 := ih e.on hlt (Nat.lt_trans hlt hj)
    rcases Nat.lt_or_ge e.on L.size with q | q
    ·simp [Array.getD, q] at h2 ⊢
     exact h2
    ·exfalso
     have h3 : j < L.size := by
      rcases Nat.lt_or_ge j L.size with q2 | q2
      ·exact q2
      ·simp [Array.getD, Nat.not_lt.2 q2] at h
     omega⟩
   rw [hr] at this
   cases this
end
end Go.Proofs.YtkpdacfiglpgeaaGreatDoor

/- Layer 14's laws: the statement that is put between two gets (a region that draws its order). -/
namespace Go.Proofs.YtkpdacfiglpgeaaGreatDoor
open Go.RowKit Bl Th Tx
set_option maxRecDepth 10000

section
variable {ops : Array Oper} {Q : Exit → Act → World → Prop} {K : Act → World → Prop} {a : Act} {w : World} {o : Oper}
theorem u_wanted (hg : o.guard = none) : Region.wanted o (yielded ops a.tmps) = true := by simp [Region.wanted, hg]
theorem u_move {t : Nat} {v : Value} (ho : o.op = .move (.tmp t)) (hv : a.tmps[t]? = some v) (hK : K (a.put o.dst v) w) : o.wp Tryz.prog a w K Q := by
 unfold Oper.wp execOp
 simp only [ho]
 go_simp
 exact hK
theorem u_none (ho : o.op = .buildSlice 42 0 #[]) (hK : K (a.put o.dst (.slice (some ⟨w.heap.size, 0, none⟩) 0 0)) (w.alloc (.cells #[] 50))) : o.wp Tryz.prog a w K Q := by
 unfold Oper.wp execOp
 simp only [ho]
 go_simp
 exact hK
theorem u_one {t : Nat} {c0 c1 c2 c3 c4 c5 c6 c7 c8 : Value} (ho : o.op = .buildSlice 42 1 #[(0, .tmp t)]) (hv : a.tmps[t]? = some (.agg #[c0, c1, c2, c3, c4, c5, c6, c7, c8])) (hK : K (a.put o.dst (.slice (some ⟨w.heap.size, 0, none⟩) 1 1)) (w.alloc (.cells #[c0, c1, c2, c3, c4, c5, c6, c7, c8] 50))) : o.wp Tryz.prog a w K Q := by
 unfold Oper.wp execOp
 simp only [ho]
 go_simp
 exact hK
theorem u_build {t : Nat} {k : Int} {p : Option Addr} {n c : Nat} (ho : o.op = .build 50 #[(0, .const (.int .i64 k)), (5, .tmp t)]) (hv : a.tmps[t]? = some (.slice p n c)) (hK : K (a.put o.dst (.agg #[.int .i64 k, .int .i64 0, .int .i64 0, .int .i64 0, .int .i64 0, .int .i64 0, .int .i64 0, .slice p n c, .slice none 0 0])) w) : o.wp Tryz.prog a w K Q := by
 unfold Oper.wp execOp
 simp only [ho]
 go_simp
 exact hK
theorem u_alloc (ho : o.op = .alloc 50) (hK : K (a.put o.dst (.pointer (some ⟨w.heap.size, 0, none⟩))) (w.alloc (.cells #[.int .i64 0, .int .i64 0, .int .i64 0, .int .i64 0, .int .i64 0, .int .i64 0, .int .i64 0, .slice none 0 0, .slice none 0 0] 50))) : o.wp Tryz.prog a w K Q := by
 unfold Oper.wp execOp
 simp only [ho]
 go_simp
 exact hK
theorem u_load {t b : Nat} {c0 c1 c2 c3 c4 c5 c6 c7 c8 : Value} {ty : TypeId} (ho : o.op = .load 50 (.tmp t)) (hv : a.tmps[t]? = some (.pointer (some ⟨b, 0, none⟩))) (hc : Cells w b [c0, c1, c2, c3, c4, c5, c6, c7, c8] ty) (hK : K (a.put o.dst (.agg #[c0, c1, c2, c3, c4, c5, c6, c7, c8])) w) : o.wp Tryz.prog a w K Q := by
 obtain ⟨⟨e0, e1, e2, e3, e4, e5, e6, e7, e8⟩, -⟩ := nine_cells hc
 unfold Oper.wp execOp
 simp only [ho]
 go_simp
 exact hK
theorem u_store {t u b : Nat} {c0 c1 c2 c3 c4 c5 c6 c7 c8 : Value} {p : Option Addr} {n c : Nat} {ty : TypeId} (ho : o.op = .store 50 (.tmp t) (.tmp u)) (hd : o.dst = none) (hv : a.tmps[t]? = some (.pointer (some ⟨b, 0, none⟩))) (hu : a.tmps[u]? = some (.agg #[.int .i64 13, .int .i64 0, .int .i64 0, .int .i64 0, .int .i64 0, .int .i64 0, .int .i64 0, .slice p n c, .slice none 0 0])) (hc : Cells w b [c0, c1, c2, c3, c4, c5, c6, c7, c8] ty)
  (hK : ∀ w', Cells w' b [.int .i64 13, .int .i64 0, .int .i64 0, .int .i64 0, .int .i64 0, .int .i64 0, .int .i64 0, .slice p n c, .slice none 0 0] ty → Kept (fun k => k = b) w w' → K a w') : o.wp Tryz.prog a w K Q := by
 obtain ⟨⟨e0, e1, e2, e3, e4, e5, e6, e7, e8⟩, f0, f1, f2, f3, f4, f5, f6, f7, f8⟩ := nine_cells hc
 unfold Oper.wp execOp
 simp only [ho]
 go_simp
 refine hK _ ((((((((((hc.set 0 _).set 1 _).set 2 _).set 3 _).set 4 _).set 5 _).set 6 _).set 7 _).set 8 _)) ?_
 exact ((((((((((Kept.refl (fun k => k = b) w).setCell (p := ⟨b, 0, none⟩) (fun _ => rfl) _).setCell (p := ⟨b, 1, none⟩) (fun _ => rfl) _).setCell (p := ⟨b, 2, none⟩) (fun _ => rfl) _).setCell (p := ⟨b, 3, none⟩) (fun _ => rfl) _).setCell (p := ⟨b, 4, none⟩) (fun _ => rfl) _).setCell (p := ⟨b, 5, none⟩) (fun _ => rfl) _).setCell (p := ⟨b, 6, none⟩) (fun _ => rfl) _).setCell (p := ⟨b, 7, none⟩) (fun _ => rfl) _).setCell (p := ⟨b, 8, none⟩) (fun _ => rfl) _)
theorem u_op {i : Nat} (ho : ops[i]? = some o) (hg : o.guard = none) (h : o.wp Tryz.prog a w K Q) : wpOp Tryz.prog ops Q i K a w :=
 by
 unfold wpOp
 rw [ho]
 simp only
 rw [if_pos (u_wanted hg)]
 exact .inl h
end
def needs (o : Oper) (j : Nat) : Bool := o.after.any fun e => Region.binds .any e && e.on == j
theorem needs_spec {o : Oper} {j : Nat} {L : Array Bool} (h : needs o j = true) (hl : ∀ e ∈ o.after, Region.binds .any e = true → L.getD e.on false = true) : L.getD j false = true := by
 obtain ⟨e, he, hq⟩ := Array.any_eq_true'.1 h
 simp only [Bool.and_eq_true, beq_iff_eq] at hq
 rw [← hq.2]
 exact hl e he hq.1
structure UOp (ops : Array Oper) (i : Nat) (dst : Option Nat) (op : Op) (nd : List Nat) : Prop where
 is : ∃ o, ops[i]? = some o ∧ o.guard = none ∧ o.dst = dst ∧ o.op = op ∧ nd.all (needs o) = true
theorem UOp.get {ops : Array Oper} {i : Nat} {dst : Option Nat} {op : Op} {nd : List Nat} (h : UOp ops i dst op nd) {o : Oper} (ho : ops[i]? = some o) {L : Array Bool} (hl : ∀ e ∈ o.after, Region.binds .any e = true → L.getD e.on false = true) : o.guard = none ∧ o.dst = dst ∧ o.op = op ∧ ∀ j ∈ nd, L.getD j false = true := by
 obtain ⟨o', h1, h2, h3, h4, h5⟩ := h.is
 rw [ho] at h1
 obtain rfl := Option.some.inj h1
 exact ⟨h2, h3, h4, fun j hj => needs_spec (List.all_eq_true.1 h5 j hj) hl⟩
theorem uo {ops : Array Oper} {i : Nat} {dst : Option Nat} {op : Op} {nd : List Nat} {o : Oper} (h1 : ops[i]? = some o) (h2 : o.guard = none) (h3 : o.dst = dst) (h4 : o.op = op) (h5 : nd.all (needs o) = true) : UOp ops i dst op nd := ⟨o, h1, h2, h3, h4, h5⟩
structure UOps (ops : Array Oper) : Prop where
 size : ops.size = 9
 old : (List.range ops.size).all (fun j => (ops[j]?).all fun o => o.after.all fun e => !Region.binds .any e || Nat.blt e.on j) = true
 o0 : UOp ops 0 (some 57) (.buildSlice 42 0 #[]) []
 o1 : UOp ops 1 (some 58) (.move (.tmp 9)) []
 o2 : UOp ops 2 (some 59) (.call { callee := .builtin .append, args := #[.tmp 57, .tmp 58], argTypes := #[42, 42] }) [0, 1]
 o3 : UOp ops 3 (some 60) (.load 50 (.tmp 12)) []
 o4 : UOp ops 4 (some 61) (.buildSlice 42 1 #[(0, .tmp 60)]) [3]
 o5 : UOp ops 5 (some 62) (.call { callee := .builtin .append, args := #[.tmp 59, .tmp 61], argTypes := #[42, 42] }) [2, 4]
 o6 : UOp ops 6 (some 63) (.build 50 #[(0, .const (.int .i64 13)), (5, .tmp 62)]) [5]
 o7 : UOp ops 7 (some 14) (.alloc 50) []
 o8 : UOp ops 8 none (.store 50 (.tmp 14) (.tmp 63)) [0, 1, 2, 3, 4, 5, 6, 7]
def uDst (k : Nat) : Bool := k == 14 || (Nat.ble 57 k && Nat.ble k 63)
def partV (v : Value) : List Value := [.int .i64 13, .int .i64 0, .int .i64 0, .int .i64 0, .int .i64 0, .int .i64 0, .int .i64 0, v, .slice none 0 0]
def zeroV : List Value := [.int .i64 0, .int .i64 0, .int .i64 0, .int .i64 0, .int .i64 0, .int .i64 0, .int .i64 0, .slice none 0 0, .slice none 0 0]
/-- What holds, whichever operations were done (l: which). -/
structure UI (W : World) (a0 : Act) (qv : Value) (m en : Nat) (cs : List Value) (v : Value) (b4 b7 : Nat) (l : Nat → Bool) (a : Act) (w : World) : Prop where
 size : a.tmps.size = a0.tmps.size
 defers : a.defers = a0.defers
 same : ∀ k, uDst k = false → a.tmps[k]? = a0.tmps[k]?
 below : Below W.heap.size W w
 k2 : l 2 = true → l 0 = true
 k5 : l 5 = true → l 2 = true ∧ l 4 = true
 k6 : l 6 = true → l 5 = true
 k8 : l 8 = true → l 7 = true ∧ l 6 = true
 c0 : l 0 = true → l 2 = false → a.tmps[57]? = some v ∧ w.ownsRow W.heap.size 50 9 v 0 []
 c1 : l 1 = true → a.tmps[58]? = some qv
 c2 : l 2 = true → l 5 = false → a.tmps[59]? = some v ∧ w.ownsRow W.heap.size 50 9 v m cs
 c3 : l 3 = true → a.tmps[60]? = some (.agg (endV en).toArray)
 c4 : l 4 = true → a.tmps[61]? = some (.slice (some ⟨b4, 0, none⟩) 1 1) ∧ Cells w b4 (endV en) 50 ∧ W.heap.size ≤ b4 ∧ (l 0 = true → v.ownBlock ≠ some b4)
 c5 : l 5 = true → a.tmps[62]? = some v ∧ w.ownsRow W.heap.size 50 9 v (m + 1) (cs ++ endV en) ∧ ∃ p c, v = .slice p (m + 1) c
 c6 : l 6 = true → a.tmps[63]? = some (.agg (partV v).toArray)
 c7 : l 7 = true → a.tmps[14]? = some (.pointer (some ⟨b7, 0, none⟩)) ∧ W.heap.size ≤ b7 ∧ b7 < w.heap.size ∧ (l 0 = true → v.ownBlock ≠ some b7) ∧ (l 4 = true → b4 ≠ b7) ∧ (l 8 = false → Cells w b7 zeroV 50)
 c8 : l 8 = true → Cells w b7 (partV v) 50
theorem put_same {a : Act} {d : Nat} {v : Value} (h : d < a.tmps.size) : (a.put (some d) v).tmps[d]? = some v := by
 simp [Act.put, h]
theorem put_ne {a : Act} {d k : Nat} {v : Value} (h : d ≠ k) : (a.put (some d) v).tmps[k]? = a.tmps[k]? := by
 simp [Act.put, Array.getElem?_setIfInBounds_ne h]
theorem pn {a : Act} {d k : Nat} {v x : Value} (h : (d == k) = false) (e : a.tmps[k]? = some x) : (a.put (some d) v).tmps[k]? = some x := by
 rw [put_ne (by simpa using h)]
 exact e
theorem put_size {a : Act} {d : Nat} {v : Value} : (a.put (some d) v).tmps.size = a.tmps.size := by
 simp [Act.put]
theorem eval_of {a : Act} {t : Nat} {v : Value} (h : a.tmps[t]? = some v) : a.eval (.tmp t) = v := by
 simp [Act.eval, h]
section
variable {W : World} {a0 : Act} {qv : Value} {m en : Nat} {cs : List Value} {v : Value} {b4 b7 : Nat} {l l' : Nat → Bool} {a : Act} {w w' : World}
/-- Blocks that were there, but for those of S, are as they were. -/
theorem UI.world {S : Nat → Prop} (h : UI W a0 qv m en cs v b4 b7 l a w) (k : Kept S w w') (hS : ∀ b, S b → W.heap.size ≤ b) (hv : l 0 = true → ∀ b, v.ownBlock = some b → ¬ S b) (h4 : l 4 = true → ¬ S b4) (h7 : l 7 = true → ¬ S b7) : UI W a0 qv m en cs v b4 b7 l a w' where
 size := h.size
 defers := h.defers
 same := h.same
 below := h.below.trans (k.below h.below.size fun b hb e => by have := hS b e; omega)
 k2 := h.k2
 k5 := h.k5
 k6 := h.k6
 k8 := h.k8
 c0 := fun q0 q2 => ⟨(h.c0 q0 q2).1, ownsRow_kept (h.c0 q0 q2).2 k (hv q0)⟩
 c1 := h.c1
 c2 := fun q2 q5 => ⟨(h.c2 q2 q5).1, ownsRow_kept (h.c2 q2 q5).2 k (hv (h.k2 q2))⟩
 c3 := h.c3
 c4 := fun q => ⟨(h.c4 q).1, (h.c4 q).2.1.kept k (h4 q), (h.c4 q).2.2⟩
 c5 := fun q => ⟨(h.c5 q).1, ownsRow_kept (h.c5 q).2.1 k (hv (h.k2 (h.k5 q).1)), (h.c5 q).2.2⟩
 c6 := h.c6
 c7 := fun q => ⟨(h.c7 q).1, (h.c7 q).2.1, Nat.lt_of_lt_of_le (h.c7 q).2.2.1 k.size, (h.c7 q).2.2.2.1, (h.c7 q).2.2.2.2.1, fun q8 => ((h.c7 q).2.2.2.2.2 q8).kept k (h7 q)⟩
 c8 := fun q => (h.c8 q).kept k (h7 (h.k8 q).1)
theorem at_set {L : Array Bool} {i : Nat} (hi : i < L.size) (j : Nat) : (L.setIfInBounds i true).getD j false = (decide (j = i) || L.getD j false) := by
 by_cases h : j = i
 ·subst h
  simp [Array.getD, hi]
 ·have h' : ¬ i = j := fun e => h e.symm
  rw [show decide (j = i) = false from decide_eq_false h, Bool.false_or]
  unfold Array.getD
  simp only [Array.size_setIfInBounds]
  split
  ·exact Array.getElem_setIfInBounds_ne _ h'
  ·rfl
theorem und_step {ops : Array Oper} {Q : Exit → Act → World → Prop} (hops : UOps ops) (hs : 64 ≤ a0.tmps.size) (h9 : a0.tmps[9]? = some qv) {pe : Nat} (h12 : a0.tmps[12]? = some (.pointer (some ⟨pe, 0, none⟩))) (hpe : Cells W pe (endV en) 50) {lq : List St} {cl : List (List Value)} (hm : lq.length = m) (hm1 : m + 1 ≤ 1000000) (hcs : cl.flatten = cs) (hst : StsR W.heap.size W lq cl) (hrow : RowR W.heap.size W qv m cs)
  (i : Nat) (o : Oper) (L : Array Bool) (ho : ops[i]? = some o) (hL : L.size = ops.size) (hun : L.getD i true = false) (hrd : ∀ e ∈ o.after, Region.binds .any e = true → L.getD e.on false = true)
  (hI : ∃ v b4 b7, UI W a0 qv m en cs v b4 b7 (fun j => L.getD j false) a w) : wpOp Tryz.prog ops Q i (fun a' w' => ∃ v b4 b7, UI W a0 qv m en cs v b4 b7 (fun j => (L.setIfInBounds i true).getD j false) a' w') a w := by
 obtain ⟨v, b4, b7, hI⟩ := hI
 have hi9 : i < 9 := by
  have := (Array.getElem?_eq_some_iff.1 ho).1
  rw [hops.size] at this
  exact this
 have hil : i < L.size := by rw [hL, hops.size]; exact hi9
 have hun' : L.getD i false = false := by
  simp [Array.getD, hil] at hun ⊢
  exact hun
 have hset := at_set hil
 obtain ⟨l, hl⟩ : ∃ l : Nat → Bool, (fun j => L.getD j false) = l := ⟨_, rfl⟩
 have hlj : ∀ j, L.getD j false = l j := fun j => by rw [← hl]
 rw [hl] at hI
 rw [hlj] at hun'
 have hset' : (fun j => (L.setIfInBounds i true).getD j false) = fun j => (decide (j = i) || l j) := by
  funext j
  rw [hset, hlj]
 rw [hset']
 have hsz : 64 ≤ a.tmps.size := by rw [hI.size]; exact hs
 have hws := hI.below.size
 match i, hi9 with
 | 0, _ =>
  obtain ⟨g1, g2, g3, -⟩ := hops.o0.get ho hrd
  have h2 : l 2 = false := by
   cases e : l 2 with
   | false => rfl
   | true => rw [hI.k2 e] at hun'; cases hun'
  have h5 : l 5 = false := by
   cases e : l 5 with
   | false => rfl
   | true => rw [(hI.k5 e).1] at h2; cases h2
  have h6 : l 6 = false := by
   cases e : l 6 with
   | false => rfl
   | true => rw [hI.k6 e] at h5; cases h5
  have h8 : l 8 = false := by
   cases e : l 8 with
   | false => rfl
   | true => rw [(hI.k8 e).2] at h6; cases h6
  refine u_op ho g1 (u_none g3 ?_)
  rw [g2]
  have kw := (Kept.refl (fun _ => False) w).alloc (.cells #[] 50)
  have hW := hI.world kw (fun _ h => h.elim) (fun _ _ _ h => h) (fun _ h => h) (fun _ h => h)
  refine ⟨.slice (some ⟨w.heap.size, 0, none⟩) 0 0, b4, b7, put_size.trans hW.size, hW.defers, fun k hk => ?_, hW.below, ?_, ?_, ?_, ?_, ?_, ?_, ?_, ?_, ?_, ?_, ?_, ?_, ?_⟩
  ·rw [put_ne (by rintro rfl; cases hk)]; exact hW.same k hk
  ·simp
  ·simp [h5]
  ·simp [h6]
  ·simp [h8]
  ·exact fun _ _ => ⟨put_same (by omega), ⟨rfl, .inr ⟨w.heap.size, 0, #[], rfl, hws, Cells.new w [] _, Nat.le_refl _, Nat.zero_le _, rfl, rfl⟩⟩⟩
  ·exact fun h1 => pn rfl (hW.c1 (by simpa using h1))
  ·simp [h2]
  ·exact fun h1 => pn rfl (hW.c3 (by simpa using h1))
  ·intro h1
   have q := hW.c4 (by simpa using h1)
   have q' := (hI.c4 (by simpa using h1)).2.1.lt
   refine ⟨pn rfl q.1, q.2.1, q.2.2.1, fun _ e => ?_⟩
   simp only [Value.ownBlock, Option.some.injEq] at e
   omega
  ·simp [h5]
  ·simp [h6]
  ·intro h1
   have q := hW.c7 (by simpa using h1)
   have q' := (hI.c7 (by simpa using h1)).2.2.1
   refine ⟨pn rfl q.1, q.2.1, q.2.2.1, fun _ e => ?_, fun h4 => q.2.2.2.2.1 (by simpa using h4), fun e => q.2.2.2.2.2 (by simpa using e)⟩
   simp only [Value.ownBlock, Option.some.injEq] at e
   omega
  ·simp [h8]
 | 1, _ =>
  obtain ⟨g1, g2, g3, -⟩ := hops.o1.get ho hrd
  refine u_op ho g1 (u_move g3 ((hI.same 9 rfl).trans h9) ?_)
  rw [g2]
  have hW := hI
  refine ⟨v, b4, b7, put_size.trans hW.size, hW.defers, fun k hk => ?_, hW.below, ?_, ?_, ?_, ?_, ?_, ?_, ?_, ?_, ?_, ?_, ?_, ?_, ?_⟩
  ·rw [put_ne (by rintro rfl; cases hk)]; exact hW.same k hk
  ·simpa using hW.k2
  ·intro h1; have z := hW.k5 (by simpa using h1); simp [z.1, z.2]
  ·simpa using hW.k6
  ·intro h1; have z := hW.k8 (by simpa using h1); simp [z.1, z.2]
  ·intro h1 h2; have z := hW.c0 (by simpa using h1) (by simpa using h2); exact ⟨pn rfl z.1, z.2⟩
  ·exact fun _ => put_same (by omega)
  ·intro h1 h3; have z := hW.c2 (by simpa using h1) (by simpa using h3); exact ⟨pn rfl z.1, z.2⟩
  ·exact fun h1 => pn rfl (hW.c3 (by simpa using h1))
  ·intro h1; have z := hW.c4 (by simpa using h1); exact ⟨pn rfl z.1, z.2.1, z.2.2.1, fun h3 => z.2.2.2 (by simpa using h3)⟩
  ·intro h1; have z := hW.c5 (by simpa using h1); exact ⟨pn rfl z.1, z.2⟩
  ·exact fun h1 => pn rfl (hW.c6 (by simpa using h1))
  ·intro h1; have z := hW.c7 (by simpa using h1); exact ⟨pn rfl z.1, z.2.1, z.2.2.1, fun h3 => z.2.2.2.1 (by simpa using h3), fun h3 => z.2.2.2.2.1 (by simpa using h3), fun h3 => z.2.2.2.2.2 (by simpa using h3)⟩
  ·intro h1; exact hW.c8 (by simpa using h1)
 | 2, _ =>
  obtain ⟨g1, g2, g3, g4⟩ := hops.o2.get ho hrd
  have r0 : l 0 = true := (hlj 0).symm.trans (g4 0 (by simp))
  have r1 : l 1 = true := (hlj 1).symm.trans (g4 1 (by simp))
  have h5 : l 5 = false := by
   cases e : l 5 with
   | false => rfl
   | true => rw [(hI.k5 e).1] at hun'; cases hun'
  have h6 : l 6 = false := by
   cases e : l 6 with
   | false => rfl
   | true => rw [hI.k6 e] at h5; cases h5
  have h8 : l 8 = false := by
   cases e : l 8 with
   | false => rfl
   | true => rw [(hI.k8 e).2] at h6; cases h6
  obtain ⟨q1, q2⟩ := hI.c0 r0 hun'
  have kb : Kept (fun k => W.heap.size ≤ k) W w := Kept.of_below hI.below
  have hs1 := StsR.kept (B' := W.heap.size) kb (fun b h1 h2 => ⟨by omega, h1⟩) lq cl hst
  have hr1 := hrow.kept (B' := W.heap.size) kb (fun b h1 h2 => ⟨by omega, h1⟩)
  rw [← hm, ← hcs] at hr1
  refine u_op ho g1 (wp_append_sts (.tmp 57) (.tmp 58) g3 (eval_of q1) q2 (eval_of (hI.c1 r1)) hs1 hr1 (by omega) hws ?_)
  rintro v' w' hrow' hgr hob ⟨p', c', rfl⟩
  rw [g2]
  simp only [Nat.zero_add, List.nil_append, hm, hcs] at hrow' hob ⊢
  have kw := Kept.of_grown hgr
  have hrl := q2.lt
  have hnew : ∀ b, (Value.slice p' m c').ownBlock = some b → v.ownBlock = some b ∨ b = w.heap.size := fun b hb => by
   rcases hob with e | e
   ·exact .inl (by rw [← e]; exact hb)
   ·rw [e] at hb; exact .inr (Option.some.inj hb).symm
  have hbel : Below W.heap.size W w' := hI.below.trans (kw.below hws fun b hb e => by have := (hrl b e.symm).1; omega)
  refine ⟨(.slice p' m c'), b4, b7, put_size.trans hI.size, hI.defers, fun k hk => ?_, hbel, ?_, ?_, ?_, ?_, ?_, ?_, ?_, ?_, ?_, ?_, ?_, ?_, ?_⟩
  ·rw [put_ne (by rintro rfl; cases hk)]; exact hI.same k hk
  ·simp [r0]
  ·simp [h5]
  ·simp [h6]
  ·simp [h8]
  ·intro _ h1; simp at h1
  ·exact fun h1 => pn rfl (hI.c1 (by simpa using h1))
  ·exact fun _ _ => ⟨put_same (by omega), hrow'⟩
  ·exact fun h1 => pn rfl (hI.c3 (by simpa using h1))
  ·intro h1
   have q := hI.c4 (by simpa using h1)
   have q' := q.2.1.lt
   refine ⟨pn rfl q.1, q.2.1.kept kw (fun e => q.2.2.2 r0 e.symm), q.2.2.1, fun _ e => ?_⟩
   rcases hnew _ e with e | e
   ·exact q.2.2.2 r0 e
   ·omega
  ·simp [h5]
  ·simp [h6]
  ·intro h1
   have q := hI.c7 (by simpa using h1)
   have q' := q.2.2.1
   refine ⟨pn rfl q.1, q.2.1, Nat.lt_of_lt_of_le q' kw.size, fun _ e => ?_, fun h4 => q.2.2.2.2.1 (by simpa using h4), fun e => (q.2.2.2.2.2 (by simpa using e)).kept kw (fun e => q.2.2.2.1 r0 e.symm)⟩
   rcases hnew _ e with e | e
   ·exact q.2.2.2.1 r0 e
   ·omega
  ·simp [h8]
 | 3, _ =>
  obtain ⟨g1, g2, g3, -⟩ := hops.o3.get ho hrd
  refine u_op ho g1 (u_load g3 ((hI.same 12 rfl).trans h12) (hpe.kept (Kept.of_below hI.below) (by have := hpe.lt; omega)) ?_)
  rw [g2]
  have hW := hI
  refine ⟨v, b4, b7, put_size.trans hW.size, hW.defers, fun k hk => ?_, hW.below, ?_, ?_, ?_, ?_, ?_, ?_, ?_, ?_, ?_, ?_, ?_, ?_, ?_⟩
  ·rw [put_ne (by rintro rfl; cases hk)]; exact hW.same k hk
  ·simpa using hW.k2
  ·intro h1; have z := hW.k5 (by simpa using h1); simp [z.1, z.2]
  ·simpa using hW.k6
  ·intro h1; have z := hW.k8 (by simpa using h1); simp [z.1, z.2]
  ·intro h1 h2; have z := hW.c0 (by simpa using h1) (by simpa using h2); exact ⟨pn rfl z.1, z.2⟩
  ·exact fun h1 => pn rfl (hW.c1 (by simpa using h1))
  ·intro h1 h3; have z := hW.c2 (by simpa using h1) (by simpa using h3); exact ⟨pn rfl z.1, z.2⟩
  ·exact fun _ => put_same (by omega)
  ·intro h1; have z := hW.c4 (by simpa using h1); exact ⟨pn rfl z.1, z.2.1, z.2.2.1, fun h3 => z.2.2.2 (by simpa using h3)⟩
  ·intro h1; have z := hW.c5 (by simpa using h1); exact ⟨pn rfl z.1, z.2⟩
  ·exact fun h1 => pn rfl (hW.c6 (by simpa using h1))
  ·intro h1; have z := hW.c7 (by simpa using h1); exact ⟨pn rfl z.1, z.2.1, z.2.2.1, fun h3 => z.2.2.2.1 (by simpa using h3), fun h3 => z.2.2.2.2.1 (by simpa using h3), fun h3 => z.2.2.2.2.2 (by simpa using h3)⟩
  ·intro h1; exact hW.c8 (by simpa using h1)
 | 4, _ =>
  obtain ⟨g1, g2, g3, g4⟩ := hops.o4.get ho hrd
  have r3 : l 3 = true := (hlj 3).symm.trans (g4 3 (by simp))
  have h5 : l 5 = false := by
   cases e : l 5 with
   | false => rfl
   | true => rw [(hI.k5 e).2] at hun'; cases hun'
  have h6 : l 6 = false := by
   cases e : l 6 with
   | false => rfl
   | true => rw [hI.k6 e] at h5; cases h5
  have h8 : l 8 = false := by
   cases e : l 8 with
   | false => rfl
   | true => rw [(hI.k8 e).2] at h6; cases h6
  refine u_op ho g1 (u_one g3 (hI.c3 r3) ?_)
  rw [g2]
  have kw := (Kept.refl (fun _ => False) w).alloc (.cells (endV en).toArray 50)
  have hW := hI.world kw (fun _ h => h.elim) (fun _ _ _ h => h) (fun _ h => h) (fun _ h => h)
  refine ⟨v, w.heap.size, b7, put_size.trans hW.size, hW.defers, fun k hk => ?_, hW.below, ?_, ?_, ?_, ?_, ?_, ?_, ?_, ?_, ?_, ?_, ?_, ?_, ?_⟩
  ·rw [put_ne (by rintro rfl; cases hk)]; exact hW.same k hk
  ·simpa using hW.k2
  ·simp [h5]
  ·simp [h6]
  ·simp [h8]
  ·intro h1 h2; have z := hW.c0 (by simpa using h1) (by simpa using h2); exact ⟨pn rfl z.1, z.2⟩
  ·exact fun h1 => pn rfl (hW.c1 (by simpa using h1))
  ·intro h1 h3; have z := hW.c2 (by simpa using h1) (by simpa using h3); exact ⟨pn rfl z.1, z.2⟩
  ·exact fun h1 => pn rfl (hW.c3 (by simpa using h1))
  ·refine fun _ => ⟨put_same (by omega), Cells.new w (endV en) _, hws, fun h1 e => ?_⟩
   have hl0 : l 0 = true := by simpa using h1
   cases e2 : l 2 with
   | false => have := ((hI.c0 hl0 e2).2.lt _ e).2; omega
   | true => have := ((hI.c2 e2 h5).2.lt _ e).2; omega
  ·simp [h5]
  ·simp [h6]
  ·intro h1
   have q := hW.c7 (by simpa using h1)
   have q' := (hI.c7 (by simpa using h1)).2.2.1
   exact ⟨pn rfl q.1, q.2.1, q.2.2.1, fun h3 => q.2.2.2.1 (by simpa using h3), fun _ => by omega, fun e => q.2.2.2.2.2 (by simpa using e)⟩
  ·simp [h8]
 | 5, _ =>
  obtain ⟨g1, g2, g3, g4⟩ := hops.o5.get ho hrd
  have r2 : l 2 = true := (hlj 2).symm.trans (g4 2 (by simp))
  have r4 : l 4 = true := (hlj 4).symm.trans (g4 4 (by simp))
  have h6 : l 6 = false := by
   cases e : l 6 with
   | false => rfl
   | true => rw [hI.k6 e] at hun'; cases hun'
  have h8 : l 8 = false := by
   cases e : l 8 with
   | false => rfl
   | true => rw [(hI.k8 e).2] at h6; cases h6
  have r0 : l 0 = true := hI.k2 r2
  obtain ⟨q1, q2⟩ := hI.c2 r2 hun'
  obtain ⟨y1, y2, y3, y4⟩ := hI.c4 r4
  refine u_op ho g1 (wp_append_sts (l := [stEnd en]) (cs := [endV en]) (B := w.heap.size) (.tmp 59) (.tmp 61) g3 (eval_of q1) q2 (eval_of y1) (StsQ.toR (Q := []) (by simp) _ _ (.cons (.leaf _ _ _ _ (by simp)) (.nil _ _))) ⟨_, _, rfl, .inr ⟨b4, 0, rfl, y2.lt, y2.lt, fun j x hx => by rw [Nat.zero_add]; exact (y2.cell j).trans (by simpa using hx)⟩⟩ (by simp; omega) hws ?_)
  rintro v' w' hrow' hgr hob ⟨p', c', rfl⟩
  rw [g2]
  have ef : [endV en].flatten = endV en := by simp
  rw [ef] at hrow'
  simp only [List.length_singleton] at hrow' hob ⊢
  have kw := Kept.of_grown hgr
  have hrl := q2.lt
  have hnew : ∀ b, (Value.slice p' (m + 1) c').ownBlock = some b → v.ownBlock = some b ∨ b = w.heap.size := fun b hb => by
   rcases hob with e | e
   ·exact .inl (by rw [← e]; exact hb)
   ·rw [e] at hb; exact .inr (Option.some.inj hb).symm
  have hbel : Below W.heap.size W w' := hI.below.trans (kw.below hws fun b hb e => by have := (hrl b e.symm).1; omega)
  refine ⟨(.slice p' (m + 1) c'), b4, b7, put_size.trans hI.size, hI.defers, fun k hk => ?_, hbel, ?_, ?_, ?_, ?_, ?_, ?_, ?_, ?_, ?_, ?_, ?_, ?_, ?_⟩
  ·rw [put_ne (by rintro rfl; cases hk)]; exact hI.same k hk
  ·simpa using hI.k2
  ·simp [r2, r4]
  ·simp
  ·simp [h8]
  ·intro _ h1; simp [r2] at h1
  ·exact fun h1 => pn rfl (hI.c1 (by simpa using h1))
  ·intro _ h1; simp at h1
  ·exact fun h1 => pn rfl (hI.c3 (by simpa using h1))
  ·intro h1
   have q := hI.c4 (by simpa using h1)
   have q' := q.2.1.lt
   refine ⟨pn rfl q.1, q.2.1.kept kw (fun e => q.2.2.2 r0 e.symm), q.2.2.1, fun _ e => ?_⟩
   rcases hnew _ e with e | e
   ·exact q.2.2.2 r0 e
   ·omega
  ·exact fun _ => ⟨put_same (by omega), hrow', p', c', rfl⟩
  ·simp [h6]
  ·intro h1
   have q := hI.c7 (by simpa using h1)
   have q' := q.2.2.1
   refine ⟨pn rfl q.1, q.2.1, Nat.lt_of_lt_of_le q' kw.size, fun _ e => ?_, fun h4 => q.2.2.2.2.1 (by simpa using h4), fun e => (q.2.2.2.2.2 (by simpa using e)).kept kw (fun e => q.2.2.2.1 r0 e.symm)⟩
   rcases hnew _ e with e | e
   ·exact q.2.2.2.1 r0 e
   ·omega
  ·simp [h8]
 | 6, _ =>
  obtain ⟨g1, g2, g3, g4⟩ := hops.o6.get ho hrd
  have r5 : l 5 = true := (hlj 5).symm.trans (g4 5 (by simp))
  have h8 : l 8 = false := by
   cases e : l 8 with
   | false => rfl
   | true => rw [(hI.k8 e).2] at hun'; cases hun'
  obtain ⟨q1, q2, pv, cv, rfl⟩ := hI.c5 r5
  refine u_op ho g1 (u_build g3 q1 ?_)
  rw [g2]
  have hW := hI
  refine ⟨.slice pv (m + 1) cv, b4, b7, put_size.trans hW.size, hW.defers, fun k hk => ?_, hW.below, ?_, ?_, ?_, ?_, ?_, ?_, ?_, ?_, ?_, ?_, ?_, ?_, ?_⟩
  ·rw [put_ne (by rintro rfl; cases hk)]; exact hW.same k hk
  ·simpa using hW.k2
  ·intro h1; have z := hW.k5 (by simpa using h1); simp [z.1, z.2]
  ·simp [r5]
  ·simp [h8]
  ·intro h1 h2; have z := hW.c0 (by simpa using h1) (by simpa using h2); exact ⟨pn rfl z.1, z.2⟩
  ·exact fun h1 => pn rfl (hW.c1 (by simpa using h1))
  ·intro h1 h3; have z := hW.c2 (by simpa using h1) (by simpa using h3); exact ⟨pn rfl z.1, z.2⟩
  ·exact fun h1 => pn rfl (hW.c3 (by simpa using h1))
  ·intro h1; have z := hW.c4 (by simpa using h1); exact ⟨pn rfl z.1, z.2.1, z.2.2.1, fun h3 => z.2.2.2 (by simpa using h3)⟩
  ·exact fun _ => ⟨pn rfl q1, q2, pv, cv, rfl⟩
  ·exact fun _ => put_same (by omega)
  ·intro h1; have z := hW.c7 (by simpa using h1); exact ⟨pn rfl z.1, z.2.1, z.2.2.1, fun h3 => z.2.2.2.1 (by simpa using h3), fun h3 => z.2.2.2.2.1 (by simpa using h3), fun h3 => z.2.2.2.2.2 (by simpa using h3)⟩
  ·simp [h8]
 | 7, _ =>
  obtain ⟨g1, g2, g3, -⟩ := hops.o7.get ho hrd
  have h8 : l 8 = false := by
   cases e : l 8 with
   | false => rfl
   | true => rw [(hI.k8 e).1] at hun'; cases hun'
  refine u_op ho g1 (u_alloc g3 ?_)
  rw [g2]
  have kw := (Kept.refl (fun _ => False) w).alloc (.cells #[.int .i64 0, .int .i64 0, .int .i64 0, .int .i64 0, .int .i64 0, .int .i64 0, .int .i64 0, .slice none 0 0, .slice none 0 0] 50)
  have hW := hI.world kw (fun _ h => h.elim) (fun _ _ _ h => h) (fun _ h => h) (fun _ h => h)
  refine ⟨v, b4, w.heap.size, put_size.trans hW.size, hW.defers, fun k hk => ?_, hW.below, ?_, ?_, ?_, ?_, ?_, ?_, ?_, ?_, ?_, ?_, ?_, ?_, ?_⟩
  ·rw [put_ne (by rintro rfl; cases hk)]; exact hW.same k hk
  ·simpa using hW.k2
  ·intro h1; have z := hW.k5 (by simpa using h1); simp [z.1, z.2]
  ·simpa using hW.k6
  ·simp [h8]
  ·intro h1 h2; have z := hW.c0 (by simpa using h1) (by simpa using h2); exact ⟨pn rfl z.1, z.2⟩
  ·exact fun h1 => pn rfl (hW.c1 (by simpa using h1))
  ·intro h1 h3; have z := hW.c2 (by simpa using h1) (by simpa using h3); exact ⟨pn rfl z.1, z.2⟩
  ·exact fun h1 => pn rfl (hW.c3 (by simpa using h1))
  ·intro h1; have z := hW.c4 (by simpa using h1); exact ⟨pn rfl z.1, z.2.1, z.2.2.1, fun h3 => z.2.2.2 (by simpa using h3)⟩
  ·intro h1; have z := hW.c5 (by simpa using h1); exact ⟨pn rfl z.1, z.2⟩
  ·exact fun h1 => pn rfl (hW.c6 (by simpa using h1))
  ·refine fun _ => ⟨put_same (by omega), hws, by simp, fun h1 e => ?_, fun h1 e => ?_, fun _ => Cells.new w zeroV _⟩
   ·have hl0 : l 0 = true := by simpa using h1
    cases e2 : l 2 with
    | false => have := ((hI.c0 hl0 e2).2.lt _ e).2; omega
    | true =>
     cases e5 : l 5 with
     | false => have := ((hI.c2 e2 e5).2.lt _ e).2; omega
     | true => have := ((hI.c5 e5).2.1.lt _ e).2; omega
   ·have := (hI.c4 (by simpa using h1)).2.1.lt
    omega
  ·simp [h8]
 | 8, _ =>
  obtain ⟨g1, g2, g3, g4⟩ := hops.o8.get ho hrd
  have r : ∀ j, j < 8 → l j = true := fun j hj => (hlj j).symm.trans (g4 j (by simp; omega))
  obtain ⟨q1, q2, pv, cv, rfl⟩ := hI.c5 (r 5 (by omega))
  obtain ⟨y1, y2, y3, y4, y5, y6⟩ := hI.c7 (r 7 (by omega))
  refine u_op ho g1 (u_store g3 g2 y1 (hI.c6 (r 6 (by omega))) (y6 hun') fun w' hc' kw => ?_)
  have hv4 := (hI.c4 (r 4 (by omega)))
  refine ⟨.slice pv (m + 1) cv, b4, b7, hI.size, hI.defers, hI.same, hI.below.trans (kw.below hws fun b hb e => by omega), ?_, ?_, ?_, ?_, ?_, ?_, ?_, ?_, ?_, ?_, ?_, ?_, ?_⟩
  ·simpa using hI.k2
  ·intro h1; have z := hI.k5 (by simpa using h1); simp [z.1, z.2]
  ·simpa using hI.k6
  ·simp [r 7 (by omega), r 6 (by omega)]
  ·intro _ h1; simp [r 2 (by omega)] at h1
  ·intro h1; exact hI.c1 (by simpa using h1)
  ·intro _ h1; simp [r 5 (by omega)] at h1
  ·intro h1; exact hI.c3 (by simpa using h1)
  ·intro h1
   exact ⟨hv4.1, hv4.2.1.kept kw (y5 (r 4 (by omega))), hv4.2.2.1, fun _ => hv4.2.2.2 (r 0 (by omega))⟩
  ·exact fun _ => ⟨q1, ownsRow_kept q2 kw (fun b hb e => y4 (r 0 (by omega)) (by rw [hb, e])), pv, cv, rfl⟩
  ·intro h1; exact hI.c6 (by simpa using h1)
  ·refine fun _ => ⟨y1, y2, Nat.lt_of_lt_of_le y3 kw.size, fun _ => y4 (r 0 (by omega)), fun _ => y5 (r 4 (by omega)), fun h1 => by simp at h1⟩
  ·exact fun _ => hc'
/-- Behind the region. -/
theorem und_act (h : UI W a0 qv m en cs v b4 b7 l a w) (hs : 64 ≤ a0.tmps.size) : ∃ x57 x58 x59 x60 x61 x62 x63 x14, a.tmps[14]? = some x14 ∧ a = (((((((a0.put (some 57) x57).put (some 58) x58).put (some 59) x59).put (some 60) x60).put (some 61) x61).put (some 62) x62).put (some 63) x63).put (some 14) x14 := by
 have hz : 64 ≤ a.tmps.size := by rw [h.size]; exact hs
 have at' : ∀ k, k < 64 → ∃ x, a.tmps[k]? = some x := fun k hk => ⟨_, Array.getElem?_eq_getElem (by omega)⟩
 obtain ⟨x57, e57⟩ := at' 57 (by omega)
 obtain ⟨x58, e58⟩ := at' 58 (by omega)
 obtain ⟨x59, e59⟩ := at' 59 (by omega)
 obtain ⟨x60, e60⟩ := at' 60 (by omega)
 obtain ⟨x61, e61⟩ := at' 61 (by omega)
 obtain ⟨x62, e62⟩ := at' 62 (by omega)
 obtain ⟨x63, e63⟩ := at' 63 (by omega)
 obtain ⟨x14, e14⟩ := at' 14 (by omega)
 refine ⟨x57, x58, x59, x60, x61, x62, x63, x14, e14, ?_⟩
 have ht : a.tmps = ((((((((a0.put (some 57) x57).put (some 58) x58).put (some 59) x59).put (some 60) x60).put (some 61) x61).put (some 62) x62).put (some 63) x63).put (some 14) x14).tmps := by
  refine Array.ext_getElem? fun k => ?_
  by_cases hk : uDst k = false
  ·rw [put_ne (by rintro rfl; cases hk), put_ne (by rintro rfl; cases hk), put_ne (by rintro rfl; cases hk), put_ne (by rintro rfl; cases hk), put_ne (by rintro rfl; cases hk), put_ne (by rintro rfl; cases hk), put_ne (by rintro rfl; cases hk), put_ne (by rintro rfl; cases hk)]
   exact h.same k hk
  ·have hk' : k = 14 ∨ k = 57 ∨ k = 58 ∨ k = 59 ∨ k = 60 ∨ k = 61 ∨ k = 62 ∨ k = 63 := by
    simp [uDst] at hk
    omega
   rcases hk' with rfl | rfl | rfl | rfl | rfl | rfl | rfl | rfl
   ·rw [put_same (by simp only [put_size]; omega)]; exact e14
   ·rw [put_ne (by decide), put_ne (by decide), put_ne (by decide), put_ne (by decide), put_ne (by decide), put_ne (by decide), put_ne (by decide), put_same (by omega)]; exact e57
   ·rw [put_ne (by decide), put_ne (by decide), put_ne (by decide), put_ne (by decide), put_ne (by decide), put_ne (by decide), put_same (by simp only [put_size]; omega)]; exact e58
   ·rw [put_ne (by decide), put_ne (by decide), put_ne (by decide), put_ne (by decide), put_ne (by decide), put_same (by simp only [put_size]; omega)]; exact e59
   ·rw [put_ne (by decide), put_ne (by decide), put_ne (by decide), put_ne (by decide), put_same (by simp only [put_size]; omega)]; exact e60
   ·rw [put_ne (by decide), put_ne (by decide), put_ne (by decide), put_same (by simp only [put_size]; omega)]; exact e61
   ·rw [put_ne (by decide), put_ne (by decide), put_same (by simp only [put_size]; omega)]; exact e62
   ·rw [put_ne (by decide), put_same (by simp only [put_size]; omega)]; exact e63
 have hd := h.defers
 cases a
 cases a0
 simp only [Act.put] at ht hd ⊢
 rw [ht, hd]
end
theorem und15 {id : Nat} {ops : Array Oper} {Q : Exit → Act → World → Prop} {a0 : Act} {W : World} (hops : UOps ops) (hs : 64 ≤ a0.tmps.size) {qv : Value} (h9 : a0.tmps[9]? = some qv) {pe en : Nat} (h12 : a0.tmps[12]? = some (.pointer (some ⟨pe, 0, none⟩))) (hpe : Cells W pe (endV en) 50)
  {lq : List St} {Qs : List Nat} (hm1 : lq.length + 1 ≤ 1000000) (hq : SlQ Qs W lq qv) (hQs : ∀ g ∈ Qs, g < W.heap.size)
  (hK : ∀ (x57 x58 x59 x60 x61 x62 x63 : Value) (p : Option Addr) (c b7 : Nat) (w' : World), SlQ ((Value.slice p (lq.length + 1) c).ownBlock.toList ++ Qs) w' (lq ++ [stEnd en]) (.slice p (lq.length + 1) c) → (∀ g ∈ (Value.slice p (lq.length + 1) c).ownBlock.toList ++ Qs, g < w'.heap.size ∧ g ≠ b7) → Cells w' b7 (partV (.slice p (lq.length + 1) c)) 50 → W.heap.size ≤ b7 → Below W.heap.size W w' →
   Q .normal ((((((((a0.put (some 57) x57).put (some 58) x58).put (some 59) x59).put (some 60) x60).put (some 61) x61).put (some 62) x62).put (some 63) x63).put (some 14) (.pointer (some ⟨b7, 0, none⟩))) w') :
  (Code.region id ops true).wp Tryz.prog Q a0 W := by
 obtain ⟨cl, q1, q2⟩ := hq
 have hQ' : ∀ g ∈ Qs, g < W.drew.heap.size ∧ g < W.drew.heap.size := fun g hg => ⟨hQs g hg, hQs g hg⟩
 have kd : HeldBy Qs W W.drew := HeldBy.of_below ⟨rfl, rfl, rfl, Nat.le_refl _, fun _ _ => rfl⟩ hQs
 have q1 := StsQ.heldBy kd (fun _ h => h) _ _ q1
 have hst : StsR W.drew.heap.size W.drew lq cl := StsQ.toR hQ' lq cl q1
 have hrow : RowR W.drew.heap.size W.drew qv lq.length cl.flatten := by
  obtain ⟨p, c, rfl, h⟩ := q2
  exact ⟨p, c, rfl, h.imp_right fun ⟨g, o, z1, z2, z3⟩ => ⟨g, o, z1, (hQ' g z2).1, (hQ' g z2).2, z3⟩⟩
 refine wp_region_any (by kernel_rfl) (wpAny_inv (I := fun L a w => ∃ v b4 b7, UI W.drew a0 qv lq.length en cl.flatten v b4 b7 (fun j => L.getD j false) a w) (fun i o L a w ho hL hun hrd hI => und_step (W := W.drew) hops hs h9 h12 hpe rfl hm1 rfl hst hrow i o L ho hL hun hrd hI) (fun L a w hL hr hI => ?_) ops.size _ _ _ (by simp) (leftOf_none _) ⟨undef, 0, 0, rfl, rfl, fun _ _ => rfl, Below.refl _ _, ?_, ?_, ?_, ?_, ?_, ?_, ?_, ?_, ?_, ?_, ?_, ?_, ?_⟩)
 ·obtain ⟨v, b4, b7, hI⟩ := hI
  have hall := all_done hr hops.old
  have hl : ∀ j, j < 9 → L.getD j false = true := fun j hj => by
   have h1 := hall j (by rw [hops.size]; exact hj)
   have h2 : j < L.size := by rw [hL, hops.size]; exact hj
   simp [Array.getD, h2] at h1 ⊢
   exact h1
  obtain ⟨x57, x58, x59, x60, x61, x62, x63, x14, e14, ea⟩ := und_act hI hs
  obtain ⟨f1, f2, p, c, rfl⟩ := hI.c5 (hl 5 (by omega))
  obtain ⟨y1, y2, y3, y4, y5, y6⟩ := hI.c7 (hl 7 (by omega))
  rw [e14] at y1
  rw [ea, Option.some.inj y1]
  have hob := y4 (hl 0 (by omega))
  have ef : [endV en].flatten = endV en := by simp
  refine hK x57 x58 x59 x60 x61 x62 x63 p c b7 w ⟨cl ++ [endV en], StsQ.more (fun b hb => by simp [hb]) _ _ (StsQ.snoc (.leaf _ _ _ _ (by simp)) (StsQ.heldBy (HeldBy.of_below hI.below hQs) (fun _ h => h) _ _ q1)), ?_⟩ (fun g hg => ?_) (hI.c8 (hl 8 (by omega))) y2 (show Below W.heap.size W w from ⟨hI.below.os, hI.below.tape, hI.below.output, hI.below.size, hI.below.block⟩)
  ·obtain ⟨pt, cap, hv, hq⟩ := row_read f2
   rw [List.length_append, List.length_singleton, List.flatten_append, ef]
   rcases hq with hq | ⟨g, off, rfl, h1, h2, h3⟩
   ·exact ⟨pt, cap, hv, .inl hq⟩
   ·exact ⟨_, cap, hv, .inr ⟨g, off, rfl, by rw [hv]; simp [Value.ownBlock], h3⟩⟩
  ·have hsz : W.heap.size ≤ b7 := y2
   rcases List.mem_append.1 hg with hg | hg
   ·have := f2.lt g (by simpa using hg)
    refine ⟨this.2, fun e => hob ?_⟩
    subst e
    simpa using hg
   ·have := hQs g hg
    have := hI.below.size
    exact ⟨Nat.lt_of_lt_of_le (hQs g hg) hI.below.size, by omega⟩
 all_goals simp [Array.getD]
end Go.Proofs.YtkpdacfiglpgeaaGreatDoor

/- Layer 14's laws: what a part did is undone. -/
namespace Go.Proofs.YtkpdacfiglpgeaaGreatDoor
open Go.RowKit Bl Th Tx
open Lib (intOf)
set_option maxRecDepth 10000

/-- One of the statements, as a list of its own. -/
theorem SlQ.sub {Q : List Nat} {w : World} {l : List St} {v : Value} {i : Nat} {s : St} (hl : SlQ Q w l v) (hi : l[i]? = some s) : ∃ g off cap, v = .slice (some ⟨g, off, none⟩) l.length cap ∧ ∀ c', SlQ Q w [s] (.slice (some ⟨g, off + i * 9, none⟩) 1 c') := by
 obtain ⟨cs, h1, pt, cap, rfl, h2⟩ := hl
 have hlt : i < l.length := (List.getElem?_eq_some_iff.1 hi).1
 rcases h2 with h2 | ⟨g, off, rfl, h3, h5⟩
 ·omega
 ·obtain ⟨c, hc, hq⟩ := h1.get hi
  refine ⟨g, off, cap, rfl, fun c' => ⟨[c], StsQ.cons hc (.nil _ _), _, _, rfl, .inr ⟨g, off + i * 9, rfl, h3, fun j x hx => ?_⟩⟩⟩
  have hx' : c[j]? = some x := by simpa using hx
  have hj : j < 9 := by
   have := (List.getElem?_eq_some_iff.1 hx').1
   rw [hc.len] at this
   exact this
  have := h5 (9 * i + j) x ((hq j hj).trans hx')
  rw [← Nat.add_assoc, Nat.mul_comm 9 i] at this
  exact this
theorem goes_exec {β : Type} {P : Tree (Nat × β)} {S S' : BS} {a : Nat × β} {k : Nat} (h : Goes P S a S' k) (hk : k ≤ 3400) : ∃ c, (exec P c).1 = a := by
 obtain ⟨h1, h2, h3, h4⟩ := h 0 (by omega)
 obtain ⟨D, hD⟩ : ∃ D, (direct P 0 S).2 = D := ⟨_, rfl⟩
 have hd : direct P 0 S = (a, D) := by rw [← h2, ← hD]
 rw [hD] at h3
 have hst := exec_step P [] D.length S h1
 simp only [List.length_nil, hd, List.nil_append, Nat.zero_add] at hst
 rcases hst (Nat.le_refl _) (by omega) with ⟨q, -⟩ | ⟨-, q⟩
 ·omega
 ·exact ⟨_, by rw [q]⟩
theorem bodyX_told (p : List St) (clock : Nat) (cells : List Nat) (c : CS) (s : Rsl × List Int) (h0 : (exec (bodyX p clock cells) c).1.1 = 0) : ((exec (bodyX p clock cells) c).1.2 s).2.length ≤ wlogL p := by
 unfold bodyX at h0 ⊢
 simp only [exec_bind] at h0 ⊢
 split at h0
 ·rename_i q
  rw [if_pos q]
  simp only [exec_bind, exec]
  have := (rAll_b cells p .none (exec (tBegin clock 1) c).1.2 (exec (tBegin clock 1) c).2).told
  simp only [Rn.none, List.length_nil, Nat.zero_add] at this
  exact this
 ·rename_i q
  exact absurd h0 q
/-- What TxnUndone runs. -/
theorem undone_run {n : Nat} (h1 : 1 ≤ n) (h4 : n ≤ 4) {q : List St} (hq : cntL q ≤ 250) {key : Nat} (hk : key < n) (waits : Bool) (hr : (rightV [1] [stGet key, stPart waits q, stGet key]).1 = 0) (he : endsL q = false) :
  ∃ m L k, m.length ≤ wlogL [stGet key, stPart waits q, stGet key] ∧ Th.run (treeBody fun _ => bodyX [stGet key, stPart waits q, stGet key] 1 (sceneCells n)) 8000 (0, Th.start (Rsl.zero, ([] : List Int)), sceneS n) = (0, ⟨L, 0, k, true, 0, (⟨1, 0, false, false⟩, ((10 + key : Nat) : Int) :: (m ++ [((10 + key : Nat) : Int)]))⟩, sceneS n) := by
 obtain ⟨m, hg⟩ := undone_goes (n := n) h1 h4 (scene4_sc h1 h4) (ver := fun _ => 0) (fun _ _ => Nat.le_refl _) (by decide) hk waits (fun x hx => (right_all hr x (by
  unfold stPart
  simp only [flatL, flatS, List.append_nil, List.mem_append, List.mem_cons]
  refine .inr (.inl (.inr ?_))
  rw [flat_app]
  simp [hx])).1) he
 obtain ⟨s', L, k, e⟩ := goes_run hg (by omega) 8000 (by omega) (by omega) (Rsl.zero, ([] : List Int))
 refine ⟨m, L, k, ?_, ?_⟩
 ·obtain ⟨c, hc⟩ := goes_exec hg (by omega)
  have := bodyX_told [stGet key, stPart waits q, stGet key] 1 (cellsN n) c (Rsl.zero, []) (by rw [hc])
  rw [hc] at this
  simp only [List.length_cons, List.length_append] at this
  omega
 have et : toI (10 + key) = ((10 + key : Nat) : Int) := by unfold toI; rw [if_pos (by omega)]
 simp only [et] at e
 exact e
theorem undone_side {q : List St} (hq : cntL q ≤ 250) {key : Nat} (waits : Bool) (hr : (rightV [1] [stGet key, stPart waits q, stGet key]).1 = 0) (he : endsL q = false) : cntL [stGet key, stPart waits q, stGet key] ≤ 260 ∧ rgL [stGet key, stPart waits q, stGet key] ∧ wlogL [stGet key, stPart waits q, stGet key] ≤ 900 := by
 have := wlog_cntL q he
 refine ⟨?_, right_rgL hr, ?_⟩
 ·unfold stPart stGet stEnd
  simp only [cntL, cntS, cnt_app]
  omega
 ·unfold stPart stGet stEnd
  cases waits <;> simp only [wlogL, wlogS, wlogH, wlog_app] <;> simp <;> omega
def getV (key : Nat) : List Value := stL 1 ⟨1, 0, 1, (0, (key : Int)), (0, 0)⟩ (.slice none 0 0) (.slice none 0 0)
def UndJ (w3 : World) (q : List St) (i : Value) (wr : World) : Prop := ∃ k : Nat, k ≤ q.length ∧ i = .int .i64 (k : Int) ∧ Below w3.heap.size w3 wr ∧ endsL q = endsL (q.drop k)
theorem cnt_get1 {l : List St} {k : Nat} {s : St} (h : l[k]? = some s) : cntL [s] ≤ cntL l := by
 obtain ⟨h0, b, e⟩ := s
 have := cnt_get h
 rw [cntL, cntS, show cntL [] = 0 from by rw [cntL]]
 omega
theorem cb {B : Nat} {w w' : World} {g : Nat} {o : Nat} {v : Value} (h : Below B w w') (hl : g < B) (e : w.cell? ⟨g, o, none⟩ = some v) : w'.cell? ⟨g, o, none⟩ = some v :=
 (World.cell?_of_block (a := ⟨g, o, none⟩) (h.block g hl)).trans e
def partL (kd : Nat) (v : Value) : List Value := stL (kd : Int) ⟨kd, 0, 0, (0, 0), (0, 0)⟩ v (.slice none 0 0)
/-- The three statements. -/
theorem three_sts {Q : List Nat} {w : World} {l : List St} {v : Value} {key : Nat} (waits : Bool) (h : SlQ Q w (l ++ [stEnd (if waits then 15 else 16)]) v) (hQ : ∀ g ∈ Q, g < w.heap.size) :
  SlQ (w.heap.size :: Q) (w.alloc (.cells (getV key ++ (partL (if waits then 14 else 13) v ++ getV key)).toArray 50)) [stGet key, stPart waits l, stGet key] (.slice (some ⟨w.heap.size, 0, none⟩) 3 3) := by
 have B := (Below.refl w.heap.size w).alloc (Nat.le_refl _) (.cells (getV key ++ (partL (if waits then 14 else 13) v ++ getV key)).toArray 50)
 have C := Cells.new w (getV key ++ (partL (if waits then 14 else 13) v ++ getV key)) 50
 obtain ⟨cb, h1, h2⟩ := (h.heldBy (HeldBy.of_below B hQ) (fun _ h => h)).more (Q' := w.heap.size :: Q) (fun b hb => List.mem_cons_of_mem _ hb)
 have hg : ∀ w', StQ (w.heap.size :: Q) w' (stGet key) (getV key) := fun w' => .leaf _ _ _ _ rfl
 have hp : StQ (w.heap.size :: Q) (w.alloc (.cells (getV key ++ (partL (if waits then 14 else 13) v ++ getV key)).toArray 50)) (stPart waits l) (partL (if waits then 14 else 13) v) := by
  unfold stPart StQ
  exact ⟨_, _, _, cb, [], by simp, rfl, h1, h2, by unfold StsQ; rfl, RowQ.none _ _⟩
 refine ⟨[getV key, partL (if waits then 14 else 13) v, getV key], .cons (hg _) (.cons hp (.cons (hg _) (.nil _ _))), ?_⟩
 have := RowQ.new (Q := w.heap.size :: Q) (n := 3) (cap := 3) C (List.mem_cons_self ..)
 simpa using this
set_option maxHeartbeats 16000000 in
theorem txnUndone_ok {l : List St} {v : Value} (a1 a2 : Int) (wt : Bool) {W : World} (hl : SlR W.heap.size W l v) (hT : Handle W) : Calls Tryz.prog 4 #[v, .int .i64 a1, .int .i64 a2, .bool wt] W fun e w' => e = .returned (.bool true) ∧ Below W.heap.size W w' := by
 obtain ⟨m, hm, hm4⟩ : ∃ m : Nat, a1 % 4 = (m : Int) ∧ m < 4 := ⟨(a1 % 4).toNat, by omega, by omega⟩
 obtain ⟨key, hkey, hkn⟩ : ∃ key : Nat, a2 % (1 + (m : Int)) = (key : Int) ∧ key < 1 + m := ⟨(a2 % (1 + (m : Int))).toNat, by
  have := Int.emod_nonneg a2 (show (1 + (m : Int)) ≠ 0 by omega)
  omega, by
  have := Int.emod_lt_of_pos a2 (show (0 : Int) < 1 + (m : Int) by omega)
  have := Int.emod_nonneg a2 (show (1 + (m : Int)) ≠ 0 by omega)
  omega⟩
 have HT := Lib.hid hT
 have hMOD := mod_ok a1 4 (by omega) (by omega) W
 rw [hm] at hMOD
 have HMOD := Lib.hid hMOD
 have hMODK := fun w : World => mod_ok a2 (1 + (m : Int)) (by omega) (by omega) w
 simp only [hkey] at hMODK
 have HMODK := Lib.hid hMODK
 have HMODE := Lib.hid hMODK
 have HFEW := Lib.hid (few_ok hl (Nat.le_refl _))
 have HFC := Lib.hid (fun h => few_cnt (l := l) h)
 obtain ⟨pt, cp, rfl⟩ := hl.shape
 have HL := Lib.hid hl
 have hn1 : (1 : Int) ≤ 1 + (m : Int) := by omega
 have hn4 : 1 + (m : Int) ≤ 4 := by omega
 clear hl hT hMOD hm hMODK hkey
 cases wt
 ·skip
  go_enter Tryz.func4, Tryz.ntmps4
  go_wp2_with fail
  refine HMOD.out.mono ?_
  rintro e w' ⟨rfl, rfl⟩
  go_wp2_with fail
  refine HFEW.out.mono ?_
  rintro e w1 ⟨rfl, hb1⟩
  have HB := Lib.hid hb1
  by_cases hfew : wtL 0 l ≤ 250
  ·have hcl := HFC.out hfew
   rw [decide_eq_true hfew]
   have hPL := plain_all W.heap.size hn1 hn4 (cntL l + 1) l _ w1 (by omega) (by omega) (HL.out.below hb1 (Nat.le_refl _)) hb1.size
   have hpc := cnt_plainL (1 + (m : Int)) l
   obtain ⟨q, hq⟩ : ∃ q, plainL (1 + (m : Int)) l = q := ⟨_, rfl⟩
   have hPL' : Calls Tryz.prog 16 #[.slice pt l.length cp, .int .i64 (1 + (m : Int))] w1 fun e w' => ∃ v' Q, e = .returned (.tuple #[v', .bool true]) ∧ SlQ Q w' q v' ∧ (∀ g ∈ Q, w1.heap.size ≤ g ∧ g < w'.heap.size) ∧ Below w1.heap.size w1 w' ∧ roomS v' := by
    rw [← hq]; exact hPL
   rw [hq] at hpc
   have hqc : cntL q ≤ 250 := by omega
   have HPL := Lib.hid hPL'
   clear hPL hPL' hq hpc hcl hfew hb1 HFEW HMOD HFC HL
   go_wp2_with fail
   refine HPL.out.mono ?_
   rintro e w2 ⟨v2, Q, rfl, hsl, hQ, hb2, hroom⟩
   obtain ⟨p2, c2, rfl⟩ := hsl.shape
   have hroom' : q.length ≤ c2 := hroom
   have hQl : ∀ g ∈ Q, g < w2.heap.size := fun g hg => (hQ g hg).2
   have HB2 := Lib.hid (HB.out.trans (hb2.mono HB.out.size))
   have HSL := Lib.hid hsl
   have HQL := Lib.hid hQl
   have HM2 := Lib.hid (HMODK.out w2)
   clear hsl hQ hb2 hQl HPL HB hroom HMODK
   have HB := HB2
   clear HB2
   go_wp2_with fail
   refine HM2.out.mono ?_
   rintro e w' ⟨rfl, rfl⟩
   clear HM2
   go_upto_region 9 with (fail)
   obtain ⟨w3, hw3⟩ : ∃ w3, ((w2.alloc (.cells #[.int .i64 1, .int .i64 0, .int .i64 1, .int .i64 0, .int .i64 (key : Int), .int .i64 0, .int .i64 0, .slice none 0 0, .slice none 0 0] 50)).alloc (.cells #[.int .i64 16, .int .i64 0, .int .i64 0, .int .i64 0, .int .i64 0, .int .i64 0, .int .i64 0, .slice none 0 0, .slice none 0 0] 50)) = w3 := ⟨_, rfl⟩
   have CG := (Cells.new w2 (getV key) 50).alloc (.cells #[.int .i64 16, .int .i64 0, .int .i64 0, .int .i64 0, .int .i64 0, .int .i64 0, .int .i64 0, .slice none 0 0, .slice none 0 0] 50)
   have CE := Cells.new (w2.alloc (.cells (getV key).toArray 50)) (endV 16) 50
   have b3 := ((Below.refl w2.heap.size w2).alloc (Nat.le_refl _) (.cells (getV key).toArray 50)).alloc (by simp) (.cells (endV 16).toArray 50)
   rw [show (w2.alloc (.cells (getV key).toArray 50)).heap.size = w2.heap.size + 1 by simp] at CE
   rw [hw3]
   have CG' : Cells w3 w2.heap.size (getV key) 50 := by rw [← hw3]; exact CG
   have CE' : Cells w3 (w2.heap.size + 1) (endV 16) 50 := by rw [← hw3]; exact CE
   have b3' : Below w2.heap.size w2 w3 := by rw [← hw3]; exact b3
   have HB3 := Lib.hid (HB.out.trans (b3'.mono HB.out.size))
   have HSL3 := Lib.hid (HSL.out.heldBy (HeldBy.of_below b3' HQL.out) (fun _ h => h))
   have HQ2 := Lib.hid (show ∀ g ∈ Q, g < w2.heap.size from HQL.out)
   have HZ3 := Lib.hid b3'.size
   obtain ⟨pg, hpg⟩ : ∃ pg, w2.heap.size = pg := ⟨_, rfl⟩
   rw [hpg] at CG' CE' HQ2 HZ3 ⊢
   have HCG := Lib.hid CG'; have HCE := Lib.hid CE'
   clear CG CE b3 hw3 CG' CE' b3' HB HSL HQL hpg
   have HB := HB3
   clear HB3
   go_wp2
   go_loopw [46] (UndJ w3 q) (fun i _ => q.length - (intOf i).toNat)
   case atStart => exact ⟨0, Nat.zero_le _, rfl, Below.refl _ _, rfl⟩
   case round =>
    obtain ⟨k, hk, rfl, hbk, hek⟩ := hrel
    by_cases hlt : k < q.length
    ·have hlt' : (k : Int) < (q.length : Int) := by omega
     obtain ⟨s, hs⟩ : ∃ s, q[k]? = some s := ⟨_, List.getElem?_eq_getElem hlt⟩
     have hQw : ∀ g ∈ Q, g < wr.heap.size := fun g hg => by have := HQ2.out g hg; have := HZ3.out; have := hbk.size; omega
     have hslk := HSL3.out.heldBy (HeldBy.of_below hbk (fun g hg => by have := HQ2.out g hg; have := HZ3.out; omega)) (fun _ h => h)
     obtain ⟨g, off, cap, hv, hsub⟩ := hslk.sub hs
     simp only [Value.slice.injEq] at hv
     obtain ⟨rfl, -, rfl⟩ := hv
     have hEN := ends_all wr.heap.size (cntL [s] + 1) [s] (.slice (some ⟨g, off + k * 9, none⟩) 1 (c2 - k)) wr (by omega) (by
      have := cnt_get1 hs
      omega) ((hsub (c2 - k)).toR (B := wr.heap.size) fun b hb => ⟨hQw b hb, hQw b hb⟩) (Nat.le_refl _)
     obtain ⟨eb, heb⟩ : ∃ eb, endsL [s] = eb := ⟨_, rfl⟩
     rw [heb] at hEN
     have HEN := Lib.hid hEN
     have HEB := Lib.hid heb
     have HEK := Lib.hid hek
     have HED := Lib.hid (ends_drop q k s hs)
     have HBK := Lib.hid hbk
     have hlq := len_cnt q
     have hk250 : k < 250 := by omega
     have hk0 : (0 : Int) ≤ (k : Int) + 1 := by omega
     have hk1 : (k : Int) ≤ (k : Int) + 1 := by omega
     have hk2 : k + 1 ≤ c2 := by omega
     have hki : (k : Int) + 1 ≤ (c2 : Int) := by omega
     clear hEN heb hek hbk hs hsub hslk hQw
     go_wp2_with fail
     refine HEN.out.mono ?_
     rintro e w5 ⟨rfl, hb5⟩
     have HB5 := Lib.hid (HBK.out.trans (hb5.mono HBK.out.size))
     clear hb5 HEN HBK
     cases eb
     ·have hes : endsS s = false := by
       have := HEB.out
       unfold endsL at this
       simpa [endsL] using this
      have HNX := Lib.hid (show endsL q = endsL (q.drop (k + 1)) by rw [HEK.out, HED.out, hes]; rfl)
      clear hes
      go_wp2_with fail
      go_roundw
      case rel => exact ⟨k + 1, by omega, by go_num, HB5.out, HNX.out⟩
      case measure => simp [intOf]; omega
     ·have HBo := HB
      clear HB
      have HB := Lib.hid (HBo.out.trans (HB5.out.mono HBo.out.size))
      go_wp2_with fail
      refine (alive14_ok _ (Handle.below HT.out HT.out.lt HB.out)).mono ?_
      rintro e w' ⟨rfl, hb'⟩
      have HBE := Lib.hid (HB.out.trans (hb'.mono HB.out.size))
      clear hb'
      go_wp2
      go_ret
      exact ⟨rfl, HBE.out⟩
    ·obtain rfl : k = q.length := by omega
     have HEND := Lib.hid (show endsL q = false by rw [hek, List.drop_length]; unfold endsL; rfl)
     have HBK := Lib.hid hbk
     have g3 : decide ((q.length : Int) < (q.length : Int)) = false := by simp
     have hlq := len_cnt q
     clear hek hbk
     go_upto_region 15 with (fail)
     have hQw : ∀ g ∈ Q, g < wr.heap.size := fun g hg => by have := HQ2.out g hg; have := HZ3.out; have := HBK.out.size; omega
     have hslk := HSL3.out.heldBy (HeldBy.of_below HBK.out (fun g hg => by have := HQ2.out g hg; have := HZ3.out; omega)) (fun _ h => h)
     have hce := HCE.out.below HBK.out
     have hHS := hslk
     refine und15 (en := 16) ⟨rfl, by kernel_rfl, uo rfl rfl rfl rfl (by kernel_rfl), uo rfl rfl rfl rfl (by kernel_rfl), uo rfl rfl rfl rfl (by kernel_rfl), uo rfl rfl rfl rfl (by kernel_rfl), uo rfl rfl rfl rfl (by kernel_rfl), uo rfl rfl rfl rfl (by kernel_rfl), uo rfl rfl rfl rfl (by kernel_rfl), uo rfl rfl rfl rfl (by kernel_rfl), uo rfl rfl rfl rfl (by kernel_rfl)⟩ (by simp) rfl rfl hce (by omega) hslk hQw ?_
     intro x57 x58 x59 x60 x61 x62 x63 pq cq b7 w5 hsl5 hq5 hc5 hb75 hb5
     simp only [Act.put, List.setIfInBounds_toArray, List.set_cons_zero, List.set_cons_succ]
     rename_i hK
     refine hK _ _ ?_
     clear hK
     have hB5 := HBK.out.trans (hb5.mono HBK.out.size)
     have HSL5 := Lib.hid hsl5; have HQ5 := Lib.hid hq5; have HC5 := Lib.hid hc5; have HB75 := Lib.hid hb75; have HBK' := Lib.hid HBK.out.size; have HB5 := Lib.hid hB5; have HG5 := Lib.hid (HCG.out.below hB5)
     obtain ⟨e50, f50⟩ := (show w5.cell? ⟨b7, 0, none⟩ = some (.int .i64 13) ∧ w5.frozen? ⟨b7, 0, none⟩ = false from ⟨hc5.cell 0, hc5.free 0⟩)
     clear hsl5 hq5 hc5 hb75 hb5 hB5 hslk hQw hce hHS HBK HSL3 HQ2 HCE
     go_upto_region 18 with (fail)
     obtain ⟨w6, hw6⟩ : ∃ w6, w5 = w6 := ⟨_, rfl⟩
     have hC6 : Cells w6 b7 (partL 13 (.slice pq (q.length + 1) cq)) 50 := by rw [← hw6]; exact HC5.out
     have hG6 : Cells w6 pg (getV key) 50 := by rw [← hw6]; exact HG5.out
     have hB6 : Below w3.heap.size w3 w6 := by rw [← hw6]; exact HB5.out
     have hSL6 : SlQ ((Value.slice pq (q.length + 1) cq).ownBlock.toList ++ Q) w6 (q ++ [stEnd 16]) (.slice pq (q.length + 1) cq) := by rw [← hw6]; exact HSL5.out
     have hQ6 : ∀ g ∈ (Value.slice pq (q.length + 1) cq).ownBlock.toList ++ Q, g < w6.heap.size := fun g hg => by rw [← hw6]; exact (HQ5.out g hg).1
     rw [hw6]
     obtain ⟨Q6, hQe⟩ : ∃ Q6, (Value.slice pq (q.length + 1) cq).ownBlock.toList ++ Q = Q6 := ⟨_, rfl⟩
     rw [hQe] at hSL6 hQ6
     have hT6 := three_sts (key := key) false hSL6 hQ6
     have C7 := Cells.new (w6.alloc (.cells (getV key ++ (partL 13 (.slice pq (q.length + 1) cq) ++ getV key)).toArray 50)) [.int .i64 1] 3
     have bT := (Below.refl w6.heap.size w6).alloc (Nat.le_refl _) (.cells (getV key ++ (partL 13 (.slice pq (q.length + 1) cq) ++ getV key)).toArray 50)
     have b77 := (Below.refl (w6.alloc (.cells (getV key ++ (partL 13 (.slice pq (q.length + 1) cq) ++ getV key)).toArray 50)).heap.size (w6.alloc (.cells (getV key ++ (partL 13 (.slice pq (q.length + 1) cq) ++ getV key)).toArray 50))).alloc (Nat.le_refl _) (.cells #[.int .i64 1] 3)
     obtain ⟨wt, hwt⟩ : ∃ wt, w6.alloc (.cells (getV key ++ (partL 13 (.slice pq (q.length + 1) cq) ++ getV key)).toArray 50) = wt := ⟨_, rfl⟩
     simp only [Bool.false_eq_true, if_false] at hT6
     rw [hwt] at hT6 C7 bT b77
     obtain ⟨w7, hw7⟩ : ∃ w7, wt.alloc (.cells #[.int .i64 1] 3) = w7 := ⟨_, rfl⟩
     rw [hw7] at C7 b77
     have hqT : ∀ b ∈ w6.heap.size :: Q6, b < wt.heap.size := fun b hb => by
      have hz : wt.heap.size = w6.heap.size + 1 := by rw [← hwt]; simp
      rcases List.mem_cons.1 hb with e | e
      ·omega
      ·have := hQ6 b e; omega
     have hq7 : ∀ b ∈ w6.heap.size :: Q6, b < w7.heap.size := fun b hb => Nat.lt_of_lt_of_le (hqT b hb) b77.size
     have hsl7 := hT6.heldBy (HeldBy.of_below b77 hqT) (fun _ h => h)
     have hkin : KindsL w7 wt.heap.size [1] := ⟨C7.lt, fun j x hx => by
      rw [C7.cell j]
      cases j with
      | zero => simp only [List.getElem?_cons_zero, Option.some.injEq] at hx ⊢; rw [hx]
      | succ j => simp at hx⟩
     have hcq : cntL [stGet key, stPart false q, stGet key] ≤ 900 := by
      unfold stPart stGet stEnd
      simp only [cntL, cntS, cnt_app]
      omega
     have HRD := Lib.hid (rightD_ok (cap := 1) (hsl7.toR (B := w7.heap.size) fun g hg => ⟨hq7 g hg, hq7 g hg⟩) (Nat.le_refl _) [1] hkin hcq)
     have HB7 := Lib.hid (HB.out.trans ((hB6.trans ((bT.trans (b77.mono bT.size)).mono hB6.size)).mono HB.out.size))
     have HSL7 := Lib.hid hsl7; have HQL7 := Lib.hid hq7; have HW7 := Lib.hid hw7; have HWT := Lib.hid (show w6.alloc (.cells #[.int .i64 1, .int .i64 0, .int .i64 1, .int .i64 0, .int .i64 (key : Int), .int .i64 0, .int .i64 0, .slice none 0 0, .slice none 0 0, .int .i64 13, .int .i64 0, .int .i64 0, .int .i64 0, .int .i64 0, .int .i64 0, .int .i64 0, .slice pq (q.length + 1) cq, .slice none 0 0, .int .i64 1, .int .i64 0, .int .i64 1, .int .i64 0, .int .i64 (key : Int), .int .i64 0, .int .i64 0, .slice none 0 0, .slice none 0 0] 50) = wt from hwt); have HZT := Lib.hid (show w6.heap.size + 1 = wt.heap.size by rw [← hwt]; simp)
     have HSL6 := Lib.hid (hSL6.heldBy (HeldBy.of_below (bT.trans (b77.mono bT.size)) hQ6) (fun _ h => h)); have HQ6 := Lib.hid (show ∀ g ∈ Q6, g < w7.heap.size from fun g hg => Nat.lt_of_lt_of_le (hQ6 g hg) (bT.trans (b77.mono bT.size)).size)
     have b67 := bT.trans (b77.mono bT.size)
     have HC7 := Lib.hid (hC6.below b67); have HG7 := Lib.hid (hG6.below b67)
     obtain ⟨g0, g1, g2, g3', g4, g5, g6, g7, g8⟩ := (nine_cells hG6).1
     obtain ⟨k0, k1, k2, k3, k4, k5, k6, k7, k8⟩ := (nine_cells hC6).1
     obtain ⟨Q7, hQ7⟩ : ∃ Q7, w6.heap.size :: Q6 = Q7 := ⟨_, rfl⟩
     rw [hQ7] at HSL7 HQL7
     obtain ⟨rv, hrv⟩ : ∃ rv, rightV [1] [stGet key, stPart false q, stGet key] = rv := ⟨_, rfl⟩
     rw [hrv] at HRD
     have HRV := Lib.hid hrv
     obtain ⟨rc, rn⟩ := rv
     clear hsl7 hq7 hkin hcq hT6 C7 bT b77 hqT hSL6 hQ6 hC6 hG6 hB6 hQe hrv hw7 hwt hQ7 hw6 HB5 HG5 HC5 HSL5 HQ5 HB75 HBK' b67 e50 f50 HCG
     go_wp2_with fail
     rw [HWT.out, HW7.out, HZT.out]
     refine HRD.out.mono ?_
     rintro e w8 ⟨rfl, hb8⟩
     have HB := Lib.hid (HB7.out.trans (hb8.mono HB7.out.size))
     have HSL8 := Lib.hid (HSL6.out.heldBy (HeldBy.of_below hb8 HQ6.out) (fun _ h => h))
     have HQL8 := Lib.hid (fun g (hg : g ∈ Q6) => Nat.lt_of_lt_of_le (HQ6.out g hg) hb8.size)
     have HC8 := Lib.hid (HC7.out.below hb8); have HG8 := Lib.hid (HG7.out.below hb8)
     clear hb8 HB7 HSL7 HQL7 HRD HC7 HG7 HWT HW7 HZT HSL6 HQ6 g0 g1 g2 g3' g4 g5 g6 g7 g8 k0 k1 k2 k3 k4 k5 k6 k7 k8
     by_cases hrc : rc = 0
     ·subst hrc
      have hr1 : (rightV [1] [stGet key, stPart false q, stGet key]).1 = 0 := by rw [HRV.out]
      obtain ⟨side1, side2, side3⟩ := undone_side hqc false hr1 HEND.out
      obtain ⟨mt, L, kk, hmtl, hrun⟩ := undone_run (n := 1 + m) (by omega) (by omega) hqc hkn false hr1 HEND.out
      have hh8 : Handle w8 := Handle.below HT.out HT.out.lt HB.out
      have hSC := scene_ok hh8 (n := 1 + m) (by omega) (by omega) w8 rfl
      rw [show ((1 + m : Nat) : Int) = 1 + (m : Int) by omega] at hSC
      have HSC := Lib.hid hSC
      have HH8 := Lib.hid hh8; have HRUN := Lib.hid hrun
      have HSIDE := Lib.hid (And.intro side1 (And.intro side2 side3))
      have g1 : ((0 : Int) != 0) = false := by simp
      have hmt : mt.length ≤ 900 := by omega
      clear hmtl hSC hh8 hrun side1 side2 side3 hr1 HRV
      go_wp2_with fail
      refine HSC.out.mono ?_
      rintro e w9 ⟨pa, pb, g, rfl, hh9, hc9, hg9⟩
      have B10 := (Below.refl w9.heap.size w9).alloc (Nat.le_refl _) (.cells #[.int .i64 0, .int .i64 0, .bool false, .bool false, .slice none 0 0] 60)
      have C10 := Cells.new w9 [.int .i64 0, .int .i64 0, .bool false, .bool false, .slice none 0 0] 60
      have hgl := hh9.held g (by simp)
      have hc10 := hc9.heldBy (HeldBy.of_below (R := [g]) B10 hh9.held) (by simp)
      have hh10 := hh9.came B10 [w9.heap.size] (by simp)
      obtain ⟨wo, hwo⟩ : ∃ wo, w9.alloc (.cells #[.int .i64 0, .int .i64 0, .bool false, .bool false, .slice none 0 0] 60) = wo := ⟨_, rfl⟩
      obtain ⟨po, hpo⟩ : ∃ po, w9.heap.size = po := ⟨_, rfl⟩
      have hpW : w8.heap.size ≤ po := by rw [← hpo]; exact hh9.below.size
      rw [hpo] at hgl
      rw [hwo] at hc10 hh10 C10
      rw [hpo] at hh10 C10
      have hsl10 := HSL8.out.heldBy (HeldBy.of_below hh10.below HQL8.out) (fun _ h => h)
      have hQ10 : ∀ g ∈ Q6, g < wo.heap.size := fun g hg => Nat.lt_of_lt_of_le (HQL8.out g hg) hh10.below.size
      have hT := three_sts (key := key) false hsl10 hQ10
      simp only [Bool.false_eq_true, if_false] at hT
      have hcx := HC8.out.below hh10.below; have hgx := HG8.out.below hh10.below
      obtain ⟨g0, g1', g2, g3', g4, g5, g6, g7, g8⟩ := (nine_cells hgx).1
      obtain ⟨k0, k1, k2, k3, k4, k5, k6, k7, k8⟩ := (nine_cells hcx).1
      have BL := (Below.refl wo.heap.size wo).alloc (Nat.le_refl _) (.cells (getV key ++ (partL 13 (.slice pq (q.length + 1) cq) ++ getV key)).toArray 50)
      obtain ⟨wl, hwl⟩ : ∃ wl, wo.alloc (.cells (getV key ++ (partL 13 (.slice pq (q.length + 1) cq) ++ getV key)).toArray 50) = wl := ⟨_, rfl⟩
      rw [hwl] at hT BL
      have hwlz : wl.heap.size = wo.heap.size + 1 := by rw [← hwl]; simp
      have hhl := hh10.came BL [wo.heap.size] (by simp; omega)
      have hcl := hc10.heldBy (HeldBy.of_below (R := [g]) BL (by simp; have := hh10.held g (by simp); omega)) (by simp)
      have Cl := C10.below BL
      have hpol : po < wo.heap.size := C10.lt
      have HN := Lib.hid (newX_ok (g := g) (R := g :: wo.heap.size :: Q6) (Q := wo.heap.size :: Q6) (n := 1 + m) (cap := 1 + m) (clock := 1) (cells := sceneCells (1 + m)) (p := [stGet key, stPart false q, stGet key]) HH8.out (by decide) (by simp [sceneCells]) (by omega) (by omega) (fun x hx => by
        simp only [sceneCells, List.mem_map, List.mem_range] at hx
        obtain ⟨j, hj, rfl⟩ := hx
        omega) (by have := HSIDE.out.1; omega) HSIDE.out.2.1 (by have := HSIDE.out.2.2; omega)
       (hhl.old (by
        intro b hb
        simp only [List.mem_cons] at hb
        rcases hb with rfl | rfl | rfl | hb
        ·exact .inl (by simp)
        ·exact .inl (by simp)
        ·exact .inl (by simp)
        ·exact .inr (HQL8.out b hb))) (fun hm => by
        rcases List.mem_cons.1 hm with e | e
        ·omega
        ·rcases List.mem_cons.1 e with e | e
         ·omega
         ·have := HQL8.out po e; omega) hpW (by simp) (fun b hb => List.mem_cons_of_mem _ hb) (fun k x hx => by
        rw [hcl.cell k, List.getElem?_map, hx]; rfl) hT Cl HRUN.out (by decide))
      have HCI := Lib.hid (show CellsIn wl g (sceneCells (1 + m)) from fun k x hx => by rw [hcl.cell k, List.getElem?_map, hx]; rfl)
      have HHW := Lib.hid hg9
      have hwlL : wo.alloc (.cells #[.int .i64 1, .int .i64 0, .int .i64 1, .int .i64 0, .int .i64 (key : Int), .int .i64 0, .int .i64 0, .slice none 0 0, .slice none 0 0, .int .i64 13, .int .i64 0, .int .i64 0, .int .i64 0, .int .i64 0, .int .i64 0, .int .i64 0, .slice pq (q.length + 1) cq, .slice none 0 0, .int .i64 1, .int .i64 0, .int .i64 1, .int .i64 0, .int .i64 (key : Int), .int .i64 0, .int .i64 0, .slice none 0 0, .slice none 0 0] 50) = wl := hwl
      clear hh9 hc9 hg9 hgl hc10 hh10 hsl10 C10 B10 hpW HSC hQ10 hT hcx hgx BL hwl hwlz hhl hcl Cl hpol
      go_wp2_with fail
      refine (body14_ok _ _ _ _ _ _ _ _ wl).mono ?_
      rintro e w11 ⟨rfl, rfl⟩
      go_wp2_with fail
      refine HN.out.mono ?_
      rintro e w12 ⟨pt', rfl, -, hrun⟩
      have HRUN2 := Lib.hid hrun
      clear hrun HN g0 g1' g2 g3' g4 g5 g6 g7 g8 k0 k1 k2 k3 k4 k5 k6 k7 k8 HCI HSIDE HSL8 HQL8 HC8 HG8 HRUN hwo hwlL
      go_upto_region 28 with (first
       | (go_at_call 23; refine HRUN2.out.mono ?_; rintro e w13 ⟨lv, L', nn', B', rfl, hc, hi, hh, hk, ht⟩; obtain ⟨y0, y1, y2, y3, y4⟩ := five_cells hc; have HHE := Lib.hid hh; have HI := Lib.hid hi; have HTH := Lib.hid ht; clear hc hi hh hk ht HRUN2)
       | (go_at_call 22; refine (no_nil _).mono ?_; rintro e w' ⟨rfl, rfl⟩))
      obtain ⟨lp, lc, rfl, hcell⟩ := HI.out
      obtain ⟨lg, rfl, hcel⟩ := hcell (by simp)
      have t0 := hcel 0 ((10 + key : Nat) : Int) rfl
      obtain ⟨kt, hkt⟩ : ∃ kt, mt.length + 2 = kt := ⟨_, rfl⟩
      have t1 := hcel (kt - 1) ((10 + key : Nat) : Int) (by rw [← hkt]; simp)
      have ell : (((10 + key : Nat) : Int) :: (mt ++ [((10 + key : Nat) : Int)])).length = mt.length + 2 := by simp
      rw [ell, hkt] at y4
      have hk2 : (2 : Int) ≤ (kt : Int) := by omega
      have hk2' : 2 ≤ kt := by omega
      have hk9 : kt ≤ 902 := by omega
      have hd2 : decide ((2 : Int) ≤ (kt : Int)) = true := decide_eq_true hk2
      have hk0 : 0 < kt := by omega
      obtain ⟨kl, hkl⟩ : ∃ kl, kt - 1 = kl := ⟨_, rfl⟩
      rw [hkl] at t1
      have hk1 : (kl : Int) < (kt : Int) := by omega
      have hk1' : kl < kt := by omega
      have hkw : IntKind.i64.wrap ((kt : Int) - 1) = (kl : Int) := by rw [IntWalk.i64_in _ (by omega)]; omega
      clear hkt ell hmt
      obtain ⟨kv, e10⟩ : ∃ kv, ((10 + key : Nat) : Int) = kv := ⟨_, rfl⟩
      have hkv : IntKind.i64.wrap (10 + (key : Int)) = kv := by rw [← e10, IntWalk.i64_in _ (by omega)]; omega
      rw [e10] at t0 t1
      clear e10
      have HDN := Lib.hid (tdone_ok (HTH.out.heldBy (w' := w13.drew) (R := B') ⟨Nat.le_refl _, fun _ _ => rfl⟩ (fun _ h => h)))
      have HAL := Lib.hid (alive14_ok w13.drew ((HHE.out.handle HH8.out).drewN 1))
      have HBF := Lib.hid (show Below W.heap.size W w13.drew from by
       have b1 := HHE.out.below.mono HB.out.size
       have b2 := HB.out.trans b1
       exact ⟨b2.os, b2.tape, b2.output, b2.size, b2.block⟩)
      have hpo13 : po < w13.drew.heap.size := HHE.out.held po (by simp)
      have hlg13 : lg < w13.drew.heap.size := HHE.out.held lg (by simp [Value.ownBlock])
      clear hcell hcel HI HTH HHE
      go_upto_region 29 with (fail)
      have HT0 := Lib.hid t0; have HT1 := Lib.hid t1; have HY := Lib.hid (And.intro y0 (And.intro y1 (And.intro y2 (And.intro y3 y4))))
      go_region_held3 (fun wx => wx.cell? ⟨po, 0, none⟩ = some (.int .i64 1) ∧ wx.cell? ⟨po, 1, none⟩ = some (.int .i64 0) ∧ wx.cell? ⟨po, 2, none⟩ = some (.bool false) ∧ wx.cell? ⟨po, 3, none⟩ = some (.bool false) ∧ wx.cell? ⟨po, 4, none⟩ = some (.slice (some ⟨lg, 0, none⟩) kt lc) ∧ wx.cell? ⟨lg, 0, none⟩ = some (.int .i64 kv) ∧ wx.cell? ⟨lg, kl, none⟩ = some (.int .i64 kv))
       (first | exact ⟨y0, y1, y2, y3, y4, t0, t1⟩ | exact ⟨z0, z1, z2, z3, z4, z5, z6⟩ | go_keep)
       (first
        | (go_at_call 24; refine HDN.out.mono ?_; rintro e w' ⟨rfl, rfl⟩)
        | (go_at_call 13; refine (HMODE.out _).mono ?_; rintro e w' ⟨rfl, rfl⟩)
        | (go_at_call 15; refine HAL.out.mono ?_; rintro e w14 ⟨rfl, hb14⟩; have HB14 := Lib.hid hb14; have z0 := cb hb14 hpo13 y0; have z1 := cb hb14 hpo13 y1; have z2 := cb hb14 hpo13 y2; have z3 := cb hb14 hpo13 y3; have z4 := cb hb14 hpo13 y4; have z5 := cb hb14 hlg13 t0; have z6 := cb hb14 hlg13 t1; clear hb14))
      all_goals
       have HBE := Lib.hid (HBF.out.trans (HB14.out.mono HBF.out.size))
       go_wp2
      all_goals
       go_ret
       exact ⟨rfl, HBE.out⟩
     ·have g1 : (rc != 0) = true := by simp [hrc]
      have g1' : (if ((rc : Int) != 0) = true then (true : Bool) else false) = true := by simp [hrc]
      clear hrc
      go_wp2_with fail
      refine (alive14_ok _ (Handle.below HT.out HT.out.lt HB.out)).mono ?_
      rintro e w' ⟨rfl, hb'⟩
      have HBE := Lib.hid (HB.out.trans (hb'.mono HB.out.size))
      clear hb'
      go_wp2
      go_ret
      exact ⟨rfl, HBE.out⟩
  ·rw [decide_eq_false hfew]
   clear hb1
   go_wp2_with fail
   refine (alive14_ok _ (Handle.below HT.out HT.out.lt HB.out)).mono ?_
   rintro e w' ⟨rfl, hb'⟩
   have HBE := Lib.hid (HB.out.trans (hb'.mono HB.out.size))
   clear hb'
   go_wp2
   go_ret
   exact ⟨rfl, HBE.out⟩
 ·skip
  go_enter Tryz.func4, Tryz.ntmps4
  go_wp2_with fail
  refine HMOD.out.mono ?_
  rintro e w' ⟨rfl, rfl⟩
  go_wp2_with fail
  refine HFEW.out.mono ?_
  rintro e w1 ⟨rfl, hb1⟩
  have HB := Lib.hid hb1
  by_cases hfew : wtL 0 l ≤ 250
  ·have hcl := HFC.out hfew
   rw [decide_eq_true hfew]
   have hPL := plain_all W.heap.size hn1 hn4 (cntL l + 1) l _ w1 (by omega) (by omega) (HL.out.below hb1 (Nat.le_refl _)) hb1.size
   have hpc := cnt_plainL (1 + (m : Int)) l
   obtain ⟨q, hq⟩ : ∃ q, plainL (1 + (m : Int)) l = q := ⟨_, rfl⟩
   have hPL' : Calls Tryz.prog 16 #[.slice pt l.length cp, .int .i64 (1 + (m : Int))] w1 fun e w' => ∃ v' Q, e = .returned (.tuple #[v', .bool true]) ∧ SlQ Q w' q v' ∧ (∀ g ∈ Q, w1.heap.size ≤ g ∧ g < w'.heap.size) ∧ Below w1.heap.size w1 w' ∧ roomS v' := by
    rw [← hq]; exact hPL
   rw [hq] at hpc
   have hqc : cntL q ≤ 250 := by omega
   have HPL := Lib.hid hPL'
   clear hPL hPL' hq hpc hcl hfew hb1 HFEW HMOD HFC HL
   go_wp2_with fail
   refine HPL.out.mono ?_
   rintro e w2 ⟨v2, Q, rfl, hsl, hQ, hb2, hroom⟩
   obtain ⟨p2, c2, rfl⟩ := hsl.shape
   have hroom' : q.length ≤ c2 := hroom
   have hQl : ∀ g ∈ Q, g < w2.heap.size := fun g hg => (hQ g hg).2
   have HB2 := Lib.hid (HB.out.trans (hb2.mono HB.out.size))
   have HSL := Lib.hid hsl
   have HQL := Lib.hid hQl
   have HM2 := Lib.hid (HMODK.out w2)
   clear hsl hQ hb2 hQl HPL HB hroom HMODK
   have HB := HB2
   clear HB2
   go_wp2_with fail
   refine HM2.out.mono ?_
   rintro e w' ⟨rfl, rfl⟩
   clear HM2
   go_upto_region 9 with (fail)
   obtain ⟨w3, hw3⟩ : ∃ w3, ((w2.alloc (.cells #[.int .i64 1, .int .i64 0, .int .i64 1, .int .i64 0, .int .i64 (key : Int), .int .i64 0, .int .i64 0, .slice none 0 0, .slice none 0 0] 50)).alloc (.cells #[.int .i64 15, .int .i64 0, .int .i64 0, .int .i64 0, .int .i64 0, .int .i64 0, .int .i64 0, .slice none 0 0, .slice none 0 0] 50)) = w3 := ⟨_, rfl⟩
   have CG := (Cells.new w2 (getV key) 50).alloc (.cells #[.int .i64 15, .int .i64 0, .int .i64 0, .int .i64 0, .int .i64 0, .int .i64 0, .int .i64 0, .slice none 0 0, .slice none 0 0] 50)
   have CE := Cells.new (w2.alloc (.cells (getV key).toArray 50)) (endV 15) 50
   have b3 := ((Below.refl w2.heap.size w2).alloc (Nat.le_refl _) (.cells (getV key).toArray 50)).alloc (by simp) (.cells (endV 15).toArray 50)
   rw [show (w2.alloc (.cells (getV key).toArray 50)).heap.size = w2.heap.size + 1 by simp] at CE
   rw [hw3]
   have CG' : Cells w3 w2.heap.size (getV key) 50 := by rw [← hw3]; exact CG
   have CE' : Cells w3 (w2.heap.size + 1) (endV 15) 50 := by rw [← hw3]; exact CE
   have b3' : Below w2.heap.size w2 w3 := by rw [← hw3]; exact b3
   have HB3 := Lib.hid (HB.out.trans (b3'.mono HB.out.size))
   have HSL3 := Lib.hid (HSL.out.heldBy (HeldBy.of_below b3' HQL.out) (fun _ h => h))
   have HQ2 := Lib.hid (show ∀ g ∈ Q, g < w2.heap.size from HQL.out)
   have HZ3 := Lib.hid b3'.size
   obtain ⟨pg, hpg⟩ : ∃ pg, w2.heap.size = pg := ⟨_, rfl⟩
   rw [hpg] at CG' CE' HQ2 HZ3 ⊢
   have HCG := Lib.hid CG'; have HCE := Lib.hid CE'
   clear CG CE b3 hw3 CG' CE' b3' HB HSL HQL hpg
   have HB := HB3
   clear HB3
   go_wp2
   go_loopw [46] (UndJ w3 q) (fun i _ => q.length - (intOf i).toNat)
   case atStart => exact ⟨0, Nat.zero_le _, rfl, Below.refl _ _, rfl⟩
   case round =>
    obtain ⟨k, hk, rfl, hbk, hek⟩ := hrel
    by_cases hlt : k < q.length
    ·have hlt' : (k : Int) < (q.length : Int) := by omega
     obtain ⟨s, hs⟩ : ∃ s, q[k]? = some s := ⟨_, List.getElem?_eq_getElem hlt⟩
     have hQw : ∀ g ∈ Q, g < wr.heap.size := fun g hg => by have := HQ2.out g hg; have := HZ3.out; have := hbk.size; omega
     have hslk := HSL3.out.heldBy (HeldBy.of_below hbk (fun g hg => by have := HQ2.out g hg; have := HZ3.out; omega)) (fun _ h => h)
     obtain ⟨g, off, cap, hv, hsub⟩ := hslk.sub hs
     simp only [Value.slice.injEq] at hv
     obtain ⟨rfl, -, rfl⟩ := hv
     have hEN := ends_all wr.heap.size (cntL [s] + 1) [s] (.slice (some ⟨g, off + k * 9, none⟩) 1 (c2 - k)) wr (by omega) (by
      have := cnt_get1 hs
      omega) ((hsub (c2 - k)).toR (B := wr.heap.size) fun b hb => ⟨hQw b hb, hQw b hb⟩) (Nat.le_refl _)
     obtain ⟨eb, heb⟩ : ∃ eb, endsL [s] = eb := ⟨_, rfl⟩
     rw [heb] at hEN
     have HEN := Lib.hid hEN
     have HEB := Lib.hid heb
     have HEK := Lib.hid hek
     have HED := Lib.hid (ends_drop q k s hs)
     have HBK := Lib.hid hbk
     have hlq := len_cnt q
     have hk250 : k < 250 := by omega
     have hk0 : (0 : Int) ≤ (k : Int) + 1 := by omega
     have hk1 : (k : Int) ≤ (k : Int) + 1 := by omega
     have hk2 : k + 1 ≤ c2 := by omega
     have hki : (k : Int) + 1 ≤ (c2 : Int) := by omega
     clear hEN heb hek hbk hs hsub hslk hQw
     go_wp2_with fail
     refine HEN.out.mono ?_
     rintro e w5 ⟨rfl, hb5⟩
     have HB5 := Lib.hid (HBK.out.trans (hb5.mono HBK.out.size))
     clear hb5 HEN HBK
     cases eb
     ·have hes : endsS s = false := by
       have := HEB.out
       unfold endsL at this
       simpa [endsL] using this
      have HNX := Lib.hid (show endsL q = endsL (q.drop (k + 1)) by rw [HEK.out, HED.out, hes]; rfl)
      clear hes
      go_wp2_with fail
      go_roundw
      case rel => exact ⟨k + 1, by omega, by go_num, HB5.out, HNX.out⟩
      case measure => simp [intOf]; omega
     ·have HBo := HB
      clear HB
      have HB := Lib.hid (HBo.out.trans (HB5.out.mono HBo.out.size))
      go_wp2_with fail
      refine (alive14_ok _ (Handle.below HT.out HT.out.lt HB.out)).mono ?_
      rintro e w' ⟨rfl, hb'⟩
      have HBE := Lib.hid (HB.out.trans (hb'.mono HB.out.size))
      clear hb'
      go_wp2
      go_ret
      exact ⟨rfl, HBE.out⟩
    ·obtain rfl : k = q.length := by omega
     have HEND := Lib.hid (show endsL q = false by rw [hek, List.drop_length]; unfold endsL; rfl)
     have HBK := Lib.hid hbk
     have g3 : decide ((q.length : Int) < (q.length : Int)) = false := by simp
     have hlq := len_cnt q
     clear hek hbk
     go_upto_region 15 with (fail)
     have hQw : ∀ g ∈ Q, g < wr.heap.size := fun g hg => by have := HQ2.out g hg; have := HZ3.out; have := HBK.out.size; omega
     have hslk := HSL3.out.heldBy (HeldBy.of_below HBK.out (fun g hg => by have := HQ2.out g hg; have := HZ3.out; omega)) (fun _ h => h)
     have hce := HCE.out.below HBK.out
     have hHS := hslk
     refine und15 (en := 15) ⟨rfl, by kernel_rfl, uo rfl rfl rfl rfl (by kernel_rfl), uo rfl rfl rfl rfl (by kernel_rfl), uo rfl rfl rfl rfl (by kernel_rfl), uo rfl rfl rfl rfl (by kernel_rfl), uo rfl rfl rfl rfl (by kernel_rfl), uo rfl rfl rfl rfl (by kernel_rfl), uo rfl rfl rfl rfl (by kernel_rfl), uo rfl rfl rfl rfl (by kernel_rfl), uo rfl rfl rfl rfl (by kernel_rfl)⟩ (by simp) rfl rfl hce (by omega) hslk hQw ?_
     intro x57 x58 x59 x60 x61 x62 x63 pq cq b7 w5 hsl5 hq5 hc5 hb75 hb5
     simp only [Act.put, List.setIfInBounds_toArray, List.set_cons_zero, List.set_cons_succ]
     rename_i hK
     refine hK _ _ ?_
     clear hK
     have hB5 := HBK.out.trans (hb5.mono HBK.out.size)
     have HSL5 := Lib.hid hsl5; have HQ5 := Lib.hid hq5; have HC5 := Lib.hid hc5; have HB75 := Lib.hid hb75; have HBK' := Lib.hid HBK.out.size; have HB5 := Lib.hid hB5; have HG5 := Lib.hid (HCG.out.below hB5)
     obtain ⟨e50, f50⟩ := (show w5.cell? ⟨b7, 0, none⟩ = some (.int .i64 13) ∧ w5.frozen? ⟨b7, 0, none⟩ = false from ⟨hc5.cell 0, hc5.free 0⟩)
     clear hsl5 hq5 hc5 hb75 hb5 hB5 hslk hQw hce hHS HBK HSL3 HQ2 HCE
     go_upto_region 18 with (fail)
     obtain ⟨w6, hw6⟩ : ∃ w6, w5.setCell ⟨b7, 0, none⟩ (.int .i64 14) = w6 := ⟨_, rfl⟩
     have hk6 := (Kept.refl (fun k => k = b7) w5).setCell (p := ⟨b7, 0, none⟩) (fun _ => rfl) (.int .i64 14)
     rw [hw6] at hk6
     have hpg : pg < w3.heap.size := (HCG.out).lt
     have hbw : w3.heap.size ≤ b7 := Nat.le_trans HBK'.out HB75.out
     have hC6 : Cells w6 b7 (partL 14 (.slice pq (q.length + 1) cq)) 50 := by rw [← hw6]; exact HC5.out.set 0 _
     have hG6 : Cells w6 pg (getV key) 50 := HG5.out.kept hk6 (by omega)
     have hB6 : Below w3.heap.size w3 w6 := HB5.out.trans (hk6.below HB5.out.size fun b hb e => by omega)
     have hSL6 : SlQ ((Value.slice pq (q.length + 1) cq).ownBlock.toList ++ Q) w6 (q ++ [stEnd 15]) (.slice pq (q.length + 1) cq) := HSL5.out.heldBy (R := (Value.slice pq (q.length + 1) cq).ownBlock.toList ++ Q) ⟨hk6.size, fun g hg => hk6.block g (HQ5.out g hg).1 (HQ5.out g hg).2⟩ (fun _ h => h)
     have hQ6 : ∀ g ∈ (Value.slice pq (q.length + 1) cq).ownBlock.toList ++ Q, g < w6.heap.size := fun g hg => Nat.lt_of_lt_of_le (HQ5.out g hg).1 hk6.size
     rw [hw6]
     obtain ⟨Q6, hQe⟩ : ∃ Q6, (Value.slice pq (q.length + 1) cq).ownBlock.toList ++ Q = Q6 := ⟨_, rfl⟩
     rw [hQe] at hSL6 hQ6
     have hT6 := three_sts (key := key) true hSL6 hQ6
     have C7 := Cells.new (w6.alloc (.cells (getV key ++ (partL 14 (.slice pq (q.length + 1) cq) ++ getV key)).toArray 50)) [.int .i64 1] 3
     have bT := (Below.refl w6.heap.size w6).alloc (Nat.le_refl _) (.cells (getV key ++ (partL 14 (.slice pq (q.length + 1) cq) ++ getV key)).toArray 50)
     have b77 := (Below.refl (w6.alloc (.cells (getV key ++ (partL 14 (.slice pq (q.length + 1) cq) ++ getV key)).toArray 50)).heap.size (w6.alloc (.cells (getV key ++ (partL 14 (.slice pq (q.length + 1) cq) ++ getV key)).toArray 50))).alloc (Nat.le_refl _) (.cells #[.int .i64 1] 3)
     obtain ⟨wt, hwt⟩ : ∃ wt, w6.alloc (.cells (getV key ++ (partL 14 (.slice pq (q.length + 1) cq) ++ getV key)).toArray 50) = wt := ⟨_, rfl⟩
     simp only [if_true] at hT6
     rw [hwt] at hT6 C7 bT b77
     obtain ⟨w7, hw7⟩ : ∃ w7, wt.alloc (.cells #[.int .i64 1] 3) = w7 := ⟨_, rfl⟩
     rw [hw7] at C7 b77
     have hqT : ∀ b ∈ w6.heap.size :: Q6, b < wt.heap.size := fun b hb => by
      have hz : wt.heap.size = w6.heap.size + 1 := by rw [← hwt]; simp
      rcases List.mem_cons.1 hb with e | e
      ·omega
      ·have := hQ6 b e; omega
     have hq7 : ∀ b ∈ w6.heap.size :: Q6, b < w7.heap.size := fun b hb => Nat.lt_of_lt_of_le (hqT b hb) b77.size
     have hsl7 := hT6.heldBy (HeldBy.of_below b77 hqT) (fun _ h => h)
     have hkin : KindsL w7 wt.heap.size [1] := ⟨C7.lt, fun j x hx => by
      rw [C7.cell j]
      cases j with
      | zero => simp only [List.getElem?_cons_zero, Option.some.injEq] at hx ⊢; rw [hx]
      | succ j => simp at hx⟩
     have hcq : cntL [stGet key, stPart true q, stGet key] ≤ 900 := by
      unfold stPart stGet stEnd
      simp only [cntL, cntS, cnt_app]
      omega
     have HRD := Lib.hid (rightD_ok (cap := 1) (hsl7.toR (B := w7.heap.size) fun g hg => ⟨hq7 g hg, hq7 g hg⟩) (Nat.le_refl _) [1] hkin hcq)
     have HB7 := Lib.hid (HB.out.trans ((hB6.trans ((bT.trans (b77.mono bT.size)).mono hB6.size)).mono HB.out.size))
     have HSL7 := Lib.hid hsl7; have HQL7 := Lib.hid hq7; have HW7 := Lib.hid hw7; have HWT := Lib.hid (show w6.alloc (.cells #[.int .i64 1, .int .i64 0, .int .i64 1, .int .i64 0, .int .i64 (key : Int), .int .i64 0, .int .i64 0, .slice none 0 0, .slice none 0 0, .int .i64 14, .int .i64 0, .int .i64 0, .int .i64 0, .int .i64 0, .int .i64 0, .int .i64 0, .slice pq (q.length + 1) cq, .slice none 0 0, .int .i64 1, .int .i64 0, .int .i64 1, .int .i64 0, .int .i64 (key : Int), .int .i64 0, .int .i64 0, .slice none 0 0, .slice none 0 0] 50) = wt from hwt); have HZT := Lib.hid (show w6.heap.size + 1 = wt.heap.size by rw [← hwt]; simp)
     have HSL6 := Lib.hid (hSL6.heldBy (HeldBy.of_below (bT.trans (b77.mono bT.size)) hQ6) (fun _ h => h)); have HQ6 := Lib.hid (show ∀ g ∈ Q6, g < w7.heap.size from fun g hg => Nat.lt_of_lt_of_le (hQ6 g hg) (bT.trans (b77.mono bT.size)).size)
     have b67 := bT.trans (b77.mono bT.size)
     have HC7 := Lib.hid (hC6.below b67); have HG7 := Lib.hid (hG6.below b67)
     obtain ⟨g0, g1, g2, g3', g4, g5, g6, g7, g8⟩ := (nine_cells hG6).1
     obtain ⟨k0, k1, k2, k3, k4, k5, k6, k7, k8⟩ := (nine_cells hC6).1
     obtain ⟨Q7, hQ7⟩ : ∃ Q7, w6.heap.size :: Q6 = Q7 := ⟨_, rfl⟩
     rw [hQ7] at HSL7 HQL7
     obtain ⟨rv, hrv⟩ : ∃ rv, rightV [1] [stGet key, stPart true q, stGet key] = rv := ⟨_, rfl⟩
     rw [hrv] at HRD
     have HRV := Lib.hid hrv
     obtain ⟨rc, rn⟩ := rv
     clear hsl7 hq7 hkin hcq hT6 C7 bT b77 hqT hSL6 hQ6 hC6 hG6 hB6 hQe hrv hw7 hwt hQ7 hw6 HB5 HG5 HC5 HSL5 HQ5 HB75 HBK' b67 e50 f50 HCG
     clear hk6 hpg hbw
     go_wp2_with fail
     rw [HWT.out, HW7.out, HZT.out]
     refine HRD.out.mono ?_
     rintro e w8 ⟨rfl, hb8⟩
     have HB := Lib.hid (HB7.out.trans (hb8.mono HB7.out.size))
     have HSL8 := Lib.hid (HSL6.out.heldBy (HeldBy.of_below hb8 HQ6.out) (fun _ h => h))
     have HQL8 := Lib.hid (fun g (hg : g ∈ Q6) => Nat.lt_of_lt_of_le (HQ6.out g hg) hb8.size)
     have HC8 := Lib.hid (HC7.out.below hb8); have HG8 := Lib.hid (HG7.out.below hb8)
     clear hb8 HB7 HSL7 HQL7 HRD HC7 HG7 HWT HW7 HZT HSL6 HQ6 g0 g1 g2 g3' g4 g5 g6 g7 g8 k0 k1 k2 k3 k4 k5 k6 k7 k8
     by_cases hrc : rc = 0
     ·subst hrc
      have hr1 : (rightV [1] [stGet key, stPart true q, stGet key]).1 = 0 := by rw [HRV.out]
      obtain ⟨side1, side2, side3⟩ := undone_side hqc true hr1 HEND.out
      obtain ⟨mt, L, kk, hmtl, hrun⟩ := undone_run (n := 1 + m) (by omega) (by omega) hqc hkn true hr1 HEND.out
      have hh8 : Handle w8 := Handle.below HT.out HT.out.lt HB.out
      have hSC := scene_ok hh8 (n := 1 + m) (by omega) (by omega) w8 rfl
      rw [show ((1 + m : Nat) : Int) = 1 + (m : Int) by omega] at hSC
      have HSC := Lib.hid hSC
      have HH8 := Lib.hid hh8; have HRUN := Lib.hid hrun
      have HSIDE := Lib.hid (And.intro side1 (And.intro side2 side3))
      have g1 : ((0 : Int) != 0) = false := by simp
      have hmt : mt.length ≤ 900 := by omega
      clear hmtl hSC hh8 hrun side1 side2 side3 hr1 HRV
      go_wp2_with fail
      refine HSC.out.mono ?_
      rintro e w9 ⟨pa, pb, g, rfl, hh9, hc9, hg9⟩
      have B10 := (Below.refl w9.heap.size w9).alloc (Nat.le_refl _) (.cells #[.int .i64 0, .int .i64 0, .bool false, .bool false, .slice none 0 0] 60)
      have C10 := Cells.new w9 [.int .i64 0, .int .i64 0, .bool false, .bool false, .slice none 0 0] 60
      have hgl := hh9.held g (by simp)
      have hc10 := hc9.heldBy (HeldBy.of_below (R := [g]) B10 hh9.held) (by simp)
      have hh10 := hh9.came B10 [w9.heap.size] (by simp)
      obtain ⟨wo, hwo⟩ : ∃ wo, w9.alloc (.cells #[.int .i64 0, .int .i64 0, .bool false, .bool false, .slice none 0 0] 60) = wo := ⟨_, rfl⟩
      obtain ⟨po, hpo⟩ : ∃ po, w9.heap.size = po := ⟨_, rfl⟩
      have hpW : w8.heap.size ≤ po := by rw [← hpo]; exact hh9.below.size
      rw [hpo] at hgl
      rw [hwo] at hc10 hh10 C10
      rw [hpo] at hh10 C10
      have hsl10 := HSL8.out.heldBy (HeldBy.of_below hh10.below HQL8.out) (fun _ h => h)
      have hQ10 : ∀ g ∈ Q6, g < wo.heap.size := fun g hg => Nat.lt_of_lt_of_le (HQL8.out g hg) hh10.below.size
      have hT := three_sts (key := key) true hsl10 hQ10
      simp only [if_true] at hT
      have hcx := HC8.out.below hh10.below; have hgx := HG8.out.below hh10.below
      obtain ⟨g0, g1', g2, g3', g4, g5, g6, g7, g8⟩ := (nine_cells hgx).1
      obtain ⟨k0, k1, k2, k3, k4, k5, k6, k7, k8⟩ := (nine_cells hcx).1
      have BL := (Below.refl wo.heap.size wo).alloc (Nat.le_refl _) (.cells (getV key ++ (partL 14 (.slice pq (q.length + 1) cq) ++ getV key)).toArray 50)
      obtain ⟨wl, hwl⟩ : ∃ wl, wo.alloc (.cells (getV key ++ (partL 14 (.slice pq (q.length + 1) cq) ++ getV key)).toArray 50) = wl := ⟨_, rfl⟩
      rw [hwl] at hT BL
      have hwlz : wl.heap.size = wo.heap.size + 1 := by rw [← hwl]; simp
      have hhl := hh10.came BL [wo.heap.size] (by simp; omega)
      have hcl := hc10.heldBy (HeldBy.of_below (R := [g]) BL (by simp; have := hh10.held g (by simp); omega)) (by simp)
      have Cl := C10.below BL
      have hpol : po < wo.heap.size := C10.lt
      have HN := Lib.hid (newX_ok (g := g) (R := g :: wo.heap.size :: Q6) (Q := wo.heap.size :: Q6) (n := 1 + m) (cap := 1 + m) (clock := 1) (cells := sceneCells (1 + m)) (p := [stGet key, stPart true q, stGet key]) HH8.out (by decide) (by simp [sceneCells]) (by omega) (by omega) (fun x hx => by
        simp only [sceneCells, List.mem_map, List.mem_range] at hx
        obtain ⟨j, hj, rfl⟩ := hx
        omega) (by have := HSIDE.out.1; omega) HSIDE.out.2.1 (by have := HSIDE.out.2.2; omega)
       (hhl.old (by
        intro b hb
        simp only [List.mem_cons] at hb
        rcases hb with rfl | rfl | rfl | hb
        ·exact .inl (by simp)
        ·exact .inl (by simp)
        ·exact .inl (by simp)
        ·exact .inr (HQL8.out b hb))) (fun hm => by
        rcases List.mem_cons.1 hm with e | e
        ·omega
        ·rcases List.mem_cons.1 e with e | e
         ·omega
         ·have := HQL8.out po e; omega) hpW (by simp) (fun b hb => List.mem_cons_of_mem _ hb) (fun k x hx => by
        rw [hcl.cell k, List.getElem?_map, hx]; rfl) hT Cl HRUN.out (by decide))
      have HCI := Lib.hid (show CellsIn wl g (sceneCells (1 + m)) from fun k x hx => by rw [hcl.cell k, List.getElem?_map, hx]; rfl)
      have HHW := Lib.hid hg9
      have hwlL : wo.alloc (.cells #[.int .i64 1, .int .i64 0, .int .i64 1, .int .i64 0, .int .i64 (key : Int), .int .i64 0, .int .i64 0, .slice none 0 0, .slice none 0 0, .int .i64 14, .int .i64 0, .int .i64 0, .int .i64 0, .int .i64 0, .int .i64 0, .int .i64 0, .slice pq (q.length + 1) cq, .slice none 0 0, .int .i64 1, .int .i64 0, .int .i64 1, .int .i64 0, .int .i64 (key : Int), .int .i64 0, .int .i64 0, .slice none 0 0, .slice none 0 0] 50) = wl := hwl
      clear hh9 hc9 hg9 hgl hc10 hh10 hsl10 C10 B10 hpW HSC hQ10 hT hcx hgx BL hwl hwlz hhl hcl Cl hpol
      go_wp2_with fail
      refine (body14_ok _ _ _ _ _ _ _ _ wl).mono ?_
      rintro e w11 ⟨rfl, rfl⟩
      go_wp2_with fail
      refine HN.out.mono ?_
      rintro e w12 ⟨pt', rfl, -, hrun⟩
      have HRUN2 := Lib.hid hrun
      clear hrun HN g0 g1' g2 g3' g4 g5 g6 g7 g8 k0 k1 k2 k3 k4 k5 k6 k7 k8 HCI HSIDE HSL8 HQL8 HC8 HG8 HRUN hwo hwlL
      go_upto_region 28 with (first
       | (go_at_call 23; refine HRUN2.out.mono ?_; rintro e w13 ⟨lv, L', nn', B', rfl, hc, hi, hh, hk, ht⟩; obtain ⟨y0, y1, y2, y3, y4⟩ := five_cells hc; have HHE := Lib.hid hh; have HI := Lib.hid hi; have HTH := Lib.hid ht; clear hc hi hh hk ht HRUN2)
       | (go_at_call 22; refine (no_nil _).mono ?_; rintro e w' ⟨rfl, rfl⟩))
      obtain ⟨lp, lc, rfl, hcell⟩ := HI.out
      obtain ⟨lg, rfl, hcel⟩ := hcell (by simp)
      have t0 := hcel 0 ((10 + key : Nat) : Int) rfl
      obtain ⟨kt, hkt⟩ : ∃ kt, mt.length + 2 = kt := ⟨_, rfl⟩
      have t1 := hcel (kt - 1) ((10 + key : Nat) : Int) (by rw [← hkt]; simp)
      have ell : (((10 + key : Nat) : Int) :: (mt ++ [((10 + key : Nat) : Int)])).length = mt.length + 2 := by simp
      rw [ell, hkt] at y4
      have hk2 : (2 : Int) ≤ (kt : Int) := by omega
      have hk2' : 2 ≤ kt := by omega
      have hk9 : kt ≤ 902 := by omega
      have hd2 : decide ((2 : Int) ≤ (kt : Int)) = true := decide_eq_true hk2
      have hk0 : 0 < kt := by omega
      obtain ⟨kl, hkl⟩ : ∃ kl, kt - 1 = kl := ⟨_, rfl⟩
      rw [hkl] at t1
      have hk1 : (kl : Int) < (kt : Int) := by omega
      have hk1' : kl < kt := by omega
      have hkw : IntKind.i64.wrap ((kt : Int) - 1) = (kl : Int) := by rw [IntWalk.i64_in _ (by omega)]; omega
      clear hkt ell hmt
      obtain ⟨kv, e10⟩ : ∃ kv, ((10 + key : Nat) : Int) = kv := ⟨_, rfl⟩
      have hkv : IntKind.i64.wrap (10 + (key : Int)) = kv := by rw [← e10, IntWalk.i64_in _ (by omega)]; omega
      rw [e10] at t0 t1
      clear e10
      have HDN := Lib.hid (tdone_ok (HTH.out.heldBy (w' := w13.drew) (R := B') ⟨Nat.le_refl _, fun _ _ => rfl⟩ (fun _ h => h)))
      have HAL := Lib.hid (alive14_ok w13.drew ((HHE.out.handle HH8.out).drewN 1))
      have HBF := Lib.hid (show Below W.heap.size W w13.drew from by
       have b1 := HHE.out.below.mono HB.out.size
       have b2 := HB.out.trans b1
       exact ⟨b2.os, b2.tape, b2.output, b2.size, b2.block⟩)
      have hpo13 : po < w13.drew.heap.size := HHE.out.held po (by simp)
      have hlg13 : lg < w13.drew.heap.size := HHE.out.held lg (by simp [Value.ownBlock])
      clear hcell hcel HI HTH HHE
      go_upto_region 29 with (fail)
      have HT0 := Lib.hid t0; have HT1 := Lib.hid t1; have HY := Lib.hid (And.intro y0 (And.intro y1 (And.intro y2 (And.intro y3 y4))))
      go_region_held3 (fun wx => wx.cell? ⟨po, 0, none⟩ = some (.int .i64 1) ∧ wx.cell? ⟨po, 1, none⟩ = some (.int .i64 0) ∧ wx.cell? ⟨po, 2, none⟩ = some (.bool false) ∧ wx.cell? ⟨po, 3, none⟩ = some (.bool false) ∧ wx.cell? ⟨po, 4, none⟩ = some (.slice (some ⟨lg, 0, none⟩) kt lc) ∧ wx.cell? ⟨lg, 0, none⟩ = some (.int .i64 kv) ∧ wx.cell? ⟨lg, kl, none⟩ = some (.int .i64 kv))
       (first | exact ⟨y0, y1, y2, y3, y4, t0, t1⟩ | exact ⟨z0, z1, z2, z3, z4, z5, z6⟩ | go_keep)
       (first
        | (go_at_call 24; refine HDN.out.mono ?_; rintro e w' ⟨rfl, rfl⟩)
        | (go_at_call 13; refine (HMODE.out _).mono ?_; rintro e w' ⟨rfl, rfl⟩)
        | (go_at_call 15; refine HAL.out.mono ?_; rintro e w14 ⟨rfl, hb14⟩; have HB14 := Lib.hid hb14; have z0 := cb hb14 hpo13 y0; have z1 := cb hb14 hpo13 y1; have z2 := cb hb14 hpo13 y2; have z3 := cb hb14 hpo13 y3; have z4 := cb hb14 hpo13 y4; have z5 := cb hb14 hlg13 t0; have z6 := cb hb14 hlg13 t1; clear hb14))
      all_goals
       have HBE := Lib.hid (HBF.out.trans (HB14.out.mono HBF.out.size))
       go_wp2
      all_goals
       go_ret
       exact ⟨rfl, HBE.out⟩
     ·have g1 : (rc != 0) = true := by simp [hrc]
      have g1' : (if ((rc : Int) != 0) = true then (true : Bool) else false) = true := by simp [hrc]
      clear hrc
      go_wp2_with fail
      refine (alive14_ok _ (Handle.below HT.out HT.out.lt HB.out)).mono ?_
      rintro e w' ⟨rfl, hb'⟩
      have HBE := Lib.hid (HB.out.trans (hb'.mono HB.out.size))
      clear hb'
      go_wp2
      go_ret
      exact ⟨rfl, HBE.out⟩
  ·rw [decide_eq_false hfew]
   clear hb1
   go_wp2_with fail
   refine (alive14_ok _ (Handle.below HT.out HT.out.lt HB.out)).mono ?_
   rintro e w' ⟨rfl, hb'⟩
   have HBE := Lib.hid (HB.out.trans (hb'.mono HB.out.size))
   clear hb'
   go_wp2
   go_ret
   exact ⟨rfl, HBE.out⟩
end Go.Proofs.YtkpdacfiglpgeaaGreatDoor
