/- What a call may have changed of the heap: small laws on blocks of cells. No program stands here. -/
import Derived.Below
import Derived.WalkKit
import Derived.WalkSmall
import Derived.OneCell
namespace Go.Proofs.YtikgbgminhgpdaaGreatDoor
open Go.RowKit

/-- Of all blocks that were there only those of S may have changed; new ones may have come. -/
structure Kept (S : Nat → Prop) (w w' : World) : Prop where
  os : w'.os = w.os
  tape : w'.tape = w.tape
  output : w'.output = w.output
  size : w.heap.size ≤ w'.heap.size
  block : ∀ k, k < w.heap.size → ¬ S k → w'.heap[k]? = w.heap[k]?

theorem Kept.refl (S : Nat → Prop) (w : World) : Kept S w w := ⟨rfl, rfl, rfl, Nat.le_refl _, fun _ _ _ => rfl⟩
theorem Kept.trans {S : Nat → Prop} {a b c : World} (h : Kept S a b) (k : Kept S b c) : Kept S a c :=
  ⟨k.os.trans h.os, k.tape.trans h.tape, k.output.trans h.output, Nat.le_trans h.size k.size, fun i hi hs => (k.block i (Nat.lt_of_lt_of_le hi h.size) hs).trans (h.block i hi hs)⟩
theorem Kept.mono {S T : Nat → Prop} {w w' : World} (h : Kept S w w') (hs : ∀ k, k < w.heap.size → S k → T k) : Kept T w w' :=
  ⟨h.os, h.tape, h.output, h.size, fun k hk ht => h.block k hk fun hS => ht (hs k hk hS)⟩
/-- What changed only blocks that were new, or of S, since a. -/
theorem Kept.then {S T : Nat → Prop} {a b c : World} (h : Kept S a b) (k : Kept T b c) (hs : ∀ i, i < a.heap.size → T i → S i) : Kept S a c :=
  ⟨k.os.trans h.os, k.tape.trans h.tape, k.output.trans h.output, Nat.le_trans h.size k.size, fun i hi hi' => (k.block i (Nat.lt_of_lt_of_le hi h.size) fun ht => hi' (hs i hi ht)).trans (h.block i hi hi')⟩
theorem Kept.drew {S : Nat → Prop} {a w : World} (h : Kept S a w) : Kept S a w.drew := ⟨h.os, h.tape, h.output, h.size, h.block⟩
theorem Kept.drewN {S : Nat → Prop} {a w : World} (h : Kept S a w) (n : Nat) : Kept S a (w.drewN n) := ⟨h.os, h.tape, h.output, h.size, h.block⟩
theorem Kept.alloc {S : Nat → Prop} {a w : World} (h : Kept S a w) (o : Obj) : Kept S a (w.alloc o) :=
  ⟨h.os, h.tape, h.output, by have := h.size; simp; omega, fun k hk hs => (Below.heap_alloc w o k (Nat.lt_of_lt_of_le hk h.size)).trans (h.block k hk hs)⟩
theorem Kept.setCell {S : Nat → Prop} {a w : World} (h : Kept S a w) {p : Addr} (hp : p.block < a.heap.size → S p.block) (u : Value) : Kept S a (w.setCell p u) :=
  ⟨h.os, h.tape, h.output, by have := h.size; simp; omega, fun k hk hs => (Below.heap_setCell w p u k (fun e => hs (e ▸ hp (e ▸ hk)))).trans (h.block k hk hs)⟩
theorem Kept.below {S : Nat → Prop} {w w' : World} (h : Kept S w w') {B : Nat} (hB : B ≤ w.heap.size) (hs : ∀ k, k < B → ¬ S k) : Below B w w' :=
  ⟨h.os, h.tape, h.output, h.size, fun k hk => h.block k (Nat.lt_of_lt_of_le hk hB) (hs k hk)⟩
theorem Kept.of_below {B : Nat} {w w' : World} (h : Below B w w') : Kept (fun k => B ≤ k) w w' :=
  ⟨h.os, h.tape, h.output, h.size, fun k _ hs => h.block k (Nat.lt_of_not_le hs)⟩
theorem Kept.of_grown {w w' : World} {row : Option Nat} (h : w.grownBy w' row) : Kept (fun k => some k = row) w w' :=
  ⟨h.os, h.tape, h.output, h.size, fun k hk hs => h.block k hk hs⟩

/-- A block of cells that nothing has frozen. -/
def Cells (w : World) (b : Nat) (cs : List Value) (t : TypeId) : Prop := w.heap[b]? = some (.cells cs.toArray t (0, 0))

theorem Cells.cast {w : World} {b : Nat} {cs cs' : List Value} {t : TypeId} (h : Cells w b cs t) (e : cs = cs') : Cells w b cs' t := e ▸ h
theorem Cells.lt {w : World} {b : Nat} {cs : List Value} {t : TypeId} (h : Cells w b cs t) : b < w.heap.size := lt_of_block h
theorem Cells.cell {w : World} {b : Nat} {cs : List Value} {t : TypeId} (h : Cells w b cs t) (i : Nat) : w.cell? ⟨b, i, none⟩ = cs[i]? := by
  unfold Cells at h; simp [World.cell?, h]
theorem Cells.free {w : World} {b : Nat} {cs : List Value} {t : TypeId} (h : Cells w b cs t) (i : Nat) : w.frozen? ⟨b, i, none⟩ = false := by
  unfold Cells at h; simp [World.frozen?, h]
theorem Cells.kept {S : Nat → Prop} {w w' : World} {b : Nat} {cs : List Value} {t : TypeId} (h : Cells w b cs t) (k : Kept S w w') (hs : ¬ S b) : Cells w' b cs t :=
  (k.block b h.lt hs).trans h
theorem Cells.set {w : World} {b : Nat} {cs : List Value} {t : TypeId} (h : Cells w b cs t) (i : Nat) (v : Value) : Cells (w.setCell ⟨b, i, none⟩ v) b (cs.set i v) t := by
  unfold Cells at *
  have hb := lt_of_block h
  have e : w.heap[b]'hb = .cells cs.toArray t (0, 0) := by rw [Array.getElem?_eq_getElem hb] at h; exact Option.some.inj h
  simp [World.setCell, Array.getElem?_modify, h]
theorem Cells.set_other {w : World} {b : Nat} {cs : List Value} {t : TypeId} (h : Cells w b cs t) {a : Addr} (ha : b ≠ a.block) (v : Value) : Cells (w.setCell a v) b cs t :=
  (Below.heap_setCell w a v b ha).trans h
theorem Cells.alloc {w : World} {b : Nat} {cs : List Value} {t : TypeId} (h : Cells w b cs t) (o : Obj) : Cells (w.alloc o) b cs t :=
  (Below.heap_alloc w o b h.lt).trans h
theorem Cells.drew {w : World} {b : Nat} {cs : List Value} {t : TypeId} (h : Cells w b cs t) : Cells w.drew b cs t := h
theorem Cells.new (w : World) (cs : List Value) (t : TypeId) : Cells (w.alloc (.cells cs.toArray t)) w.heap.size cs t := by
  show (w.heap.push _)[w.heap.size]? = _
  simp
theorem ret_one {k : IntKind} {a b : Int} (h : a = b) : Ending.returned (.int k a) = .returned (.int k b) := by rw [h]
theorem ret_pr {k : IntKind} {a b : Int} {v : Value} (h : a = b) : Ending.returned (.tuple #[.int k a, v]) = .returned (.tuple #[.int k b, v]) := by rw [h]
theorem quiet_left {P : Program} {f : FuncId} {args : Array Value} {w : World} {n : Nat} {v : Value}
    (h : Calls P f args (w.drewN n) fun e w' => e = .returned v ∧ w.drewN n = w') : Calls P f args (w.drewN n) fun e w'' => e = .returned v ∧ ∃ m, w'' = w.drewN m :=
  h.mono fun _ _ ⟨he, hm⟩ => ⟨he, n, hm.symm⟩
end Go.Proofs.YtikgbgminhgpdaaGreatDoor
