/- Layers 14 (parts) and 29 (tqueue), and its laws' transactions, as trees. No program stands here. -/
import Derived.Test.YtkpdacfiglpgeaaGreatDoorCntPlain
namespace Go.Proofs.YtkpdacfiglpgeaaGreatDoor.Th
open Bl

/-! Parts: what is done behind a mark. -/
def Sets.keepN (s : Sets) (mark : Nat) : Nat × Sets := if 1 ≤ mark ∧ mark ≤ s.marks.length then (0, s.keep mark) else (6, s)
def Sets.backN (s : Sets) (mark : Nat) : Nat × Sets := if 1 ≤ mark ∧ mark ≤ s.marks.length then (0, s.back mark) else (6, s)
def Tx.on (t : Tx) (s : Sets) : Tx := { t with sets := s }
/-- A part: is it undone? -/
def tPart {σ : Type} (P : σ → Tx → Tree (Nat × (σ × Tx))) (undone : Nat) (s : σ) (t : Tx) : Tree (Nat × (Bool × (σ × Tx))) :=
  if t.sets.mark.1 = 0 then (P s (t.on t.sets.mark.2.2)).bind fun r =>
      if r.1 = undone then .ret ((r.2.2.sets.backN t.sets.mark.2.1).1, true, r.2.1, r.2.2.on (r.2.2.sets.backN t.sets.mark.2.1).2)
      else .ret (r.1, false, r.2.1, r.2.2.on (r.2.2.sets.keepN t.sets.mark.2.1).2)
  else .ret (t.sets.mark.1, false, s, t)
def tOr {σ : Type} (P Q : σ → Tx → Tree (Nat × (σ × Tx))) (s : σ) (t : Tx) : Tree (Nat × (σ × Tx)) :=
  (tPart P 13 s t).bind fun r => if r.1 = 0 ∧ r.2.1 = true then Q r.2.2.1 r.2.2.2 else .ret (r.1, r.2.2)
def tAtomic {σ : Type} (P : σ → Tx → Tree (Nat × (σ × Tx))) (s : σ) (t : Tx) : Tree (Nat × (σ × Tx)) :=
  (tPart P 14 s t).bind fun r => .ret (r.1, r.2.2)

/-! Queues. -/
structure Ring where
  ins : Nat
  outs : Nat
  places : List Nat
def Ring.none : Ring := ⟨0, 0, []⟩
def subU (a b : Nat) : Nat := (a + 18446744073709551616 - b) % 18446744073709551616
def plc (r : Ring) (n : Nat) : Nat := r.places.getD (n % r.places.length) 0
def qNewN : Nat → List Nat → Tree (Nat × List Nat)
  | 0, l => .ret (0, l)
  | m + 1, l => (mNewCell 0).bind fun r => if r.1 = 0 then qNewN m (l ++ [r.2]) else .ret (r.1, [])
def qNew (n : Nat) : Tree (Nat × Ring) := (mNewCell 0).bind fun a => if a.1 = 0 then (mNewCell 0).bind fun b => if b.1 = 0 then (qNewN n []).bind fun l => .ret (l.1, if l.1 = 0 then ⟨a.2, b.2, l.2⟩ else .none) else .ret (b.1, .none) else .ret (a.1, .none)
def qState (r : Ring) (t : Tx) : Tree (Nat × ((Nat × Nat) × Tx)) :=
  (tRead t r.ins).bind fun a => if a.1 = 0 then (tRead a.2.2 r.outs).bind fun b => .ret (b.1, (a.2.1, b.2.1), b.2.2) else .ret (a.1, (0, 0), a.2.2)
def qLen (r : Ring) (t : Tx) : Tree (Nat × (Int × Tx)) := (qState r t).bind fun a => .ret (a.1, toI (subU a.2.1.1 a.2.1.2), a.2.2)
def qPutIn (r : Ring) (x : Nat) (a : Nat × ((Nat × Nat) × Tx)) : Tree (Nat × Tx) :=
  if a.1 = 0 then (if subU a.2.1.1 a.2.1.2 = r.places.length then .ret (13, a.2.2)
    else if (tWrite a.2.2 (plc r a.2.1.1) x).1 = 0 then .ret (tWrite (tWrite a.2.2 (plc r a.2.1.1) x).2 r.ins (inc a.2.1.1)) else .ret (tWrite a.2.2 (plc r a.2.1.1) x)) else .ret (a.1, a.2.2)
def qPut (r : Ring) (x : Nat) (t : Tx) : Tree (Nat × Tx) := (qState r t).bind (qPutIn r x)
def qPeek (r : Ring) (t : Tx) : Tree (Nat × (Nat × Tx)) :=
  (qState r t).bind fun a => if a.1 = 0 then (if a.2.1.1 = a.2.1.2 then .ret (13, 0, a.2.2) else tRead a.2.2 (plc r a.2.1.2)) else .ret (a.1, 0, a.2.2)
def qTake (r : Ring) (t : Tx) : Tree (Nat × (Nat × Tx)) :=
  (qPeek r t).bind fun a => if a.1 = 0 then (qState r a.2.2).bind fun b => if b.1 = 0 then .ret ((tWrite b.2.2 r.outs (inc b.2.1.2)).1, a.2.1, (tWrite b.2.2 r.outs (inc b.2.1.2)).2) else .ret (b.1, 0, b.2.2) else .ret (a.1, 0, a.2.2)
def qTry (r : Ring) (t : Tx) : Tree (Nat × ((Nat × Bool) × Tx)) :=
  (qLen r t).bind fun a => if a.1 = 0 ∧ a.2.1 ≠ 0 then (qTake r a.2.2).bind fun b => .ret (b.1, (b.2.1, decide (b.1 = 0)), b.2.2) else .ret (a.1, (0, false), a.2.2)
/-- All from the n-th one on, k of them. -/
def qReads (r : Ring) : Nat → Nat → List Nat → Tx → Tree (Nat × (List Nat × Tx))
  | 0, _, l, t => .ret (0, l, t)
  | k + 1, n, l, t => (tRead t (plc r n)).bind fun a => if a.1 = 0 then qReads r k (inc n) (l ++ [a.2.1]) a.2.2 else .ret (a.1, [], a.2.2)
/-- 99: there are too many, which never is so of one that runs. -/
def qAll (r : Ring) (t : Tx) : Tree (Nat × (List Nat × Tx)) :=
  (qState r t).bind fun a => if a.1 = 0 then (if 1000 < subU a.2.1.1 a.2.1.2 then .ret (99, [], a.2.2) else qReads r (subU a.2.1.1 a.2.1.2) a.2.1.2 [] a.2.2) else .ret (a.1, [], a.2.2)
def qDrain (r : Ring) (t : Tx) : Tree (Nat × (List Nat × Tx)) :=
  (qAll r t).bind fun a => if a.1 = 0 then (qState r a.2.2).bind fun b => if b.1 = 0 then .ret ((tWrite b.2.2 r.outs b.2.1.1).1, a.2.1, (tWrite b.2.2 r.outs b.2.1.1).2) else .ret (b.1, [], b.2.2) else .ret (a.1, [], a.2.2)
def qMove (r o : Ring) (t : Tx) : Tree (Nat × Tx) := (qTake r t).bind fun a => if a.1 = 0 then qPut o a.2.1 a.2.2 else .ret (a.1, a.2.2)
def qEither (r o : Ring) (t : Tx) : Tree (Nat × (Nat × Tx)) :=
  (tOr (fun _ t => qTake r t) (fun _ t => qTake o t) 0 t).bind fun a => .ret (a.1, if a.1 = 0 then a.2.1 else 0, a.2.2)

/-- A call: its kind, a word, is it of the other queue? -/
structure ActQ where
  kind : Int
  x : Nat
  other : Bool
def qAct (u o : Ring) (a : ActQ) (t : Tx) : Tree (Nat × (List Nat × Tx)) :=
  if a.kind = 0 then (qLen u t).bind fun r => .ret (r.1, [toU r.2.1], r.2.2)
  else if a.kind = 1 ∨ a.kind = 2 then (qPut u a.x t).bind fun r => .ret (r.1, [], r.2)
  else if a.kind = 3 then (qPeek u t).bind fun r => .ret (r.1, [r.2.1], r.2.2)
  else if a.kind = 4 then (qTake u t).bind fun r => .ret (r.1, [r.2.1], r.2.2)
  else if a.kind = 5 then (qTry u t).bind fun r => .ret (r.1, if r.2.1.2 = true then [r.2.1.1] else [], r.2.2)
  else if a.kind = 6 then qAll u t
  else if a.kind = 7 then qDrain u t
  else if a.kind = 8 then (qMove u o t).bind fun r => .ret (r.1, [], r.2)
  else if a.kind = 9 then (qEither u o t).bind fun r => .ret (r.1, [r.2.1], r.2.2)
  else .ret (0, [], t)
def qAsk (r0 r1 : Ring) : List ActQ → List Nat → Tx → Tree (Nat × (List Nat × Tx))
  | [], told, t => .ret (0, told, t)
  | a :: l, told, t => (qAct (if a.other then r1 else r0) (if a.other then r0 else r1) a t).bind fun r => if r.1 = 0 then qAsk r0 r1 l (told ++ r.2.1) r.2.2 else .ret (r.1, told, r.2.2)
def bodyQ (r0 r1 : Ring) (l : List ActQ) (clock : Nat) : Tree (Nat × (List Nat × Int → List Nat × Int)) :=
  (tBegin clock 1).bind fun b => if b.1 = 0 then (qAsk r0 r1 l [] b.2).bind fun a => (tEnd a.2.2 a.1).bind fun f => .ret (f.1, fun _ => (a.2.1, f.2.1.fin)) else .ret (b.1, id)
def sceneQ (n m : Nat) : Tree (Nat × (Nat × Ring × Ring → Nat × Ring × Ring)) :=
  (al 1).bind fun k => if k.1 = 0 then (qNew n).bind fun x => if x.1 = 0 then (qNew m).bind fun y => .ret (y.1, fun _ => (k.2, x.2, y.2)) else .ret (x.1, fun s => (k.2, s.2)) else .ret (k.1, fun s => (k.2, s.2))

/-! Reads and writes leave the marks. -/
theorem Sets.read_same (s : Sets) (cell : Nat) (ver : Int) : (s.read cell ver).2.log = s.log ∧ (s.read cell ver).2.marks = s.marks := by
  unfold Sets.read
  repeat' split
  all_goals exact ⟨rfl, rfl⟩
theorem tRead_same (t : Tx) (cell : Nat) (c : CS) : (exec (tRead t cell) c).1.2.2.sets.log = t.sets.log ∧ (exec (tRead t cell) c).1.2.2.sets.marks = t.sets.marks := by
  unfold tRead
  cases wget cell t.sets.writes with
  | some v => exact ⟨rfl, rfl⟩
  | none =>
    simp only [exec_bind]
    split
    · split
      · split
        · exact Sets.read_same _ _ _
        · simp only [exec_bind]
          split
          · simp only [exec_bind, exec]
            split <;> exact Sets.read_same _ _ _
          · exact Sets.read_same _ _ _
      · exact Sets.read_same _ _ _
    · exact ⟨rfl, rfl⟩
theorem tWrite_same (t : Tx) (cell x : Nat) : (tWrite t cell x).2.sets.marks = t.sets.marks ∧ (tWrite t cell x).2.sets.log.length ≤ t.sets.log.length + 1 ∧ (t.sets.marks = [] → (tWrite t cell x).2.sets.log = t.sets.log) := by
  unfold tWrite Sets.write
  simp only
  split
  · exact ⟨rfl, Nat.le_succ _, fun _ => rfl⟩
  · refine ⟨rfl, ?_, fun h => by simp [h]⟩
    simp only
    split
    · exact Nat.le_succ _
    · simp
end Go.Proofs.YtkpdacfiglpgeaaGreatDoor.Th
