/- Layer 7 (sets), as plain functions. No program stands here. -/
namespace Go.Proofs.YtgmdbfackbdnlaaGreatDoor.Th

/-- Cells with what they will have, in order, each once. -/
def wput (k v : Nat) : List (Nat × Nat) → List (Nat × Nat)
  | [] => [(k, v)]
  | x :: l => if k < x.1 then (k, v) :: x :: l else if k = x.1 then (k, v) :: l else x :: wput k v l
def wdel (k : Nat) : List (Nat × Nat) → List (Nat × Nat)
  | [] => []
  | x :: l => if k = x.1 then l else x :: wdel k l
def wget (k : Nat) : List (Nat × Nat) → Option Nat
  | [] => none
  | x :: l => if k = x.1 then some x.2 else wget k l
/-- They are in order. -/
def Sorted : List (Nat × Nat) → Prop
  | [] => True
  | x :: l => (∀ y ∈ l, x.1 < y.1) ∧ Sorted l

structure Undo where
  cell : Nat
  value : Nat
  was : Bool
structure Sets where
  reads : List (Nat × Int)
  writes : List (Nat × Nat)
  log : List Undo
  marks : List Nat
def Sets.empty : Sets := ⟨[], [], [], []⟩

/-- The place of a cell among those that were read. -/
def at? (k : Nat) : List (Nat × Int) → Nat → Option Nat
  | [], _ => none
  | x :: l, i => if k = x.1 then some i else at? k l (i + 1)
/-- The error's number, its place (0: none), and the sets. -/
def Sets.read (s : Sets) (cell : Nat) (ver : Int) : Nat × Sets :=
  match at? cell s.reads 0 with
  | some i => if ((s.reads.map (·.2)).getD i 0) ≠ ver then (12, s) else (0, s)
  | none => if 500 ≤ s.reads.length then (8, s) else (0, { s with reads := s.reads ++ [(cell, ver)] })
def Sets.write (s : Sets) (cell value : Nat) : Nat × Sets :=
  if wget cell s.writes = none ∧ 500 ≤ s.writes.length then (8, s)
  else (0, { s with writes := wput cell value s.writes, log := if s.marks = [] then s.log else s.log ++ [⟨cell, (wget cell s.writes).getD 0, (wget cell s.writes).isSome⟩] })
def Sets.version (s : Sets) (cell : Nat) : Option Int := (at? cell s.reads 0).map fun i => (s.reads.map (·.2)).getD i 0
/-- The error's number, the mark, and the sets. -/
def Sets.mark (s : Sets) : Nat × Nat × Sets :=
  if 20 ≤ s.marks.length then (10, 0, s) else (0, s.marks.length + 1, { s with marks := s.marks ++ [s.log.length] })
def Sets.keep (s : Sets) (mark : Nat) : Sets := { s with marks := s.marks.take (mark - 1), log := if mark = 1 then [] else s.log }
def undo1 (w : List (Nat × Nat)) (u : Undo) : List (Nat × Nat) := if u.was then wput u.cell u.value w else wdel u.cell w
def Sets.back (s : Sets) (mark : Nat) : Sets :=
  { s with writes := (s.log.drop (s.marks.getD (mark - 1) 0)).reverse.foldl undo1 s.writes, log := s.log.take (s.marks.getD (mark - 1) 0), marks := s.marks.take (mark - 1) }
end Go.Proofs.YtgmdbfackbdnlaaGreatDoor.Th
