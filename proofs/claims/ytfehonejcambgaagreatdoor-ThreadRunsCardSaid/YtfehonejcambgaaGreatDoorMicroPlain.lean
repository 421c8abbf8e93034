/- Layer 5 (thread), the laws' small programs as plain functions. No program stands here. -/
import Derived.Test.YtfehonejcambgaaGreatDoorThreadPlain
namespace Go.Proofs.YtfehonejcambgaaGreatDoor.Th
open Bl

/-- An access of a small program. -/
structure Micro where
  kind : Int
  a : Int
  i : Int
  x : Nat
  add : Bool
  to' : Int

/-- A register's number. -/
def regOf (n : Int) : Nat := ((n.tmod 4 + 4).tmod 4).toNat
/-- Registers, the word that was told last, and what accesses are done by. -/
structure MS where
  r : List Nat
  last : Nat
  c : CS

def told (n : Nat) (m : Micro) (s : MS) (last : Nat) (c : CS) : Nat × MS := (n, ⟨s.r.set (regOf m.to') last, last, c⟩)
/-- What an access of a small program does: the error's number (0: it goes on). -/
def act (m : Micro) (s : MS) : Nat × MS :=
  let ref := s.r.getD (regOf m.a) 0
  let x := if m.add then (m.x + s.last) % 18446744073709551616 else m.x
  if m.kind = 1 then let q := access (opLoad ref m.i) s.c; told q.1 m s q.2.1.word q.2.2
  else if m.kind = 2 then let q := access (opStore ref m.i x) s.c; told q.1 m s s.last q.2.2
  else if m.kind = 3 then let q := access (opCAS ref m.i s.last x) s.c; told q.1 m s (if q.2.1.done then 1 else 0) q.2.2
  else if m.kind = 4 then let q := access (opAlloc m.i) s.c; told q.1 m s q.2.1.ref q.2.2
  else let q := access (opFree ref) s.c; told q.1 m s s.last q.2.2
def one (round : Nat) (m : Micro) (s : MS) : Nat × MS :=
  if m.kind = 6 ∧ s.last = m.x ∧ (round : Int) < m.i then (12, s)
  else if m.kind < 1 ∨ 5 < m.kind then (0, s)
  else act m s
/-- The micros of a small program, from some on; it ends at the first error. -/
def go (round : Nat) : List Micro → MS → Nat × MS
  | [], s => (0, s)
  | m :: p, s => if (one round m s).1 = 0 then go round p (one round m s).2 else one round m s
/-- A small program as a body. -/
def body (p : List Micro) : Prog Unit := fun _ round c =>
  let q := go round p ⟨[0, 0, 0, 0], 0, c⟩
  (q.1, q.2.c, ())
theorem regOf_lt (n : Int) : regOf n < 4 := by
  unfold regOf
  have := Int.tmod_lt_of_pos (n.tmod 4 + 4) (show (0 : Int) < 4 by decide)
  omega
end Go.Proofs.YtfehonejcambgaaGreatDoor.Th
