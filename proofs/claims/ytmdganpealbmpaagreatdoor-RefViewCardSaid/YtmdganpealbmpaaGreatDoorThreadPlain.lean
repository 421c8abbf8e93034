/- Layer 5 (thread), as plain functions: a log, accesses, steps, runs. No program stands here. -/
import Derived.Test.YtmdganpealbmpaaGreatDoorBlocksPlain
namespace Go.Proofs.YtmdganpealbmpaaGreatDoor.Th
open Bl

/-- An entry of a log. -/
structure Ntry where
  kind : Nat
  ref : Nat
  i : Int
  word : Nat
  done : Bool
  err : Nat
  deriving DecidableEq
def blank : Ntry := ⟨0, 0, 0, 0, false, 0⟩

/-- What a body does accesses by. -/
structure CS where
  log : List Ntry
  next : Nat
  did : Bool
  bs : BS

def opLoad (ref : Nat) (i : Int) (S : BS) : Ntry × BS :=
  match word S ref i with
  | .ok k => (⟨1, ref, i, S.ws.getD k 0, false, 0⟩, S)
  | .error n => (⟨1, ref, i, 0, false, n⟩, S)
def opStore (ref : Nat) (i : Int) (x : Nat) (S : BS) : Ntry × BS :=
  match word S ref i with
  | .ok k => (⟨2, ref, i, x, false, 0⟩, { S with ws := S.ws.set k x })
  | .error n => (⟨2, ref, i, x, false, n⟩, S)
def opCAS (ref : Nat) (i : Int) (old x : Nat) (S : BS) : Ntry × BS :=
  match word S ref i with
  | .ok k => (⟨3, ref, i, x, decide (S.ws.getD k 0 = old), 0⟩, { S with ws := if S.ws.getD k 0 = old then S.ws.set k x else S.ws })
  | .error n => (⟨3, ref, i, x, false, n⟩, S)
def opAlloc (n : Int) (S : BS) : Ntry × BS :=
  match alloc S n with
  | .ok (ref, S') => (⟨4, ref, n, 0, false, 0⟩, S')
  | .error e => (⟨4, 0, n, 0, false, e⟩, S)
def opFree (ref : Nat) (S : BS) : Ntry × BS :=
  match free S ref with
  | some S' => (⟨5, ref, 0, 0, false, 0⟩, S')
  | none => (⟨5, ref, 0, 0, false, 5⟩, S)

/-- An access: as the log says, or done now; the error's number, the entry, and what is so then. -/
def access (op : BS → Ntry × BS) (c : CS) : Nat × Ntry × CS :=
  match c.log[c.next]? with
  | some x => (x.err, x, { c with next := c.next + 1 })
  | none =>
    if c.did then (11, blank, c)
    else if 6000 ≤ c.log.length then (15, blank, c)
    else
      let r := op c.bs
      (r.1.err, r.1, ⟨c.log ++ [r.1], c.next + 1, true, r.2⟩)

/-- A body: what it keeps for itself, its round, and what it does; the error's number. -/
abbrev Prog (σ : Type) := σ → Nat → CS → Nat × CS × σ

/-- A thread. -/
structure TS (σ : Type) where
  log : List Ntry
  round : Nat
  steps : Nat
  done : Bool
  err : Nat
  aux : σ

def start {σ : Type} (s : σ) : TS σ := ⟨[], 0, 0, false, 0, s⟩

/-- A step: what it answers, the thread then, and the blocks. -/
def step {σ : Type} (F : Prog σ) (t : TS σ) (S : BS) : Nat × TS σ × BS :=
  if t.done then (t.err, t, S)
  else
    let r := F t.aux t.round ⟨t.log, 0, false, S⟩
    if r.1 = 11 then (0, ⟨r.2.1.log, t.round, t.steps + 1, false, 0, r.2.2⟩, r.2.1.bs)
    else if r.1 ≠ 12 then (r.1, ⟨r.2.1.log, t.round, t.steps + 1, true, r.1, r.2.2⟩, r.2.1.bs)
    else if 40 ≤ t.round + 1 then (15, ⟨r.2.1.log, t.round, t.steps + 1, true, 15, r.2.2⟩, r.2.1.bs)
    else (0, ⟨[], t.round + 1, t.steps + 1, false, 0, r.2.2⟩, r.2.1.bs)

/-- Steps, as long as it is not done. -/
def run {σ : Type} (F : Prog σ) : Nat → Nat × TS σ × BS → Nat × TS σ × BS
  | 0, s => s
  | n + 1, s => if s.2.1.done then s else run F n (step F s.2.1 s.2.2)
end Go.Proofs.YtmdganpealbmpaaGreatDoor.Th
