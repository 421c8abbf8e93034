/- Layer 10 (text): what a text is read as, as plain functions on bytes. No program stands here. -/
namespace Go.Proofs.YtikgbgminhgpdaaGreatDoor.Tx

abbrev Bs := List UInt8
/-- The pieces between a byte. -/
def split (c : UInt8) : Bs → List Bs
  | [] => [[]]
  | x :: l => if x = c then [] :: split c l else match split c l with
    | [] => [[x]]
    | p :: r => (x :: p) :: r
/-- A line's words. -/
def words (s : Bs) : List Bs := (split 32 s).filter (fun p => !p.isEmpty)
/-- A text's lines. -/
def dropEnd : List Bs → List Bs
  | [] => []
  | [p] => if p.isEmpty then [] else [p]
  | p :: q :: r => p :: dropEnd (q :: r)
def lines (s : Bs) : List Bs := dropEnd (split 10 s)

/-! Words. -/
def kinds : List Bs := [[103, 101, 116], [112, 117, 116], [100, 101, 108], [104, 97, 115], [115, 105, 122, 101], [99, 101, 105, 108], [114, 97, 110, 103, 101], [108, 105, 115, 116], [115, 101, 116], [97, 100, 100], [105, 102], [108, 111, 111, 112], [97, 116, 111, 109, 105, 99], [111, 114], [114, 101, 116, 114, 121], [97, 98, 111, 114, 116]]
/-- What stands behind a kind's word. -/
def form (k : Nat) : Bs :=
  if k = 1 ∨ k = 4 ∨ k = 6 then [99, 97, 114] else if k = 2 then [99, 97, 98] else if k = 3 then [99, 97] else if k = 5 then [99, 114] else if k = 7 then [99, 97, 98, 114] else if k = 8 then [99] else if k = 9 then [114, 97] else if k = 10 then [114, 97, 98] else if k = 11 then [97, 98, 123] else if k = 12 then [110, 123] else if k = 13 ∨ k = 14 then [123] else []
def opens (k : Nat) : Bool := k == 11 || k == 12 || k == 13 || k == 14
def kindFrom : List Bs → Nat → Bs → Nat
  | [], _, _ => 0
  | w :: l, k, s => if w = s then k else kindFrom l (k + 1) s
def kindOf (s : Bs) : Nat := kindFrom kinds 1 s
def digit (x : UInt8) : Bool := 48 ≤ x && x ≤ 57
def valFrom : Bs → Nat → Nat
  | [], n => n
  | x :: l, n => valFrom l (10 * n + (x.toNat - 48))
def plain (s : Bs) : Option Nat := if s = [] ∨ 4 < s.length ∨ s.all digit = false ∨ (1 < s.length ∧ s.head? = some 48) then none else some (valFrom s 0)
def number (s : Bs) : Option Int :=
  match s with
  | 45 :: t => match plain t with
    | some n => if 0 < n then some (-(n : Int)) else none
    | none => none
  | _ => (plain s).map fun n => (n : Int)
def register (s : Bs) : Option Nat :=
  match s with
  | [114, d] => if 49 ≤ d ∧ d ≤ 56 then some (d.toNat - 48) else none
  | _ => none
def arg (s : Bs) : Option (Int × Int) :=
  match s with
  | 114 :: d :: rest => match register [114, d] with
    | none => none
    | some r => match rest with
      | [] => some ((r : Int), 0)
      | c :: t => match plain t with
        | none => none
        | some n => if n = 0 then none else if c = 45 then some ((r : Int), -(n : Int)) else if c = 43 then some ((r : Int), (n : Int)) else none
  | _ => (number s).map fun n => (0, n)

/-! Statements. -/
/-- A statement without its blocks. -/
structure Sh where
  kind : Nat
  coll : Int
  reg : Int
  a : Int × Int
  b : Int × Int
inductive St where
  | mk (h : Sh) (body els : List St)
def Sh.zero (k : Nat) : Sh := ⟨k, 0, 0, (0, 0), (0, 0)⟩
def fill1 (c : UInt8) (w : Bs) (s : Sh) : Option Sh :=
  if c = 99 then (plain w).map fun n => { s with coll := (n : Int) }
  else if c = 97 then (arg w).map fun x => { s with a := x }
  else if c = 98 then (arg w).map fun x => { s with b := x }
  else if c = 110 then (plain w).map fun n => { s with a := (s.a.1, (n : Int)) }
  else if c = 114 then (register w).map fun n => { s with reg := (n : Int) }
  else if w = [123] then some s else none
def fill : Bs → List Bs → Sh → Option Sh
  | [], _, s => some s
  | _ :: _, [], _ => none
  | c :: f, w :: l, s => match fill1 c w s with
    | some s' => fill f l s'
    | none => none
def stmt : List Bs → Option Sh
  | [] => none
  | w :: l => if kindOf w = 0 ∨ l.length ≠ (form (kindOf w)).length then none else fill (form (kindOf w)) l (.zero (kindOf w))

/-! Blocks. -/
inductive Fin where
  | text | block | els
  deriving DecidableEq
/-- The next line that has words, and what is behind it. -/
def next : List (List Bs) → Option (List Bs × List (List Bs))
  | [] => none
  | [] :: r => next r
  | (w :: l) :: r => some (w :: l, r)
/-- An error, and how many lines are behind it (none: it is behind all). -/
abbrev Bad := Option Nat
def place (e : Fin) (r : List (List Bs)) : Bad := match e with
  | .text => none
  | _ => some r.length
mutual
def blk : Nat → List (List Bs) → Except Bad (List St × Fin × List (List Bs))
  | 0, _ => .error none
  | f + 1, ls => match next ls with
    | none => .ok ([], .text, [])
    | some (l, r) =>
      if l = [[125]] then .ok ([], .block, r)
      else if l = [[125], [101, 108, 115, 101], [123]] then .ok ([], .els, r)
      else match stmt l with
        | none => .error (some r.length)
        | some h => match blks f h r with
          | .error e => .error e
          | .ok (s, r') => match blk f r' with
            | .error e => .error e
            | .ok (p, e, r'') => .ok (s :: p, e, r'')
def blks : Nat → Sh → List (List Bs) → Except Bad (St × List (List Bs))
  | 0, _, _ => .error none
  | f + 1, h, r =>
    if opens h.kind = false then .ok (.mk h [] [], r)
    else match blk f r with
      | .error e => .error e
      | .ok (b, e1, r1) =>
        if e1 = .els ∧ (h.kind = 11 ∨ h.kind = 14) then
          match blk f r1 with
          | .error e => .error e
          | .ok (b2, e2, r2) => if e2 = .block then .ok (.mk h b b2, r2) else .error (place e2 r2)
        else if e1 = .block then .ok (.mk h b [], r1) else .error (place e1 r1)
end
/-- A text, as statements. -/
def readAll (ls : List (List Bs)) : Except Bad (List St) := match blk (2 * ls.length + 2) ls with
  | .error e => .error e
  | .ok (p, e, r) => if e = .text then .ok p else .error (place e r)
end Go.Proofs.YtikgbgminhgpdaaGreatDoor.Tx
