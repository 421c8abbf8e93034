/- SxTr: Sx, SxTr. -/
import Derived.Calls
import Derived.Test.YtgmdbfackbdnlaaGreatDoorThreadPlain
import Derived.Test.YtgmdbfackbdnlaaGreatDoorLivePlain
import Derived.Test.YtgmdbfackbdnlaaGreatDoorBitsPlain

/- An executor over symbolic memory: the functions. The kernel runs them: each body is small, and what is looked at is looked at by recursors. -/
namespace Go.Sx
open Go.Proofs.YtgmdbfackbdnlaaGreatDoor.Th Go.Proofs.YtgmdbfackbdnlaaGreatDoor.Bl

/-! Trees of what stands at numbers. -/
inductive Tr (α : Type) where
  | nil
  | node (v : Option α) (l r : Tr α)
@[inline] noncomputable def bif' {α : Type} (b : Bool) (t f : α) : α := Bool.rec f t b
noncomputable def Tr.get? {α : Type} (t : Tr α) : Nat → Option α :=
  Tr.rec (motive := fun _ => Nat → Option α) (fun _ => none)
    (fun v _ _ il ir n => Nat.rec (motive := fun _ => Option α) v (fun k _ => bif' (Nat.beq (Nat.mod k 2) 0) (il (Nat.div k 2)) (ir (Nat.div k 2))) n) t
noncomputable def Tr.parts {α β : Type} (t : Tr α) (f : Option α → Tr α → Tr α → β) : β :=
  Tr.rec (motive := fun _ => β) (f none .nil .nil) (fun v l r _ _ => f v l r) t
noncomputable def Tr.setN {α : Type} (k : Nat) : Nat → α → Tr α :=
  Nat.rec (motive := fun _ => Nat → α → Tr α) (fun _ _ => .nil)
    (fun _ ih n v => Nat.rec (motive := fun _ => Tr α) (.node (some v) .nil .nil) (fun j _ => bif' (Nat.beq (Nat.mod j 2) 0) (.node none (ih (Nat.div j 2) v) .nil) (.node none .nil (ih (Nat.div j 2) v))) n) k
noncomputable def Tr.setT {α : Type} (t : Tr α) : Nat → Nat → α → Tr α :=
  Tr.rec (motive := fun _ => Nat → Nat → α → Tr α) (fun k n v => Tr.setN k n v)
    (fun w l r il ir k n v => Nat.rec (motive := fun _ => Tr α) (.node (some v) l r) (fun j _ => bif' (Nat.beq (Nat.mod j 2) 0) (.node w (il (Nat.sub k 1) (Nat.div j 2) v) r) (.node w l (ir (Nat.sub k 1) (Nat.div j 2) v))) n) t
noncomputable def Tr.set {α : Type} (k : Nat) (t : Tr α) (n : Nat) (v : α) : Tr α := Tr.setT t k n v
noncomputable def Tr.ofList {α : Type} (l : List α) : Nat → Tr α → Tr α :=
  List.rec (motive := fun _ => Nat → Tr α → Tr α) (fun _ t => t) (fun x _ ih i t => ih (i + 1) (Tr.set 20 t i x)) l
noncomputable def Tr.map {α : Type} (f : Nat → α → α) (t : Tr α) : Nat → Nat → Tr α :=   -- keys b, a+b, 2a+b ..
  Tr.rec (motive := fun _ => Nat → Nat → Tr α) (fun _ _ => .nil)
    (fun v _ _ il ir a b => .node (Option.rec none (fun x => some (f b x)) v) (il (2 * a) (a + b)) (ir (2 * a) (2 * a + b))) t

/-! Options, answers. -/
inductive R (α : Type) where
  | ok (a : α)
  | no (why : List String)
noncomputable def ob {α β : Type} (o : Option α) (f : α → Option β) : Option β := Option.rec none f o
noncomputable def rb {α β : Type} (o : R α) (f : α → R β) : R β := R.rec f (fun w => .no w) o
noncomputable def R.of {α : Type} (o : Option α) : R α := Option.rec (.no []) .ok o
noncomputable def orb {α β : Type} (o : Option α) (f : α → R β) : R β := Option.rec (.no []) f o
noncomputable def ifo {β : Type} (b : Bool) (t : Option β) : Option β := Bool.rec none t b

/-! Symbolic memory. -/
inductive SObj where
  | row (n : Nat) (c : Tr Value) (d : Option Value) (e : TypeId) (op ro : Bool)
  | map (es : List (Value × Value × Nat)) (cl : Nat) (ro : Bool)
  | abs
  | dead
/-- nx: the next number; bs: the blocks, ib their number, ic that of the Ctx; lo: numbers below it are only read; j, tl: the accesses done, the last one first; mode: 0 outside of bodies, 1 in one, 2 in one whose step is over. -/
structure Mem where
  tr : Tr SObj
  nx : Nat
  bs : Option BS
  ib : Nat
  ic : Nat
  lo : Nat
  j : Nat
  tl : List (Ntry × BS)
  mode : Nat
inductive Prim where
  | fn (p : List Value → Mem → Option (Value × Mem))
  | acc (p : List Value → Option ((BS → Ntry × BS) × (Ntry → Value)))
  | run
structure Env where
  ty : Nat → Option TypeInfo
  fn : Nat → Option Func
  prim : Nat → Option Prim
  hint : Nat → List Nat
  cmp : Nat → Bool
  thrT : TypeId
  eno : Mem → Value → Option Nat
  meth : TypeId → String → Option FuncId
  tab : Option Nat

noncomputable def Env.under (E : Env) (t : TypeId) : Option TypeDesc :=
  ob (E.ty t) fun i => match i.desc with
    | .named _ u => ob (E.ty u) fun j => some j.desc
    | d => some d
noncomputable def Env.size (E : Env) (t : TypeId) : Option Nat := ob (E.ty t) fun i => some i.size
noncomputable def Env.zero (E : Env) (t : TypeId) : Option Value := ob (E.ty t) fun i => i.zero
def dAgg : TypeDesc → Bool
  | .struct _ => true
  | .array _ _ => true
  | _ => false
noncomputable def Env.isAgg (E : Env) (t : TypeId) : Option Bool := ob (E.under t) fun d => some (dAgg d)
def dSlice {β : Type} (f : TypeId → Option β) : TypeDesc → Option β
  | .slice e => f e
  | _ => none
noncomputable def Env.elemS {β : Type} (E : Env) (t : TypeId) (f : TypeId → Nat → Option β) : Option β := ob (E.under t) (dSlice fun e => ob (E.size e) fun n => f e n)
def dStruct {β : Type} (f : Array Field → Option β) : TypeDesc → Option β
  | .struct fs => f fs
  | _ => none

def big : Nat := 1000000000000000000000000000000
def lim : Nat := 1000000
noncomputable def Mem.newAt (m : Mem) (i : Nat) (o : SObj) : Mem := { m with tr := Tr.set 20 m.tr i o }
noncomputable def Mem.put (m : Mem) (i : Nat) (o : SObj) : Mem := { m with tr := Tr.set 20 m.tr i o }
def Mem.bump (m : Mem) : Mem := { m with nx := m.nx + 1 }
def pv (i : Nat) : Value := .pointer (some ⟨i, 0, none⟩)
def sv (i len cap : Nat) : Value := .slice (some ⟨i, 0, none⟩) len cap
noncomputable def rowOf (cs : List Value) (e : TypeId) : Option SObj := ifo (Nat.ble cs.length 1000) (some (.row cs.length (Tr.ofList cs 0 .nil) none e false false))

/-! Looking at values. -/
def ptr {β : Type} (f : Nat → Nat → Option β) : Value → Option β
  | .pointer (some ⟨b, o, none⟩) => f b o
  | _ => none
def nat {β : Type} (f : Nat → Option β) : Value → Option β
  | .int _ (.ofNat n) => f n
  | _ => none
def slc {β : Type} (f : Option Addr → Nat → Nat → Option β) : Value → Option β
  | .slice a n c => f a n c
  | _ => none
def agg {β : Type} (f : Array Value → Option β) : Value → Option β
  | .agg cs => f cs
  | _ => none
def boo {β : Type} (f : Bool → Option β) : Value → Option β
  | .bool b => f b
  | _ => none
def oRow {β : Type} (f : Nat → Tr Value → Option Value → TypeId → Bool → Bool → Option β) : SObj → Option β
  | .row n c d e op ro => f n c d e op ro
  | _ => none
def oMap {β : Type} (f : List (Value × Value × Nat) → Nat → Bool → Option β) : SObj → Option β
  | .map es cl ro => f es cl ro
  | _ => none
noncomputable def Mem.row {β : Type} (m : Mem) (b : Nat) (f : Nat → Tr Value → Option Value → TypeId → Bool → Bool → Option β) : Option β := ob (m.tr.get? b) (oRow f)
noncomputable def Mem.mapAt {β : Type} (m : Mem) (b : Nat) (f : List (Value × Value × Nat) → Nat → Bool → Option β) : Option β := ob (m.tr.get? b) (oMap f)

def one : Value → Bool
  | .agg _ => false
  | .tuple _ => false
  | _ => true
noncomputable def orElse' {α : Type} (o d : Option α) : Option α := Option.rec d some o
noncomputable def cellAt (n : Nat) (c : Tr Value) (d : Option Value) (i : Nat) : Option Value := ifo (Nat.blt i n) (orElse' (c.get? i) d)
noncomputable def cellsAt (n : Nat) (c : Tr Value) (d : Option Value) (k : Nat) : Nat → Option (List Value) :=
  Nat.rec (motive := fun _ => Nat → Option (List Value)) (fun _ => some []) (fun _ ih i => ob (cellAt n c d i) fun v => ob (ih (i + 1)) fun l => some (v :: l)) k
noncomputable def putCells (n : Nat) (l : List Value) : Nat → Tr Value → Option (Tr Value) :=
  List.rec (motive := fun _ => Nat → Tr Value → Option (Tr Value)) (fun _ t => some t) (fun v _ ih i t => ifo (Nat.blt i n && one v) (ih (i + 1) (Tr.set 20 t i v))) l

noncomputable def loadAt (E : Env) (t : TypeId) (m : Mem) (p : Value) : Option Value :=
  ptr (fun b o => m.row b fun n c d _ _ _ => ob (E.isAgg t) fun g => bif' g
    (ob (E.size t) fun k => ob (cellsAt n c d k o) fun l => some (.agg ⟨l⟩))
    (cellAt n c d o)) p
noncomputable def storeAt (E : Env) (t : TypeId) (m : Mem) (v : Value) (p : Value) : Option Mem :=
  ptr (fun b o => m.row b fun n c d e op ro => ob (E.size t) fun k => ifo (!ro && Nat.blt 0 k && Nat.beq v.cells.toList.length k)
    (ob (putCells n v.cells.toList o c) fun c' => some (m.put b (.row n c' d e op ro)))) p

/-! Numbers. -/
def ilt : Int → Int → Bool
  | .ofNat a, .ofNat b => Nat.blt a b
  | .negSucc _, .ofNat _ => true
  | .ofNat _, .negSucc _ => false
  | .negSucc a, .negSucc b => Nat.blt b a
def ieq : Int → Int → Bool
  | .ofNat a, .ofNat b => Nat.beq a b
  | .negSucc a, .negSucc b => Nat.beq a b
  | _, _ => false
def w64p (b : Bool) (n : Int) : Int := match b with | true => n | false => IntKind.i64.wrap n
def w64 : Int → Int
  | .ofNat a => w64p (Nat.blt a 9223372036854775808) (.ofNat a)
  | .negSucc a => w64p (Nat.blt a 9223372036854775808) (.negSucc a)
def wu64 : Int → Int
  | .ofNat a => .ofNat (Nat.mod a 18446744073709551616)
  | .negSucc a => .ofNat (Nat.sub 18446744073709551615 (Nat.mod a 18446744073709551616))
def wu32 : Int → Int
  | .ofNat a => .ofNat (Nat.mod a 4294967296)
  | .negSucc a => .ofNat (Nat.sub 4294967295 (Nat.mod a 4294967296))
def fw : IntKind → Int → Int
  | .i64 => w64
  | .u64 => wu64
  | .u32 => wu32
  | k => k.wrap
def ibit (k : IntKind) (M : Nat) (f : Nat → Nat → Nat) : Int → Int → Option Value
  | .ofNat a, .ofNat b => ifo' (Nat.blt a M && Nat.blt b M) (some (.int k (.ofNat (f a b))))
  | _, _ => none
where ifo' (b : Bool) (t : Option Value) : Option Value := match b with | true => t | false => none
/-- The kinds whose bits are looked at: how many there are, and how many numbers. -/
def bitK (k : IntKind) : Option (Nat × Nat) :=
  match k with
  | .u64 => some (64, 18446744073709551616)
  | .u32 => some (32, 4294967296)
  | _ => none
def ibits (k : IntKind) (f : Nat → Nat → Nat → Nat) (x y : Int) : Option Value :=
  match bitK k with
  | some q => ibit k q.2 (f q.2) x y
  | none => none
def ishl (k : IntKind) (q : Nat × Nat) : Int → Int → Option Value
  | .ofNat a, .ofNat n => some (.int k (.ofNat (bif Nat.blt n q.1 then Nat.mod (Nat.mul a (Nat.pow 2 n)) q.2 else 0)))
  | _, _ => none
def ishr (k : IntKind) (q : Nat × Nat) : Int → Int → Option Value
  | .ofNat a, .ofNat n => match Nat.blt n q.1 with
    | true => some (.int k (.ofNat (Nat.div a (Nat.pow 2 n))))
    | false => none
  | _, _ => none
def ish (k : IntKind) (f : Nat × Nat → Option Value) : Option Value :=
  match bitK k with
  | some q => f q
  | none => none
def eqK (a b : IntKind) : Bool := match decEq a b with | .isTrue _ => true | .isFalse _ => false
def xint (op : BinOp) (k k' : IntKind) (x y : Int) : Option Value :=
  match op with
  | .add => ifk (some (.int k (fw k (Int.add x y))))
  | .sub => ifk (some (.int k (fw k (Int.sub x y))))
  | .mul => ifk (some (.int k (fw k (Int.mul x y))))
  | .quo => ifk (nz (some (.int k (fw k (Int.tdiv x y)))))
  | .rem => ifk (nz (some (.int k (Int.tmod x y))))
  | .and => ifk (ibits k (fun _ => Nat.land) x y)
  | .or => ifk (ibits k (fun _ => Nat.lor) x y)
  | .xor => ifk (ibits k (fun _ => Nat.xor) x y)
  | .andNot => ifk (ibits k (fun M a b => Nat.land a (Nat.sub (Nat.sub M 1) b)) x y)
  | .shl => ish k fun q => ishl k q x y
  | .shr => ish k fun q => ishr k q x y
  | .eql => ifk (some (.bool (ieq x y)))
  | .neq => ifk (some (.bool (!(ieq x y))))
  | .lss => ifk (some (.bool (ilt x y)))
  | .leq => ifk (some (.bool (!(ilt y x))))
  | .gtr => ifk (some (.bool (ilt y x)))
  | .geq => ifk (some (.bool (!(ilt x y))))
where
  ifk (r : Option Value) : Option Value := match eqK k k' with | true => r | false => none
  nz (r : Option Value) : Option Value := match ieq y 0 with | true => none | false => r

/-! Equality. -/
def dIface : TypeDesc → Bool
  | .interface _ => true
  | _ => false
def isSl : TypeDesc → Bool
  | .slice _ => true
  | _ => false
def isMp : TypeDesc → Bool
  | .map _ _ => true
  | _ => false
def isFn : TypeDesc → Bool
  | .func .. => true
  | _ => false
def bytesEq (a b : ByteArray) : Bool := match decEq a.data.toList b.data.toList with | .isTrue _ => true | .isFalse _ => false
def isRow : SObj → Bool
  | .row .. => true
  | _ => false
noncomputable def peq (E : Env) (m : Mem) (e : TypeId) (p q : Addr) : Option Bool :=
  ob (E.size e) fun s => ifo (Nat.blt 0 s) (ob (m.tr.get? p.block) fun x => ob (m.tr.get? q.block) fun y => ifo (isRow x && isRow y) (some (Nat.beq p.block q.block && Nat.beq p.off q.off)))
/-- Of values that are one cell; rec: of what an interface holds. -/
noncomputable def xeq1 (E : Env) (m : Mem) (rec' : TypeId → Value → Value → Option Bool) (ut : TypeDesc) : Value → Value → Option Bool
  | .bool a, .bool b => match ut with | .bool => some (a == b) | _ => none
  | .int k a, .int k' b => match ut with | .int _ => ifo (eqK k k') (some (ieq a b)) | _ => none
  | .string a, .string b => match ut with | .string => some (bytesEq a b) | _ => none
  | .pointer none, .pointer none => match ut with | .pointer _ => some true | _ => none
  | .pointer (some _), .pointer none => match ut with | .pointer _ => some false | _ => none
  | .pointer none, .pointer (some _) => match ut with | .pointer _ => some false | _ => none
  | .pointer (some p), .pointer (some q) => match ut with | .pointer e => peq E m e p q | _ => none
  | .nilIface, .iface _ _ => ifo (dIface ut) (some false)
  | .iface _ _, .nilIface => ifo (dIface ut) (some false)
  | .iface t1 v1, .iface t2 v2 => ifo (dIface ut) (bif' (Nat.beq t1 t2) (ob (E.ty t1) fun i => ifo i.comparable (rec' t1 v1 v2)) (some false))
  | .slice none _ _, .slice b _ _ => ifo (isSl ut) (some b.isNone)
  | .slice (some _) _ _, .slice none _ _ => ifo (isSl ut) (some false)
  | .map none, .map b => ifo (isMp ut) (some b.isNone)
  | .map (some _), .map none => ifo (isMp ut) (some false)
  | .nilFunc, .nilFunc => ifo (isFn ut) (some true)
  | .nilFunc, .func .. => ifo (isFn ut) (some false)
  | .func .., .nilFunc => ifo (isFn ut) (some false)
  | _, _ => none
noncomputable def xeq (E : Env) (m : Mem) : Nat → TypeId → Value → Value → Option Bool
  | 0, _, _, _ => none
  | d + 1, t, x, y => ob (E.under t) fun ut => xeq1 E m (xeq E m d) ut x y
/-- Structs and arrays whose parts are one cell each: cell by cell. -/
noncomputable def xeqs (E : Env) (m : Mem) : List TypeId → List Value → List Value → Option Bool
  | [], [], [] => some true
  | t :: ts, x :: xs, y :: ys => ob (xeq E m 20 t x y) fun b => bif' b (xeqs E m ts xs ys) (some false)
  | _, _, _ => none
noncomputable def flatTys (E : Env) : TypeDesc → Option (List TypeId)
  | .struct fs => List.rec (motive := fun _ => Nat → Option (List TypeId)) (fun _ => some []) (fun f _ ih i => ob (E.isAgg f.type) fun g => ob (E.size f.type) fun s => ifo (!g && Nat.beq s 1 && Nat.beq f.offset i && !(f.name == "_")) (ob (ih (i + 1)) fun l => some (f.type :: l))) fs.toList 0
  | .array n e => ob (E.isAgg e) fun g => ob (E.size e) fun s => ifo (!g && Nat.beq s 1) (some (List.replicate n e))
  | _ => none
noncomputable def xeqA (E : Env) (m : Mem) (t : TypeId) : Value → Value → Option Bool
  | .agg xs, .agg ys => ifo (E.cmp t) (ob (E.under t) fun ut => ob (flatTys E ut) fun ts => xeqs E m ts xs.toList ys.toList)
  | x, y => xeq E m 20 t x y
def isConst : Operand → Bool | .const _ => true | _ => false
def bothNil : Value → Value → Bool
  | .nilIface, .nilIface => true
  | _, _ => false
noncomputable def xeql (E : Env) (m : Mem) (neg : Bool) (t : TypeId) (ox oy : Operand) (x y : Value) : Option Value :=
  bif' (bothNil x y) (ob (E.under t) fun u => ifo (dIface u && (isConst ox || isConst oy)) (some (.bool (!neg)))) (ob (xeqA E m t x y) fun b => some (.bool (bif' neg (!b) b)))
noncomputable def xbin2 (E : Env) (m : Mem) (op : BinOp) (t : TypeId) (ox oy : Operand) (x y : Value) : Option Value :=
  match op with
  | .eql => xeql E m false t ox oy x y
  | .neq => xeql E m true t ox oy x y
  | _ => none
/-- Unknown numbers of which something is known: 2 is at most 0, 3 at least 41, 4 between them. -/
def tokLo : Nat → Option Int
  | 3 => some 41
  | 4 => some 1
  | _ => none
def tokHi : Nat → Option Int
  | 2 => some 0
  | 4 => some 40
  | _ => none
def geLo (l : Option Int) (c : Int) : Bool :=
  match l with
  | some l => !(ilt l c)
  | none => false
def ltHi (h : Option Int) (c : Int) : Bool :=
  match h with
  | some h => ilt h c
  | none => false
def geT (t : Nat) (c : Int) : Option Bool :=
  match geLo (tokLo t) c, ltHi (tokHi t) c with
  | true, _ => some true
  | false, true => some false
  | false, false => none
noncomputable def xtok (op : BinOp) (t : Nat) (c : Int) : Option Value :=
  match op with
  | .geq => ob (geT t c) fun b => some (.bool b)
  | .lss => ob (geT t c) fun b => some (.bool (!b))
  | .gtr => ob (geT t (Int.add c 1)) fun b => some (.bool b)
  | .leq => ob (geT t (Int.add c 1)) fun b => some (.bool (!b))
  | _ => none
/-- A word, and an unknown one. -/
def addW (op : BinOp) (a n : Nat) : Option Value :=
  match op with
  | .add => some (.float .f32 (Nat.mod (Nat.add a n) 18446744073709551616))
  | _ => none
noncomputable def xbin (E : Env) (m : Mem) (op : BinOp) (t : TypeId) (ox oy : Operand) : Value → Value → Option Value
  | .int k a, .int k' b => xint op k k' a b
  | .float .f64 n, .int .i64 c => xtok op n c
  | .int .u64 (.ofNat a), .float .f32 n => addW op a n
  | x, y => xbin2 E m op t ox oy x y

/-! Slices. -/
noncomputable def roomOf (E : Env) (sz : Nat) (a : Option Addr) (cap len : Nat) (m : Mem) : Option Nat :=   -- what is known of the room
  bif' (Nat.beq cap big) (ob a fun a => bif' (Nat.beq a.off 0) (m.row a.block fun n _ _ e op _ => ob (E.size e) fun s => ifo (op && Nat.beq s sz) (some (Nat.div n sz))) (ifo (!(Nat.beq a.off big)) (some len))) (some cap)
def bnd (d hi : Nat) : Option Value → Option Nat
  | none => some d
  | some v => nat (fun i => match Nat.ble i hi with | true => some i | false => none) v
noncomputable def xslice3 (a : Option Addr) (n cap len room : Nat) (lo hi mx : Option Value) : Option Value :=
  Option.rec
    (ob (bnd len room hi) fun h => ob (bnd 0 h lo) fun l => bif' (Nat.beq l 0) (some (.slice a h cap))
      (bif' (Nat.beq cap big) (ifo (Nat.blt 0 n && Nat.ble h room) (some (bif' (Nat.blt l h) (.slice (a.map (·.add (l * n))) (Nat.sub h l) big) (.slice (a.map fun a => ⟨a.block, big, none⟩) 0 big))))
        (ifo (!(Nat.beq (Nat.sub cap l) big)) (some (.slice (bif' (Nat.beq cap l) a (a.map (·.add (l * n)))) (Nat.sub h l) (Nat.sub cap l))))))
    (fun v => nat (fun x => ifo (Nat.ble x room && hi.isSome) (ob (bnd len x hi) fun h => ob (bnd 0 h lo) fun l => ifo (!(Nat.beq (Nat.sub x l) big)) (some (.slice (bif' (Nat.beq x l) a (a.map (·.add (l * n)))) (Nat.sub h l) (Nat.sub x l))))) v) mx
def dArr {β : Type} (f : Nat → TypeId → Option β) : TypeDesc → Option β
  | .array n e => f n e
  | _ => none
noncomputable def xsliceV (E : Env) (m : Mem) (t : TypeId) (lo hi mx : Option Value) : Value → Option Value
  | .pointer (some ⟨b, o, none⟩) => ob (E.under t) (dArr fun k e => ob (E.size e) fun n => ifo (!(Nat.beq k big)) (xslice3 (some ⟨b, o, none⟩) n k k k lo hi mx))
  | .slice a len cap => E.elemS t fun _ n => ob (roomOf E n a cap len m) fun room => xslice3 a n cap len room lo hi mx
  | _ => none

noncomputable def newRowV (m : Mem) (len sz : Nat) (c : Tr Value) (d : Option Value) (e : TypeId) : Option (Value × Mem) :=
  ifo (Nat.ble (len * sz) lim && Nat.blt m.nx lim && Nat.blt 0 sz) (some (sv m.nx len big, (m.newAt m.nx (.row (len * sz) c d e true false)).bump))
noncomputable def takeCells (m : Mem) (sz : Nat) (v : Value) : Option (Nat × List Value) :=
  slc (fun a k _ => Option.rec (ifo (Nat.beq k 0) (some (0, []))) (fun (a : Addr) => bif' (Nat.beq a.off big) (ifo (Nat.beq k 0) (some (0, []))) (ob (m.row a.block fun n c d _ _ _ => ifo a.spot.isNone (cellsAt n c d (k * sz) a.off)) fun l => some (k, l))) a) v
noncomputable def appIn (m : Mem) (a : Addr) (len k sz cap : Nat) (new : List Value) : Option (Value × Mem) :=
  m.row a.block fun n c d e op ro => ifo (!ro && a.spot.isNone) (ob (putCells n new (a.off + len * sz) c) fun c' => some (.slice (some a) (len + k) cap, m.put a.block (.row n c' d e op ro)))
noncomputable def appCopy (m : Mem) (a : Addr) (len k sz : Nat) (new : List Value) (e : TypeId) : Option (Value × Mem) :=
  m.row a.block fun n c d _ _ _ => ifo a.spot.isNone (ob (cellsAt n c d (len * sz) a.off) fun old => newRowV m (len + k) sz (Tr.ofList new (len * sz) (Tr.ofList old 0 .nil)) none e)
noncomputable def appOpen (E : Env) (m : Mem) (a : Addr) (len k sz : Nat) (new : List Value) (te : TypeId) : Option (Value × Mem) :=
  m.row a.block fun n c d e op ro => ob (E.size e) fun s => ifo (op && !ro && Nat.beq a.off 0 && a.spot.isNone && Nat.beq s sz) (bif' (Nat.ble ((len + k) * sz) n)
    (ob (putCells n new (len * sz) c) fun c' => some (.slice (some a) (len + k) big, m.put a.block (.row n c' d e op ro)))
    (ifo (Nat.ble (len * sz) n && Nat.beq e te) (newRowV (m.put a.block .dead) (len + k) sz (Tr.ofList new (len * sz) c) d e)))
noncomputable def allOne (l : List Value) : Bool := List.rec true (fun v _ ih => one v && ih) l
noncomputable def xappend (E : Env) (m : Mem) (t : TypeId) (s x : Value) : Option (Value × Mem) :=
  E.elemS t fun e sz => ob (E.ty e) fun inf => ob inf.zero fun z => ifo (Nat.ble inf.bytes 10000 && Nat.beq z.cells.toList.length sz) (slc (fun a len cap => ob (takeCells m sz x) fun kn =>
    ifo (Nat.ble (len + kn.1) lim && allOne kn.2) (bif' (Nat.beq cap big) (bif' (Nat.beq kn.1 0) (some (s, m)) (ob a fun a => appOpen E m a len kn.1 sz kn.2 e))
      (bif' (Nat.ble (len + kn.1) cap)
        (Option.rec (ifo (Nat.beq kn.1 0) (some (s, m))) (fun a => appIn m a len kn.1 sz cap kn.2) a)
        (Option.rec (ifo (Nat.beq len 0) (newRowV m kn.1 sz (Tr.ofList kn.2 0 .nil) none e)) (fun a => appCopy m a len kn.1 sz kn.2 e) a)))) s)
noncomputable def xcopy (E : Env) (m : Mem) (t : TypeId) (s x : Value) : Option (Value × Mem) :=
  E.elemS t fun _ sz => slc (fun a len _ => slc (fun b len' cap' => ob (takeCells m sz (.slice b (Nat.min len len') cap')) fun kn => Option.rec (some (.int .i64 (kn.1 : Nat), m))
    (fun a => m.row a.block fun n c d e op ro => ifo (!ro && !(Nat.beq a.off big)) (ob (putCells n kn.2 a.off c) fun c' => some (.int .i64 (kn.1 : Nat), m.put a.block (.row n c' d e op ro)))) a) x) s

noncomputable def xclear (E : Env) (m : Mem) (t : TypeId) (s : Value) : Option (Value × Mem) :=
  E.elemS t fun e _ => ob (E.zero e) fun z => slc (fun a len _ => ob a fun a => m.row a.block fun n c d e op ro => ifo (!ro && a.spot.isNone && Nat.blt 0 len && Nat.ble len 1000) (ob (putCells n (List.replicate len z.cells.toList).flatten a.off c) fun c' => some (.tuple ⟨[]⟩, m.put a.block (.row n c' d e op ro)))) s

/-! Maps. -/
def keyEq : Value → Value → Option Bool
  | .int k a, .int k' b => match eqK k k' with | true => some (ieq a b) | false => none
  | .string a, .string b => some (bytesEq a b)
  | _, _ => none
noncomputable def findK (k : Value) (es : List (Value × Value × Nat)) : Option (Option Value) :=
  List.rec (some none) (fun e _ ih => ob (keyEq k e.1) fun b => bif' b (some (some e.2.1)) ih) es
noncomputable def updK (k v : Value) (es : List (Value × Value × Nat)) : List (Value × Value × Nat) :=
  List.rec [] (fun e l ih => Option.rec (e :: ih) (fun b => bif' b ((e.1, v, e.2.2) :: l) (e :: ih)) (keyEq k e.1)) es
noncomputable def delK (k : Value) (es : List (Value × Value × Nat)) : List (Value × Value × Nat) :=
  List.rec [] (fun e l ih => Option.rec (e :: ih) (fun b => bif' b l (e :: ih)) (keyEq k e.1)) es
noncomputable def mapOf (m : Mem) : Value → Option (List (Value × Value × Nat))
  | .map none => some []
  | .map (some r) => m.mapAt r fun es _ _ => some es
  | _ => none
def mapP {β : Type} (f : Nat → Option β) : Value → Option β
  | .map (some r) => f r
  | _ => none
def okv (ok : Bool) (v : Value) (b : Bool) : Value := match ok with | true => .tuple ⟨[v, .bool b]⟩ | false => v
def keyOk : TypeDesc → Value → Bool
  | .int _, .int _ _ => true
  | .string, .string _ => true
  | _, _ => false
def dMap {β : Type} (f : TypeId → TypeId → Option β) : TypeDesc → Option β
  | .map k e => f k e
  | _ => none
noncomputable def Env.mapT {β : Type} (E : Env) (t : TypeId) (kv : Value) (f : TypeId → Option β) : Option β := ob (E.under t) (dMap fun k e => ob (E.under k) fun u => ifo (keyOk u kv) (f e))

/-! Operations. -/
/-! What is told by a text alone is put into a box: the kernel looks at the text once. -/
structure EvB where
  f : Tr Value → Option Value
noncomputable def evB (x : Operand) : EvB :=
  match x with
  | .tmp t => ⟨fun T => T.get? t⟩
  | .const v => ⟨fun _ => some v⟩
  | .func f => ⟨fun _ => some (.func (.func f) ⟨[]⟩ ⟨[]⟩)⟩
  | .global _ => ⟨fun _ => none⟩
noncomputable def ev (T : Tr Value) (x : Operand) : Option Value := (evB x).f T
noncomputable def evs (T : Tr Value) (l : List Operand) : Option (List Value) := List.rec (some []) (fun x _ ih => ob (ev T x) fun v => ob ih fun vs => some (v :: vs)) l
noncomputable def evo (T : Tr Value) (o : Option Operand) : Option (Option Value) := Option.rec (some none) (fun x => ob (ev T x) fun v => some (some v)) o
noncomputable def evp (T : Tr Value) (l : List (Nat × Operand)) : Option (List (Nat × Value)) := List.rec (some []) (fun x _ ih => ob (ev T x.2) fun v => ob ih fun vs => some ((x.1, v) :: vs)) l
noncomputable def splice (cs : List Value) (off : Nat) (vs : List Value) : List Value := cs.take off ++ vs ++ cs.drop (off + vs.length)
noncomputable def fillX (place : Nat → Option (Nat × Nat)) (l : List (Nat × Value)) : List Value → Option (List Value) :=
  List.rec (motive := fun _ => List Value → Option (List Value)) some (fun p _ ih cs => ob (place p.1) fun q => ifo (Nat.beq p.2.cells.toList.length q.2 && Nat.ble (q.1 + q.2) cs.length) (ih (splice cs q.1 p.2.cells.toList))) l
noncomputable def partX (E : Env) (t : TypeId) (cs : List Value) (off : Nat) : Option Value :=
  ob (E.isAgg t) fun g => bif' g (ob (E.size t) fun n => some (.agg ⟨(cs.drop off).take n⟩)) (cs[off]?)
noncomputable def sizesX (E : Env) (l : List Field) : Option (List (Nat × Nat)) := List.rec (some []) (fun f _ ih => ob (E.size f.type) fun n => ob ih fun l => some ((f.offset, n) :: l)) l
noncomputable def placesX (E : Env) : TypeDesc → Option (Nat → Option (Nat × Nat))
  | .struct fs => ob (sizesX E fs.toList) fun l => some (fun i => l[i]?)
  | .array _ e => ob (E.size e) fun n => some (fun i => some (i * n, n))
  | _ => none
abbrev XOp := Env → Tr Value → Mem → Option (Value × Mem)
noncomputable def oMove (x : Operand) : XOp := fun _ T m => ob (ev T x) fun v => some (v, m)
noncomputable def oPick (c a b : Operand) : XOp := fun _ T m => ob (ev T c) (boo fun t => ob (ev T (bif' t a b)) fun v => some (v, m))
noncomputable def oBuild (t : TypeId) (ps : Array (Nat × Operand)) : XOp := fun E T m => ob (evp T ps.toList) fun l => ob (E.zero t) fun z => ob (E.under t) fun d => ob (placesX E d) fun pl => ob (fillX pl l z.cells.toList) fun cs => some (.agg ⟨cs⟩, m)
noncomputable def oLoad (t : TypeId) (a : Operand) : XOp := fun E T m => ob (ev T a) fun p => ob (loadAt E t m p) fun v => some (v, m)
noncomputable def oStore (t : TypeId) (a x : Operand) : XOp := fun E T m => ob (ev T a) fun p => ob (ev T x) fun v => ob (storeAt E t m v p) fun m' => some (.tuple ⟨[]⟩, m')
def notNil : Value → Bool
  | .pointer none => false
  | .nilIface => false
  | .nilFunc => false
  | .func (.func _) _ _ => true
  | .func .. => false
  | .float .. => false
  | _ => true
/-- A method of what an interface holds, a pointer. -/
def methP (f : TypeId → String → Bool) : Value → Bool
  | .func (.method nm) ⟨.iface t (.pointer (some _)) :: _⟩ _ => f t nm
  | _ => false
noncomputable def oNil (x : Operand) : XOp := fun E T m => ob (ev T x) fun v => ifo (bif' (notNil v) true (methP (fun t nm => (E.meth t nm).isSome) v)) (some (v, m))
noncomputable def oBin (op : BinOp) (t : TypeId) (x y : Operand) : XOp := fun E T m => ob (ev T x) fun a => ob (ev T y) fun b => ob (xbin E m op t x y a b) fun v => some (v, m)
def un1 (op : UnOp) : Value → Option Value
  | .int k n => match op with | .neg => some (.int k (fw k (Int.sub 0 n))) | _ => none
  | .bool b => match op with | .not => some (.bool (!b)) | _ => none
  | _ => none
noncomputable def oUn (op : UnOp) (x : Operand) : XOp := fun _ T m => ob (ev T x) fun a => ob (un1 op a) fun v => some (v, m)
def conv1 (d : TypeDesc) : Value → Option Value
  | .int _ n => match d with | .int k => some (.int k (fw k n)) | _ => none
  | .string b => match d with | .string => some (.string b) | _ => none
  | _ => none
noncomputable def oConv (s d : TypeId) (x : Operand) : XOp := fun E T m => ob (ev T x) fun a => ob (E.under s) fun _ => ob (E.under d) fun u => ob (conv1 u a) fun v => some (v, m)
noncomputable def oMakeI (t : TypeId) (x : Operand) : XOp := fun E T m => ob (ev T x) fun v => ob (E.under t) fun u => ifo (!(dIface u)) (some (.iface t v, m))
noncomputable def oMakeF (fn : Fn) (first caps : Array Operand) : XOp := fun _ T m => ob (evs T first.toList) fun a => ob (evs T caps.toList) fun b => some (.func fn ⟨a⟩ ⟨b⟩, m)
noncomputable def oSlice (t : TypeId) (x : Operand) (lo hi mx : Option Operand) : XOp := fun E T m => ob (ev T x) fun v => ob (evo T lo) fun a => ob (evo T hi) fun b => ob (evo T mx) fun c => ob (xsliceV E m t a b c v) fun v => some (v, m)
noncomputable def oFieldA (s : TypeId) (x : Operand) (f : Nat) : XOp := fun E T m => ob (ev T x) (ptr fun b o => ob (E.under s) (dStruct fun fs => ob (fs.toList[f]?) fun f => ob (E.size f.type) fun n => ifo (Nat.blt 0 n) (some (.pointer (some ⟨b, o + f.offset, none⟩), m))))
noncomputable def oField (s : TypeId) (x : Operand) (f : Nat) : XOp := fun E T m => ob (ev T x) (agg fun cs => ob (E.under s) (dStruct fun fs => ob (fs.toList[f]?) fun f => ob (partX E f.type cs.toList f.offset) fun v => some (v, m)))
def idxBase : TypeDesc → Value → Option (Addr × Nat × TypeId)
  | .array n e, .pointer (some a) => some (a, n, e)
  | .slice e, .slice (some a) n _ => some (a, n, e)
  | _, _ => none
noncomputable def oIndexA (t : TypeId) (x i : Operand) : XOp := fun E T m => ob (ev T x) fun v => ob (ev T i) (nat fun i => ob (E.under t) fun d => ob (idxBase d v) fun q => ob (E.size q.2.2) fun s => ifo (Nat.blt i q.2.1 && Nat.blt 0 s && q.1.spot.isNone) (some (.pointer (some ⟨q.1.block, q.1.off + i * s, none⟩), m)))
def idxArr : TypeDesc → Value → Option (List Value × Nat × TypeId)
  | .array n e, .agg cs => some (cs.toList, n, e)
  | _, _ => none
def strAt (i : Nat) : TypeDesc → Value → Option Value
  | .string, .string b => match b.data.toList[i]? with
    | some x => some (.int .u8 (.ofNat x.toNat))
    | none => none
  | _, _ => none
noncomputable def oIndexE (E : Env) (m : Mem) (d : TypeDesc) (v : Value) (i : Nat) : Option (Value × Mem) := ob (idxArr d v) fun q => ob (E.size q.2.2) fun s => ifo (Nat.blt i q.2.1) (ob (partX E q.2.2 q.1 (i * s)) fun v => some (v, m))
noncomputable def oIndex (t : TypeId) (x i : Operand) : XOp := fun E T m => ob (ev T x) fun v => ob (ev T i) (nat fun i => ob (E.under t) fun d => Option.rec (oIndexE E m d v i) (fun r => some (r, m)) (strAt i d v))
noncomputable def oLookup (t : TypeId) (x k : Operand) (ok : Bool) : XOp := fun E T m => ob (ev T x) fun v => ob (ev T k) fun kv => E.mapT t kv (fun e => ob (mapOf m v) fun es => ob (findK kv es) fun r => Option.rec (ob (E.zero e) fun z => some (okv ok z false, m)) (fun u => some (okv ok u true, m)) r)
noncomputable def oUpd (t : TypeId) (x k u : Operand) : XOp := fun E T m => ob (ev T x) (mapP fun r => ob (ev T k) fun kv => ob (ev T u) fun uv => E.mapT t kv fun _ => m.mapAt r fun es cl ro => ifo (!ro) (ob (findK kv es) fun q => Option.rec (some (.tuple ⟨[]⟩, m.put r (.map (es ++ [(kv, uv, cl)]) (cl + 1) ro))) (fun _ => some (.tuple ⟨[]⟩, m.put r (.map (updK kv uv es) cl ro))) q))
noncomputable def assertX (E : Env) (a : TypeId) (ok : Bool) (m : Mem) : Value → Option (Value × Mem)
  | .iface t v => bif' (Nat.beq t a) (some (okv ok v true, m)) (ifo ok (ob (E.zero a) fun z => some (.tuple ⟨[z, .bool false]⟩, m)))
  | .nilIface => ifo ok (ob (E.zero a) fun z => some (.tuple ⟨[z, .bool false]⟩, m))
  | _ => none
noncomputable def oAssert (x : Operand) (a : TypeId) (ok : Bool) : XOp := fun E T m => ob (ev T x) fun v => ob (E.under a) fun u => ifo (!(dIface u)) (assertX E a ok m v)
def tupAt (i : Nat) : Value → Option Value
  | .tuple vs => vs.toList[i]?
  | _ => none
noncomputable def oExtract (x : Operand) (i : Nat) : XOp := fun _ T m => ob (ev T x) fun v => ob (tupAt i v) fun u => some (u, m)
/-! What makes something new, at the number i. -/
abbrev XAl := Env → Tr Value → Nat → Option (Value × SObj)
noncomputable def mk1 (i : Nat) (f : Nat → Value) (o : Option SObj) : Option (Value × SObj) := ob o fun o => some (f i, o)
noncomputable def aAlloc' (e : TypeId) : XAl := fun E _ i => ob (E.zero e) fun z => mk1 i pv (rowOf z.cells.toList e)
noncomputable def aBox (e : TypeId) (x : Operand) : XAl := fun _ T i => ob (ev T x) fun v => mk1 i pv (rowOf v.cells.toList e)
noncomputable def aBuildSlice (t : TypeId) (len : Nat) (ps : Array (Nat × Operand)) : XAl := fun E T i => ob (evp T ps.toList) fun l => E.elemS t fun e n => ob (E.zero e) fun z =>
  ifo (Nat.ble len 1000 && Nat.ble (len * n) 1000 && Nat.beq z.cells.toList.length n) (ob (fillX (fun i => some (i * n, n)) l (List.replicate len z.cells.toList).flatten) fun cs => mk1 i (fun i => sv i len len) (rowOf cs e))
noncomputable def aMakeM (r : Option Operand) : XAl := fun _ _ i => ifo r.isNone (mk1 i (fun i => .map (some i)) (some (.map [] 0 false)))
noncomputable def aMakeS (t : TypeId) (l c : Operand) : XAl := fun E T i => ob (ev T l) (nat fun l => ob (ev T c) (nat fun c => E.elemS t fun e n => ob (E.ty e) fun inf => ob inf.zero fun z =>
  ifo (Nat.ble l c && Nat.ble inf.bytes 10000 && Nat.ble c lim && Nat.beq z.cells.toList.length n) (match z.cells.toList with
    | [v] => mk1 i (fun i => sv i l c) (some (.row c .nil (some v) e false false))
    | zs => ifo (Nat.ble (c * n) 1000) (mk1 i (fun i => sv i l c) (rowOf (List.replicate c zs).flatten e)))))
def oNo : XOp := fun _ _ _ => none
noncomputable def bLen (m : Mem) (d : TypeDesc) : Value → Option Value
  | .slice _ n _ => ifo (isSl d) (some (.int .i64 (.ofNat n)))
  | .map none => ifo (isMp d) (some (.int .i64 (.ofNat 0)))
  | .map (some r) => ifo (isMp d) (m.mapAt r fun es _ _ => some (.int .i64 (.ofNat es.length)))
  | _ => none
def isLen (c : Call) : Option (Operand × TypeId) :=
  match c.callee with
  | .builtin .len => (match c.args.toList, c.argTypes.toList with | [x], t :: _ => some (x, t) | _, _ => none)
  | _ => none
noncomputable def oLen (c : Call) : XOp := fun E T m => ob (isLen c) fun x => ob (ev T x.1) fun v => ob (E.under x.2) fun d => ob (bLen m d v) fun u => some (u, m)
/-- One operation that is no call (but for len): its value, and the memory. -/
structure XOpB where
  f : XOp
noncomputable def xopB (op : Op) : XOpB :=
  match op with
  | .move x => ⟨oMove x⟩
  | .assign x => ⟨oMove x⟩
  | .pick c a b => ⟨oPick c a b⟩
  | .build t ps => ⟨oBuild t ps⟩
  | .load t a => ⟨oLoad t a⟩
  | .nilCheck x => ⟨oNil x⟩
  | .binOp op t x y _ => ⟨oBin op t x y⟩
  | .unOp op _ x => ⟨oUn op x⟩
  | .convert s d x => ⟨oConv s d x⟩
  | .makeInterface t x => ⟨oMakeI t x⟩
  | .makeFunc fn a b => ⟨oMakeF fn a b⟩
  | .slice t x lo hi mx => ⟨oSlice t x lo hi mx⟩
  | .fieldAddr s x f => ⟨oFieldA s x f⟩
  | .field s x f => ⟨oField s x f⟩
  | .indexAddr t x i => ⟨oIndexA t x i⟩
  | .index t x i => ⟨oIndex t x i⟩
  | .lookup t x k ok => ⟨oLookup t x k ok⟩
  | .typeAssert x _ a ok => ⟨oAssert x a ok⟩
  | .extract x i => ⟨oExtract x i⟩
  | .call c => ⟨oLen c⟩
  | _ => ⟨oNo⟩
noncomputable def xop (op : Op) : XOp := (xopB op).f

/-- What an operation is: 0 its value hangs on its operands alone, 1 it looks at memory, 2 it makes something new, 3 it changes memory, or is a call. -/
def kindOf (op : Op) : Nat :=
  match op with
  | .move _ => 0
  | .assign _ => 0
  | .pick .. => 0
  | .build .. => 0
  | .nilCheck _ => 0
  | .unOp .. => 0
  | .convert .. => 0
  | .makeInterface .. => 0
  | .makeFunc .. => 0
  | .fieldAddr .. => 0
  | .field .. => 0
  | .indexAddr .. => 0
  | .index .. => 0
  | .typeAssert .. => 0
  | .extract .. => 0
  | .load .. => 1
  | .lookup .. => 1
  | .binOp .. => 1
  | .slice .. => 1
  | .call c => (match isLen c with | some _ => 1 | none => 3)
  | .alloc _ => 2
  | .box .. => 2
  | .buildSlice .. => 2
  | .makeMap .. => 2
  | .makeSlice .. => 2
  | _ => 3
noncomputable def xalO (op : Op) : XAl :=
  match op with
  | .alloc e => aAlloc' e
  | .box e x => aBox e x
  | .buildSlice t n ps => aBuildSlice t n ps
  | .makeMap _ r => aMakeM r
  | .makeSlice t l c => aMakeS t l c
  | _ => fun _ _ _ => none
noncomputable def xal (op : Op) (E : Env) (T : Tr Value) (m : Mem) (i : Nat) : Option (Value × Mem) := ob (xalO op E T i) fun q => ifo (Nat.blt i lim) (some (q.1, m.newAt i q.2))
noncomputable def xstB (op : Op) : XOpB :=
  match op with
  | .store t a x => ⟨oStore t a x⟩
  | .mapUpdate t x k u => ⟨oUpd t x k u⟩
  | .insert t x k u => ⟨oUpd t x k u⟩
  | _ => ⟨oNo⟩
noncomputable def xst (op : Op) : XOp := (xstB op).f

/-! Calls of builtins. -/
noncomputable def bDel (E : Env) (t : TypeId) (m : Mem) (k : Value) : Value → Option (Value × Mem)
  | .map none => E.mapT t k fun _ => some (.tuple ⟨[]⟩, m)
  | .map (some r) => E.mapT t k fun _ => m.mapAt r fun es cl ro => ifo (!ro) (ob (findK k es) fun _ => some (.tuple ⟨[]⟩, m.put r (.map (delK k es) cl ro)))
  | _ => none
/-- The least, or the greatest, of two ints. -/
def xmm (mx : Bool) : List Value → Option Value
  | [.int k a, .int _ b] => some (.int k (bif ilt (bif mx then a else b) (bif mx then b else a) then b else a))
  | _ => none
noncomputable def xbuiltin (b : Builtin) (tys : List TypeId) (args : List Value) (E : Env) (m : Mem) : Option (Value × Mem) :=
  match b with
  | .append => match args with
    | [s, x] => match tys with | t :: u :: _ => ob (E.under u) fun d => ifo (isSl d) (xappend E m t s x) | _ => none
    | _ => none
  | .copy => match args with
    | [s, x] => match tys with | t :: _ => xcopy E m t s x | _ => none
    | _ => none
  | .delete => match args with
    | [x, k] => match tys with | t :: _ => bDel E t m k x | _ => none
    | _ => none
  | .clear => match args with
    | [s] => match tys with | t :: _ => xclear E m t s | _ => none
    | _ => none
  | .min => ob (xmm false args) fun v => some (v, m)
  | .max => ob (xmm true args) fun v => some (v, m)
  | _ => none

/-! The run: outcomes are lists: the way of one that runs alone; and each way on which the step is over. -/
abbrev CallF := FuncId → List Value → Mem → R (List (Value × Mem))
noncomputable def each {α β : Type} (f : α → R (List β)) (l : List α) : R (List β) :=
  List.rec (.ok []) (fun x _ ih => rb (f x) fun a => rb ih fun b => .ok (a ++ b)) l
noncomputable def callV (call : CallF) (args : List Value) (m : Mem) : Value → R (List (Value × Mem))
  | .func (.func g) first caps => call g (first.toList ++ args ++ caps.toList) m
  | _ => .no ["callee"]
/-- A method of what an interface holds. -/
noncomputable def ifaceV (E : Env) (call : CallF) (nm : String) (args : List Value) (m : Mem) : Value → R (List (Value × Mem))
  | .iface t v => orb (E.meth t nm) fun f => call f (v :: args) m
  | _ => .no ["invoke"]
noncomputable def xcall (call : CallF) (c : Call) (E : Env) (T : Tr Value) (m : Mem) : R (List (Value × Mem)) :=
  orb (evs T c.args.toList) fun args => match c.callee with
    | .value f => orb (ev T f) (callV call args m)
    | .invoke r nm => orb (ev T r) (ifaceV E call nm args m)
    | .builtin b => R.of (ob (xbuiltin b c.argTypes.toList args E m) fun r => some [r])
noncomputable def putT (T : Tr Value) (d : Option Tmp) (v : Value) : Tr Value := Option.rec T (fun d => Tr.set 20 T d v) d
def guardV (want : Bool) : Value → Option Bool
  | .bool b => some (b == want)
  | .float .. => none
  | _ => some false
noncomputable def guardB (T : Tr Value) (want : Bool) (d : Tmp) : Option Bool := ob (T.get? d) (guardV want)
noncomputable def wantedX (all : List Oper) (T : Tr Value) (g : Option (Nat × Bool)) : Option Bool :=
  Option.rec (some true) (fun q => ob (all[q.1]?) fun o => ob o.dst (guardB T q.2)) g
abbrev OpsF := Tr Value → Mem → R (List (Tr Value × Mem))
noncomputable def note {α : Type} (s : String) (r : R α) : R α := R.rec (motive := fun _ => R α) (fun a => .ok a) (fun w => .no (s :: w)) r
def callOf (op : Op) : Option Call :=
  match op with
  | .call c => some c
  | _ => none
/-- What changes memory, or is a call: its outcomes. -/
noncomputable def xeff (E : Env) (call : CallF) (op : Op) (T : Tr Value) (m : Mem) : R (List (Value × Mem)) :=
  Option.rec (R.of (ob (xst op E T m) fun r => some [r])) (fun c => xcall call c E T m) (callOf op)
/-- By its kind. -/
@[inline] noncomputable def kindR {α : Type} (k : Nat) (a b c : α) : α := bif' (Nat.beq k 3) a (bif' (Nat.beq k 2) b c)
noncomputable def kindD {α : Type} (k : Nat) (a b c d : α) : α := bif' (Nat.beq k 3) a (bif' (Nat.beq k 2) b (bif' (Nat.beq k 1) c d))
noncomputable def opStep (E : Env) (call : CallF) (all : List Oper) (o : Oper) (ih : OpsF) : OpsF := fun T m =>
  orb (wantedX all T o.guard) fun g => bif' g
    (kindR (kindOf o.op)
      (rb (note o.pos (xeff E call o.op T m)) (each fun q => ih (putT T o.dst q.1) q.2))
      (rb (note o.pos (R.of (xal o.op E T m m.nx))) fun q => ih (putT T o.dst q.1) q.2.bump)
      (rb (note o.pos (R.of (xop o.op E T m))) fun q => ih (putT T o.dst q.1) m))
    (ih (putT T o.dst undef) m)
noncomputable def doOps (E : Env) (call : CallF) (all l : List Oper) : OpsF :=
  List.rec (motive := fun _ => OpsF) (fun T m => .ok [(T, m)]) (fun o _ ih => opStep E call all o ih) l

/-! Regions whose order is drawn: in the text's order, with tests that each other order that may be comes to the same. -/
def edgeB (e : Edge) : Bool :=
  match e.ground with
  | .textOnly _ => false
  | .gcOnly _ => false
  | _ => true
noncomputable def maskOf (ms : List Nat) (o : Oper) : Nat := List.rec 0 (fun e _ ih => bif' (edgeB e) (Nat.lor ih (Nat.lor (Nat.shiftLeft 1 e.on) (ms.getD e.on 0))) ih) o.after.toList
noncomputable def masks (l : List Oper) : List Nat → List Nat := List.rec (motive := fun _ => List Nat → List Nat) id (fun o _ ih ms => ih (ms ++ [maskOf ms o])) l
def bit (m i : Nat) : Bool := Nat.beq (Nat.mod (Nat.shiftRight m i) 2) 1
/-- Is the operation i before or behind each other one? -/
noncomputable def barrier (ms : List Nat) (i : Nat) : Bool := Nat.beq (ms.getD i 0) (Nat.sub (Nat.shiftLeft 1 i) 1) && List.rec true (fun m _ ih => bit m i && ih) (ms.drop (i + 1))
/-- What hangs on nothing, and makes something new. -/
def freeAl (o : Oper) : Bool :=
  match o.op with
  | .alloc _ => (match o.after.toList with | [] => true | _ => false) && o.guard.isNone
  | _ => false
noncomputable def veqL (f : Value → Value → Bool) (l : List Value) : List Value → Bool :=
  List.rec (motive := fun _ => List Value → Bool) (fun r => match r with | [] => true | _ => false) (fun x _ ih r => match r with | [] => false | y :: r => f x y && ih r) l
def adEq (a b : Option Addr) : Bool :=
  match a, b with
  | none, none => true
  | some ⟨b, o, none⟩, some ⟨b', o', none⟩ => Nat.beq b b' && Nat.beq o o'
  | _, _ => false
def onEq (a b : Option Nat) : Bool :=
  match a, b with
  | none, none => true
  | some a, some b => Nat.beq a b
  | _, _ => false
noncomputable def veq : Nat → Value → Value → Bool
  | 0, _, _ => false
  | d + 1, x, y => match x, y with
    | .bool a, .bool b => a == b
    | .int k a, .int k' b => eqK k k' && ieq a b
    | .string a, .string b => bytesEq a b
    | .pointer a, .pointer b => adEq a b
    | .slice a n c, .slice a' n' c' => adEq a a' && Nat.beq n n' && Nat.beq c c'
    | .map a, .map b => onEq a b
    | .nilFunc, .nilFunc => true
    | .nilIface, .nilIface => true
    | .iface t v, .iface t' v' => Nat.beq t t' && veq d v v'
    | .agg a, .agg b => veqL (veq d) a.toList b.toList
    | .tuple a, .tuple b => veqL (veq d) a.toList b.toList
    | _, _ => false
structure Rd where
  i : Nat
  op : Op
  T : Tr Value
  v : Value
noncomputable def sameAt (E : Env) (op : Op) (T : Tr Value) (v : Value) (m : Mem) : Bool := Option.rec false (fun q => veq 20 q.1 v) (xop op E T m)
/-- Since the last barrier: the effects' places and memory behind each (the last one first; at the end that behind the barrier), what was read, what was made. -/
structure Seg where
  eff : List Nat
  snaps : List Mem
  rds : List Rd
  als : List Nat
def Seg.at (m : Mem) : Seg := ⟨[], [m], [], []⟩
/-- Read in all memories in which it may be done. -/
noncomputable def readOk (E : Env) (op : Op) (T : Tr Value) (v : Value) (mask : Nat) (eff : List Nat) : List Mem → Bool :=
  List.rec (motive := fun _ => List Mem → Bool) (fun s => match s with | [m] => sameAt E op T v m | _ => false)
    (fun e _ ih s => match s with | m :: s => sameAt E op T v m && bif' (bit mask e) true (ih s) | [] => false) eff
noncomputable def chainOk (mask : Nat) (eff : List Nat) : Bool := match eff with | [] => true | e :: _ => bit mask e
noncomputable def allIn (mask : Nat) (l : List Nat) : Bool := List.rec true (fun i _ ih => bit mask i && ih) l
noncomputable def reread (E : Env) (mask : Nat) (m : Mem) (l : List Rd) : Bool := List.rec true (fun r _ ih => bif' (bit mask r.i) ih (sameAt E r.op r.T r.v m && ih)) l
/-- Is the operation i behind each one ahead of it, and each one behind it, but for what hangs on nothing (and can be made), behind it? -/
noncomputable def canMake (E : Env) (i : Nat) (o : Oper) : Bool := freeAl o && Nat.blt i lim && Option.rec false (fun _ => true) (xalO o.op E .nil i)
/-- A temporary that is moved, hanging on nothing, and apart from all that is not right behind it. -/
def tmpB (d : Nat) : Operand → Bool
  | .tmp t => Nat.beq t d
  | _ => false
def dstB (d : Nat) : Option Nat → Bool
  | some t => Nat.beq t d
  | none => false
noncomputable def anyB {α : Type} (f : α → Bool) (l : List α) : Bool := List.rec false (fun x _ ih => bif' (f x) true ih) l
noncomputable def looksB (all : List Oper) (d : Nat) (o : Oper) : Bool := bif' (anyB (tmpB d) o.op.operands.toList) true (match o.guard with | some (g, _) => dstB d ((all[g]?).bind (·.dst)) | none => false)
noncomputable def apartB (all : List Oper) (k d t j : Nat) (o : Oper) : Bool := bif' (Nat.beq j k) true (bif' (anyB (fun e => edgeB e && Nat.beq e.on k) o.after.toList) true (!(looksB all d o) && !(dstB d o.dst) && !(dstB t o.dst)))
noncomputable def allAt (f : Nat → Oper → Bool) (l : List Oper) : Nat → Bool := List.rec (motive := fun _ => Nat → Bool) (fun _ => true) (fun o _ ih j => bif' (f j o) (ih (j + 1)) false) l
noncomputable def lateB (all : List Oper) (k : Nat) (o : Oper) : Bool :=
  match o.op, o.dst with
  | .move (.tmp t), some d => (match o.after.toList with | [] => true | _ => false) && o.guard.isNone && allAt (apartB all k d t) all 0
  | _, _ => false
noncomputable def aheadB (all : List Oper) (mask i : Nat) : Bool := bif' (Nat.beq mask (Nat.sub (Nat.shiftLeft 1 i) 1)) true (allAt (fun j o => bif' (Nat.ble i j) true (bif' (bit mask j) true (lateB all j o))) all 0)
noncomputable def barrierF (E : Env) (base : Nat) (all : List Oper) (ms : List Nat) (i : Nat) : Bool := aheadB all (ms.getD i 0) i && List.rec (motive := fun _ => Nat → Bool) (fun _ => true) (fun o _ ih j => bif' (bif' (Nat.ble j i) true (bif' (bit (ms.getD j 0) i) true (canMake E (base + j) o))) (ih (j + 1)) false) all 0
/-- Nothing was changed, nor made, since. -/
def Seg.none (S : Seg) : Bool :=
  match S.eff, S.als with
  | [], [] => true
  | _, _ => false
abbrev DrawF := Nat → Seg → OpsF
noncomputable def drawStep (E : Env) (call : CallF) (all : List Oper) (ms : List Nat) (base : Nat) (o : Oper) (ih : DrawF) : DrawF := fun i S T m =>
  orb (wantedX all T o.guard) fun g => bif' g
    (kindD (kindOf o.op)
      (rb (note o.pos (xeff E call o.op T m)) fun outs =>
        bif' (barrierF E base all ms i) (each (fun q => ih (i + 1) (Seg.at q.2) (putT T o.dst q.1) q.2) outs)
          (match outs with
            | [q] => bif' (chainOk (ms.getD i 0) S.eff && allIn (ms.getD i 0) S.als && reread E (ms.getD i 0) q.2 S.rds)
              (ih (i + 1) ⟨i :: S.eff, q.2 :: S.snaps, S.rds, []⟩ (putT T o.dst q.1) q.2) (.no ["order", o.pos])
            | _ => .no ["outcomes", o.pos]))
      (rb (note o.pos (R.of (xal o.op E T m (base + i)))) fun q =>
        bif' (barrier ms i && !(freeAl o)) (ih (i + 1) (Seg.at q.2) (putT T o.dst q.1) q.2) (ih (i + 1) { S with als := i :: S.als } (putT T o.dst q.1) q.2))
      (rb (note o.pos (R.of (xop o.op E T m))) fun q =>
        bif' (bif' (Seg.none S) true (readOk E o.op T q.1 (ms.getD i 0) S.eff S.snaps)) (ih (i + 1) { S with rds := ⟨i, o.op, T, q.1⟩ :: S.rds } (putT T o.dst q.1) m) (.no ["read", o.pos]))
      (rb (note o.pos (R.of (xop o.op E T m))) fun q => ih (i + 1) S (putT T o.dst q.1) m))
    (ih (i + 1) S (putT T o.dst undef) m)
noncomputable def drawOps (E : Env) (call : CallF) (all : List Oper) (ms : List Nat) (base : Nat) (l : List Oper) : DrawF :=
  List.rec (motive := fun _ => DrawF) (fun _ _ T m => .ok [(T, m)]) (fun o _ ih => drawStep E call all ms base o ih) l
noncomputable def region (E : Env) (call : CallF) (draw : Bool) (ops : List Oper) (T : Tr Value) (m : Mem) : R (List (Tr Value × Mem)) :=
  bif' draw (let m' : Mem := { m with nx := m.nx + ops.length }; drawOps E call ops (masks ops []) m.nx ops 0 (Seg.at m') T m') (doOps E call ops ops T m)

noncomputable def xresults (E : Env) (T : Tr Value) (m : Mem) (l : List ResultVar) : Option (List Value) :=
  List.rec (some []) (fun r _ ih => ob (match r with | .tmp t => T.get? t | .cell a t => ob (T.get? a) (loadAt E t m)) fun v => ob ih fun vs => some (v :: vs)) l
def tup : List Value → Value
  | [v] => v
  | l => .tuple ⟨l⟩
inductive Ex where
  | normal
  | goto (l : Nat)
  | exit (id : Nat)
  | ret
structure Out where
  ex : Ex
  T : Tr Value
  m : Mem
abbrev ExecF := Option Code → Code → Tr Value → Mem → R (List Out)
noncomputable def leave (E : Env) (fn : Func) (o : Out) : R (List (Value × Mem)) :=
  match o.ex with
  | .exit _ => .no ["exit"]
  | .goto _ => .no ["goto"]
  | _ => orb (xresults E o.T o.m fn.results.toList) fun vs => .ok [(tup vs, o.m)]
noncomputable def body (E : Env) (rec' : ExecF) (f : FuncId) (args : List Value) (m : Mem) : R (List (Value × Mem)) :=
  orb (E.fn f) fun fn => orb fn.body fun c => bif' (Nat.ble args.length 1000 && Nat.ble args.length fn.ntmps) (rb (rec' none c (Tr.ofList args 0 .nil) m) (each (leave E fn))) (.no ["arguments"])
/-- An access: done now, or the step is over. -/
noncomputable def access' (m : Mem) (op : BS → Ntry × BS) (res : Ntry → Value) : R (List (Value × Mem)) :=
  orb m.bs fun S => match m.mode with
    | 1 => bif' (Nat.blt m.j 6000) (.ok ((res (op S).1, { m with bs := some (op S).2, j := m.j + 1, tl := op S :: m.tl }) :: bif' (Nat.beq m.j 0) [] [(res ⟨0, 0, 0, 0, false, 11⟩, { m with mode := 2 })])) (.no ["many"])
    | 2 => .ok [(res ⟨0, 0, 0, 0, false, 11⟩, m)]
    | _ => .no ["no body"]
/-- What is there ahead of a body is only read by it, but for the hinted blocks, of which nothing is known. -/
def enterO (hs : List Nat) (i : Nat) : SObj → SObj
  | .row n c d e op _ => match hs.contains i with | true => .row n .nil none e op false | false => .row n c d e op true
  | .map es cl _ => .map es cl true
  | o => o
def roOf : SObj → Bool
  | .row _ _ _ _ _ ro => ro
  | .map _ _ ro => ro
  | _ => true
/-- As it was to be read or changed ahead of the body. -/
noncomputable def leaveO (m : Mem) (i : Nat) (o : SObj) : SObj :=
  bif' (Nat.blt i m.nx) ((fun ro => match o with | .row n c d e op _ => .row n c d e op ro | .map es cl _ => .map es cl ro | o => o) (Option.rec true roOf (m.tr.get? i))) o
/-- What is hinted is still where it was. -/
def stillO (a b : SObj) : Bool :=
  match a, b with
  | .row n _ _ e false false, .row n' _ _ e' false false => Nat.beq n n' && Nat.beq e e'
  | _, _ => false
noncomputable def stillH (m m' : Mem) (hs : List Nat) : Bool := List.rec true (fun i _ ih => (Option.rec false (fun a => Option.rec false (fun b => stillO a b) (m'.tr.get? i)) (m.tr.get? i)) && ih) hs
noncomputable def yields (E : Env) (m : Mem) (hs : List Nat) (j : Nat) (l : List (Value × Mem)) : Bool := List.rec true (fun q _ ih => (Option.rec false (fun n => Nat.beq n 11) (E.eno q.2 q.1)) && Nat.beq q.2.mode 2 && Nat.blt q.2.j j && stillH m q.2 hs && ih) l
/-- A thread that has done nothing: its body. -/
noncomputable def fresh (ib : Nat) (E : Env) : SObj → Option (FuncId × List Value)
  | .row 7 c none e false false => match Nat.beq e E.thrT, c.get? 0, c.get? 1, c.get? 2, c.get? 3, c.get? 4, c.get? 5, c.get? 6 with
    | true, some (.pointer (some ⟨i, 0, none⟩)), some (.func (.func f) ⟨[]⟩ caps), some (.slice none 0 0), some (.int .i64 (.ofNat 0)), some (.int .i64 (.ofNat 0)), some (.bool false), some .nilIface => match Nat.beq i ib with
      | true => some (f, caps.toList)
      | false => none
    | _, _, _, _, _, _, _, _ => none
  | _ => none
noncomputable def ended (E : Env) (ib steps f : Nat) (caps : List Value) : SObj :=
  .row 7 (Tr.set 20 (Tr.set 20 (Tr.set 20 (Tr.set 20 (Tr.set 20 (Tr.set 20 .nil 0 (pv ib)) 1 (.func (.func f) ⟨[]⟩ ⟨caps⟩)) 3 (.int .i64 (.ofNat 0))) 4 (.int .i64 (.ofNat steps))) 5 (.bool true)) 6 .nilIface) none E.thrT false false
noncomputable def runEnd (E : Env) (m : Mem) (t : Nat) (f : FuncId) (caps : List Value) (most : Nat) : List (Value × Mem) → R (List (Value × Mem))
  | q :: ys => match (Option.rec false (fun n => Nat.beq n 0) (E.eno q.2 q.1)) && yields E m (E.hint m.nx) q.2.tl.length ys && stillH m m (E.hint m.nx) && !((E.hint m.nx).contains t) && Nat.beq q.2.mode 1 && Nat.ble q.2.tl.length most && Nat.ble most 1000000 && Nat.ble 1 q.2.tl.length with
    | true => .ok [(.nilIface, { q.2 with tr := Tr.set 20 (Tr.set 20 (q.2.tr.map (leaveO m) 1 0) q.2.ic .dead) t (ended E q.2.ib q.2.tl.length f caps), j := 0, tl := [], mode := 0 })]
    | false => .no ["run"]
  | [] => .no ["run"]
/-- The hints are told by the Ctx's number. -/
noncomputable def enterM (E : Env) (t : Nat) (m : Mem) : Mem := { m with tr := Tr.set 20 (Tr.set 20 (m.tr.map (enterO (E.hint m.nx)) 1 0) t .dead) m.nx .abs, nx := m.nx + 1, ic := m.nx, mode := 1, j := 0, tl := [] }
noncomputable def runT (E : Env) (rec' : ExecF) (m : Mem) : List Value → R (List (Value × Mem))
  | [.pointer (some ⟨t, 0, none⟩), .int .i64 (.ofNat most)] => orb m.bs fun _ => orb (m.tr.get? t) fun o => orb (fresh m.ib E o) fun q => match Nat.beq m.mode 0 && Nat.blt m.nx lim with
      | true => rb (body E rec' q.1 (pv m.nx :: .int .i64 (.ofNat 0) :: q.2) (enterM E t m)) (runEnd E m t q.1 q.2 most)
      | false => .no ["run in a body"]
  | _ => .no ["run's arguments"]
def isP (i : Nat) : List Value → Bool
  | .pointer (some ⟨j, 0, none⟩) :: _ => Nat.beq i j
  | _ => false
noncomputable def callP (E : Env) (rec' : ExecF) (args : List Value) (m : Mem) : Prim → R (List (Value × Mem))
  | .fn p => R.of (ob (p args m) fun r => some [r])
  | .acc p => bif' (isP m.ic args) (orb (p args) fun q => access' m q.1 q.2) (.no ["Ctx"])
  | .run => runT E rec' m args
def nilP : List Value → Bool
  | .pointer none :: _ => true
  | _ => false
/-- By a pointer that is none what is known is run, too. -/
noncomputable def callE (E : Env) (rec' : ExecF) : CallF := fun f args m => bif' (nilP args) (body E rec' f args m) (Option.rec (body E rec' f args m) (fun p => note "prim" (callP E rec' args m p)) (E.prim f))

noncomputable def eSeq (rec' : ExecF) (b : Code) (o : Out) : R (List Out) :=
  match o.ex with
  | .normal => rec' none b o.T o.m
  | _ => .ok [o]
noncomputable def eBlock (id : Nat) (o : Out) : R (List Out) :=
  match o.ex with
  | .exit i => .ok [bif' (Nat.beq i id) { o with ex := .normal } o]
  | _ => .ok [o]
noncomputable def eScope (rec' : ExecF) (b : Code) (o : Out) : R (List Out) :=
  match o.ex with
  | .goto l => Option.rec (.ok [o]) (fun rest => rec' (some b) rest o.T o.m) (findLabel b l)
  | _ => .ok [o]
noncomputable def eCond (rec' : ExecF) (x y : Code) (T : Tr Value) (m : Mem) : Value → R (List Out)
  | .bool b => rec' none (bif' b x y) T m
  | _ => .no ["cond"]
structure CodeB where
  f : Env → ExecF → Tr Value → Mem → R (List Out)
noncomputable def codeB (c : Code) : CodeB :=
  match c with
  | .skip => ⟨fun E rec' T m => .ok [⟨.normal, T, m⟩]⟩
  | .label _ => ⟨fun E rec' T m => .ok [⟨.normal, T, m⟩]⟩
  | .seq a b => ⟨fun E rec' T m => rb (rec' none a T m) (each (eSeq rec' b))⟩
  | .cond x a b => ⟨fun E rec' T m => orb (ev T x) (eCond rec' a b T m)⟩
  | .block id b => ⟨fun E rec' T m => rb (rec' none b T m) (each (eBlock id))⟩
  | .loop b => ⟨fun E rec' T m => rb (rec' none b T m) (each (eSeq rec' (.loop b)))⟩
  | .scope b => ⟨fun E rec' T m => rec' (some b) b T m⟩
  | .goto l => ⟨fun E rec' T m => .ok [⟨.goto l, T, m⟩]⟩
  | .exit id => ⟨fun E rec' T m => .ok [⟨.exit id, T, m⟩]⟩
  | .ret => ⟨fun E rec' T m => .ok [⟨.ret, T, m⟩]⟩
  | .region _ ops draw => ⟨fun E rec' T m => rb (region E (callE E rec') draw ops.toList T m) (each fun q => .ok [⟨.normal, q.1, q.2⟩])⟩
  | _ => ⟨fun E rec' T m => .no ["code"]⟩
noncomputable def execC (E : Env) (rec' : ExecF) (c : Code) (T : Tr Value) (m : Mem) : R (List Out) := (codeB c).f E rec' T m
noncomputable def execS (E : Env) (rec' : ExecF) : ExecF := fun sc c T m =>
  Option.rec (execC E rec' c T m) (fun b => rb (rec' none c T m) (each (eScope rec' b))) sc
noncomputable def exec (E : Env) (n : Nat) : ExecF := Nat.rec (motive := fun _ => ExecF) (fun _ _ _ _ => .no ["fuel"]) (fun _ ih => execS E ih) n
noncomputable def callX (E : Env) (n : Nat) (f : FuncId) (args : List Value) (m : Mem) : R (List (Value × Mem)) := body E (exec E n) f args m

/-! What is not run, but known. -/
structure ET where
  errno : Nat
  fault : Nat
  unfit : Nat
  doing : Nat
  join : Nat
  faultS : Nat
  doingS : Nat
  joinS : Nat
noncomputable def small : Int → Option Nat
  | .ofNat n => ifo (Nat.ble 1 n && Nat.ble n 17) (some n)
  | _ => none
def i64v {β : Type} (f : Int → Option β) : Value → Option β
  | .int .i64 n => f n
  | _ => none
noncomputable def joined (m : Mem) (rec' : Value → Option Nat) : Value → Option Nat := slc fun a k _ => ifo (Nat.beq k 1) (ob a fun a => ifo (Nat.beq a.off 0) (m.row a.block fun n c d _ _ ro => ifo (!ro) (ob (cellAt n c d 0) rec')))
noncomputable def enoP (X : ET) (m : Mem) (rec' : Value → Option Nat) (t b : Nat) : Option Nat :=
  m.row b fun n c d e op ro => ifo (!op && !ro) (
    bif' (Nat.beq t X.fault) (ifo (Nat.beq n 2 && Nat.beq e X.faultS) (ob (cellAt n c d 0) (i64v fun _ => ob (cellAt n c d 1) (i64v small))))
    (bif' (Nat.beq t X.unfit) (some 2)
    (bif' (Nat.beq t X.doing) (ifo (Nat.beq n 2 && Nat.beq e X.doingS) (ob (cellAt n c d 1) rec'))
    (ifo (Nat.beq t X.join && Nat.beq n 1 && Nat.beq e X.joinS) (ob (cellAt n c d 0) (joined m rec'))))))
noncomputable def eno (X : ET) (m : Mem) : Nat → Value → Option Nat
  | 0, _ => none
  | k + 1, v => match v with
    | .nilIface => some 0
    | .iface t x => match x with
      | .int .i64 n => ifo (Nat.beq t X.errno) (small n)
      | .pointer (some ⟨b, 0, none⟩) => ob (enoP X m (eno X m k) t b) fun n => ifo (Nat.blt 0 n) (some n)
      | _ => none
    | _ => none
noncomputable def pNo (X : ET) : List Value → Mem → Option (Value × Mem)
  | [v], m => ob (eno X m 20 v) fun n => some (.int .i64 (.ofNat n), m)
  | _, _ => none
noncomputable def pIs (X : ET) : List Value → Mem → Option (Value × Mem)
  | [v, .iface t (.int .i64 (.ofNat k))], m => ifo (Nat.beq t X.errno && Nat.ble 1 k) (ob (eno X m 20 v) fun n => some (.bool (Nat.beq n k), m))
  | _, _ => none
/-- concordlaw02.On. -/
noncomputable def pOn : List Value → Mem → Option (Value × Mem)
  | [.int .i64 (.ofNat n), .int .i64 (.ofNat f)], m => ifo (Nat.ble 1 n && Nat.ble n 16384 && Nat.ble f n && Nat.beq m.mode 0 && Nat.blt m.nx 900000)
      (some (.tuple ⟨[pv m.nx, pv (m.nx + 1)]⟩, { m with tr := Tr.set 20 (Tr.set 20 m.tr m.nx .abs) (m.nx + 1) .abs, nx := m.nx + 2, ib := m.nx + 1, bs := some ⟨List.replicate n 0, f, [], []⟩ }))
  | _, _ => none
/-- Blocks' Load, outside of bodies. -/
noncomputable def pBLoad : List Value → Mem → Option (Value × Mem)
  | [.pointer (some ⟨b, 0, none⟩), .int .u64 (.ofNat ref), .int .i64 i], m => ob m.bs fun S => ifo (Nat.beq b m.ib && Nat.blt ref 18446744073709551616 && Nat.beq (opLoad ref i S).1.err 0 && Nat.beq m.mode 0) (some (.tuple ⟨[.int .u64 (.ofNat (opLoad ref i S).1.word), .nilIface]⟩, m))
  | _, _ => none
/-- Blocks' Alloc, outside of bodies. -/
noncomputable def pBAlloc : List Value → Mem → Option (Value × Mem)
  | [.pointer (some ⟨b, 0, none⟩), .int .i64 n], m => ob m.bs fun S => ifo (Nat.beq b m.ib && Nat.beq (opAlloc n S).1.err 0 && Nat.beq m.mode 0) (some (.tuple ⟨[.int .u64 (.ofNat (opAlloc n S).1.ref), .nilIface]⟩, { m with bs := some (opAlloc n S).2 }))
  | _, _ => none
def errV' (errno : Nat) : Nat → Value
  | 0 => .nilIface
  | n => .iface errno (.int .i64 (.ofNat n))
def if64 {β : Type} (n : Nat) (x : Option β) : Option β := match Nat.blt n 18446744073709551616 with | true => x | false => none
def aLoad (X : ET) : List Value → Option ((BS → Ntry × BS) × (Ntry → Value))
  | [_, .int .u64 (.ofNat ref), .int .i64 i] => if64 ref (some (opLoad ref i, fun x => .tuple ⟨[.int .u64 (.ofNat x.word), errV' X.errno x.err]⟩))
  | _ => none
def aStore (X : ET) : List Value → Option ((BS → Ntry × BS) × (Ntry → Value))
  | [_, .int .u64 (.ofNat ref), .int .i64 i, .int .u64 (.ofNat x)] => if64 ref (if64 x (some (opStore ref i x, fun x => errV' X.errno x.err)))
  | [_, .int .u64 (.ofNat ref), .int .i64 i, .float .f32 x] => if64 ref (some (opStore ref i x, fun x => errV' X.errno x.err))
  | _ => none
def aCAS (X : ET) : List Value → Option ((BS → Ntry × BS) × (Ntry → Value))
  | [_, .int .u64 (.ofNat ref), .int .i64 i, .int .u64 (.ofNat old), .int .u64 (.ofNat x)] => if64 ref (if64 x (some (opCAS ref i old x, fun x => .tuple ⟨[.bool x.done, errV' X.errno x.err]⟩)))
  | _ => none
def aAlloc (X : ET) : List Value → Option ((BS → Ntry × BS) × (Ntry → Value))
  | [_, .int .i64 n] => some (opAlloc n, fun x => .tuple ⟨[.int .u64 (.ofNat x.ref), errV' X.errno x.err]⟩)
  | _ => none
def aFree (X : ET) : List Value → Option ((BS → Ntry × BS) × (Ntry → Value))
  | [_, .int .u64 (.ofNat ref)] => if64 ref (some (opFree ref, fun x => errV' X.errno x.err))
  | _ => none
noncomputable def pLeft : List Value → Mem → Option (Value × Mem)
  | [.pointer (some ⟨b, 0, none⟩)], m => ifo (Nat.beq b m.ic && Nat.ble 1 m.mode && Nat.ble m.j 6000) (some (.int .i64 (.ofNat (Nat.sub 6000 m.j)), m))
  | _, _ => none
def u64v {β : Type} (f : Nat → Option β) : Value → Option β
  | .int .u64 (.ofNat n) => f n
  | _ => none
noncomputable def allR {α : Type} (f : α → Bool) (l : List α) : Bool := List.rec true (fun x _ ih => f x && ih) l
noncomputable def insK {α : Type} (k : Nat) (v : α) (l : List (Nat × α)) : List (Nat × α) := List.rec [(k, v)] (fun x l ih => bif' (Nat.blt k x.1) ((k, v) :: x :: l) (x :: ih)) l
/-- A word, known or not. -/
def wordV {β : Type} (f : Nat → Option β) : Value → Option β
  | .int .u64 (.ofNat n) => f n
  | .float .f32 n => f n
  | _ => none
noncomputable def sortK (es : List (Value × Value × Nat)) : Option (List (Nat × Nat × Value)) := List.rec (some []) (fun e _ ih => u64v (fun k => wordV (fun v => ob ih fun s => some (insK k (v, e.2.1) s)) e.2.1) e.1) es
noncomputable def flatK (l : List (Nat × Nat × Value)) : List Value := List.rec [] (fun x _ ih => .int .u64 (.ofNat x.1) :: x.2.2 :: ih) l
noncomputable def ascK {α : Type} (l : List (Nat × α)) : Bool := List.rec true (fun x l ih => allR (fun y => Nat.blt x.1 y.1) l && ih) l
noncomputable def bornK (cl : Nat) (es : List (Value × Value × Nat)) : Bool := List.rec true (fun e l ih => Nat.blt e.2.2 cl && allR (fun y => !(Nat.beq e.2.2 y.2.2)) l && ih) es
noncomputable def rowK (tw : Nat) (m : Mem) (l : List (Nat × Nat × Value)) : Option (Value × Mem) :=
  match l with
  | [] => some (.slice none 0 0, m)
  | l => newRowV m l.length 2 (Tr.ofList (Go.Sx.flatK l) 0 .nil) none tw
/-- Sets' Writes. -/
noncomputable def pWrites (tw : Nat) : List Value → Mem → Option (Value × Mem)
  | [.pointer (some ⟨b, 0, none⟩)], m => m.row b fun n c d _ op _ => ifo (Nat.beq n 5 && !op) (ob (cellAt n c d 1) (mapP fun _ => ob (cellAt n c d 2) (mapP fun r => m.mapAt r fun es cl _ => ob (sortK es) fun l => ifo (ascK l && bornK cl es && Nat.ble l.length 500) (rowK tw m l))))
  | _, _ => none
/-- Blocks' Live, outside of bodies (one block at the least). -/
noncomputable def refsK (l : List Nat) : List (Nat × Nat) := List.rec [] (fun r _ ih => insK (Nat.mod r 4294967296) r ih) l
noncomputable def refV (l : List (Nat × Nat)) : List Value := List.rec [] (fun x _ ih => .int .u64 (.ofNat x.2) :: ih) l
noncomputable def liveK (tu : Nat) (m : Mem) (l : List (Nat × Nat)) : Option (Value × Mem) := ifo (ascK l && Nat.ble 1 l.length) (newRowV m l.length 1 (Tr.ofList (refV l) 0 .nil) none tu)
noncomputable def pBLive (tu : Nat) : List Value → Mem → Option (Value × Mem)
  | [.pointer (some ⟨b, 0, none⟩)], m => ob m.bs fun S => ifo (Nat.beq b m.ib && Nat.beq m.mode 0) (liveK tu m (refsK (Go.Proofs.YtgmdbfackbdnlaaGreatDoor.Bl.liveRefs S.bl)))
  | _, _ => none
/-- Blocks' Free, outside of bodies. -/
noncomputable def pBFree : List Value → Mem → Option (Value × Mem)
  | [.pointer (some ⟨b, 0, none⟩), .int .u64 (.ofNat ref)], m => ob m.bs fun S => ifo (Nat.beq b m.ib && Nat.blt ref 18446744073709551616 && Nat.beq (opFree ref S).1.err 0 && Nat.beq m.mode 0) (some (.nilIface, { m with bs := some (opFree ref S).2 }))
  | _, _ => none
/-- Blocks' Store and CAS, outside of bodies. -/
noncomputable def pBStore : List Value → Mem → Option (Value × Mem)
  | [.pointer (some ⟨b, 0, none⟩), .int .u64 (.ofNat ref), .int .i64 i, .int .u64 (.ofNat x)], m => ob m.bs fun S => ifo (Nat.beq b m.ib && Nat.blt ref 18446744073709551616 && Nat.blt x 18446744073709551616 && Nat.beq (opStore ref i x S).1.err 0 && Nat.beq m.mode 0) (some (.nilIface, { m with bs := some (opStore ref i x S).2 }))
  | _, _ => none
noncomputable def pBCAS : List Value → Mem → Option (Value × Mem)
  | [.pointer (some ⟨b, 0, none⟩), .int .u64 (.ofNat ref), .int .i64 i, .int .u64 (.ofNat old), .int .u64 (.ofNat x)], m => ob m.bs fun S => ifo (Nat.beq b m.ib && Nat.blt ref 18446744073709551616 && Nat.blt x 18446744073709551616 && Nat.beq (opCAS ref i old x S).1.err 0 && Nat.beq m.mode 0) (some (.tuple ⟨[.bool (opCAS ref i old x S).1.done, .nilIface]⟩, { m with bs := some (opCAS ref i old x S).2 }))
  | _, _ => none
/-- count's stripe: of a key, or, where there is but one, of any. -/
noncomputable def pStripe : List Value → Mem → Option (Value × Mem)
  | [.slice (some ⟨b, 0, none⟩) n _, k], m => m.row b fun n' c d _ _ _ => ob (match k with
    | .int .i64 z => ifo (Nat.blt 0 n && Nat.ble n lim) (some (Nat.mod (Int.toNat (wu64 z)) n))
    | .float .f64 1 => ifo (Nat.beq n 1) (some 0)
    | _ => none) fun i => ob (cellAt n' c d i) fun v => some (v, m)
  | _, _ => none
/-- bits' Rank, and Tall (by the laid table). -/
def pRank : List Value → Mem → Option (Value × Mem)
  | [.int .u32 (.ofNat n), .int .i64 s], m => match Nat.blt n 4294967296 with
    | true => some (.int .i64 (.ofNat (Go.Proofs.YtgmdbfackbdnlaaGreatDoor.Bp.pop (Go.Proofs.YtgmdbfackbdnlaaGreatDoor.Bp.inN s) n)), m)
    | false => none
  | _, _ => none
def pTall : List Value → Mem → Option (Value × Mem)
  | [.int .u64 (.ofNat d), .int .i64 (.ofNat t)], m => match Nat.blt d 18446744073709551616 with
    | true => some (.int .i64 (.ofNat (Nat.min (Nat.add 1 (Lib.ctz 64 d)) (Nat.max t 1))), m)
    | false => none
  | _, _ => none
def xt : ET := ⟨102, 334, 436, 309, 400, 336, 311, 402⟩
end Go.Sx

/- The executor's trees: what stands where, behind a set, of a list, behind a map. -/
namespace Go.Sx

theorem bif_true {α : Type} (t f : α) : bif' true t f = t := rfl
theorem bif_false {α : Type} (t f : α) : bif' false t f = f := rfl
theorem bif_eq {α : Type} (b : Bool) (t f : α) : bif' b t f = if b = true then t else f := by cases b <;> rfl
theorem Tr.get_nil {α : Type} (n : Nat) : (Tr.nil : Tr α).get? n = none := rfl
theorem Tr.get_zero {α : Type} (v : Option α) (l r : Tr α) : (Tr.node v l r).get? 0 = v := rfl
theorem Tr.get_succ {α : Type} (v : Option α) (l r : Tr α) (k : Nat) : (Tr.node v l r).get? (k + 1) = bif' (Nat.beq (Nat.mod k 2) 0) (l.get? (Nat.div k 2)) (r.get? (Nat.div k 2)) := rfl
theorem Tr.get_node_nil {α : Type} (n : Nat) : (Tr.node none .nil .nil : Tr α).get? n = none := by
  cases n with
  | zero => rfl
  | succ k => rw [Tr.get_succ, bif_eq]; split <;> rfl
theorem Tr.get_even {α : Type} (v : Option α) (l r : Tr α) (k : Nat) : (Tr.node v l r).get? (2 * k + 1) = l.get? k := by
  rw [Tr.get_succ, bif_eq, if_pos]
  · show l.get? (2 * k / 2) = _; rw [show 2 * k / 2 = k by omega]
  · show Nat.beq (2 * k % 2) 0 = true; rw [show 2 * k % 2 = 0 by omega]; rfl
theorem Tr.get_odd {α : Type} (v : Option α) (l r : Tr α) (k : Nat) : (Tr.node v l r).get? (2 * k + 2) = r.get? k := by
  rw [Tr.get_succ v l r (2 * k + 1), bif_eq, if_neg]
  · show r.get? ((2 * k + 1) / 2) = _; rw [show (2 * k + 1) / 2 = k by omega]
  · show ¬ Nat.beq ((2 * k + 1) % 2) 0 = true; rw [show (2 * k + 1) % 2 = 1 by omega]; decide
theorem halves (n : Nat) : n = 0 ∨ (∃ k, n = 2 * k + 1) ∨ (∃ k, n = 2 * k + 2) := by
  rcases Nat.eq_zero_or_pos n with h | h
  · exact .inl h
  · rcases Nat.mod_two_eq_zero_or_one n with e | e
    · exact .inr (.inr ⟨n / 2 - 1, by omega⟩)
    · exact .inr (.inl ⟨n / 2, by omega⟩)
theorem Tr.setN_eq {α : Type} (k n : Nat) (v : α) : Tr.setN (k + 1) n v = Nat.rec (motive := fun _ => Tr α) (.node (some v) .nil .nil)
    (fun j _ => bif' (Nat.beq (Nat.mod j 2) 0) (.node none (Tr.setN k (Nat.div j 2) v) .nil) (.node none .nil (Tr.setN k (Nat.div j 2) v))) n := rfl
theorem even2 (j : Nat) : Nat.beq (Nat.mod (2 * j) 2) 0 = true ∧ Nat.div (2 * j) 2 = j := by
  refine ⟨?_, ?_⟩
  · show Nat.beq (2 * j % 2) 0 = true; rw [show 2 * j % 2 = 0 by omega]; rfl
  · show 2 * j / 2 = j; omega
theorem odd2 (j : Nat) : Nat.beq (Nat.mod (2 * j + 1) 2) 0 = false ∧ Nat.div (2 * j + 1) 2 = j := by
  refine ⟨?_, ?_⟩
  · show Nat.beq ((2 * j + 1) % 2) 0 = false; rw [show (2 * j + 1) % 2 = 1 by omega]; rfl
  · show (2 * j + 1) / 2 = j; omega
theorem Tr.get_setN {α : Type} (v : α) : ∀ (k n m : Nat), n + 1 < 2 ^ k → (Tr.setN k n v).get? m = if m = n then some v else none
  | 0, n, m, h => by simp at h
  | k + 1, n, m, h => by
    rw [Tr.setN_eq]
    have h2 : 2 ^ (k + 1) = 2 * 2 ^ k := by rw [Nat.pow_succ]; omega
    rcases halves n with rfl | ⟨j, rfl⟩ | ⟨j, rfl⟩
    · show (Tr.node (some v) .nil .nil).get? m = _
      cases m with
      | zero => rfl
      | succ m => rw [if_neg (by omega), Tr.get_succ, bif_eq]; split <;> rfl
    · show (bif' (Nat.beq (Nat.mod (2 * j) 2) 0) (Tr.node none (Tr.setN k (Nat.div (2 * j) 2) v) .nil) (Tr.node none .nil (Tr.setN k (Nat.div (2 * j) 2) v))).get? m = _
      rw [(even2 j).1, (even2 j).2, bif_true]
      rcases halves m with rfl | ⟨i, rfl⟩ | ⟨i, rfl⟩
      · rw [if_neg (by omega)]; rfl
      · rw [Tr.get_even, Tr.get_setN v k j i (by omega)]
        by_cases hi : i = j
        · rw [if_pos hi, if_pos (by omega)]
        · rw [if_neg hi, if_neg (by omega)]
      · rw [Tr.get_odd, if_neg (by omega)]; rfl
    · show (bif' (Nat.beq (Nat.mod (2 * j + 1) 2) 0) (Tr.node none (Tr.setN k (Nat.div (2 * j + 1) 2) v) .nil) (Tr.node none .nil (Tr.setN k (Nat.div (2 * j + 1) 2) v))).get? m = _
      rw [(odd2 j).1, (odd2 j).2, bif_false]
      rcases halves m with rfl | ⟨i, rfl⟩ | ⟨i, rfl⟩
      · rw [if_neg (by omega)]; rfl
      · rw [Tr.get_even, if_neg (by omega)]; rfl
      · rw [Tr.get_odd, Tr.get_setN v k j i (by omega)]
        by_cases hi : i = j
        · rw [if_pos hi, if_pos (by omega)]
        · rw [if_neg hi, if_neg (by omega)]
theorem Tr.setT_node {α : Type} (w : Option α) (l r : Tr α) (k n : Nat) (v : α) : Tr.setT (.node w l r) k n v = Nat.rec (motive := fun _ => Tr α) (.node (some v) l r)
    (fun j _ => bif' (Nat.beq (Nat.mod j 2) 0) (.node w (Tr.setT l (Nat.sub k 1) (Nat.div j 2) v) r) (.node w l (Tr.setT r (Nat.sub k 1) (Nat.div j 2) v))) n := rfl
theorem half_lt {k j : Nat} (h : 2 * j + 2 < 2 ^ k) : j + 1 < 2 ^ (Nat.sub k 1) := by
  cases k with
  | zero => simp at h
  | succ k =>
    have h2 : 2 ^ (k + 1) = 2 * 2 ^ k := by rw [Nat.pow_succ]; omega
    show j + 1 < 2 ^ k
    omega
theorem Tr.get_setT {α : Type} (v : α) : ∀ (t : Tr α) (k n m : Nat), n + 1 < 2 ^ k → (Tr.setT t k n v).get? m = if m = n then some v else t.get? m
  | .nil, k, n, m, h => Tr.get_setN v k n m h
  | .node w l r, k, n, m, h => by
    rw [Tr.setT_node]
    rcases halves n with rfl | ⟨j, rfl⟩ | ⟨j, rfl⟩
    · show (Tr.node (some v) l r).get? m = _
      cases m with
      | zero => rfl
      | succ m => rw [if_neg (by omega), Tr.get_succ, Tr.get_succ]
    · show (bif' (Nat.beq (Nat.mod (2 * j) 2) 0) (Tr.node w (Tr.setT l (Nat.sub k 1) (Nat.div (2 * j) 2) v) r) (Tr.node w l (Tr.setT r (Nat.sub k 1) (Nat.div (2 * j) 2) v))).get? m = _
      rw [(even2 j).1, (even2 j).2, bif_true]
      rcases halves m with rfl | ⟨i, rfl⟩ | ⟨i, rfl⟩
      · rw [if_neg (by omega)]; rfl
      · rw [Tr.get_even, Tr.get_even, Tr.get_setT v l _ j i (half_lt h)]
        by_cases hi : i = j
        · rw [if_pos hi, if_pos (by omega)]
        · rw [if_neg hi, if_neg (by omega)]
      · rw [Tr.get_odd, Tr.get_odd, if_neg (by omega)]
    · show (bif' (Nat.beq (Nat.mod (2 * j + 1) 2) 0) (Tr.node w (Tr.setT l (Nat.sub k 1) (Nat.div (2 * j + 1) 2) v) r) (Tr.node w l (Tr.setT r (Nat.sub k 1) (Nat.div (2 * j + 1) 2) v))).get? m = _
      rw [(odd2 j).1, (odd2 j).2, bif_false]
      rcases halves m with rfl | ⟨i, rfl⟩ | ⟨i, rfl⟩
      · rw [if_neg (by omega)]; rfl
      · rw [Tr.get_even, Tr.get_even, if_neg (by omega)]
      · rw [Tr.get_odd, Tr.get_odd, Tr.get_setT v r _ j i (half_lt (by omega))]
        by_cases hi : i = j
        · rw [if_pos hi, if_pos (by omega)]
        · rw [if_neg hi, if_neg (by omega)]
theorem Tr.get_set20 {α : Type} (v : α) (t : Tr α) (n m : Nat) (h : n ≤ 1048574) : (Tr.set 20 t n v).get? m = if m = n then some v else t.get? m :=
  Tr.get_setT v t 20 n m (by omega)
theorem Tr.get_ofList {α : Type} : ∀ (l : List α) (i : Nat) (t : Tr α) (m : Nat), i + l.length ≤ 1048575 → (Tr.ofList l i t).get? m = if i ≤ m ∧ m < i + l.length then l[m - i]? else t.get? m
  | [], i, t, m, _ => by rw [if_neg (by simp only [List.length_nil]; omega)]; exact rfl
  | x :: l, i, t, m, h => by
    simp only [List.length_cons] at h ⊢
    show (Tr.ofList l (i + 1) (Tr.set 20 t i x)).get? m = _
    rw [Tr.get_ofList l (i + 1) _ m (by omega), Tr.get_set20 _ _ _ _ (by omega)]
    by_cases h1 : m = i
    · subst h1
      rw [if_neg (by omega), if_pos rfl, if_pos (by omega), Nat.sub_self]; rfl
    · by_cases h2 : i + 1 ≤ m ∧ m < i + 1 + l.length
      · rw [if_pos h2, if_pos (by omega), show m - i = (m - (i + 1)) + 1 by omega]; rfl
      · rw [if_neg h2, if_neg h1, if_neg (by omega)]
theorem Tr.get_map {α : Type} (f : Nat → α → α) : ∀ (t : Tr α) (a b m : Nat), (t.map f a b).get? m = (t.get? m).map (f (a * m + b))
  | .nil, a, b, m => rfl
  | .node v l r, a, b, m => by
    show (Tr.node (Option.rec none (fun x => some (f b x)) v) (l.map f (2 * a) (a + b)) (r.map f (2 * a) (2 * a + b))).get? m = _
    rcases halves m with rfl | ⟨i, rfl⟩ | ⟨i, rfl⟩
    · rw [Tr.get_zero, Tr.get_zero]
      cases v with
      | none => rfl
      | some x => simp
    · rw [Tr.get_even, Tr.get_even, Tr.get_map f l, show 2 * a * i + (a + b) = a * (2 * i + 1) + b by rw [Nat.mul_add, Nat.mul_comm 2 a, Nat.mul_assoc]; omega]
    · rw [Tr.get_odd, Tr.get_odd, Tr.get_map f r, show 2 * a * i + (2 * a + b) = a * (2 * i + 2) + b by rw [Nat.mul_add, Nat.mul_comm 2 a, Nat.mul_assoc]; omega]
theorem Tr.get_map1 {α : Type} (f : Nat → α → α) (t : Tr α) (m : Nat) : (t.map f 1 0).get? m = (t.get? m).map (f m) := by
  rw [Tr.get_map, Nat.one_mul, Nat.add_zero]

/-- All that stands in a tree is as Q says, of its number. -/
def TrOk {α : Type} (Q : Nat → α → Prop) (t : Tr α) (a b : Nat) : Prop := ∀ m x, t.get? m = some x → Q (a * m + b) x
theorem TrOk.nil {α : Type} {Q : Nat → α → Prop} {a b : Nat} : TrOk Q .nil a b := fun _ _ h => by cases h
theorem TrOk.node {α : Type} {Q : Nat → α → Prop} {a b : Nat} {x : α} {l r : Tr α} (hx : Q b x) (hl : TrOk Q l (2 * a) (a + b)) (hr : TrOk Q r (2 * a) (2 * a + b)) : TrOk Q (.node (some x) l r) a b := by
  intro m y hy
  rcases halves m with rfl | ⟨i, rfl⟩ | ⟨i, rfl⟩
  · rw [Tr.get_zero] at hy; cases hy; simpa using hx
  · rw [Tr.get_even] at hy
    have := hl i y hy
    rwa [show 2 * a * i + (a + b) = a * (2 * i + 1) + b by rw [Nat.mul_add, Nat.mul_comm 2 a, Nat.mul_assoc]; omega] at this
  · rw [Tr.get_odd] at hy
    have := hr i y hy
    rwa [show 2 * a * i + (2 * a + b) = a * (2 * i + 2) + b by rw [Nat.mul_add, Nat.mul_comm 2 a, Nat.mul_assoc]; omega] at this

/-! By its kind. -/
theorem kindR_eq {α : Type} (k : Nat) (a b c : α) : kindR k a b c = (match k with | 3 => a | 2 => b | _ => c) := by
  rcases k with _ | _ | _ | _ | k <;> rfl
theorem kindD_eq {α : Type} (k : Nat) (a b c d : α) : kindD k a b c d = (match k with | 3 => a | 2 => b | 1 => c | _ => d) := by
  rcases k with _ | _ | _ | _ | k <;> rfl

/-! Options. -/
theorem ob_some {α β : Type} {o : Option α} {f : α → Option β} {b : β} (h : ob o f = some b) : ∃ a, o = some a ∧ f a = some b := by
  cases o with
  | none => cases h
  | some a => exact ⟨a, rfl, h⟩
theorem ifo_some {β : Type} {b : Bool} {t : Option β} {x : β} (h : ifo b t = some x) : b = true ∧ t = some x := by
  cases b with
  | false => cases h
  | true => exact ⟨rfl, h⟩
theorem rb_ok {α β : Type} {o : R α} {f : α → R β} {b : β} (h : rb o f = .ok b) : ∃ a, o = .ok a ∧ f a = .ok b := by
  cases o with
  | no w => cases h
  | ok a => exact ⟨a, rfl, h⟩
theorem orb_ok {α β : Type} {o : Option α} {f : α → R β} {b : β} (h : orb o f = .ok b) : ∃ a, o = some a ∧ f a = .ok b := by
  cases o with
  | none => cases h
  | some a => exact ⟨a, rfl, h⟩
theorem of_ok {α : Type} {o : Option α} {a : α} (h : R.of o = .ok a) : o = some a := by
  cases o with
  | none => cases h
  | some b => cases h; rfl
theorem note_ok {α : Type} {s : String} {o : R α} {a : α} (h : note s o = .ok a) : o = .ok a := by
  cases o with
  | no w => cases h
  | ok b => exact h
theorem each_ok {α β : Type} {f : α → R (List β)} : ∀ {l : List α} {r : List β}, each f l = .ok r → ∀ x ∈ l, ∃ s, f x = .ok s ∧ ∀ y ∈ s, y ∈ r
  | [], _, _, x, hx => by cases hx
  | a :: l, r, h, x, hx => by
    obtain ⟨s, h1, h2⟩ := rb_ok (o := f a) h
    obtain ⟨t, h3, h4⟩ := rb_ok (o := each f l) h2
    cases h4
    rcases List.mem_cons.1 hx with rfl | hx
    · exact ⟨s, h1, fun y hy => List.mem_append_left _ hy⟩
    · obtain ⟨u, h5, h6⟩ := each_ok h3 x hx
      exact ⟨u, h5, fun y hy => List.mem_append_right _ (h6 y hy)⟩
end Go.Sx
