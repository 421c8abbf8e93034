/- Heap: Heap, Map, Range. -/
import Derived.Below
import Derived.WalkKit
import Derived.WalkSmall
import Derived.OneCell
import Derived.Maps.Own
import Derived.Maps.OwnOps
import Derived.Maps.RangeRun

/- What a call may have changed of the heap: small laws on blocks of cells. No program stands here. -/
namespace Go.Proofs.YtmdganpealbmpaaGreatDoor
open Go.RowKit

/-- Of all blocks that were there only those of S may have changed; new ones may have come. -/
structure Kept (S : Nat → Prop) (w w' : World) : Prop where
  os : w'.os = w.os
  tape : w'.tape = w.tape
  output : w'.output = w.output
  size : w.heap.size ≤ w'.heap.size
  block : ∀ k, k < w.heap.size → ¬ S k → w'.heap[k]? = w.heap[k]?

theorem Kept.refl (S : Nat → Prop) (w : World) : Kept S w w := ⟨rfl, rfl, rfl, Nat.le_refl _, fun _ _ _ => rfl⟩
theorem Kept.trans {S : Nat → Prop} {a b c : World} (h : Kept S a b) (k : Kept S b c) : Kept S a c :=
  ⟨k.os.trans h.os, k.tape.trans h.tape, k.output.trans h.output, Nat.le_trans h.size k.size, fun i hi hs => (k.block i (Nat.lt_of_lt_of_le hi h.size) hs).trans (h.block i hi hs)⟩
theorem Kept.mono {S T : Nat → Prop} {w w' : World} (h : Kept S w w') (hs : ∀ k, k < w.heap.size → S k → T k) : Kept T w w' :=
  ⟨h.os, h.tape, h.output, h.size, fun k hk ht => h.block k hk fun hS => ht (hs k hk hS)⟩
/-- What changed only blocks that were new, or of S, since a. -/
theorem Kept.then {S T : Nat → Prop} {a b c : World} (h : Kept S a b) (k : Kept T b c) (hs : ∀ i, i < a.heap.size → T i → S i) : Kept S a c :=
  ⟨k.os.trans h.os, k.tape.trans h.tape, k.output.trans h.output, Nat.le_trans h.size k.size, fun i hi hi' => (k.block i (Nat.lt_of_lt_of_le hi h.size) fun ht => hi' (hs i hi ht)).trans (h.block i hi hi')⟩
theorem Kept.drew {S : Nat → Prop} {a w : World} (h : Kept S a w) : Kept S a w.drew := ⟨h.os, h.tape, h.output, h.size, h.block⟩
theorem Kept.drewN {S : Nat → Prop} {a w : World} (h : Kept S a w) (n : Nat) : Kept S a (w.drewN n) := ⟨h.os, h.tape, h.output, h.size, h.block⟩
theorem Kept.alloc {S : Nat → Prop} {a w : World} (h : Kept S a w) (o : Obj) : Kept S a (w.alloc o) :=
  ⟨h.os, h.tape, h.output, by have := h.size; simp; omega, fun k hk hs => (Below.heap_alloc w o k (Nat.lt_of_lt_of_le hk h.size)).trans (h.block k hk hs)⟩
theorem Kept.setCell {S : Nat → Prop} {a w : World} (h : Kept S a w) {p : Addr} (hp : p.block < a.heap.size → S p.block) (u : Value) : Kept S a (w.setCell p u) :=
  ⟨h.os, h.tape, h.output, by have := h.size; simp; omega, fun k hk hs => (Below.heap_setCell w p u k (fun e => hs (e ▸ hp (e ▸ hk)))).trans (h.block k hk hs)⟩
theorem Kept.below {S : Nat → Prop} {w w' : World} (h : Kept S w w') {B : Nat} (hB : B ≤ w.heap.size) (hs : ∀ k, k < B → ¬ S k) : Below B w w' :=
  ⟨h.os, h.tape, h.output, h.size, fun k hk => h.block k (Nat.lt_of_lt_of_le hk hB) (hs k hk)⟩
theorem Kept.of_below {B : Nat} {w w' : World} (h : Below B w w') : Kept (fun k => B ≤ k) w w' :=
  ⟨h.os, h.tape, h.output, h.size, fun k _ hs => h.block k (Nat.lt_of_not_le hs)⟩
theorem Kept.of_grown {w w' : World} {row : Option Nat} (h : w.grownBy w' row) : Kept (fun k => some k = row) w w' :=
  ⟨h.os, h.tape, h.output, h.size, fun k hk hs => h.block k hk hs⟩

/-- A block of cells that nothing has frozen. -/
def Cells (w : World) (b : Nat) (cs : List Value) (t : TypeId) : Prop := w.heap[b]? = some (.cells cs.toArray t (0, 0))

theorem Cells.cast {w : World} {b : Nat} {cs cs' : List Value} {t : TypeId} (h : Cells w b cs t) (e : cs = cs') : Cells w b cs' t := e ▸ h
theorem Cells.lt {w : World} {b : Nat} {cs : List Value} {t : TypeId} (h : Cells w b cs t) : b < w.heap.size := lt_of_block h
theorem Cells.cell {w : World} {b : Nat} {cs : List Value} {t : TypeId} (h : Cells w b cs t) (i : Nat) : w.cell? ⟨b, i, none⟩ = cs[i]? := by
  unfold Cells at h; simp [World.cell?, h]
theorem Cells.free {w : World} {b : Nat} {cs : List Value} {t : TypeId} (h : Cells w b cs t) (i : Nat) : w.frozen? ⟨b, i, none⟩ = false := by
  unfold Cells at h; simp [World.frozen?, h]
theorem Cells.kept {S : Nat → Prop} {w w' : World} {b : Nat} {cs : List Value} {t : TypeId} (h : Cells w b cs t) (k : Kept S w w') (hs : ¬ S b) : Cells w' b cs t :=
  (k.block b h.lt hs).trans h
theorem Cells.set {w : World} {b : Nat} {cs : List Value} {t : TypeId} (h : Cells w b cs t) (i : Nat) (v : Value) : Cells (w.setCell ⟨b, i, none⟩ v) b (cs.set i v) t := by
  unfold Cells at *
  have hb := lt_of_block h
  have e : w.heap[b]'hb = .cells cs.toArray t (0, 0) := by rw [Array.getElem?_eq_getElem hb] at h; exact Option.some.inj h
  simp [World.setCell, Array.getElem?_modify, h]
theorem Cells.set_other {w : World} {b : Nat} {cs : List Value} {t : TypeId} (h : Cells w b cs t) {a : Addr} (ha : b ≠ a.block) (v : Value) : Cells (w.setCell a v) b cs t :=
  (Below.heap_setCell w a v b ha).trans h
theorem Cells.alloc {w : World} {b : Nat} {cs : List Value} {t : TypeId} (h : Cells w b cs t) (o : Obj) : Cells (w.alloc o) b cs t :=
  (Below.heap_alloc w o b h.lt).trans h
theorem Cells.drew {w : World} {b : Nat} {cs : List Value} {t : TypeId} (h : Cells w b cs t) : Cells w.drew b cs t := h
theorem Cells.new (w : World) (cs : List Value) (t : TypeId) : Cells (w.alloc (.cells cs.toArray t)) w.heap.size cs t := by
  show (w.heap.push _)[w.heap.size]? = _
  simp
theorem ret_one {k : IntKind} {a b : Int} (h : a = b) : Ending.returned (.int k a) = .returned (.int k b) := by rw [h]
theorem ret_pr {k : IntKind} {a b : Int} {v : Value} (h : a = b) : Ending.returned (.tuple #[.int k a, v]) = .returned (.tuple #[.int k b, v]) := by rw [h]
theorem quiet_left {P : Program} {f : FuncId} {args : Array Value} {w : World} {n : Nat} {v : Value}
    (h : Calls P f args (w.drewN n) fun e w' => e = .returned v ∧ w.drewN n = w') : Calls P f args (w.drewN n) fun e w'' => e = .returned v ∧ ∃ m, w'' = w.drewN m :=
  h.mono fun _ _ ⟨he, hm⟩ => ⟨he, n, hm.symm⟩
end Go.Proofs.YtmdganpealbmpaaGreatDoor

/- Maps with integer keys, as lists of entries: what a look-up tells and what an update leaves. No program stands here. -/
namespace Go.Proofs.YtmdganpealbmpaaGreatDoor
open Go.RowKit

/-- An entry: its key, its value, and when it was born. -/
structure Ent where
  key : Int
  val : Value
  born : Nat

def Ent.mk' (kd : IntKind) (e : Ent) : MapEntry := { key := .int kd e.key, val := e.val, born := e.born }

/-- Block b is a map with just these entries. -/
def MapAt (w : World) (b : Nat) (kd : IntKind) (es : List Ent) (clock : Nat) : Prop := w.heap[b]? = some (.map (es.map (Ent.mk' kd)).toArray clock)

theorem MapAt.lt {w : World} {b : Nat} {kd : IntKind} {es : List Ent} {c : Nat} (h : MapAt w b kd es c) : b < w.heap.size := lt_of_block h
theorem MapAt.kept {S : Nat → Prop} {w w' : World} {b : Nat} {kd : IntKind} {es : List Ent} {c : Nat} (h : MapAt w b kd es c) (k : Kept S w w') (hs : ¬ S b) : MapAt w' b kd es c := (k.block b h.lt hs).trans h
theorem MapAt.new (w : World) (kd : IntKind) : MapAt (w.alloc (.map #[] 0)) w.heap.size kd [] 0 := by
  show (w.heap.push _)[w.heap.size]? = _
  simp
theorem MapAt.alloc {w : World} {b : Nat} {kd : IntKind} {es : List Ent} {c : Nat} (h : MapAt w b kd es c) (o : Obj) : MapAt (w.alloc o) b kd es c := (Below.heap_alloc w o b h.lt).trans h

/-- What a key has. -/
def look (k : Int) : List Ent → Option Value
  | [] => none
  | e :: es => if e.key = k then some e.val else look k es
/-- Where it stands. -/
def place (k : Int) : List Ent → Nat → Option (Nat × Value)
  | [], _ => none
  | e :: es, i => if e.key = k then some (i, e.val) else place k es (i + 1)

theorem place_look (k : Int) : ∀ (es : List Ent) (i : Nat), (place k es i).map (·.2) = look k es
  | [], _ => rfl
  | e :: es, i => by
    unfold place look
    split
    · rfl
    · exact place_look k es (i + 1)

theorem findNow_at (kd : IntKind) (k : Int) : ∀ (es : List Ent) (i : Nat), Instr.findNow (.int kd) (.int kd k) (es.map (Ent.mk' kd)) i = some (place k es i)
  | [], _ => rfl
  | e :: es, i => by
    simp only [List.map_cons, Instr.findNow, Ent.mk', Instr.sameNow, if_true, place]
    by_cases h : e.key = k
    · simp [h]
    · have h' : (k == e.key) = false := by simpa using fun q => h q.symm
      rw [h']
      simp only [h, if_false]
      exact findNow_at kd k es (i + 1)

theorem run_checkKey_int {P : Program} {t : TypeId} {kd : IntKind} (ht : P.underlying t = some (.int kd)) (b : Bool) (k : Int) (w : World) : (Instr.checkKey b 10000 t (.int kd k)).run P w = .ok () w := by
  show (Instr.checkKey b (9999 + 1) t (.int kd k)).run P w = _
  unfold Instr.checkKey
  simp [run_underlying ht]
theorem run_getObj {P : Program} {w : World} {b : Nat} {es : Array MapEntry} {c : Nat} (h : w.heap[b]? = some (.map es c)) : (getObj b).run P w = .ok (.map es c) w := MapKept.run_getObj_map h

theorem run_lookup_at {P : Program} {w : World} {b : Nat} {kd : IntKind} {es : List Ent} {c : Nat} (h : MapAt w b kd es c) {t kt e : TypeId} (ht : P.underlying t = some (.map kt e)) (hk : P.underlying kt = some (.int kd))
    {z : Value} (hz : ∀ w, (zeroValue e).run P w = .ok z w) (k : Int) : (Instr.lookup t (.map (some b)) (.int kd k) false).run P w = .ok ((look k es).getD z) w := by
  have hf := findNow_at kd k es 0
  have hp := place_look k es 0
  simp only [Instr.lookup, run_underlying ht, Sem.run_bind, Result.andThen_ok, run_getObj h, run_checkKey_int hk, Sem.run_pure, Instr.findKey, run_underlying hk, hf]
  rw [← hp]
  cases place k es 0 with
  | none => simp [hz]
  | some q => simp
theorem run_lookup_ok {P : Program} {w : World} {b : Nat} {kd : IntKind} {es : List Ent} {c : Nat} (h : MapAt w b kd es c) {t kt e : TypeId} (ht : P.underlying t = some (.map kt e)) (hk : P.underlying kt = some (.int kd))
    {z : Value} (hz : ∀ w, (zeroValue e).run P w = .ok z w) (k : Int) : (Instr.lookup t (.map (some b)) (.int kd k) true).run P w = .ok (.tuple #[(look k es).getD z, .bool (look k es).isSome]) w := by
  have hf := findNow_at kd k es 0
  have hp := place_look k es 0
  simp only [Instr.lookup, run_underlying ht, Sem.run_bind, Result.andThen_ok, run_getObj h, run_checkKey_int hk, Sem.run_pure, Instr.findKey, run_underlying hk, hf]
  rw [← hp]
  cases place k es 0 with
  | none => simp [hz]
  | some q => simp

/-- What an update leaves. -/
def upd (k : Int) (v : Value) (c : Nat) : List Ent → List Ent
  | [] => [⟨k, v, c⟩]
  | e :: es => if e.key = k then ⟨k, v, e.born⟩ :: es else e :: upd k v c es
def updClock (k : Int) (es : List Ent) (c : Nat) : Nat := if (look k es).isSome then c else c + 1

theorem look_upd (k j : Int) (v : Value) (c : Nat) : ∀ es : List Ent, look j (upd k v c es) = if j = k then some v else look j es
  | [] => by
    simp only [upd, look]
    by_cases h : k = j
    · simp [h]
    · have : ¬ j = k := fun q => h q.symm
      simp [h, this]
  | e :: es => by
    unfold upd
    by_cases h : e.key = k
    · rw [if_pos h]
      simp only [look]
      by_cases hj : k = j
      · simp [hj]
      · have h1 : ¬ j = k := fun q => hj q.symm
        have h2 : ¬ e.key = j := fun q => hj (h.symm.trans q)
        simp [hj, h1, h2]
    · rw [if_neg h]
      simp only [look]
      by_cases hj : e.key = j
      · have : ¬ j = k := fun q => h (hj.trans q)
        simp [hj, this]
      · simp only [hj, if_false]
        exact look_upd k j v c es

theorem setBlk_at {w : World} {b : Nat} (hb : b < w.heap.size) (o : Obj) : ({ w with heap := w.heap.setIfInBounds b o } : World).heap[b]? = some o := by simp [hb]
theorem kept_setBlk (w : World) (b : Nat) (o : Obj) : Kept (fun k => k = b) w { w with heap := w.heap.setIfInBounds b o } :=
  ⟨rfl, rfl, rfl, by simp, fun k _ hk => by
    show (w.heap.setIfInBounds b o)[k]? = _
    rw [Array.getElem?_setIfInBounds_ne (fun e => hk e.symm)]⟩

theorem place_none (k : Int) : ∀ (es : List Ent) (i : Nat), place k es i = none → look k es = none
  | es, i, h => by have := place_look k es i; rw [h] at this; exact this.symm
theorem place_some (k : Int) (kd : IntKind) (v : Value) (c : Nat) : ∀ (es : List Ent) (i j : Nat) (x : Value), place k es i = some (j, x) → i ≤ j ∧ j - i < es.length ∧ ((es.map (Ent.mk' kd)).modify (j - i) fun e => { e with key := .int kd k, val := v }) = (upd k v c es).map (Ent.mk' kd) ∧ ((es.map (Ent.mk' kd))[j - i]?).map (·.key) = some (.int kd k) ∧ (look k es).isSome = true
  | [], _, _, _, h => by simp [place] at h
  | e :: es, i, j, x, h => by
    unfold place at h
    by_cases hk : e.key = k
    · rw [if_pos hk] at h
      obtain ⟨rfl, rfl⟩ := Prod.mk.inj (Option.some.inj h)
      refine ⟨Nat.le_refl _, by simp, ?_, ?_, ?_⟩
      · simp [upd, hk, Ent.mk']
      · simp [Ent.mk', hk]
      · simp [look, hk]
    · rw [if_neg hk] at h
      obtain ⟨h1, h2, h3, h4, h5⟩ := place_some k kd v c es (i + 1) j x h
      have e1 : j - i = (j - (i + 1)) + 1 := by omega
      refine ⟨by omega, by simp; omega, ?_, ?_, ?_⟩
      · rw [e1]; simp only [List.map_cons, List.modify_succ_cons, h3, upd, hk, if_false]
      · rw [e1]; simpa using h4
      · simp [look, hk, h5]
theorem upd_none (k : Int) (v : Value) (c : Nat) : ∀ es : List Ent, look k es = none → upd k v c es = es ++ [⟨k, v, c⟩]
  | [], _ => rfl
  | e :: es, h => by
    unfold look at h
    by_cases hk : e.key = k
    · simp [hk] at h
    · rw [if_neg hk] at h
      simp [upd, hk, upd_none k v c es h]

theorem run_mapUpdate_at {P : Program} {w : World} {b : Nat} {kd : IntKind} {es : List Ent} {c : Nat} (h : MapAt w b kd es c) {t kt e : TypeId} (ht : P.underlying t = some (.map kt e)) (hk : P.underlying kt = some (.int kd)) (k : Int) (v : Value) :
    ∃ w', (Instr.mapUpdate t (.map (some b)) (.int kd k) v).run P w = .ok () w' ∧ MapAt w' b kd (upd k v c es) (updClock k es c) ∧ Kept (fun i => i = b) w w' := by
  have hf := findNow_at kd k es 0
  simp only [Instr.mapUpdate, run_underlying ht, Sem.run_bind, Result.andThen_ok, run_getObj h, run_checkKey_int hk, Instr.findKey, run_underlying hk, hf, Sem.run_pure]
  have hlt := h.lt
  cases hp : place k es 0 with
  | none =>
    have hl := place_none k es 0 hp
    refine ⟨{ w with heap := w.heap.setIfInBounds b (.map ((es.map (Ent.mk' kd)).toArray.push { key := .int kd k, val := v, born := c }) (c + 1)) }, ?_, ?_, kept_setBlk w b _⟩
    · rw [MapKept.run_setObj_map _ h]
    · unfold MapAt
      rw [setBlk_at hlt, upd_none k v c es hl, updClock, hl]
      simp [Ent.mk']
  | some q =>
    obtain ⟨j, x⟩ := q
    obtain ⟨_, h2, h3, h4, h5⟩ := place_some k kd v c es 0 j x hp
    simp only [Nat.sub_zero] at h2 h3 h4
    refine ⟨{ w with heap := w.heap.setIfInBounds b (.map ((es.map (Ent.mk' kd)).toArray.modify j fun e => { e with key := .int kd k, val := v }) c) }, ?_, ?_, kept_setBlk w b _⟩
    · have e1 : (((es.map (Ent.mk' kd)).toArray[j]?).map (·.key)).getD (.int kd k) = .int kd k := by
        rw [List.getElem?_toArray, h4]; rfl
      simp only [e1, Instr.keyThatStays, Instr.sameBits, beq_self_eq_true, Bool.and_self, if_true, Sem.run_bind, Sem.run_pure, Result.andThen_ok]
      rw [MapKept.run_setObj_map _ h]
    · unfold MapAt
      rw [setBlk_at hlt, updClock, h5, if_pos rfl, ← h3]
      simp

/-- An update at the operation, for the walk. -/
theorem wpList_mapUpdate_at {P : Program} (w : World) {ops : Array Oper} {rest : List Oper} {o : Oper} {a : Act} {Q : Exit → Act → World → Prop}
    (hg : o.guard = none) (m x v : Operand) (t : TypeId) (hop : o.op = Op.mapUpdate t m x v)
    (kt e : TypeId) (kd : IntKind) (ht : P.underlying t = some (.map kt e)) (hk : P.underlying kt = some (.int kd)) (b : Nat) (es : List Ent) (c : Nat)
    (hm : a.eval m = .map (some b)) (h : MapAt w b kd es c) (k : Int) (val : Value) (hx : a.eval x = .int kd k) (hv : a.eval v = val)
    (hK : ∀ w', MapAt w' b kd (upd k val c es) (updClock k es c) → Kept (fun i => i = b) w w' → wpList P ops Q rest (a.put o.dst undef) w') :
    wpList P ops Q (o :: rest) a w := by
  refine wpList_plain hg fun K' hK' => ?_
  obtain ⟨w', hrun, r1, r2⟩ := run_mapUpdate_at (P := P) h ht hk k val
  unfold Oper.wp
  simp [execOp, hop, hm, hx, hv, hrun, Result.andThen]
  exact hK' _ _ (hK w' r1 r2)

/-- The world behind an update. -/
def updWorld (w : World) (b : Nat) (kd : IntKind) (es : List Ent) (c : Nat) : World := { w with heap := w.heap.setIfInBounds b (.map (es.map (Ent.mk' kd)).toArray c) }
theorem updWorld_at {w : World} {b : Nat} (hb : b < w.heap.size) (kd : IntKind) (es : List Ent) (c : Nat) : MapAt (updWorld w b kd es c) b kd es c := setBlk_at hb _
theorem updWorld_kept (w : World) (b : Nat) (kd : IntKind) (es : List Ent) (c : Nat) : Kept (fun i => i = b) w (updWorld w b kd es c) := kept_setBlk w b _
theorem run_mapUpdate_eq {P : Program} {w : World} {b : Nat} {kd : IntKind} {es : List Ent} {c : Nat} (h : MapAt w b kd es c) {t kt e : TypeId} (ht : P.underlying t = some (.map kt e)) (hk : P.underlying kt = some (.int kd)) (k : Int) (v : Value) :
    (Instr.mapUpdate t (.map (some b)) (.int kd k) v).run P w = .ok () (updWorld w b kd (upd k v c es) (updClock k es c)) := by
  have hf := findNow_at kd k es 0
  simp only [Instr.mapUpdate, run_underlying ht, Sem.run_bind, Result.andThen_ok, run_getObj h, run_checkKey_int hk, Instr.findKey, run_underlying hk, hf, Sem.run_pure]
  cases hp : place k es 0 with
  | none =>
    have hl := place_none k es 0 hp
    simp only
    rw [MapKept.run_setObj_map _ h]
    unfold updWorld
    rw [upd_none k v c es hl, updClock, hl]
    simp [Ent.mk']
  | some q =>
    obtain ⟨j, x⟩ := q
    obtain ⟨_, h2, h3, h4, h5⟩ := place_some k kd v c es 0 j x hp
    simp only [Nat.sub_zero] at h2 h3 h4
    have e1 : (((es.map (Ent.mk' kd)).toArray[j]?).map (·.key)).getD (.int kd k) = .int kd k := by
      rw [List.getElem?_toArray, h4]; rfl
    simp only [e1, Instr.keyThatStays, Instr.sameBits, beq_self_eq_true, Bool.and_self, if_true, Sem.run_bind, Sem.run_pure, Result.andThen_ok]
    rw [MapKept.run_setObj_map _ h]
    unfold updWorld
    rw [updClock, h5, if_pos rfl, ← h3]
    simp
theorem updWorld_cell (w : World) {b j i : Nat} (hne : j ≠ b) (kd : IntKind) (es : List Ent) (c : Nat) : (updWorld w b kd es c).cell? ⟨j, i, none⟩ = w.cell? ⟨j, i, none⟩ := by
  refine World.cell?_of_block (a := ⟨j, i, none⟩) ?_
  show (w.heap.setIfInBounds b _)[j]? = _
  rw [Array.getElem?_setIfInBounds_ne (fun e => hne e.symm)]
end Go.Proofs.YtmdganpealbmpaaGreatDoor

/- Ranging over a map with integer keys: the entries come out one by one, in whatever order. No program stands here. -/
namespace Go.Proofs.YtmdganpealbmpaaGreatDoor
open Go.RowKit

/-- Block r is an iterator over the map at b that has handed out the entries born at 'seen'. -/
def IterAt (w : World) (r b since : Nat) (seen : List Nat) (c : Nat) : Prop := w.heap[r]? = some (.mapIter (some b) since seen.toArray c)
theorem IterAt.kept {S : Nat → Prop} {w w' : World} {r b s c : Nat} {seen : List Nat} (h : IterAt w r b s seen c) (k : Kept S w w') (hs : ¬ S r) : IterAt w' r b s seen c := (k.block r (lt_of_block h) hs).trans h

theorem run_range_at {P : Program} {w : World} {b : Nat} {kd : IntKind} {es : List Ent} {c : Nat} (h : MapAt w b kd es c) {t kt e : TypeId} (ht : P.underlying t = some (.map kt e)) :
    (Instr.range t (.map (some b))).run P w = .ok (.pointer (some ⟨w.heap.size, 0, none⟩)) (w.alloc (.mapIter (some b) c #[] c)) := by
  simp only [Instr.range, run_underlying ht, Sem.run_bind, Result.andThen_ok, run_getObj h]
  simp [newObj, Sem.run, Result.andThen]

/-- 'range m' at the operation. -/
theorem wpList_range_at {P : Program} (w : World) {ops : Array Oper} {rest : List Oper} {o : Oper} {a : Act} {Q : Exit → Act → World → Prop}
    (hg : o.guard = none) (m : Operand) (t : TypeId) (hop : o.op = Op.range t m) (kt e : TypeId) (kd : IntKind) (ht : P.underlying t = some (.map kt e)) (b : Nat) (es : List Ent) (c : Nat)
    (hm : a.eval m = .map (some b)) (h : MapAt w b kd es c)
    (hK : ∀ w', IterAt w' w.heap.size b c [] c → Below w.heap.size w w' → w'.heap.size = w.heap.size + 1 → wpList P ops Q rest (a.put o.dst (.pointer (some ⟨w.heap.size, 0, none⟩))) w') :
    wpList P ops Q (o :: rest) a w := by
  refine wpList_plain hg fun K' hK' => ?_
  have hrun := run_range_at (P := P) h ht
  unfold Oper.wp
  simp [execOp, hop, hm, hrun, Result.andThen]
  refine hK' _ _ (hK _ ?_ ((Below.refl _ _).alloc (Nat.le_refl _) _) (by simp))
  show (w.heap.push _)[w.heap.size]? = _
  simp

/-- The step. -/
theorem wpList_next_at {P : Program} (w : World) {ops : Array Oper} {rest : List Oper} {o : Oper} {a : Act} {Q : Exit → Act → World → Prop}
    (hg : o.guard = none) (it : Operand) (hop : o.op = Op.next it false) (kd : IntKind) (r b since : Nat) (es : List Ent) (seen : List Nat) (c : Nat)
    (hit : a.eval it = .pointer (some ⟨r, 0, none⟩)) (hi : IterAt w r b since seen c) (h : MapAt w b kd es c) (hold : ∀ x ∈ es, x.born < since) (hsc : since ≤ c) (hn : (es.map (·.born)).Nodup)
    (hDone : (∀ x ∈ es, x.born ∈ seen) → wpList P ops Q rest (a.put o.dst (.tuple #[.bool false])) w)
    (hMore : ∀ (x : Ent) (w' : World), x ∈ es → x.born ∉ seen → IterAt w' r b since (seen ++ [x.born]) c → Kept (fun j => j = r) w w' → w'.heap.size = w.heap.size → (Instr.entry (.pointer (some ⟨r, 0, none⟩))).run P w' = .ok (.tuple #[.int kd x.key, x.val]) w' →
      wpList P ops Q rest (a.put o.dst (.tuple #[.bool true, .int kd x.key, x.val])) w') :
    wpList P ops Q (o :: rest) a w := by
  refine wpList_plain hg fun K' hK' => ?_
  have hold' : ∀ x ∈ (es.map (Ent.mk' kd)).toArray.toList, x.born < since := by
    intro x hx
    simp only [List.mem_map] at hx
    obtain ⟨y, hy, rfl⟩ := hx
    exact hold y hy
  unfold Oper.wp
  rcases run_next_at (P := P) w o.type r b since c seen.toArray (es.map (Ent.mk' kd)).toArray c hi h hold' hsc with ⟨h0, hrun⟩ | ⟨e, he, w1, hal, hrun⟩
  · simp [execOp, hop, hit, hrun, Result.andThen]
    refine hK' _ _ (hDone fun x hx => ?_)
    have hemp : leftOf (es.map (Ent.mk' kd)).toArray seen.toArray = #[] := Array.eq_empty_of_size_eq_zero h0
    unfold leftOf at hemp
    rw [Array.filter_eq_empty_iff] at hemp
    have := hemp (Ent.mk' kd x) (by simp; exact ⟨x, hx, rfl⟩)
    simpa [Ent.mk'] using this
  · unfold leftOf at he
    simp only [Array.toList_filter, List.mem_filter, List.mem_map] at he
    obtain ⟨⟨x, hx, rfl⟩, hns⟩ := he
    simp [execOp, hop, hit, hrun, Result.andThen]
    have hr : r < w.heap.size := lt_of_block hi
    have hw1 : w1.heap = w.heap := by rcases hal with rfl | rfl <;> rfl
    have hk : Kept (fun j => j = r) w (ChangeMaps.setBlock w1 r (.mapIter (some b) since (seen ++ [x.born]).toArray c)) := by
      have k1 : Kept (fun j => j = r) w w1 := by rcases hal with rfl | rfl; exact Kept.refl _ _; exact (Kept.refl _ _).drew
      exact k1.trans (kept_setBlk w1 r _)
    have hit' : (ChangeMaps.setBlock w1 r (.mapIter (some b) since (seen ++ [x.born]).toArray c)).heap[r]? = some (.mapIter (some b) since (seen ++ [x.born]).toArray c) := setBlk_at (w := w1) (by rw [hw1]; exact hr) _
    have hrb : r ≠ b := by
      rintro rfl
      have e1 : w.heap[r]? = some (.mapIter (some r) since seen.toArray c) := hi
      have e2 : w.heap[r]? = some (.map (es.map (Ent.mk' kd)).toArray c) := h
      rw [e1] at e2
      cases e2
    refine hK' _ _ (hMore x _ hx (by simpa [Ent.mk'] using hns) hit' hk (by simp [ChangeMaps.setBlock, hw1]) ?_)
    refine run_entry_at _ r b since seen.toArray (es.map (Ent.mk' kd)).toArray c (Ent.mk' kd x) (hit'.trans (by simp [Ent.mk'])) ((hk.block b (lt_of_block h) (fun e => hrb e.symm)).trans h) (by simp; exact ⟨x, hx, rfl⟩) ?_
    have : (es.map (Ent.mk' kd)).toArray.toList.map (·.born) = es.map (·.born) := by simp [Ent.mk', Function.comp_def]
    rw [this]; exact hn
end Go.Proofs.YtmdganpealbmpaaGreatDoor
