/- Maps with integer keys, as lists of entries: what a look-up tells and what an update leaves. No program stands here. -/
import Derived.Test.YtfehonejcambgaaGreatDoorHeap
import Derived.Maps.Own
import Derived.Maps.OwnOps
namespace Go.Proofs.YtfehonejcambgaaGreatDoor
open Go.RowKit

/-- An entry: its key, its value, and when it was born. -/
structure Ent where
  key : Int
  val : Value
  born : Nat

def Ent.mk' (kd : IntKind) (e : Ent) : MapEntry := { key := .int kd e.key, val := e.val, born := e.born }

/-- Block b is a map with just these entries. -/
def MapAt (w : World) (b : Nat) (kd : IntKind) (es : List Ent) (clock : Nat) : Prop := w.heap[b]? = some (.map (es.map (Ent.mk' kd)).toArray clock)

theorem MapAt.lt {w : World} {b : Nat} {kd : IntKind} {es : List Ent} {c : Nat} (h : MapAt w b kd es c) : b < w.heap.size := lt_of_block h
theorem MapAt.kept {S : Nat → Prop} {w w' : World} {b : Nat} {kd : IntKind} {es : List Ent} {c : Nat} (h : MapAt w b kd es c) (k : Kept S w w') (hs : ¬ S b) : MapAt w' b kd es c := (k.block b h.lt hs).trans h
theorem MapAt.new (w : World) (kd : IntKind) : MapAt (w.alloc (.map #[] 0)) w.heap.size kd [] 0 := by
  show (w.heap.push _)[w.heap.size]? = _
  simp
theorem MapAt.alloc {w : World} {b : Nat} {kd : IntKind} {es : List Ent} {c : Nat} (h : MapAt w b kd es c) (o : Obj) : MapAt (w.alloc o) b kd es c := (Below.heap_alloc w o b h.lt).trans h

/-- What a key has. -/
def look (k : Int) : List Ent → Option Value
  | [] => none
  | e :: es => if e.key = k then some e.val else look k es
/-- Where it stands. -/
def place (k : Int) : List Ent → Nat → Option (Nat × Value)
  | [], _ => none
  | e :: es, i => if e.key = k then some (i, e.val) else place k es (i + 1)

theorem place_look (k : Int) : ∀ (es : List Ent) (i : Nat), (place k es i).map (·.2) = look k es
  | [], _ => rfl
  | e :: es, i => by
    unfold place look
    split
    · rfl
    · exact place_look k es (i + 1)

theorem findNow_at (kd : IntKind) (k : Int) : ∀ (es : List Ent) (i : Nat), Instr.findNow (.int kd) (.int kd k) (es.map (Ent.mk' kd)) i = some (place k es i)
  | [], _ => rfl
  | e :: es, i => by
    simp only [List.map_cons, Instr.findNow, Ent.mk', Instr.sameNow, if_true, place]
    by_cases h : e.key = k
    · simp [h]
    · have h' : (k == e.key) = false := by simpa using fun q => h q.symm
      rw [h']
      simp only [h, if_false]
      exact findNow_at kd k es (i + 1)

theorem run_checkKey_int {P : Program} {t : TypeId} {kd : IntKind} (ht : P.underlying t = some (.int kd)) (b : Bool) (k : Int) (w : World) : (Instr.checkKey b 10000 t (.int kd k)).run P w = .ok () w := by
  show (Instr.checkKey b (9999 + 1) t (.int kd k)).run P w = _
  unfold Instr.checkKey
  simp [run_underlying ht]
theorem run_getObj {P : Program} {w : World} {b : Nat} {es : Array MapEntry} {c : Nat} (h : w.heap[b]? = some (.map es c)) : (getObj b).run P w = .ok (.map es c) w := MapKept.run_getObj_map h

theorem run_lookup_at {P : Program} {w : World} {b : Nat} {kd : IntKind} {es : List Ent} {c : Nat} (h : MapAt w b kd es c) {t kt e : TypeId} (ht : P.underlying t = some (.map kt e)) (hk : P.underlying kt = some (.int kd))
    {z : Value} (hz : ∀ w, (zeroValue e).run P w = .ok z w) (k : Int) : (Instr.lookup t (.map (some b)) (.int kd k) false).run P w = .ok ((look k es).getD z) w := by
  have hf := findNow_at kd k es 0
  have hp := place_look k es 0
  simp only [Instr.lookup, run_underlying ht, Sem.run_bind, Result.andThen_ok, run_getObj h, run_checkKey_int hk, Sem.run_pure, Instr.findKey, run_underlying hk, hf]
  rw [← hp]
  cases place k es 0 with
  | none => simp [hz]
  | some q => simp
theorem run_lookup_ok {P : Program} {w : World} {b : Nat} {kd : IntKind} {es : List Ent} {c : Nat} (h : MapAt w b kd es c) {t kt e : TypeId} (ht : P.underlying t = some (.map kt e)) (hk : P.underlying kt = some (.int kd))
    {z : Value} (hz : ∀ w, (zeroValue e).run P w = .ok z w) (k : Int) : (Instr.lookup t (.map (some b)) (.int kd k) true).run P w = .ok (.tuple #[(look k es).getD z, .bool (look k es).isSome]) w := by
  have hf := findNow_at kd k es 0
  have hp := place_look k es 0
  simp only [Instr.lookup, run_underlying ht, Sem.run_bind, Result.andThen_ok, run_getObj h, run_checkKey_int hk, Sem.run_pure, Instr.findKey, run_underlying hk, hf]
  rw [← hp]
  cases place k es 0 with
  | none => simp [hz]
  | some q => simp

/-- What an update leaves. -/
def upd (k : Int) (v : Value) (c : Nat) : List Ent → List Ent
  | [] => [⟨k, v, c⟩]
  | e :: es => if e.key = k then ⟨k, v, e.born⟩ :: es else e :: upd k v c es
def updClock (k : Int) (es : List Ent) (c : Nat) : Nat := if (look k es).isSome then c else c + 1

theorem look_upd (k j : Int) (v : Value) (c : Nat) : ∀ es : List Ent, look j (upd k v c es) = if j = k then some v else look j es
  | [] => by
    simp only [upd, look]
    by_cases h : k = j
    · simp [h]
    · have : ¬ j = k := fun q => h q.symm
      simp [h, this]
  | e :: es => by
    unfold upd
    by_cases h : e.key = k
    · rw [if_pos h]
      simp only [look]
      by_cases hj : k = j
      · simp [hj]
      · have h1 : ¬ j = k := fun q => hj q.symm
        have h2 : ¬ e.key = j := fun q => hj (h.symm.trans q)
        simp [hj, h1, h2]
    · rw [if_neg h]
      simp only [look]
      by_cases hj : e.key = j
      · have : ¬ j = k := fun q => h (hj.trans q)
        simp [hj, this]
      · simp only [hj, if_false]
        exact look_upd k j v c es

theorem setBlk_at {w : World} {b : Nat} (hb : b < w.heap.size) (o : Obj) : ({ w with heap := w.heap.setIfInBounds b o } : World).heap[b]? = some o := by simp [hb]
theorem kept_setBlk (w : World) (b : Nat) (o : Obj) : Kept (fun k => k = b) w { w with heap := w.heap.setIfInBounds b o } :=
  ⟨rfl, rfl, rfl, by simp, fun k _ hk => by
    show (w.heap.setIfInBounds b o)[k]? = _
    rw [Array.getElem?_setIfInBounds_ne (fun e => hk e.symm)]⟩

theorem place_none (k : Int) : ∀ (es : List Ent) (i : Nat), place k es i = none → look k es = none
  | es, i, h => by have := place_look k es i; rw [h] at this; exact this.symm
theorem place_some (k : Int) (kd : IntKind) (v : Value) (c : Nat) : ∀ (es : List Ent) (i j : Nat) (x : Value), place k es i = some (j, x) → i ≤ j ∧ j - i < es.length ∧ ((es.map (Ent.mk' kd)).modify (j - i) fun e => { e with key := .int kd k, val := v }) = (upd k v c es).map (Ent.mk' kd) ∧ ((es.map (Ent.mk' kd))[j - i]?).map (·.key) = some (.int kd k) ∧ (look k es).isSome = true
  | [], _, _, _, h => by simp [place] at h
  | e :: es, i, j, x, h => by
    unfold place at h
    by_cases hk : e.key = k
    · rw [if_pos hk] at h
      obtain ⟨rfl, rfl⟩ := Prod.mk.inj (Option.some.inj h)
      refine ⟨Nat.le_refl _, by simp, ?_, ?_, ?_⟩
      · simp [upd, hk, Ent.mk']
      · simp [Ent.mk', hk]
      · simp [look, hk]
    · rw [if_neg hk] at h
      obtain ⟨h1, h2, h3, h4, h5⟩ := place_some k kd v c es (i + 1) j x h
      have e1 : j - i = (j - (i + 1)) + 1 := by omega
      refine ⟨by omega, by simp; omega, ?_, ?_, ?_⟩
      · rw [e1]; simp only [List.map_cons, List.modify_succ_cons, h3, upd, hk, if_false]
      · rw [e1]; simpa using h4
      · simp [look, hk, h5]
theorem upd_none (k : Int) (v : Value) (c : Nat) : ∀ es : List Ent, look k es = none → upd k v c es = es ++ [⟨k, v, c⟩]
  | [], _ => rfl
  | e :: es, h => by
    unfold look at h
    by_cases hk : e.key = k
    · simp [hk] at h
    · rw [if_neg hk] at h
      simp [upd, hk, upd_none k v c es h]

theorem run_mapUpdate_at {P : Program} {w : World} {b : Nat} {kd : IntKind} {es : List Ent} {c : Nat} (h : MapAt w b kd es c) {t kt e : TypeId} (ht : P.underlying t = some (.map kt e)) (hk : P.underlying kt = some (.int kd)) (k : Int) (v : Value) :
    ∃ w', (Instr.mapUpdate t (.map (some b)) (.int kd k) v).run P w = .ok () w' ∧ MapAt w' b kd (upd k v c es) (updClock k es c) ∧ Kept (fun i => i = b) w w' := by
  have hf := findNow_at kd k es 0
  simp only [Instr.mapUpdate, run_underlying ht, Sem.run_bind, Result.andThen_ok, run_getObj h, run_checkKey_int hk, Instr.findKey, run_underlying hk, hf, Sem.run_pure]
  have hlt := h.lt
  cases hp : place k es 0 with
  | none =>
    have hl := place_none k es 0 hp
    refine ⟨{ w with heap := w.heap.setIfInBounds b (.map ((es.map (Ent.mk' kd)).toArray.push { key := .int kd k, val := v, born := c }) (c + 1)) }, ?_, ?_, kept_setBlk w b _⟩
    · rw [MapKept.run_setObj_map _ h]
    · unfold MapAt
      rw [setBlk_at hlt, upd_none k v c es hl, updClock, hl]
      simp [Ent.mk']
  | some q =>
    obtain ⟨j, x⟩ := q
    obtain ⟨_, h2, h3, h4, h5⟩ := place_some k kd v c es 0 j x hp
    simp only [Nat.sub_zero] at h2 h3 h4
    refine ⟨{ w with heap := w.heap.setIfInBounds b (.map ((es.map (Ent.mk' kd)).toArray.modify j fun e => { e with key := .int kd k, val := v }) c) }, ?_, ?_, kept_setBlk w b _⟩
    · have e1 : (((es.map (Ent.mk' kd)).toArray[j]?).map (·.key)).getD (.int kd k) = .int kd k := by
        rw [List.getElem?_toArray, h4]; rfl
      simp only [e1, Instr.keyThatStays, Instr.sameBits, beq_self_eq_true, Bool.and_self, if_true, Sem.run_bind, Sem.run_pure, Result.andThen_ok]
      rw [MapKept.run_setObj_map _ h]
    · unfold MapAt
      rw [setBlk_at hlt, updClock, h5, if_pos rfl, ← h3]
      simp

/-- An update at the operation, for the walk. -/
theorem wpList_mapUpdate_at {P : Program} (w : World) {ops : Array Oper} {rest : List Oper} {o : Oper} {a : Act} {Q : Exit → Act → World → Prop}
    (hg : o.guard = none) (m x v : Operand) (t : TypeId) (hop : o.op = Op.mapUpdate t m x v)
    (kt e : TypeId) (kd : IntKind) (ht : P.underlying t = some (.map kt e)) (hk : P.underlying kt = some (.int kd)) (b : Nat) (es : List Ent) (c : Nat)
    (hm : a.eval m = .map (some b)) (h : MapAt w b kd es c) (k : Int) (val : Value) (hx : a.eval x = .int kd k) (hv : a.eval v = val)
    (hK : ∀ w', MapAt w' b kd (upd k val c es) (updClock k es c) → Kept (fun i => i = b) w w' → wpList P ops Q rest (a.put o.dst undef) w') :
    wpList P ops Q (o :: rest) a w := by
  refine wpList_plain hg fun K' hK' => ?_
  obtain ⟨w', hrun, r1, r2⟩ := run_mapUpdate_at (P := P) h ht hk k val
  unfold Oper.wp
  simp [execOp, hop, hm, hx, hv, hrun, Result.andThen]
  exact hK' _ _ (hK w' r1 r2)

/-- The world behind an update. -/
def updWorld (w : World) (b : Nat) (kd : IntKind) (es : List Ent) (c : Nat) : World := { w with heap := w.heap.setIfInBounds b (.map (es.map (Ent.mk' kd)).toArray c) }
theorem updWorld_at {w : World} {b : Nat} (hb : b < w.heap.size) (kd : IntKind) (es : List Ent) (c : Nat) : MapAt (updWorld w b kd es c) b kd es c := setBlk_at hb _
theorem updWorld_kept (w : World) (b : Nat) (kd : IntKind) (es : List Ent) (c : Nat) : Kept (fun i => i = b) w (updWorld w b kd es c) := kept_setBlk w b _
theorem run_mapUpdate_eq {P : Program} {w : World} {b : Nat} {kd : IntKind} {es : List Ent} {c : Nat} (h : MapAt w b kd es c) {t kt e : TypeId} (ht : P.underlying t = some (.map kt e)) (hk : P.underlying kt = some (.int kd)) (k : Int) (v : Value) :
    (Instr.mapUpdate t (.map (some b)) (.int kd k) v).run P w = .ok () (updWorld w b kd (upd k v c es) (updClock k es c)) := by
  have hf := findNow_at kd k es 0
  simp only [Instr.mapUpdate, run_underlying ht, Sem.run_bind, Result.andThen_ok, run_getObj h, run_checkKey_int hk, Instr.findKey, run_underlying hk, hf, Sem.run_pure]
  cases hp : place k es 0 with
  | none =>
    have hl := place_none k es 0 hp
    simp only
    rw [MapKept.run_setObj_map _ h]
    unfold updWorld
    rw [upd_none k v c es hl, updClock, hl]
    simp [Ent.mk']
  | some q =>
    obtain ⟨j, x⟩ := q
    obtain ⟨_, h2, h3, h4, h5⟩ := place_some k kd v c es 0 j x hp
    simp only [Nat.sub_zero] at h2 h3 h4
    have e1 : (((es.map (Ent.mk' kd)).toArray[j]?).map (·.key)).getD (.int kd k) = .int kd k := by
      rw [List.getElem?_toArray, h4]; rfl
    simp only [e1, Instr.keyThatStays, Instr.sameBits, beq_self_eq_true, Bool.and_self, if_true, Sem.run_bind, Sem.run_pure, Result.andThen_ok]
    rw [MapKept.run_setObj_map _ h]
    unfold updWorld
    rw [updClock, h5, if_pos rfl, ← h3]
    simp
theorem updWorld_cell (w : World) {b j i : Nat} (hne : j ≠ b) (kd : IntKind) (es : List Ent) (c : Nat) : (updWorld w b kd es c).cell? ⟨j, i, none⟩ = w.cell? ⟨j, i, none⟩ := by
  refine World.cell?_of_block (a := ⟨j, i, none⟩) ?_
  show (w.heap.setIfInBounds b _)[j]? = _
  rw [Array.getElem?_setIfInBounds_ne (fun e => hne e.symm)]
end Go.Proofs.YtfehonejcambgaaGreatDoor
