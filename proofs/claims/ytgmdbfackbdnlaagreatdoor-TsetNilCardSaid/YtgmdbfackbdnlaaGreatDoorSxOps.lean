/- SxOps: SxOps, SxOps2, SxOps3, SxOps4, SxOps5, SxOps6, SxOps7, SxOps8, SxOps9. -/
import Derived.Test.YtgmdbfackbdnlaaGreatDoorSxRel
import Derived.Laws.Cells
import Derived.Laws.Bits64
import Derived.Laws.Slices
import Derived.Laws.StructEq
import Derived.ChangeKeysEq

/- The executor: operations that leave memory as it is. -/
namespace Go.Proofs.YtgmdbfackbdnlaaGreatDoor
open Go.RowKit Bl Th Go.Sx
set_option maxRecDepth 10000

/-- Values in which no number of a block stands. -/
noncomputable def flat : Nat → Value → Bool
  | 0, _ => false
  | d + 1, v => match v with
    | .bool _ => true
    | .int _ _ => true
    | .string _ => true
    | .pointer none => true
    | .slice none _ c => !(Nat.beq c big)
    | .map none => true
    | .nilFunc => true
    | .nilIface => true
    | .func _ a b => (match a.toList with | [] => true | _ => false) && (match b.toList with | [] => true | _ => false)
    | .iface _ x => flat d x
    | .agg l => List.rec true (fun x _ ih => flat d x && ih) l.toList
    | .tuple l => List.rec true (fun x _ ih => flat d x && ih) l.toList
    | _ => false
theorem flat_list {ρ : Ren} {f : Value → Bool} (h : ∀ x, f x = true → Rel ρ x x) : ∀ (l : List Value), (List.rec true (fun x _ ih => f x && ih) l : Bool) = true → RelL ρ l l
  | [], _ => .nil ρ
  | x :: l, hl => by
    have hl : (f x && (List.rec true (fun x _ ih => f x && ih) l : Bool)) = true := hl
    rw [Bool.and_eq_true] at hl
    exact .cons (h x hl.1) (flat_list h l hl.2)
theorem flat_rel {ρ : Ren} : ∀ (d : Nat) (v : Value), flat d v = true → Rel ρ v v
  | 0, _, h => by cases h
  | d + 1, v, h => by
    have hl : ∀ l : Array Value, (List.rec true (fun x _ ih => flat d x && ih) l.toList : Bool) = true → RelL ρ l.toList l.toList := fun l hl => flat_list (flat_rel d) l.toList hl
    cases v with
    | bool b => exact .bool b
    | int k n => exact .int k n
    | string s => exact .string s
    | pointer a => cases a with | none => exact .ptr0 | some a => cases h
    | slice a n c => cases a with
      | none => exact .sl0 n c (by
          intro e; subst e
          have : (!(Nat.beq big big)) = true := h
          rw [show Nat.beq big big = true from Nat.beq_refl big] at this
          cases this)
      | some a => cases h
    | map r => cases r with | none => exact .map0 | some r => cases h
    | nilFunc => exact .nilFunc
    | nilIface => exact .nilIface
    | func f a b =>
      obtain ⟨a⟩ := a; obtain ⟨b⟩ := b
      cases a with
      | nil => cases b with
        | nil => exact .func f [] [] [] [] rfl (RelL.nil ρ).2 rfl (RelL.nil ρ).2
        | cons y b => cases h
      | cons x a => cases h
    | iface t x => exact .iface t x x (flat_rel d x h)
    | agg l => obtain ⟨l⟩ := l; exact .agg l l (hl ⟨l⟩ h).1 (hl ⟨l⟩ h).2
    | tuple l => obtain ⟨l⟩ := l; exact .tuple l l (hl ⟨l⟩ h).1 (hl ⟨l⟩ h).2
    | float => cases h
    | complex => cases h
    | chan => cases h

/-- The tables are the program's. -/
structure EnvOk (P : Program) (E : Env) : Prop where
  ty : ∀ t i, E.ty t = some i → P.info? t = some i
  zero : ∀ t i z, E.ty t = some i → i.zero = some z → flat 20 z = true
  fn : ∀ f fn, E.fn f = some fn → P.funcs[f]? = some fn
  name : ∀ f fn, E.fn f = some fn → (fn.name == "runtime.NumGoroutine") = false
  meth : ∀ t s f, E.meth t s = some f → ∀ (v : Value) (w : World), (method (P.types.size + Made.depth) t v s).run P w = .ok (f, v) w
  ahead : ∀ t s f, E.meth t s = some f → ∀ (a : Addr) (w : World), (nilAhead (P.types.size + Made.depth) t (.pointer (some a)) s).run P w = .ok (some false) w
section
variable {P : Program} {E : Env}
theorem EnvOk.under (h : EnvOk P E) {t : TypeId} {d : TypeDesc} (e : E.under t = some d) : P.underlying t = some d := by
  obtain ⟨i, h1, h2⟩ := ob_some e
  have h3 := h.ty t i h1
  unfold Program.underlying
  obtain ⟨desc, a, b, c, d', e', f', g', h', i'⟩ := i
  rw [h3]
  cases desc with
  | named s u =>
    obtain ⟨j, h4, h5⟩ := ob_some h2
    simp only
    rw [h.ty u j h4]
    exact h5
  | _ => exact h2
theorem EnvOk.run_under (h : EnvOk P E) {t : TypeId} {d : TypeDesc} (e : E.under t = some d) (w : World) : (underlying t).run P w = .ok d w := run_underlying (h.under e) w
theorem EnvOk.run_info (h : EnvOk P E) {t : TypeId} {i : TypeInfo} (e : E.ty t = some i) (w : World) : (typeInfo t).run P w = .ok i w := by
  unfold typeInfo
  simp only [Sem.run_bind, run_program, Result.andThen_ok, h.ty t i e, Sem.run_pure]
theorem EnvOk.run_size (h : EnvOk P E) {t : TypeId} {n : Nat} (e : E.size t = some n) (w : World) : (sizeOf t).run P w = .ok n w := by
  obtain ⟨i, h1, h2⟩ := ob_some e
  cases h2
  unfold sizeOf
  simp only [Sem.run_bind, h.run_info h1, Result.andThen_ok, Sem.run_pure]
theorem EnvOk.run_zero (h : EnvOk P E) {t : TypeId} {z : Value} (e : E.zero t = some z) (w : World) : (zeroValue t).run P w = .ok z w := by
  obtain ⟨i, h1, h2⟩ := ob_some e
  unfold zeroValue
  simp only [Sem.run_bind, h.run_info h1, Result.andThen_ok, h2, Sem.run_pure]
theorem EnvOk.rel_zero (h : EnvOk P E) {t : TypeId} {z : Value} (e : E.zero t = some z) (ρ : Ren) : Rel ρ z z := by
  obtain ⟨i, h1, h2⟩ := ob_some e
  exact flat_rel 20 z (h.zero t i z h1 h2)
theorem EnvOk.run_agg (h : EnvOk P E) {t : TypeId} {g : Bool} (e : E.isAgg t = some g) (w : World) : (isAgg t).run P w = .ok g w := by
  obtain ⟨d, h1, h2⟩ := ob_some e
  cases h2
  unfold isAgg
  simp only [Sem.run_bind, h.run_under h1, Result.andThen_ok]
  cases d <;> rfl
theorem EnvOk.elemS {β : Type} {t : TypeId} {f : TypeId → Nat → Option β} {r : β} (e : E.elemS t f = some r) : ∃ el n, E.under t = some (.slice el) ∧ E.size el = some n ∧ f el n = some r := by
  obtain ⟨d, h1, h2⟩ := ob_some e
  cases d with
  | slice el =>
    obtain ⟨n, h3, h4⟩ := ob_some (show ob (E.size el) (fun n => f el n) = some r from h2)
    exact ⟨el, n, h1, h3, h4⟩
  | _ => cases h2
end

/-- Temporaries. -/
def Tmps (ρ : Ren) (T : Tr Value) (tmps : Array Value) : Prop := ∀ t v, T.get? t = some v → ∃ v', tmps[t]? = some v' ∧ Rel ρ v v'
theorem Tmps.mono {ρ ρ' : Ren} (h : ρ.le ρ') {T : Tr Value} {tmps : Array Value} (k : Tmps ρ T tmps) : Tmps ρ' T tmps := fun t v e => by
  obtain ⟨v', a, b⟩ := k t v e
  exact ⟨v', a, b.mono h⟩
/-- Operands whose constants are flat. -/
noncomputable def opdOk : Operand → Bool
  | .const v => flat 20 v
  | _ => true
theorem ev_ok {ρ : Ren} {T : Tr Value} {a : Act} (hT : Tmps ρ T a.tmps) {x : Operand} (hx : opdOk x = true) {v : Value} (h : ev T x = some v) : Rel ρ v (a.eval x) := by
  cases x with
  | tmp t =>
    obtain ⟨v', e, r⟩ := hT t v h
    show Rel ρ v (a.tmps.getD t undef)
    rw [Array.getD_eq_getD_getElem?, e]
    exact r
  | const u => cases h; exact flat_rel 20 _ hx
  | global g => cases h
  | func f => cases h; exact .func (.func f) [] [] [] [] rfl (RelL.nil ρ).2 rfl (RelL.nil ρ).2

/-! Looking at values. -/
theorem ptr_some {β : Type} {f : Nat → Nat → Option β} {v : Value} {r : β} (h : ptr f v = some r) : ∃ b o, v = .pointer (some ⟨b, o, none⟩) ∧ f b o = some r := by
  unfold ptr at h
  split at h
  · exact ⟨_, _, rfl, h⟩
  · cases h
theorem nat_some {β : Type} {f : Nat → Option β} {v : Value} {r : β} (h : nat f v = some r) : ∃ k n, v = .int k (.ofNat n) ∧ f n = some r := by
  unfold nat at h
  split at h
  · exact ⟨_, _, rfl, h⟩
  · cases h
theorem slc_some {β : Type} {f : Option Addr → Nat → Nat → Option β} {v : Value} {r : β} (h : slc f v = some r) : ∃ a n c, v = .slice a n c ∧ f a n c = some r := by
  unfold slc at h
  split at h
  · exact ⟨_, _, _, rfl, h⟩
  · cases h
theorem agg_some {β : Type} {f : Array Value → Option β} {v : Value} {r : β} (h : agg f v = some r) : ∃ cs, v = .agg cs ∧ f cs = some r := by
  unfold agg at h
  split at h
  · exact ⟨_, rfl, h⟩
  · cases h
theorem boo_some {β : Type} {f : Bool → Option β} {v : Value} {r : β} (h : boo f v = some r) : ∃ b, v = .bool b ∧ f b = some r := by
  unfold boo at h
  split at h
  · exact ⟨_, rfl, h⟩
  · cases h
theorem row_some {β : Type} {m : Mem} {b : Nat} {f : Nat → Tr Value → Option Value → TypeId → Bool → Bool → Option β} {r : β} (h : m.row b f = some r) : ∃ n c d e op ro, m.tr.get? b = some (.row n c d e op ro) ∧ f n c d e op ro = some r := by
  obtain ⟨o, h1, h2⟩ := ob_some h
  cases o with
  | row n c d e op ro => exact ⟨n, c, d, e, op, ro, h1, h2⟩
  | _ => cases h2
theorem map_some {β : Type} {m : Mem} {b : Nat} {f : List (Value × Value × Nat) → Nat → Bool → Option β} {r : β} (h : m.mapAt b f = some r) : ∃ es cl ro, m.tr.get? b = some (.map es cl ro) ∧ f es cl ro = some r := by
  obtain ⟨o, h1, h2⟩ := ob_some h
  cases o with
  | map es cl ro => exact ⟨es, cl, ro, h1, h2⟩
  | _ => cases h2
theorem rel_int {ρ : Ren} {k : IntKind} {n : Int} {v : Value} (h : Rel ρ (.int k n) v) : v = .int k n := by cases h; rfl
theorem rel_bool {ρ : Ren} {b : Bool} {v : Value} (h : Rel ρ (.bool b) v) : v = .bool b := by cases h; rfl

/-! Rows. -/
theorem cellsAt_ok {n : Nat} {c : Tr Value} {d : Option Value} : ∀ (k i : Nat) (l : List Value), cellsAt n c d k i = some l → l.length = k ∧ ∀ j, j < k → cellAt n c d (i + j) = l[j]?
  | 0, i, l, h => by cases h; exact ⟨rfl, fun j hj => by omega⟩
  | k + 1, i, l, h => by
    obtain ⟨v, h1, h2⟩ := ob_some (show ob (cellAt n c d i) (fun v => ob (cellsAt n c d k (i + 1)) fun l => some (v :: l)) = some l from h)
    obtain ⟨l', h3, h4⟩ := ob_some h2
    cases h4
    obtain ⟨a, b⟩ := cellsAt_ok k (i + 1) l' h3
    refine ⟨by simp [a], fun j hj => ?_⟩
    cases j with
    | zero => simpa using h1
    | succ j => simpa [Nat.add_assoc, Nat.add_comm 1] using b j (by omega)
/-- The cells of a row that is there. -/
theorem cellsAt_rel {ρ : Ren} {n : Nat} {c : Tr Value} {d : Option Value} {arr : List Value} (h : ∀ i v, cellAt n c d i = some v → ∃ v', arr[i]? = some v' ∧ Rel ρ v v') {k i : Nat} {l : List Value} (hl : cellsAt n c d k i = some l) :
    RelL ρ l ((arr.drop i).take k) ∧ ((arr.drop i).take k).length = k := by
  obtain ⟨h1, h2⟩ := cellsAt_ok k i l hl
  have hlen : k = 0 ∨ i + k ≤ arr.length := by
    rcases Nat.eq_zero_or_pos k with e | e
    · exact .inl e
    · right
      have := h2 (k - 1) (by omega)
      obtain ⟨v, hv⟩ : ∃ v, l[k - 1]? = some v := ⟨_, List.getElem?_eq_getElem (by omega)⟩
      rw [hv] at this
      obtain ⟨v', a, _⟩ := h _ _ this
      have := (List.getElem?_eq_some_iff.1 a).1
      omega
  have hL : ((arr.drop i).take k).length = k := by
    rw [List.length_take, List.length_drop]; omega
  refine ⟨⟨by rw [hL, h1], fun j x y hx hy => ?_⟩, hL⟩
  have hj : j < k := by rw [← h1]; exact (List.getElem?_eq_some_iff.1 hx).1
  have e := h2 j hj
  rw [hx] at e
  obtain ⟨v', a, b⟩ := h _ _ e
  rw [List.getElem?_take, if_pos hj, List.getElem?_drop, a] at hy
  cases hy; exact b
theorem loadAt_ok {P : Program} {E : Env} (hE : EnvOk P E) {G : Gh} {ρ : Ren} {m : Mem} {w : World} (hc : Conc E G ρ m w) {t : TypeId} {p p' v : Value} (hp : Rel ρ p p') (h : loadAt E t m p = some v) :
    ∃ v', (Instr.loadAt t p').run P w = .ok v' w ∧ Rel ρ v v' := by
  obtain ⟨b, o, rfl, h⟩ := ptr_some h
  obtain ⟨n, c, d, e, op, ro, h1, h⟩ := row_some h
  obtain ⟨g, h2, h⟩ := ob_some h
  cases hp with
  | ptr _ _ q hq =>
  obtain ⟨q', a1, a2, _⟩ := hc.rows b _ h1
  rw [hq] at a1; cases a1
  obtain ⟨arr, b1, b2, b3, b4, b5, b6⟩ := a2
  have hcell : ∀ j, w.cell? ⟨q.1, j, none⟩ = arr[j]? := fun j => b1.cell j
  cases g with
  | false =>
    obtain ⟨v', e1, e2⟩ := b6 o v h
    refine ⟨v', ?_, e2⟩
    simp only [Instr.loadAt, Instr.sureAddr, loadVar, Sem.run_bind, Sem.run_pure, Result.andThen_ok, hE.run_agg h2, run_load, hcell, e1, Bool.false_eq_true, if_false, Sem.run_ite]
  | true =>
    obtain ⟨k, h3, h⟩ := ob_some (show ob (E.size t) _ = some v from h)
    obtain ⟨l, h4, h5⟩ := ob_some h
    cases h5
    obtain ⟨r1, r2⟩ := cellsAt_rel b6 h4
    refine ⟨.agg ⟨(arr.drop o).take k⟩, ?_, .agg _ _ r1.1 r1.2⟩
    have hld := run_loadCells_list (P := P) w ⟨q.1, o, none⟩ ((arr.drop o).take k) (fun j v hj => by
      have : (Addr.add ⟨q.1, o, none⟩ j) = ⟨q.1, o + j, none⟩ := by
        unfold Addr.add; split
        · rename_i e; subst e; rfl
        · rfl
      rw [this, hcell]
      rw [List.getElem?_take] at hj
      split at hj
      · rw [List.getElem?_drop] at hj; exact hj
      · cases hj)
    rw [r2] at hld
    simp only [Instr.loadAt, Instr.sureAddr, loadVar, Sem.run_bind, Sem.run_pure, Result.andThen_ok, hE.run_agg h2, if_true, Sem.run_ite, hE.run_size h3, hld]
end Go.Proofs.YtgmdbfackbdnlaaGreatDoor

/- The executor: operations that leave memory as it is, one by one. -/
namespace Go.Proofs.YtgmdbfackbdnlaaGreatDoor
open Go.RowKit Bl Th Go.Sx
set_option maxRecDepth 10000

section
variable {P : Program} {E : Env} {G : Gh} {ρ : Ren} {m : Mem} {w : World} {T : Tr Value} {a : Act}
theorem evs_ok (hT : Tmps ρ T a.tmps) : ∀ {l : List Operand} {vs : List Value}, (∀ x ∈ l, opdOk x = true) → evs T l = some vs → RelL ρ vs (l.map a.eval)
  | [], vs, _, h => by cases h; exact .nil ρ
  | x :: l, vs, hl, h => by
    obtain ⟨v, h1, h2⟩ := ob_some (show ob (ev T x) (fun v => ob (evs T l) fun vs => some (v :: vs)) = some vs from h)
    obtain ⟨us, h3, h4⟩ := ob_some h2
    cases h4
    exact .cons (ev_ok hT (hl x (by simp)) h1) (evs_ok hT (fun y hy => hl y (by simp [hy])) h3)
theorem oMove_ok (hT : Tmps ρ T a.tmps) {x : Operand} (hx : opdOk x = true) {v : Value} {m' : Mem} (h : oMove x E T m = some (v, m')) : m' = m ∧ Rel ρ v (a.eval x) := by
  obtain ⟨u, h1, h2⟩ := ob_some h
  cases h2
  exact ⟨rfl, ev_ok hT hx h1⟩
theorem oPick_ok (hT : Tmps ρ T a.tmps) {c x y : Operand} (hc : opdOk c = true) (hx : opdOk x = true) (hy : opdOk y = true) {v : Value} {m' : Mem} (h : oPick c x y E T m = some (v, m')) : m' = m ∧ ∃ b, a.eval c = .bool b ∧ Rel ρ v (if b then a.eval x else a.eval y) := by
  obtain ⟨u, h1, h2⟩ := ob_some h
  obtain ⟨b, rfl, h3⟩ := boo_some h2
  obtain ⟨z, h4, h5⟩ := ob_some h3
  cases h5
  refine ⟨rfl, b, rel_bool (ev_ok hT hc h1), ?_⟩
  cases b with
  | true => exact ev_ok hT hx h4
  | false => exact ev_ok hT hy h4
theorem oLoad_ok (hE : EnvOk P E) (hc : Conc E G ρ m w) (hT : Tmps ρ T a.tmps) {t : TypeId} {x : Operand} (hx : opdOk x = true) {v : Value} {m' : Mem} (h : oLoad t x E T m = some (v, m')) : m' = m ∧ ∃ v', (Instr.loadAt t (a.eval x)).run P w = .ok v' w ∧ Rel ρ v v' := by
  obtain ⟨p, h1, h2⟩ := ob_some h
  obtain ⟨u, h3, h4⟩ := ob_some h2
  cases h4
  exact ⟨rfl, loadAt_ok hE hc (ev_ok hT hx h1) h3⟩
theorem oNil_ok (hE : EnvOk P E) (hT : Tmps ρ T a.tmps) {x : Operand} (hx : opdOk x = true) {v : Value} {m' : Mem} {o : Oper} (ho : o.op = .nilCheck x) (h : oNil x E T m = some (v, m')) : m' = m ∧ (execOp a.eval o).run P w = .ok (.value (a.eval x)) w ∧ Rel ρ v (a.eval x) := by
  obtain ⟨u, h1, h2⟩ := ob_some h
  obtain ⟨h3, h4⟩ := ifo_some h2
  cases h4
  have hr := ev_ok hT hx h1
  refine ⟨rfl, ?_, hr⟩
  unfold execOp
  rw [ho]
  dsimp only
  generalize a.eval x = p at hr ⊢
  rw [bif_eq] at h3
  split at h3
  · rename_i h3
    cases hr with
    | func f a b c d => cases f <;> first | (cases h3; done) | rfl
    | _ => first | (cases h3; done) | rfl
  · unfold methP at h3
    split at h3
    · rename_i nm t q rest caps _
      cases hr with
      | func _ a b c d e1 k1 e2 k2 =>
      match b, e1, k1 with
      | y :: b', e1, k1 =>
        have ky := k1 0 _ _ (show (Value.iface t (.pointer (some q)) :: rest)[0]? = some _ from rfl) (show (y :: b')[0]? = some y from rfl)
        cases ky with
        | iface _ _ z kz =>
        cases kz with
        | ptr i o q' hq' =>
        obtain ⟨f, hf⟩ := Option.isSome_iff_exists.1 h3
        have hn := hE.ahead t nm f hf ⟨q'.1, o, none⟩ w
        simp only [show (⟨Value.iface t (Value.pointer (some ⟨q'.1, o, none⟩)) :: b'⟩ : Array Value)[0]? = some (Value.iface t (Value.pointer (some ⟨q'.1, o, none⟩))) from rfl, Sem.run_bind, run_program, Result.andThen_ok, hn]
        rfl
    · cases h3
theorem oMakeI_ok (hE : EnvOk P E) (hT : Tmps ρ T a.tmps) {t : TypeId} {x : Operand} (hx : opdOk x = true) {v : Value} {m' : Mem} (h : oMakeI t x E T m = some (v, m')) : m' = m ∧ (Instr.makeInterface t (a.eval x)).run P w = .ok (.iface t (a.eval x)) w ∧ Rel ρ v (.iface t (a.eval x)) := by
  obtain ⟨u, h1, h2⟩ := ob_some h
  obtain ⟨d, h3, h4⟩ := ob_some h2
  obtain ⟨h5, h6⟩ := ifo_some h4
  cases h6
  refine ⟨rfl, ?_, .iface t _ _ (ev_ok hT hx h1)⟩
  simp only [Instr.makeInterface, Sem.run_bind, hE.run_under h3, Result.andThen_ok]
  cases d <;> first | (cases h5; done) | rfl
theorem oMakeF_ok (hT : Tmps ρ T a.tmps) {f : Fn} {x y : Array Operand} (hx : ∀ z ∈ x.toList, opdOk z = true) (hy : ∀ z ∈ y.toList, opdOk z = true) {v : Value} {m' : Mem} (h : oMakeF f x y E T m = some (v, m')) : m' = m ∧ Rel ρ v (.func f (x.map a.eval) (y.map a.eval)) := by
  obtain ⟨u, h1, h2⟩ := ob_some h
  obtain ⟨z, h3, h4⟩ := ob_some h2
  cases h4
  have r1 := evs_ok hT hx h1
  have r2 := evs_ok hT hy h3
  refine ⟨rfl, ?_⟩
  have e1 : x.map a.eval = ⟨x.toList.map a.eval⟩ := by apply Array.ext'; simp
  have e2 : y.map a.eval = ⟨y.toList.map a.eval⟩ := by apply Array.ext'; simp
  rw [e1, e2]
  exact .func f _ _ _ _ r1.1 r1.2 r2.1 r2.2
theorem struct_some {β : Type} {f : Array Field → Option β} {d : TypeDesc} {r : β} (h : dStruct f d = some r) : ∃ fs, d = .struct fs ∧ f fs = some r := by
  cases d with
  | struct fs => exact ⟨fs, rfl, h⟩
  | _ => cases h
theorem addr_add (b o k : Nat) : (Addr.mk b o none).add k = ⟨b, o + k, none⟩ := by
  unfold Addr.add; split
  · rename_i e; subst e; rfl
  · rfl
theorem oFieldA_ok (hE : EnvOk P E) (hT : Tmps ρ T a.tmps) {s : TypeId} {x : Operand} {f : Nat} (hx : opdOk x = true) {v : Value} {m' : Mem} (h : oFieldA s x f E T m = some (v, m')) : m' = m ∧ ∃ v', (Instr.fieldAt s (a.eval x) f).run P w = .ok v' w ∧ Rel ρ v v' := by
  obtain ⟨u, h1, h2⟩ := ob_some h
  obtain ⟨b, o, rfl, h3⟩ := ptr_some h2
  obtain ⟨d, h4, h5⟩ := ob_some h3
  obtain ⟨fs, rfl, h6⟩ := struct_some h5
  obtain ⟨fl, h7, h8⟩ := ob_some h6
  obtain ⟨n, h9, h10⟩ := ob_some h8
  obtain ⟨h11, h12⟩ := ifo_some h10
  cases h12
  have hr := ev_ok hT hx h1
  generalize a.eval x = p at hr ⊢
  cases hr with
  | ptr _ _ q hq =>
  refine ⟨rfl, _, ?_, .ptr b (o + fl.offset) q hq⟩
  have hn : n ≠ 0 := by intro e; subst e; cases h11
  have hf : fs[f]? = some fl := by simpa using h7
  simp only [Instr.fieldAt, Sem.run_bind, hE.run_under h4, Result.andThen_ok, hf, Instr.sureAddr, Sem.run_pure, fieldPlace, hE.run_size h9, hn, if_false, Sem.run_ite, addr_add]
theorem partX_ok (hE : EnvOk P E) {t : TypeId} {cs cs' : List Value} {off : Nat} {v : Value} (hr : RelL ρ cs cs') (h : partX E t cs off = some v) : ∃ v', (part t ⟨cs'⟩ off).run P w = .ok v' w ∧ Rel ρ v v' := by
  obtain ⟨g, h1, h2⟩ := ob_some h
  cases g with
  | true =>
    obtain ⟨n, h3, h4⟩ := ob_some (show ob (E.size t) _ = some v from h2)
    cases h4
    have r := (hr.drop off).take n
    refine ⟨.agg ⟨(cs'.drop off).take n⟩, ?_, .agg _ _ r.1 r.2⟩
    have : (⟨cs'⟩ : Array Value).extract off (off + n) = ⟨(cs'.drop off).take n⟩ := by
      apply Array.ext'; simp
    simp only [part, Sem.run_bind, hE.run_agg h1, Result.andThen_ok, if_true, Sem.run_ite, hE.run_size h3, Sem.run_pure, this]
  | false =>
    obtain ⟨y, e1, e2⟩ := hr.at (show cs[off]? = some v from h2)
    refine ⟨y, ?_, e2⟩
    have e1' : (⟨cs'⟩ : Array Value)[off]? = some y := by simpa using e1
    simp only [part, Sem.run_bind, hE.run_agg h1, Result.andThen_ok, Bool.false_eq_true, if_false, Sem.run_ite, e1', Sem.run_pure]
theorem oField_ok (hE : EnvOk P E) (hT : Tmps ρ T a.tmps) {s : TypeId} {x : Operand} {f : Nat} (hx : opdOk x = true) {v : Value} {m' : Mem} (h : oField s x f E T m = some (v, m')) : m' = m ∧ ∃ v', (Instr.field s (a.eval x) f).run P w = .ok v' w ∧ Rel ρ v v' := by
  obtain ⟨u, h1, h2⟩ := ob_some h
  obtain ⟨cs, rfl, h3⟩ := agg_some h2
  obtain ⟨d, h4, h5⟩ := ob_some h3
  obtain ⟨fs, rfl, h6⟩ := struct_some h5
  obtain ⟨fl, h7, h8⟩ := ob_some h6
  obtain ⟨y, h9, h10⟩ := ob_some h8
  cases h10
  have hr := ev_ok hT hx h1
  generalize a.eval x = p at hr ⊢
  cases hr with
  | agg c c' e1 e2 =>
  obtain ⟨v', r1, r2⟩ := partX_ok (P := P) (w := w) hE (⟨e1, e2⟩ : RelL ρ c c') h9
  refine ⟨rfl, v', ?_, r2⟩
  have hf : fs[f]? = some fl := by simpa using h7
  simp only [Instr.field, Sem.run_bind, hE.run_under h4, Result.andThen_ok, hf, asAgg, Sem.run_pure, r1]
theorem idxBase_ok {d : TypeDesc} {v v' : Value} {q : Addr × Nat × TypeId} (h : idxBase d v = some q) (hn : 0 < q.2.1) (hr : Rel ρ v v') :
    ∃ p, ρ q.1.block = some p ∧ ((∃ n e, d = .array n e ∧ q.2 = (n, e) ∧ v' = .pointer (some ⟨p.1, q.1.off, none⟩)) ∨ (∃ e n c, d = .slice e ∧ q.2 = (n, e) ∧ v' = .slice (some ⟨p.1, q.1.off, none⟩) n c)) := by
  unfold idxBase at h
  split at h
  · cases h
    cases hr with
    | ptr i o p hp => exact ⟨p, hp, .inl ⟨_, _, rfl, rfl, rfl⟩⟩
  · cases h
    cases hr with
    | sl i o n c p hp hc => exact ⟨p, hp, .inr ⟨_, _, _, rfl, rfl, rfl⟩⟩
    | slo i o n c p hp hz => exact ⟨p, hp, .inr ⟨_, _, _, rfl, rfl, rfl⟩⟩
    | sle i o a c e => exact absurd hn (Nat.lt_irrefl 0)
  · cases h
theorem oIndexA_ok (hE : EnvOk P E) (hT : Tmps ρ T a.tmps) {t : TypeId} {x y : Operand} (hx : opdOk x = true) (hy : opdOk y = true) {v : Value} {m' : Mem} (h : oIndexA t x y E T m = some (v, m')) : m' = m ∧ ∃ v', (Instr.indexAt t (a.eval x) (a.eval y)).run P w = .ok v' w ∧ Rel ρ v v' := by
  obtain ⟨u, h1, h2⟩ := ob_some h
  obtain ⟨iv, h3, h4⟩ := ob_some h2
  obtain ⟨k, i, rfl, h5⟩ := nat_some h4
  obtain ⟨d, h6, h7⟩ := ob_some h5
  obtain ⟨q, h8, h9⟩ := ob_some h7
  obtain ⟨s, h10, h11⟩ := ob_some h9
  obtain ⟨h12, h13⟩ := ifo_some h11
  cases h13
  simp only [Bool.and_eq_true] at h12
  obtain ⟨⟨hi, hs0⟩, hsp⟩ := h12
  have hi' : i < q.2.1 := by
    have : Nat.ble (i + 1) q.2.1 = true := hi
    exact Nat.le_of_ble_eq_true this
  have ey := rel_int (ev_ok hT hy h3)
  obtain ⟨p, hp, hh⟩ := idxBase_ok h8 (Nat.lt_of_le_of_lt (Nat.zero_le _) hi') (ev_ok hT hx h1)
  refine ⟨rfl, _, ?_, .ptr q.1.block (q.1.off + i * s) p hp⟩
  rcases hh with ⟨n, e, rfl, e2, e3⟩ | ⟨e, n, c, rfl, e2, e3⟩
  · rw [e2] at h10 hi'
    have h10 : E.size e = some s := h10
    have hlt : (i : Int) < (n : Int) := by have : i < n := hi'; omega
    simp only [Instr.indexAt, ey, e3, asIntOf, Sem.run_bind, Sem.run_pure, Result.andThen_ok, hE.run_under h6, Instr.sureAddr, Int.ofNat_eq_natCast, Int.natCast_nonneg, hlt, and_self, if_true, Sem.run_ite, hE.run_size h10, addr_add, Int.toNat_natCast]
  · rw [e2] at h10 hi'
    have h10 : E.size e = some s := h10
    have hlt : (i : Int) < (n : Int) := by have : i < n := hi'; omega
    simp only [Instr.indexAt, ey, e3, asIntOf, Sem.run_bind, Sem.run_pure, Result.andThen_ok, hE.run_under h6, Instr.sureAddr, Int.ofNat_eq_natCast, Int.natCast_nonneg, hlt, and_self, if_true, Sem.run_ite, hE.run_size h10, addr_add, Int.toNat_natCast]
theorem oExtract_ok (hT : Tmps ρ T a.tmps) {x : Operand} {i : Nat} (hx : opdOk x = true) {v : Value} {m' : Mem} (h : oExtract x i E T m = some (v, m')) : m' = m ∧ ∃ v', (Instr.extract (a.eval x) i).run P w = .ok v' w ∧ Rel ρ v v' := by
  obtain ⟨u, h1, h2⟩ := ob_some h
  obtain ⟨z, h3, h4⟩ := ob_some h2
  cases h4
  have hr := ev_ok hT hx h1
  generalize a.eval x = p at hr ⊢
  unfold tupAt at h3
  split at h3
  · cases hr with
    | tuple c c' e1 e2 =>
    obtain ⟨y, f1, f2⟩ := RelL.at (⟨e1, e2⟩ : RelL ρ c c') h3
    refine ⟨rfl, y, ?_, f2⟩
    have f1' : (⟨c'⟩ : Array Value)[i]? = some y := by simpa using f1
    simp only [Instr.extract, f1', Sem.run_pure]
  · cases h3
theorem oAssert_ok (hE : EnvOk P E) (hT : Tmps ρ T a.tmps) {x : Operand} {xT t : TypeId} {ok : Bool} (hx : opdOk x = true) {v : Value} {m' : Mem} (h : oAssert x t ok E T m = some (v, m')) : m' = m ∧ ∃ v', (Instr.typeAssert (a.eval x) xT t ok).run P w = .ok v' w ∧ Rel ρ v v' := by
  obtain ⟨u, h1, h2⟩ := ob_some h
  obtain ⟨d, h3, h4⟩ := ob_some h2
  obtain ⟨h5, h6⟩ := ifo_some h4
  have hr := ev_ok hT hx h1
  generalize a.eval x = p at hr ⊢
  have hd : ∀ ms, d ≠ .interface ms := by intro ms e; subst e; cases h5
  unfold assertX at h6
  split at h6
  · rename_i t' y
    cases hr with
    | iface _ _ y' hy =>
    rw [bif_eq] at h6
    split at h6
    · rename_i e
      have e : t' = t := Nat.eq_of_beq_eq_true e
      subst e
      cases h6
      refine ⟨rfl, okv ok y' true, ?_, ?_⟩
      · cases ok <;> (cases d <;> first | exact absurd rfl (hd _) | simp [Instr.typeAssert, hE.run_under h3, okv])
      · cases ok with
        | true => exact .tuple _ _ rfl (RelL.cons hy (.cons (.bool true) (.nil ρ))).2
        | false => exact hy
    · rename_i e
      have e : t' ≠ t := fun e' => e (by rw [e']; exact Nat.beq_refl t)
      obtain ⟨h7, h8⟩ := ifo_some h6
      obtain ⟨z, h9, h10⟩ := ob_some h8
      cases h10
      subst h7
      refine ⟨rfl, .tuple ⟨[z, .bool false]⟩, ?_, .tuple _ _ rfl (RelL.cons (hE.rel_zero h9 ρ) (.cons (.bool false) (.nil ρ))).2⟩
      cases d <;> first | exact absurd rfl (hd _) | simp [Instr.typeAssert, hE.run_under h3, e, hE.run_zero h9]
  · cases hr with
    | nilIface =>
    obtain ⟨h7, h8⟩ := ifo_some h6
    obtain ⟨z, h9, h10⟩ := ob_some h8
    cases h10
    subst h7
    refine ⟨rfl, .tuple ⟨[z, .bool false]⟩, ?_, .tuple _ _ rfl (RelL.cons (hE.rel_zero h9 ρ) (.cons (.bool false) (.nil ρ))).2⟩
    cases d <;> first | exact absurd rfl (hd _) | simp [Instr.typeAssert, hE.run_under h3, hE.run_zero h9]
  · cases h6
end
end Go.Proofs.YtgmdbfackbdnlaaGreatDoor

/- The executor: numbers, conversions, structs, slices. -/
namespace Go.Proofs.YtgmdbfackbdnlaaGreatDoor
open Go.RowKit Bl Th Go.Sx
set_option maxRecDepth 10000

theorem ieq_eq (x y : Int) : ieq x y = (x == y) := by
  rw [Bool.eq_iff_iff, beq_iff_eq]
  cases x with
  | ofNat a => cases y with
    | ofNat b => show Nat.beq a b = true ↔ _; rw [Nat.beq_eq]; exact ⟨fun h => congrArg _ h, fun h => Int.ofNat.inj h⟩
    | negSucc b => simp [ieq]
  | negSucc a => cases y with
    | ofNat b => simp [ieq]
    | negSucc b => show Nat.beq a b = true ↔ _; rw [Nat.beq_eq]; exact ⟨fun h => congrArg _ h, fun h => Int.negSucc.inj h⟩
theorem ilt_eq (x y : Int) : ilt x y = decide (x < y) := by
  rw [Bool.eq_iff_iff, decide_eq_true_iff]
  cases x with
  | ofNat a => cases y with
    | ofNat b => show Nat.blt a b = true ↔ _; rw [Nat.blt_eq]; simp
    | negSucc b => simp only [ilt, Bool.false_eq_true, false_iff]; intro h; have : (0 : Int) ≤ Int.ofNat a := Int.natCast_nonneg a; have : Int.negSucc b < 0 := Int.negSucc_lt_zero b; omega
  | negSucc a => cases y with
    | ofNat b => simp only [ilt, true_iff]; have : (0 : Int) ≤ Int.ofNat b := Int.natCast_nonneg b; have : Int.negSucc a < 0 := Int.negSucc_lt_zero a; omega
    | negSucc b => show Nat.blt b a = true ↔ _; rw [Nat.blt_eq]; rw [Int.negSucc_eq, Int.negSucc_eq]; omega
theorem eqK_eq {a b : IntKind} (h : eqK a b = true) : a = b := by
  unfold eqK at h
  split at h
  · assumption
  · cases h
theorem sub_mod' (M N a : Nat) : Nat.sub M (Nat.mod a N) = M - a % N := rfl
theorem mod' (N a : Nat) : Nat.mod a N = a % N := rfl
theorem wrap_i64' (n : Int) (h1 : -9223372036854775808 ≤ n) (h2 : n < 9223372036854775808) : IntKind.i64.wrap n = n := by
  simp only [IntKind.wrap, IntKind.bits, IntKind.signed]
  simp; omega
theorem w64p_eq (b : Bool) (n : Int) (h : b = true → -9223372036854775808 ≤ n ∧ n < 9223372036854775808) : w64p b n = IntKind.i64.wrap n := by
  cases b with
  | false => rfl
  | true => exact (wrap_i64' n (h rfl).1 (h rfl).2).symm
theorem w64_nat (a : Nat) : w64 (.ofNat a) = IntKind.i64.wrap (.ofNat a) := by
  unfold w64
  exact w64p_eq _ _ fun h => by rw [Nat.blt_eq] at h; simp only [Int.ofNat_eq_natCast]; omega
theorem w64_neg (a : Nat) : w64 (.negSucc a) = IntKind.i64.wrap (.negSucc a) := by
  unfold w64
  exact w64p_eq _ _ fun h => by rw [Nat.blt_eq] at h; rw [Int.negSucc_eq]; omega
theorem wu64_nat (a : Nat) : wu64 (.ofNat a) = IntKind.u64.wrap (.ofNat a) := by
  rw [IntKind.wrap_u64]
  simp only [wu64, mod', Int.ofNat_eq_natCast]; omega
theorem wu64_neg (a : Nat) : wu64 (.negSucc a) = IntKind.u64.wrap (.negSucc a) := by
  rw [IntKind.wrap_u64]
  simp only [wu64, sub_mod', Int.ofNat_eq_natCast]
  rw [Int.negSucc_eq]; omega
theorem wrap_u32'' (n : Int) : IntKind.u32.wrap n = n % 4294967296 := by simp [IntKind.wrap, IntKind.bits, IntKind.signed]
theorem wu32_nat (a : Nat) : wu32 (.ofNat a) = IntKind.u32.wrap (.ofNat a) := by
  rw [wrap_u32'']
  simp only [wu32, mod', Int.ofNat_eq_natCast]; omega
theorem wu32_neg (a : Nat) : wu32 (.negSucc a) = IntKind.u32.wrap (.negSucc a) := by
  rw [wrap_u32'']
  simp only [wu32, sub_mod', Int.ofNat_eq_natCast]
  rw [Int.negSucc_eq]; omega
theorem fw_eq (k : IntKind) (n : Int) : fw k n = k.wrap n := by
  cases k with
  | i64 => cases n with
    | ofNat a => exact w64_nat a
    | negSucc a => exact w64_neg a
  | u64 => cases n with
    | ofNat a => exact wu64_nat a
    | negSucc a => exact wu64_neg a
  | u32 => cases n with
    | ofNat a => exact wu32_nat a
    | negSucc a => exact wu32_neg a
  | _ => rfl
theorem ibit_some {k : IntKind} {M : Nat} {f : Nat → Nat → Nat} {x y : Int} {v : Value} (h : ibit k M f x y = some v) : ∃ a b : Nat, x = a ∧ y = b ∧ a < M ∧ b < M ∧ v = .int k (f a b : Nat) := by
  unfold ibit at h
  split at h
  · rename_i a b
    unfold ibit.ifo' at h
    split at h
    · rename_i e
      simp only [Bool.and_eq_true, Nat.blt_eq] at e
      cases h
      exact ⟨a, b, rfl, rfl, e.1, e.2, rfl⟩
    · cases h
  · cases h
/-- The kinds whose bits are looked at. -/
theorem bitK_some {k : IntKind} {q : Nat × Nat} (h : bitK k = some q) : q.1 = k.bits ∧ q.2 = 2 ^ q.1 ∧ q.1 ≤ 64 ∧ k.signed = false ∧ ∀ n : Int, k.wrap n = n % (q.2 : Int) := by
  cases k <;> first | (cases h; done) | skip
  all_goals
    cases h
    refine ⟨rfl, by decide, by decide, rfl, fun n => ?_⟩
    simp [IntKind.wrap, IntKind.bits, IntKind.signed]
theorem ibits_some {k : IntKind} {f : Nat → Nat → Nat → Nat} {x y : Int} {v : Value} (h : ibits k f x y = some v) : ∃ q, bitK k = some q ∧ ∃ a b : Nat, x = a ∧ y = b ∧ a < q.2 ∧ b < q.2 ∧ v = .int k (f q.2 a b : Nat) := by
  unfold ibits at h
  split at h
  · rename_i q e
    exact ⟨q, e, ibit_some h⟩
  · cases h
theorem wrap_nat {k : IntKind} {q : Nat × Nat} (e : bitK k = some q) {n : Nat} (h : n < q.2) : k.wrap (n : Int) = (n : Int) := by
  rw [(bitK_some e).2.2.2.2]
  exact Int.emod_eq_of_lt (by omega) (by omega)
theorem lt_bits {k : IntKind} {q : Nat × Nat} (e : bitK k = some q) {n : Nat} (h : n < q.2) : n < 2 ^ k.bits := by
  obtain ⟨h1, h2, _⟩ := bitK_some e
  rw [h2, h1] at h
  exact h
theorem shl_cast (a n N : Nat) : ((a : Int) * 2 ^ n) % (N : Int) = ((a * 2 ^ n % N : Nat) : Int) := by push_cast; rfl
theorem shr_cast (a n : Nat) : Int.fdiv (a : Int) (2 ^ n) = ((a / 2 ^ n : Nat) : Int) := by
  rw [show ((2 : Int) ^ n) = ((2 ^ n : Nat) : Int) by push_cast; rfl, Int.fdiv_eq_ediv_of_nonneg _ (Int.natCast_nonneg _)]; rfl
theorem le_not (x y : Int) : (decide (x ≤ y)) = !decide (y < x) := by
  rw [Bool.eq_iff_iff]; simp
theorem bv_nat {n a : Nat} (h : a < 2 ^ n) : (BitVec.ofInt n (a : Int)).toNat = a := by
  rw [BitVec.ofInt_natCast, BitVec.toNat_ofNat, Nat.mod_eq_of_lt h]
theorem bv_and {n a b : Nat} (ha : a < 2 ^ n) (hb : b < 2 ^ n) : (BitVec.ofInt n (a : Int) &&& BitVec.ofInt n (b : Int)).toNat = a &&& b := by rw [BitVec.toNat_and, bv_nat ha, bv_nat hb]
theorem bv_or {n a b : Nat} (ha : a < 2 ^ n) (hb : b < 2 ^ n) : (BitVec.ofInt n (a : Int) ||| BitVec.ofInt n (b : Int)).toNat = a ||| b := by rw [BitVec.toNat_or, bv_nat ha, bv_nat hb]
theorem bv_xor {n a b : Nat} (ha : a < 2 ^ n) (hb : b < 2 ^ n) : (BitVec.ofInt n (a : Int) ^^^ BitVec.ofInt n (b : Int)).toNat = a ^^^ b := by rw [BitVec.toNat_xor, bv_nat ha, bv_nat hb]
theorem bv_andNot {n a b : Nat} (ha : a < 2 ^ n) (hb : b < 2 ^ n) : (BitVec.ofInt n (a : Int) &&& ~~~BitVec.ofInt n (b : Int)).toNat = a &&& (2 ^ n - 1 - b) := by rw [BitVec.toNat_and, BitVec.toNat_not, bv_nat ha, bv_nat hb]
section
variable {P : Program} {w : World}
theorem xint_ok {op : BinOp} {t : TypeId} {k k' : IntKind} {x y : Int} {v : Value} (h : xint op k k' x y = some v) : (binOp op t (.int k x) (.int k' y)).run P w = .ok v w := by
  have hk : ∀ {r : Option Value}, xint.ifk k k' r = some v → k' = k ∧ r = some v := by
    intro r hr
    unfold xint.ifk at hr
    split at hr
    · exact ⟨(eqK_eq (by assumption)).symm, hr⟩
    · cases hr
  have hz : ∀ {r : Option Value}, xint.nz y r = some v → y ≠ 0 ∧ r = some v := by
    intro r hr
    unfold xint.nz at hr
    split at hr
    · cases hr
    · rename_i e
      rw [ieq_eq] at e
      exact ⟨by simpa using e, hr⟩
  cases op with
  | add => obtain ⟨hkk, h'⟩ := hk h; clear h; subst hkk; have h := h'; clear h'; cases h; rw [fw_eq]; simp only [binOp, ne_eq, not_true, if_false, Op.intArith, Sem.run_pure]; rfl
  | sub => obtain ⟨hkk, h'⟩ := hk h; clear h; subst hkk; have h := h'; clear h'; cases h; rw [fw_eq]; simp only [binOp, ne_eq, not_true, if_false, Op.intArith, Sem.run_pure]; rfl
  | mul => obtain ⟨hkk, h'⟩ := hk h; clear h; subst hkk; have h := h'; clear h'; cases h; rw [fw_eq]; simp only [binOp, ne_eq, not_true, if_false, Op.intArith, Sem.run_pure]; rfl
  | quo => obtain ⟨hkk, h'⟩ := hk h; clear h; subst hkk; have h := h'; clear h'; obtain ⟨h0, h⟩ := hz h; cases h; rw [fw_eq]; simp [binOp, Op.intDiv, h0]
  | rem => obtain ⟨hkk, h'⟩ := hk h; clear h; subst hkk; have h := h'; clear h'; obtain ⟨h0, h⟩ := hz h; cases h; simp [binOp, Op.intDiv, h0]
  | and =>
    obtain ⟨hkk, h'⟩ := hk h; clear h; subst hkk; have h := h'; clear h'
    obtain ⟨q, hq, a, b, rfl, rfl, ha, hb, rfl⟩ := ibits_some h
    have : a &&& b < q.2 := Nat.lt_of_le_of_lt Nat.and_le_left ha
    have e : (binOp .and t (.int k' (a : Int)) (.int k' (b : Int))).run P w = Result.ok (Value.int k' (k'.wrap ((BitVec.ofInt k'.bits (a : Int) &&& BitVec.ofInt k'.bits (b : Int)).toNat : Nat))) w := by
      cases k' <;> first | (cases hq; done) | rfl
    rw [e, bv_and (lt_bits hq ha) (lt_bits hq hb), wrap_nat hq this]; rfl
  | or =>
    obtain ⟨hkk, h'⟩ := hk h; clear h; subst hkk; have h := h'; clear h'
    obtain ⟨q, hq, a, b, rfl, rfl, ha, hb, rfl⟩ := ibits_some h
    have : a ||| b < q.2 := (bitK_some hq).2.1 ▸ Nat.or_lt_two_pow ((bitK_some hq).2.1 ▸ ha) ((bitK_some hq).2.1 ▸ hb)
    have e : (binOp .or t (.int k' (a : Int)) (.int k' (b : Int))).run P w = Result.ok (Value.int k' (k'.wrap ((BitVec.ofInt k'.bits (a : Int) ||| BitVec.ofInt k'.bits (b : Int)).toNat : Nat))) w := by
      cases k' <;> first | (cases hq; done) | rfl
    rw [e, bv_or (lt_bits hq ha) (lt_bits hq hb), wrap_nat hq this]; rfl
  | xor =>
    obtain ⟨hkk, h'⟩ := hk h; clear h; subst hkk; have h := h'; clear h'
    obtain ⟨q, hq, a, b, rfl, rfl, ha, hb, rfl⟩ := ibits_some h
    have : a ^^^ b < q.2 := (bitK_some hq).2.1 ▸ Nat.xor_lt_two_pow ((bitK_some hq).2.1 ▸ ha) ((bitK_some hq).2.1 ▸ hb)
    have e : (binOp .xor t (.int k' (a : Int)) (.int k' (b : Int))).run P w = Result.ok (Value.int k' (k'.wrap ((BitVec.ofInt k'.bits (a : Int) ^^^ BitVec.ofInt k'.bits (b : Int)).toNat : Nat))) w := by
      cases k' <;> first | (cases hq; done) | rfl
    rw [e, bv_xor (lt_bits hq ha) (lt_bits hq hb), wrap_nat hq this]; rfl
  | andNot =>
    obtain ⟨hkk, h'⟩ := hk h; clear h; subst hkk; have h := h'; clear h'
    obtain ⟨q, hq, a, b, rfl, rfl, ha, hb, rfl⟩ := ibits_some h
    have : a &&& (q.2 - 1 - b) < q.2 := Nat.lt_of_le_of_lt Nat.and_le_left ha
    have e : (binOp .andNot t (.int k' (a : Int)) (.int k' (b : Int))).run P w = Result.ok (Value.int k' (k'.wrap ((BitVec.ofInt k'.bits (a : Int) &&& ~~~BitVec.ofInt k'.bits (b : Int)).toNat : Nat))) w := by
      cases k' <;> first | (cases hq; done) | rfl
    have e2 : 2 ^ k'.bits = q.2 := by rw [(bitK_some hq).2.1, (bitK_some hq).1]
    rw [e, bv_andNot (lt_bits hq ha) (lt_bits hq hb), e2, wrap_nat hq this]; rfl
  | shl =>
    replace h : ish k (fun q => ishl k q x y) = some v := h
    unfold ish at h
    split at h
    · rename_i q hq
      replace h : ishl k q x y = some v := h
      unfold ishl at h
      split at h
      · rename_i a n
        cases h
        obtain ⟨hb, hM, _, _, hw⟩ := bitK_some hq
        have h0 : ¬ ((n : Int) < 0) := by omega
        simp only [binOp, Op.shift, Int.ofNat_eq_natCast, Int.toNat_natCast, h0, if_false, Sem.run_pure, ← hb, hw]
        congr 3
        cases hn : Nat.blt n q.1 with
        | true =>
          rw [Nat.blt_eq] at hn
          rw [Nat.min_eq_left (by omega)]
          exact shl_cast a n q.2
        | false =>
          have hn : q.1 ≤ n := by
            apply Nat.le_of_not_lt; intro e
            have := (Nat.blt_eq (x := n) (y := q.1)).mpr e
            rw [hn] at this; cases this
          rw [Nat.min_eq_right hn]
          refine (shl_cast a q.1 q.2).trans ?_
          rw [hM, Nat.mul_mod_left]; rfl
      · cases h
    · cases h
  | shr =>
    replace h : ish k (fun q => ishr k q x y) = some v := h
    unfold ish at h
    split at h
    · rename_i q hq
      replace h : ishr k q x y = some v := h
      unfold ishr at h
      split at h
      · rename_i a n
        split at h
        · rename_i hn
          cases h
          obtain ⟨hb, _⟩ := bitK_some hq
          rw [Nat.blt_eq] at hn
          have h0 : ¬ ((n : Int) < 0) := by omega
          simp only [binOp, Op.shift, Int.ofNat_eq_natCast, Int.toNat_natCast, h0, if_false, Sem.run_pure, ← hb]
          rw [Nat.min_eq_left (by omega)]
          congr 3
          exact shr_cast a n
        · cases h
      · cases h
    · cases h
  | eql => obtain ⟨hkk, h'⟩ := hk h; clear h; subst hkk; have h := h'; clear h'; cases h; rw [ieq_eq]; simp [binOp, Op.intCmp]
  | neq => obtain ⟨hkk, h'⟩ := hk h; clear h; subst hkk; have h := h'; clear h'; cases h; rw [ieq_eq]; simp [binOp, Op.intCmp, bne]
  | lss => obtain ⟨hkk, h'⟩ := hk h; clear h; subst hkk; have h := h'; clear h'; cases h; rw [ilt_eq]; simp [binOp, Op.intCmp]
  | leq => obtain ⟨hkk, h'⟩ := hk h; clear h; subst hkk; have h := h'; clear h'; cases h; rw [ilt_eq]; simp [binOp, Op.intCmp, le_not]
  | gtr => obtain ⟨hkk, h'⟩ := hk h; clear h; subst hkk; have h := h'; clear h'; cases h; rw [ilt_eq]; simp [binOp, Op.intCmp]
  | geq => obtain ⟨hkk, h'⟩ := hk h; clear h; subst hkk; have h := h'; clear h'; cases h; rw [ilt_eq]; simp [binOp, Op.intCmp, le_not]
end
section
variable {P : Program} {E : Env} {G : Gh} {ρ : Ren} {m : Mem} {w : World} {T : Tr Value} {a : Act}
theorem oUn_ok (hT : Tmps ρ T a.tmps) {op : UnOp} {x : Operand} (hx : opdOk x = true) {v : Value} {m' : Mem} (h : oUn op x E T m = some (v, m')) : m' = m ∧ (Op.unary op (a.eval x)).run P w = .ok v w ∧ Rel ρ v v := by
  obtain ⟨u, h1, h2⟩ := ob_some h
  obtain ⟨z, h3, h4⟩ := ob_some h2
  cases h4
  have hr := ev_ok hT hx h1
  unfold un1 at h3
  split at h3
  · rw [rel_int hr]
    cases op <;> first | (cases h3; done) | skip
    cases h3
    rw [fw_eq]
    exact ⟨rfl, by simp only [Op.unary, Op.intArith, Sem.run_pure]; rfl, .int _ _⟩
  · rw [rel_bool hr]
    cases op <;> first | (cases h3; done) | skip
    cases h3
    exact ⟨rfl, by simp [Op.unary], .bool _⟩
  · cases h3
theorem oConv_ok (hE : EnvOk P E) (hT : Tmps ρ T a.tmps) {s d : TypeId} {x : Operand} (hx : opdOk x = true) {v : Value} {m' : Mem} (h : oConv s d x E T m = some (v, m')) : m' = m ∧ (convert s d (a.eval x)).run P w = .ok v w ∧ Rel ρ v v := by
  obtain ⟨u, h1, h2⟩ := ob_some h
  obtain ⟨z, h3, h4⟩ := ob_some h2
  obtain ⟨y, h5, h6⟩ := ob_some h4
  obtain ⟨c, h7, h8⟩ := ob_some h6
  cases h8
  have hr := ev_ok hT hx h1
  unfold conv1 at h7
  split at h7
  · rw [rel_int hr]
    split at h7
    · cases h7
      rw [fw_eq]
      refine ⟨rfl, ?_, .int _ _⟩
      simp only [convert, Sem.run_bind, hE.run_under h3, hE.run_under h5, Result.andThen_ok]
      cases z <;> simp [Conv.intToInt]
    · cases h7
  · generalize a.eval x = p at hr ⊢
    cases hr
    split at h7
    · cases h7
      refine ⟨rfl, ?_, .string _⟩
      simp only [convert, Sem.run_bind, hE.run_under h3, hE.run_under h5, Result.andThen_ok]
      cases z <;> simp
    · cases h7
  · cases h7
end
end Go.Proofs.YtgmdbfackbdnlaaGreatDoor

/- The executor: slices, structs, maps, len. -/
namespace Go.Proofs.YtgmdbfackbdnlaaGreatDoor
open Go.RowKit Bl Th Go.Sx
set_option maxRecDepth 10000

/-- What may be there. -/
def RelO (ρ : Ren) : Option Value → Option Value → Prop
  | none, none => True
  | some x, some y => Rel ρ x y
  | _, _ => False
section
variable {P : Program} {E : Env} {G : Gh} {ρ : Ren} {m : Mem} {w : World} {T : Tr Value} {a : Act}
def opdOkO : Option Operand → Prop
  | none => True
  | some x => opdOk x = true
theorem evo_ok (hT : Tmps ρ T a.tmps) {x : Option Operand} (hx : opdOkO x) {v : Option Value} (h : evo T x = some v) : RelO ρ v (x.map a.eval) := by
  cases x with
  | none => cases h; trivial
  | some x =>
    obtain ⟨u, h1, h2⟩ := ob_some (show ob (ev T x) (fun v => some (some v)) = some v from h)
    cases h2
    exact ev_ok hT hx h1
theorem bnd_ok {d hi n : Nat} {v v' : Option Value} (h : bnd d hi v = some n) (hr : RelO ρ v v') : (v = none ∧ v' = none ∧ n = d) ∨ (∃ k, v ≠ none ∧ v' = some (.int k (n : Nat)) ∧ n ≤ hi) := by
  cases v with
  | none => cases v' with
    | none => cases h; exact .inl ⟨rfl, rfl, rfl⟩
    | some y => cases hr
  | some x => cases v' with
    | none => cases hr
    | some y =>
      obtain ⟨k, i, rfl, h2⟩ := nat_some h
      split at h2
      · rename_i e
        cases h2
        have := rel_int (show Rel ρ _ y from hr)
        subst this
        exact .inr ⟨k, by simp, rfl, Nat.le_of_ble_eq_true e⟩
      · cases h2
theorem run_bound (k : IntKind) (n y : Nat) (c : BoundsCode) (h : n ≤ y) : (Instr.sliceBound (.int k (n : Nat)) y c).run P w = .ok n w := by
  rw [run_sliceBound w k n y c (Int.natCast_nonneg n) (by omega)]; simp
theorem capOk {a : Option Addr} {n len cap room : Nat} {x' : Value} (hc : Conc E G ρ m w) (hr : Rel ρ (.slice a len cap) x') (h : roomOf E n a cap len m = some room) :
    ∃ a' c', x' = .slice a' len c' ∧ room ≤ c' ∧ (∀ k h', (k ≠ big → Rel ρ (.slice a h' k) (.slice a' h' k)) ∧ ((cap = big → h' ≤ c') → Rel ρ (.slice a h' cap) (.slice a' h' c'))) ∧ (cap ≠ big → c' = cap ∧ room = cap) ∧ (cap = big → len ≤ c') := by
  unfold roomOf at h
  rw [bif_eq] at h
  cases hr with
  | sl0 n c hne =>
    rw [if_neg (fun e => hne (Nat.eq_of_beq_eq_true e))] at h
    cases h
    exact ⟨none, cap, rfl, Nat.le_refl _, fun k h' => ⟨fun hk => .sl0 h' k hk, fun _ => .sl0 h' cap hne⟩, fun _ => ⟨rfl, rfl⟩, fun e => absurd e hne⟩
  | sl i o n c q hq hne =>
    rw [if_neg (fun e => hne (Nat.eq_of_beq_eq_true e))] at h
    cases h
    exact ⟨_, cap, rfl, Nat.le_refl _, fun k h' => ⟨fun hk => .sl i o h' k q hq hk, fun _ => .sl i o h' cap q hq hne⟩, fun _ => ⟨rfl, rfl⟩, fun e => absurd e hne⟩
  | slo i oo n' cc q hq hz =>
    rw [if_pos (Nat.beq_refl big)] at h
    obtain ⟨ad, h1, h2⟩ := ob_some h
    cases h1
    rw [bif_eq] at h2
    split at h2
    rotate_left
    · obtain ⟨_, h3⟩ := ifo_some h2
      cases h3
      exact ⟨_, _, rfl, hz.2, fun k h' => ⟨fun hk => .sl i oo h' k q hq hk, fun hb => .slo i oo h' _ q hq ⟨hz.1, hb rfl⟩⟩, fun hne => absurd rfl hne, fun _ => hz.2⟩
    rename_i ho
    have h3 := h2
    obtain rfl : oo = 0 := Nat.eq_of_beq_eq_true ho
    obtain rfl := hz.1 rfl
    obtain ⟨nn, c, d, e, op, ro, h4, h5⟩ := row_some h3
    obtain ⟨s, h6, h7⟩ := ob_some h5
    obtain ⟨h8, h9⟩ := ifo_some h7
    cases h9
    simp only [Bool.and_eq_true] at h8
    obtain ⟨q', b1, b2, _⟩ := hc.rows i _ h4
    rw [hq] at b1; cases b1
    obtain ⟨arr, _, c2, _, _, c5, _⟩ := b2
    obtain ⟨s', d1, d2, d3, _⟩ := c5 h8.1
    rw [h6] at d1; cases d1
    have e : s = n := Nat.eq_of_beq_eq_true h8.2
    subst e
    refine ⟨_, _, rfl, ?_, fun k h' => ⟨fun hk => .sl i 0 h' k q hq hk, fun hb => .slo i 0 h' _ q hq ⟨fun _ => rfl, hb rfl⟩⟩, fun hne => absurd rfl hne, fun _ => hz.2⟩
    show nn / s ≤ q.2
    have : nn ≤ q.2 * s := by omega
    exact Nat.div_le_of_le_mul (by rw [Nat.mul_comm]; exact this)
  | sle i o aa cc he =>
    rw [if_pos (Nat.beq_refl big)] at h
    obtain ⟨ad, h1, h2⟩ := ob_some h
    cases h1
    have he : (({ block := i, off := o } : Addr).off) = big := he
    rw [he, bif_eq, if_neg (by decide)] at h2
    obtain ⟨h3, _⟩ := ifo_some h2
    rw [Nat.beq_refl] at h3
    cases h3
theorem map_add0 (a : Option Addr) : a.map (·.add 0) = a := by
  cases a <;> simp [Addr.add]
theorem xslice3_ok {ad a' : Option Addr} {n cap len room c' : Nat} {lv hv mv lo' hi' mx' : Option Value} (rl : RelO ρ lv lo') (rh : RelO ρ hv hi') (rm : RelO ρ mv mx') (g2 : room ≤ c') (g3 : ∀ k h', (k ≠ big → Rel ρ (.slice ad h' k) (.slice a' h' k)) ∧ ((cap = big → h' ≤ c') → Rel ρ (.slice ad h' cap) (.slice a' h' c'))) (g4 : cap ≠ big → c' = cap ∧ room = cap) (g5 : cap = big → len ≤ c')
    (hso : cap = big → ∀ x c h', 0 < x → h' ≤ c → Rel ρ (.slice (ad.map (·.add x)) h' big) (.slice (a'.map (·.add x)) h' c)) (hse : cap = big → ∀ x c, Rel ρ (.slice (ad.map fun a => ⟨a.block, big, none⟩) 0 big) (.slice a' 0 c) ∧ Rel ρ (.slice (ad.map fun a => ⟨a.block, big, none⟩) 0 big) (.slice (a'.map (·.add x)) 0 c)) (hsh : ∀ x k h', k ≠ big → Rel ρ (.slice (ad.map (·.add x)) h' k) (.slice (a'.map (·.add x)) h' k)) {v : Value} (e5 : xslice3 ad n cap len room lv hv mv = some v) {bb : Bool} {f : Sem Value}
    (hslice : ∀ l h k, (Instr.sliceBounds bb len c' lo' hi' mx').run P w = .ok (l, h, k) w → f.run P w = .ok (.slice (if k = l then a' else a'.map (·.add (l * n))) (h - l) (k - l)) w) : ∃ v', f.run P w = .ok v' w ∧ Rel ρ v v' := by
  cases mv with
  | none =>
    cases mx' with
    | some y => cases rm
    | none =>
    obtain ⟨hN, k1, e5⟩ := ob_some (show ob (bnd len room hv) _ = some v from e5)
    obtain ⟨l, k2, e5⟩ := ob_some e5
    have hlh : l ≤ hN := by
      rcases bnd_ok k2 rl with ⟨_, _, rfl⟩ | ⟨_, _, _, hl⟩
      · exact Nat.zero_le _
      · exact hl
    have hNc : cap = big → hN ≤ c' := fun e => by
      rcases bnd_ok k1 rh with ⟨_, _, rfl⟩ | ⟨_, _, _, hh⟩
      · exact g5 e
      · exact Nat.le_trans hh g2
    have hb : (Instr.sliceBounds bb len c' lo' hi' none).run P w = .ok (l, hN, c') w := by
      rcases bnd_ok k1 rh with ⟨_, rfl, rfl⟩ | ⟨kk, _, rfl, hh⟩ <;> rcases bnd_ok k2 rl with ⟨_, rfl, rfl⟩ | ⟨kl, _, rfl, hl⟩
      · simp [Instr.sliceBounds]
      · simp only [Instr.sliceBounds, Sem.run_bind, Sem.run_pure, Result.andThen_ok, Option.isSome_none, Bool.false_eq_true, if_false, run_bound kl l _ _ hl]
      · simp only [Instr.sliceBounds, Sem.run_bind, Sem.run_pure, Result.andThen_ok, run_bound kk hN _ _ (Nat.le_trans hh g2)]
      · simp only [Instr.sliceBounds, Sem.run_bind, Sem.run_pure, Result.andThen_ok, run_bound kk hN _ _ (Nat.le_trans hh g2), Option.isSome_none, Bool.false_eq_true, if_false, run_bound kl l _ _ hl]
    rw [hslice l hN c' hb]
    rw [bif_eq] at e5
    split at e5
    · rename_i e
      have e : l = 0 := Nat.eq_of_beq_eq_true e
      subst e
      cases e5
      refine ⟨_, rfl, ?_⟩
      rw [Nat.zero_mul, map_add0, ite_self, Nat.sub_zero, Nat.sub_zero]
      exact (g3 0 hN).2 hNc
    · rw [bif_eq] at e5
      split at e5
      · rename_i e0 ec
        have ec : cap = big := Nat.eq_of_beq_eq_true ec
        obtain ⟨k3, k4⟩ := ifo_some e5
        cases k4
        simp only [Bool.and_eq_true, Nat.blt_eq] at k3
        obtain ⟨k5, k6⟩ := k3
        have k6 : hN ≤ room := Nat.le_of_ble_eq_true k6
        have e0 : l ≠ 0 := fun e => e0 (by rw [e]; rfl)
        refine ⟨_, rfl, ?_⟩
        rw [bif_eq]
        split
        · rename_i k3
          rw [Nat.blt_eq] at k3
          rw [if_neg (by omega)]
          exact hso ec _ _ _ (Nat.mul_pos (by omega) k5) (Nat.sub_le_sub_right (Nat.le_trans k6 g2) l)
        · rename_i k3
          rw [Nat.blt_eq] at k3
          have hlN : hN - l = 0 := by omega
          rw [hlN]
          by_cases e : c' = l
          · rw [if_pos e]
            exact (hse ec 0 _).1
          · rw [if_neg e]
            exact (hse ec _ _).2
      rename_i e0 ec
      obtain ⟨k5, k4⟩ := ifo_some e5
      cases k4
      simp only [Bool.not_eq_true'] at k5
      have hne : cap ≠ big := fun e => ec (by rw [e]; exact Nat.beq_refl big)
      have hne2 : cap - l ≠ big := fun e => by
        have : Nat.sub cap l = big := e
        rw [this, Nat.beq_refl] at k5; cases k5
      obtain ⟨hcc, _⟩ := g4 hne
      subst hcc
      refine ⟨_, rfl, ?_⟩
      show Rel ρ (.slice (bif' (Nat.beq c' l) ad (ad.map (·.add (l * n)))) (hN - l) (c' - l)) _
      rw [bif_eq]
      by_cases e : c' = l
      · rw [if_pos (by rw [e]; exact Nat.beq_refl l), if_pos e]
        exact (g3 (c' - l) (hN - l)).1 hne2
      · rw [if_neg (fun h => e (Nat.eq_of_beq_eq_true h)), if_neg e]
        exact hsh _ _ _ hne2
  | some mv =>
    cases mx' with
    | none => cases rm
    | some y =>
    obtain ⟨k, z, rfl, e5⟩ := nat_some (show nat _ mv = some v from e5)
    have := rel_int (show Rel ρ _ y from rm)
    subst this
    obtain ⟨k1, e5⟩ := ifo_some e5
    rw [Bool.and_eq_true] at k1
    obtain ⟨k1, k2⟩ := k1
    have hz : z ≤ room := Nat.le_of_ble_eq_true k1
    obtain ⟨hN, k4, e5⟩ := ob_some e5
    obtain ⟨l, k5, e5⟩ := ob_some e5
    obtain ⟨k6, e5⟩ := ifo_some e5
    cases e5
    have hne2 : z - l ≠ big := fun e => by
      have : Nat.sub z l = big := e
      rw [this, Nat.beq_refl] at k6; cases k6
    have hb : (Instr.sliceBounds bb len c' lo' hi' (some (.int k (Int.ofNat z)))).run P w = .ok (l, hN, z) w := by
      rcases bnd_ok k4 rh with ⟨e, _, _⟩ | ⟨kk, _, rfl, hh⟩
      · rw [e] at k2; cases k2
      · rcases bnd_ok k5 rl with ⟨_, rfl, rfl⟩ | ⟨kl, _, rfl, hl⟩
        · simp [Instr.sliceBounds, run_bound k z c' _ (Nat.le_trans hz g2), run_bound kk hN z .slice3B hh]
        · simp [Instr.sliceBounds, run_bound k z c' _ (Nat.le_trans hz g2), run_bound kk hN z .slice3B hh, run_bound kl l hN .slice3C hl]
    rw [hslice l hN z hb]
    refine ⟨_, rfl, ?_⟩
    show Rel ρ (.slice (bif' (Nat.beq z l) ad (ad.map (·.add (l * n)))) (hN - l) (z - l)) _
    rw [bif_eq]
    by_cases e : z = l
    · rw [if_pos (by rw [e]; exact Nat.beq_refl l), if_pos e]
      exact (g3 (z - l) (hN - l)).1 hne2
    · rw [if_neg (fun h => e (Nat.eq_of_beq_eq_true h)), if_neg e]
      exact hsh _ _ _ hne2
theorem oSlice_ok (hE : EnvOk P E) (hc : Conc E G ρ m w) (hT : Tmps ρ T a.tmps) {t : TypeId} {x : Operand} {lo hi mx : Option Operand} (hx : opdOk x = true) (h1 : opdOkO lo) (h2 : opdOkO hi) (h3 : opdOkO mx) {v : Value} {m' : Mem} (h : oSlice t x lo hi mx E T m = some (v, m')) :
    m' = m ∧ ∃ v', (Instr.sliceAt t (a.eval x) (lo.map a.eval) (hi.map a.eval) (mx.map a.eval)).run P w = .ok v' w ∧ Rel ρ v v' := by
  obtain ⟨xv, e1, g1⟩ := ob_some h
  clear h
  obtain ⟨lv, e2, g2⟩ := ob_some g1
  clear g1
  obtain ⟨hv, e3, g3⟩ := ob_some g2
  clear g2
  obtain ⟨mv, e4, g4⟩ := ob_some g3
  clear g3
  obtain ⟨u, e5, g5⟩ := ob_some g4
  clear g4
  cases g5
  have rx := ev_ok hT hx e1
  have rl := evo_ok hT h1 e2
  have rh := evo_ok hT h2 e3
  have rm := evo_ok hT h3 e4
  clear e1
  generalize a.eval x = x' at rx ⊢
  generalize lo.map a.eval = lo' at rl ⊢
  generalize hi.map a.eval = hi' at rh ⊢
  generalize mx.map a.eval = mx' at rm ⊢
  refine ⟨rfl, ?_⟩
  unfold xsliceV at e5
  split at e5
  · rename_i b o
    obtain ⟨d, f1, e5⟩ := ob_some e5
    unfold dArr at e5
    split at e5
    · rename_i k e
      obtain ⟨n, f2, e5⟩ := ob_some e5
      obtain ⟨f3, e5⟩ := ifo_some e5
      have hk : k ≠ big := fun q => by rw [q, Nat.beq_refl] at f3; cases f3
      cases rx with
      | ptr _ _ q hq =>
      refine xslice3_ok (bb := false) (a' := some ⟨q.1, o, none⟩) (c' := k) rl rh rm (Nat.le_refl _) (fun k' h' => ⟨fun hk' => .sl b o h' k' q hq hk', fun _ => .sl b o h' k q hq hk⟩) (fun _ => ⟨rfl, rfl⟩) (fun q' => absurd q' hk) (fun q' => absurd q' hk) (fun q' => absurd q' hk) (fun x k' h' hk' => by simp only [Option.map_some, addr_add]; exact .sl b _ h' k' q hq hk') e5 fun l h k' hb => ?_
      simp only [Instr.sliceAt, Sem.run_bind, hE.run_under f1, Result.andThen_ok, Instr.sureAddr, hb, hE.run_size f2, Sem.run_pure]
      by_cases q' : k' = l
      · simp [q']
      · simp [q']
    · cases e5
  · rename_i ad len cap
    obtain ⟨el, n, f1, f2, e5⟩ := EnvOk.elemS e5
    obtain ⟨room, f3, e5⟩ := ob_some e5
    obtain ⟨a', c', g1, g2, g3, g4, g5⟩ := capOk hc rx f3
    rw [g1] at rx ⊢
    refine xslice3_ok (bb := true) (a' := a') (c' := c') rl rh rm g2 g3 g4 g5 (fun he x c h' hx hle => ?_) (fun he x c => ?_) (fun x k h' hk => ?_) e5 fun l h k hb => ?_
    · cases rx with
      | sl0 _ _ hcb => exact absurd he hcb
      | sl i o n' c q hq hcb => exact absurd he hcb
      | slo i o n' c q hq hz =>
        simp only [Option.map_some, addr_add]
        exact .slo i _ _ _ q hq ⟨by omega, hle⟩
      | sle i o aa cc hoo =>
        unfold roomOf at f3
        rw [bif_eq, if_pos (Nat.beq_refl big)] at f3
        have f3 : bif' (Nat.beq o 0) _ (ifo (!(Nat.beq o big)) (some 0)) = some room := f3
        rw [hoo, bif_eq, if_neg (by decide)] at f3
        obtain ⟨h3, _⟩ := ifo_some f3
        rw [Nat.beq_refl] at h3
        cases h3
    · cases rx with
      | sl0 _ _ hcb => exact absurd he hcb
      | sl i o n' c q hq hcb => exact absurd he hcb
      | slo i o n' c q hq hz =>
        simp only [Option.map_some]
        exact ⟨.sle _ _ _ _ rfl, .sle _ _ _ _ rfl⟩
      | sle i o aa cc hoo =>
        simp only [Option.map_some]
        exact ⟨.sle _ _ _ _ rfl, .sle _ _ _ _ rfl⟩
    · cases rx with
      | sl0 => exact .sl0 _ _ hk
      | sl i o n' c q hq hc' =>
        simp only [Option.map_some, addr_add]
        exact .sl i _ _ _ q hq hk
      | slo i o n' c q hq hz =>
        simp only [Option.map_some, addr_add]
        exact .sl i _ _ _ q hq hk
      | sle i o aa cc hoo =>
        unfold roomOf at f3
        rw [bif_eq, if_pos (Nat.beq_refl big)] at f3
        have f3 : bif' (Nat.beq o 0) _ (ifo (!(Nat.beq o big)) (some 0)) = some room := f3
        rw [hoo, bif_eq, if_neg (by decide)] at f3
        obtain ⟨h3, _⟩ := ifo_some f3
        rw [Nat.beq_refl] at h3
        cases h3
    · simp only [Instr.sliceAt, Instr.slice, Sem.run_bind, hE.run_under f1, Result.andThen_ok, hb, hE.run_size f2, Sem.run_pure]
  · cases e5
end
end Go.Proofs.YtgmdbfackbdnlaaGreatDoor

/- The executor: structs, maps, len. -/
namespace Go.Proofs.YtgmdbfackbdnlaaGreatDoor
open Go.RowKit Bl Th Go.Sx
set_option maxRecDepth 10000

theorem splice_get (cs : List Value) (o : Nat) (vs : List Value) (h : o + vs.length ≤ cs.length) (i : Nat) : (splice cs o vs)[i]? = if i < o then cs[i]? else if i < o + vs.length then vs[i - o]? else cs[i]? := by
  unfold splice
  have h1 : (cs.take o).length = o := by rw [List.length_take]; omega
  by_cases hi : i < o
  · rw [if_pos hi, List.append_assoc, List.getElem?_append_left (by omega), List.getElem?_take, if_pos hi]
  · rw [if_neg hi, List.append_assoc, List.getElem?_append_right (by omega), h1]
    by_cases hj : i < o + vs.length
    · rw [if_pos hj, List.getElem?_append_left (by omega)]
    · rw [if_neg hj, List.getElem?_append_right (by omega), List.getElem?_drop, show o + vs.length + (i - o - vs.length) = i by omega]
theorem splice_length (cs : List Value) (o : Nat) (vs : List Value) (h : o + vs.length ≤ cs.length) : (splice cs o vs).length = cs.length := by
  unfold splice
  simp only [List.length_append, List.length_take, List.length_drop]; omega
theorem foldl_splice (off : Nat) : ∀ (vs : List Value) (k : Nat) (cs : List Value), off + k + vs.length ≤ cs.length →
    (vs.zipIdx k).foldl (fun (cs : Array Value) (x : Value × Nat) => cs.setIfInBounds (off + x.2) x.1) ⟨cs⟩ = ⟨splice cs (off + k) vs⟩
  | [], k, cs, h => by simp [splice]
  | v :: vs, k, cs, h => by
    simp only [List.length_cons] at h
    rw [List.zipIdx_cons, List.foldl_cons]
    have e : (⟨cs⟩ : Array Value).setIfInBounds (off + k) v = ⟨cs.set (off + k) v⟩ := by apply Array.ext'; simp
    rw [e, foldl_splice off vs (k + 1) _ (by rw [List.length_set]; omega)]
    congr 1
    apply List.ext_getElem?
    intro i
    rw [splice_get _ _ _ (by rw [List.length_set]; omega), splice_get _ _ _ (by simp only [List.length_cons]; omega), List.getElem?_set, List.length_cons]
    by_cases h1 : i < off + k
    · rw [if_pos (by omega), if_neg (by omega), if_pos h1]
    · by_cases h2 : i = off + k
      · subst h2
        rw [if_pos (by omega), if_pos rfl, if_pos (by omega), if_neg (by omega), if_pos (by omega), Nat.sub_self]; rfl
      · rw [if_neg (by omega), if_neg h1]
        by_cases h3 : i < off + k + (vs.length + 1)
        · rw [if_pos (by omega), if_pos h3, show i - (off + k) = (i - (off + (k + 1))) + 1 by omega]; rfl
        · rw [if_neg (by omega), if_neg h3, if_neg (by omega)]
/-- Parts with their places. -/
def RelP (ρ : Ren) : List (Nat × Value) → List (Nat × Value) → Prop
  | [], [] => True
  | x :: l, y :: r => x.1 = y.1 ∧ Rel ρ x.2 y.2 ∧ RelP ρ l r
  | _, _ => False
theorem RelL.splice {ρ : Ren} {a b v u : List Value} (h : RelL ρ a b) (k : RelL ρ v u) (o : Nat) : RelL ρ (splice a o v) (splice b o u) := by
  unfold Go.Sx.splice
  have := k.1
  rw [← this]
  exact ((h.take o).append k).append (h.drop _)
theorem fill_ok {ρ : Ren} {place : Nat → Option (Nat × Nat)} : ∀ {l l' : List (Nat × Value)} {cs cs' r : List Value}, RelP ρ l l' → RelL ρ cs cs' → fillX place l cs = some r → ∃ r', Instr.fill place ⟨cs'⟩ l' = some ⟨r'⟩ ∧ RelL ρ r r'
  | [], l', cs, cs', r, hl, hc, h => by
    cases l' with
    | nil => cases h; exact ⟨cs', rfl, hc⟩
    | cons => cases hl
  | x :: l, l', cs, cs', r, hl, hc, h => by
    cases l' with
    | nil => cases hl
    | cons y l' =>
    obtain ⟨h1, h2, h3⟩ := hl
    obtain ⟨i, v⟩ := x
    obtain ⟨j, u⟩ := y
    simp only at h1 h2
    subst h1
    obtain ⟨q, e1, e2⟩ := ob_some (show ob (place i) _ = some r from h)
    obtain ⟨off, size⟩ := q
    obtain ⟨e3, e4⟩ := ifo_some e2
    simp only [Bool.and_eq_true] at e3
    have e5 : v.cells.toList.length = size := Nat.eq_of_beq_eq_true e3.1
    have e6 : off + size ≤ cs.length := Nat.le_of_ble_eq_true e3.2
    have hv := h2.cells
    have hlen := hv.1
    have hcl := hc.1
    obtain ⟨r', f1, f2⟩ := fill_ok h3 (hc.splice hv off) e4
    refine ⟨r', ?_, f2⟩
    rw [← f1]
    have g1 : u.cells.size = size := by
      have : u.cells.size = u.cells.toList.length := by simp
      omega
    have hz : u.cells.zipIdx.foldl (fun (cs : Array Value) (x : Value × Nat) => cs.setIfInBounds (off + x.2) x.1) ⟨cs'⟩ = ⟨splice cs' off u.cells.toList⟩ := by
      rw [← Array.foldl_toList, Array.toList_zipIdx]
      exact foldl_splice off u.cells.toList 0 cs' (by omega)
    have hif : ¬ ((decide (u.cells.size ≠ size) || decide (off + u.cells.size > (⟨cs'⟩ : Array Value).size)) = true) := by
      rw [Bool.or_eq_true, decide_eq_true_eq, decide_eq_true_eq]
      intro e
      rcases e with e | e
      · exact e g1
      · have : (⟨cs'⟩ : Array Value).size = cs'.length := rfl
        omega
    show (match place i with
      | none => none
      | some (off, size) => if (decide (u.cells.size ≠ size) || decide (off + u.cells.size > (⟨cs'⟩ : Array Value).size)) = true then none else Instr.fill place (u.cells.zipIdx.foldl (fun cs (c, j) => cs.setIfInBounds (off + j) c) ⟨cs'⟩) l') = _
    rw [e1]
    simp only
    rw [if_neg hif]
    exact congrArg (fun z => Instr.fill place z l') hz
section
variable {P : Program} {E : Env} {G : Gh} {ρ : Ren} {m : Mem} {w : World} {T : Tr Value} {a : Act}
theorem evp_ok (hT : Tmps ρ T a.tmps) : ∀ {l : List (Nat × Operand)} {vs : List (Nat × Value)}, (∀ x ∈ l, opdOk x.2 = true) → evp T l = some vs → RelP ρ vs (l.map fun (i, x) => (i, a.eval x))
  | [], vs, _, h => by cases h; trivial
  | x :: l, vs, hl, h => by
    obtain ⟨v, h1, h2⟩ := ob_some (show ob (ev T x.2) (fun v => ob (evp T l) fun vs => some ((x.1, v) :: vs)) = some vs from h)
    obtain ⟨us, h3, h4⟩ := ob_some h2
    cases h4
    exact ⟨rfl, ev_ok hT (hl x (by simp)) h1, evp_ok hT (fun y hy => hl y (by simp [hy])) h3⟩
theorem sizes_ok (hE : EnvOk P E) : ∀ {l : List Field} {r : List (Nat × Nat)}, sizesX E l = some r → (l.mapM fun f => do pure (f.offset, ← sizeOf f.type) : Sem (List (Nat × Nat))).run P w = .ok r w
  | [], r, h => by cases h; rfl
  | f :: l, r, h => by
    obtain ⟨n, h1, h2⟩ := ob_some (show ob (E.size f.type) _ = some r from h)
    obtain ⟨us, h3, h4⟩ := ob_some h2
    cases h4
    simp only [List.mapM_cons, Sem.run_bind, hE.run_size h1, Result.andThen_ok, Sem.run_pure, sizes_ok hE h3]
theorem oBuild_ok (hE : EnvOk P E) (hT : Tmps ρ T a.tmps) {t : TypeId} {ps : Array (Nat × Operand)} (hp : ∀ x ∈ ps.toList, opdOk x.2 = true) {v : Value} {m' : Mem} (h : oBuild t ps E T m = some (v, m')) :
    m' = m ∧ ∃ v', (Instr.build t (ps.map fun (i, x) => (i, a.eval x))).run P w = .ok v' w ∧ Rel ρ v v' := by
  obtain ⟨l, h1, h⟩ := ob_some h
  obtain ⟨z, h2, h⟩ := ob_some h
  obtain ⟨d, h3, h⟩ := ob_some h
  obtain ⟨pl, h4, h⟩ := ob_some h
  obtain ⟨cs, h5, h⟩ := ob_some h
  cases h
  have rp := evp_ok hT hp h1
  have rz := (hE.rel_zero h2 ρ).cells
  obtain ⟨r', f1, f2⟩ := fill_ok rp rz h5
  have ez : (⟨z.cells.toList⟩ : Array Value) = z.cells := rfl
  rw [ez] at f1
  have ep : (ps.map fun (i, x) => (i, a.eval x)).toList = ps.toList.map fun (i, x) => (i, a.eval x) := by simp
  refine ⟨rfl, .agg ⟨r'⟩, ?_, .agg _ _ f2.1 f2.2⟩
  cases d with
  | struct fs =>
    obtain ⟨sl, g1, g2⟩ := ob_some (show ob (sizesX E fs.toList) _ = some pl from h4)
    cases g2
    have hm : (fs.mapM fun f => do pure (f.offset, ← sizeOf f.type) : Sem (Array (Nat × Nat))).run P w = .ok ⟨sl⟩ w := by
      rw [Array.mapM_eq_mapM_toList]
      simp only [Sem.run_map, sizes_ok hE g1, Result.andThen_ok]
    have hg : (fun (i : Nat) => sl[i]?) = ((⟨sl⟩ : Array (Nat × Nat))[·]?) := by funext i; simp
    rw [hg] at f1
    simp only [Instr.build, Sem.run_bind, hE.run_zero h2, Result.andThen_ok, hE.run_under h3, hm, ep, f1, Sem.run_pure]
  | array n e =>
    obtain ⟨k, g1, g2⟩ := ob_some (show ob (E.size e) _ = some pl from h4)
    cases g2
    simp only [Instr.build, Sem.run_bind, hE.run_zero h2, Result.andThen_ok, hE.run_under h3, hE.run_size g1, ep, f1, Sem.run_pure]
  | _ => cases h4

/-! Maps. -/
/-- Entries, and entries of the world. -/
def RelM (ρ : Ren) (es : List (Value × Value × Nat)) (arr : List MapEntry) : Prop :=
  es.length = arr.length ∧ ∀ (i : Nat) (x : Value × Value × Nat) (a : MapEntry), es[i]? = some x → arr[i]? = some a → Rel ρ x.1 a.key ∧ Rel ρ x.2.1 a.val ∧ a.born = x.2.2
theorem RelM.cons_inv {ρ : Ren} {x : Value × Value × Nat} {es : List (Value × Value × Nat)} {arr : List MapEntry} (h : RelM ρ (x :: es) arr) : ∃ y r, arr = y :: r ∧ Rel ρ x.1 y.key ∧ Rel ρ x.2.1 y.val ∧ y.born = x.2.2 ∧ RelM ρ es r := by
  obtain ⟨h1, h2⟩ := h
  cases arr with
  | nil => simp at h1
  | cons y r =>
    obtain ⟨a, b, c⟩ := h2 0 x y rfl rfl
    exact ⟨y, r, rfl, a, b, c, by simpa using h1, fun i u v hu hv => h2 (i + 1) u v (by simpa using hu) (by simpa using hv)⟩
theorem RelM.nil_inv {ρ : Ren} {arr : List MapEntry} (h : RelM ρ [] arr) : arr = [] := List.length_eq_zero_iff.1 h.1.symm
theorem bytesEq_eq (a b : ByteArray) : bytesEq a b = (a == b) := by
  unfold bytesEq
  obtain ⟨⟨x⟩⟩ := a
  obtain ⟨⟨y⟩⟩ := b
  show _ = ((⟨x⟩ : Array UInt8) == ⟨y⟩)
  split
  · rename_i h _
    have h : x = y := h
    subst h
    exact (beq_self_eq_true _).symm
  · rename_i h _
    have h : ¬ x = y := h
    symm
    rw [beq_eq_false_iff_ne]
    intro e
    cases e
    exact h rfl
theorem keyEq_now {d : TypeDesc} {k k' x x' : Value} {b : Bool} (hk : keyOk d k = true) (h : keyEq k x = some b) (r1 : Rel ρ k k') (r2 : Rel ρ x x') : Instr.sameNow d k' x' = some b := by
  unfold keyEq at h
  split at h
  · rename_i kk n kk' n'
    rw [rel_int r1, rel_int r2]
    split at h
    · rename_i e
      cases h
      cases eqK_eq e
      unfold keyOk at hk
      split at hk
      · simp [Instr.sameNow, ieq_eq]
      · rename_i e2; cases e2
      · cases hk
    · cases h
  · cases r1; cases r2; cases h
    unfold keyOk at hk
    split at hk
    · rename_i e; cases e
    · simp [Instr.sameNow, bytesEq_eq]
    · cases hk
  · cases h
theorem findK_ok {d : TypeDesc} {k k' : Value} (hk : keyOk d k = true) (r1 : Rel ρ k k') : ∀ {es : List (Value × Value × Nat)} {arr : List MapEntry} {r : Option Value} (i : Nat), RelM ρ es arr → findK k es = some r →
    (r = none ∧ Instr.findNow d k' arr i = some none) ∨ ∃ v j v', r = some v ∧ Rel ρ v v' ∧ Instr.findNow d k' arr i = some (some (i + j, v')) ∧ j < arr.length
  | [], arr, r, i, hm, h => by
    cases h
    rw [hm.nil_inv]
    exact .inl ⟨rfl, rfl⟩
  | x :: es, arr, r, i, hm, h => by
    obtain ⟨y, rr, rfl, e1, e2, e3, e4⟩ := hm.cons_inv
    obtain ⟨b, h1, h2⟩ := ob_some (show ob (keyEq k x.1) (fun b => bif' b (some (some x.2.1)) (findK k es)) = some r from h)
    have hn := keyEq_now hk h1 r1 e1
    cases b with
    | true =>
      cases h2
      refine .inr ⟨_, 0, y.val, rfl, e2, ?_, by simp⟩
      unfold Instr.findNow; rw [hn]; rfl
    | false =>
      have h2 : findK k es = some r := h2
      rcases findK_ok hk r1 (i + 1) e4 h2 with ⟨a, b⟩ | ⟨v, j, v', a, b, c, d'⟩
      · refine .inl ⟨a, ?_⟩
        unfold Instr.findNow; rw [hn]; exact b
      · refine .inr ⟨v, j + 1, v', a, b, ?_, by simp only [List.length_cons]; omega⟩
        unfold Instr.findNow; rw [hn]
        rw [show i + (j + 1) = i + 1 + j by omega]; exact c
theorem mapT_some {β : Type} {t : TypeId} {kv : Value} {f : TypeId → Option β} {r : β} (h : E.mapT t kv f = some r) : ∃ k e u, E.under t = some (.map k e) ∧ E.under k = some u ∧ keyOk u kv = true ∧ f e = some r := by
  obtain ⟨d, h1, h2⟩ := ob_some h
  cases d with
  | map k e =>
    obtain ⟨u, h3, h4⟩ := ob_some (show ob (E.under k) (fun u => ifo (keyOk u kv) (f e)) = some r from h2)
    obtain ⟨h5, h6⟩ := ifo_some h4
    exact ⟨k, e, u, h1, h3, h5, h6⟩
  | _ => cases h2
theorem key_rel {u : TypeDesc} {k k' : Value} (h : keyOk u k = true) (r : Rel ρ k k') : k' = k ∧ ((∃ kk kd n, u = .int kd ∧ k = .int kk n) ∨ (∃ s, u = .string ∧ k = .string s)) := by
  unfold keyOk at h
  split at h
  · rw [rel_int r]; exact ⟨rfl, .inl ⟨_, _, _, rfl, rfl⟩⟩
  · cases r; exact ⟨rfl, .inr ⟨_, rfl, rfl⟩⟩
  · cases h
theorem run_checkKey (hE : EnvOk P E) {key : TypeId} {u : TypeDesc} {k k' : Value} (hu : E.under key = some u) (h : keyOk u k = true) (r : Rel ρ k k') (b : Bool) (n : Nat) : (Instr.checkKey b (n + 1) key k').run P w = .ok () w := by
  obtain ⟨rfl, h | h⟩ := key_rel h r
  · obtain ⟨kk, kd, n', rfl, rfl⟩ := h
    simp only [Instr.checkKey, Sem.run_bind, hE.run_under hu, Result.andThen_ok, Sem.run_pure]
  · obtain ⟨s, rfl, rfl⟩ := h
    simp only [Instr.checkKey, Sem.run_bind, hE.run_under hu, Result.andThen_ok, Sem.run_pure]
theorem run_findKey (hE : EnvOk P E) {key : TypeId} {u : TypeDesc} {k' : Value} (hu : E.under key = some u) {arr : List MapEntry} {r : Option (Nat × Value)} (h : Instr.findNow u k' arr 0 = some r) : (Instr.findKey key k' arr).run P w = .ok r w := by
  simp only [Instr.findKey, Sem.run_bind, hE.run_under hu, Result.andThen_ok, h, Sem.run_pure]
theorem ObjC.relM {es : List (Value × Value × Nat)} {cl : Nat} {ro : Bool} {q : Nat × Nat} (h : ObjC E ρ w q (.map es cl ro)) : ∃ arr : List MapEntry, w.heap[q.1]? = some (.map ⟨arr⟩ cl) ∧ RelM ρ es arr := by
  obtain ⟨arr, h1, h2, h3⟩ := h
  obtain ⟨arr⟩ := arr
  exact ⟨arr, h1, h2, fun i x a hx ha => h3 i x a hx (by simpa using ha)⟩
theorem run_getMap {r : Nat} {arr : List MapEntry} {cl : Nat} (h : w.heap[r]? = some (.map ⟨arr⟩ cl)) : (getObj r).run P w = .ok (.map ⟨arr⟩ cl) w := by
  simp only [getObj, Sem.run, h]
theorem oLookup_ok (hE : EnvOk P E) (hc : Conc E G ρ m w) (hT : Tmps ρ T a.tmps) {t : TypeId} {x k : Operand} {ok : Bool} (hx : opdOk x = true) (hk : opdOk k = true) {v : Value} {m' : Mem} (h : oLookup t x k ok E T m = some (v, m')) :
    m' = m ∧ ∃ v', (Instr.lookup t (a.eval x) (a.eval k) ok).run P w = .ok v' w ∧ Rel ρ v v' := by
  obtain ⟨xv, h1, h⟩ := ob_some h
  obtain ⟨kv, h2, h⟩ := ob_some h
  obtain ⟨key, el, u, h3, h4, h5, h⟩ := mapT_some h
  obtain ⟨es, h6, h⟩ := ob_some h
  obtain ⟨r, h7, h⟩ := ob_some h
  have rx := ev_ok hT hx h1
  have rk := ev_ok hT hk h2
  obtain ⟨arr, hes, hrel⟩ : ∃ arr : List MapEntry, ((a.eval x = .map none ∧ arr = []) ∨ ∃ b cl, a.eval x = .map (some b) ∧ w.heap[b]? = some (.map ⟨arr⟩ cl)) ∧ RelM ρ es arr := by
    generalize a.eval x = x' at rx ⊢
    unfold mapOf at h6
    split at h6
    · cases rx; cases h6; exact ⟨[], .inl ⟨rfl, rfl⟩, rfl, fun i x a hx => by simp at hx⟩
    · obtain ⟨es', cl, ro, g1, g2⟩ := map_some h6
      cases g2
      cases rx with
      | map _ q hq =>
      obtain ⟨q', b1, b2, _⟩ := hc.rows _ _ g1
      rw [hq] at b1; cases b1
      obtain ⟨arr, c1, c2⟩ := b2.relM
      exact ⟨arr, .inr ⟨_, _, rfl, c1⟩, c2⟩
    · cases h6
  have hck := fun b => run_checkKey (w := w) hE h4 h5 rk b 9999
  rcases findK_ok h5 rk 0 hrel h7 with ⟨rfl, f1⟩ | ⟨u', j, v', rfl, f1, f2, _⟩
  · obtain ⟨z, g1, g2⟩ := ob_some (show ob (E.zero el) _ = some (v, m') from h)
    cases g2
    refine ⟨rfl, okv ok z false, ?_, ?_⟩
    · rcases hes with ⟨e1, rfl⟩ | ⟨b, cl, e1, e2⟩
      · simp only [Instr.lookup, e1, Sem.run_bind, hE.run_under h3, Result.andThen_ok, hck, run_findKey hE h4 f1, hE.run_zero g1, Sem.run_pure]
        cases ok <;> rfl
      · simp only [Instr.lookup, e1, run_getMap e2, Sem.run_bind, hE.run_under h3, Result.andThen_ok, hck, run_findKey hE h4 f1, hE.run_zero g1, Sem.run_pure]
        cases ok <;> rfl
    · cases ok with
      | true => exact .tuple _ _ rfl (RelL.cons (hE.rel_zero g1 ρ) (.cons (.bool false) (.nil ρ))).2
      | false => exact hE.rel_zero g1 ρ
  · cases h
    refine ⟨rfl, okv ok v' true, ?_, ?_⟩
    · rcases hes with ⟨e1, rfl⟩ | ⟨b, cl, e1, e2⟩
      · simp only [Instr.lookup, e1, Sem.run_bind, hE.run_under h3, Result.andThen_ok, hck, run_findKey hE h4 f2, Sem.run_pure]
        cases ok <;> rfl
      · simp only [Instr.lookup, e1, run_getMap e2, Sem.run_bind, hE.run_under h3, Result.andThen_ok, hck, run_findKey hE h4 f2, Sem.run_pure]
        cases ok <;> rfl
    · cases ok with
      | true => exact .tuple _ _ rfl (RelL.cons f1 (.cons (.bool true) (.nil ρ))).2
      | false => exact f1
end
end Go.Proofs.YtgmdbfackbdnlaaGreatDoor

/- The executor: equality, len, and all operations that leave memory as it is. -/
namespace Go.Proofs.YtgmdbfackbdnlaaGreatDoor
open Go.RowKit Bl Th Go.Sx
set_option maxRecDepth 10000

section
variable {P : Program} {E : Env} {G : Gh} {ρ : Ren} {m : Mem} {w : World} {T : Tr Value} {a : Act}
theorem rowO_cells {ρ : Ren} {q : Nat × Nat} {o : SObj} (h : ObjC E ρ w q o) (hr : isRow o = true) : ∃ arr e, Cells w q.1 arr e := by
  cases o with
  | row n c d e op ro => obtain ⟨arr, h1, _⟩ := h; exact ⟨arr, e, h1⟩
  | _ => cases hr
theorem isRow_obj {o : SObj} (h : isRow o = true) : isObj o = true := by
  cases o with
  | row => rfl
  | _ => cases h
theorem run_sameAddr {b1 b2 o1 o2 : Nat} {a1 a2 : List Value} {e1 e2 : TypeId} (h1 : Cells w b1 a1 e1) (h2 : Cells w b2 a2 e2) : (sameAddr ⟨b1, o1, none⟩ ⟨b2, o2, none⟩).run P w = .ok (Nat.beq b1 b2 && Nat.beq o1 o2) w := by
  have f1 : ∀ o, w.frozen? ⟨b1, o, none⟩ = false := h1.free
  have f2 : ∀ o, w.frozen? ⟨b2, o, none⟩ = false := h2.free
  have s1 : w.shape? b1 = some (e1, a1.length) := by unfold Cells at h1; simp [World.shape?, h1]
  have s2 : w.shape? b2 = some (e2, a2.length) := by unfold Cells at h2; simp [World.shape?, h2]
  by_cases hb : b1 = b2
  · subst hb
    have : (Nat.beq b1 b1) = true := Nat.beq_refl b1
    by_cases ho : o1 = o2
    · subst ho; simp [sameAddr, Nat.beq_refl]
    · have h3 : Nat.beq o1 o2 = false := by
        rw [← Bool.not_eq_true]; intro e; exact ho (Nat.eq_of_beq_eq_true e)
      simp [sameAddr, Nat.beq_refl, h3]
  · have h3 : Nat.beq b1 b2 = false := by
      rw [← Bool.not_eq_true]; intro e; exact hb (Nat.eq_of_beq_eq_true e)
    simp [sameAddr, hb, h3, f1, f2, noView, viewAt, s1, s2, mayBeOne, stringish]
theorem peq_ok (hE : EnvOk P E) (hc : Conc E G ρ m w) {t e : TypeId} {p q : Addr} {p' q' : Value} {b : Bool} {D : Nat} (hu : E.under t = some (.pointer e)) (h : peq E m e p q = some b) (r1 : Rel ρ (.pointer (some p)) p') (r2 : Rel ρ (.pointer (some q)) q') : (Op.equalIn (D + 1) t p' q').run P w = .ok b w := by
  obtain ⟨s, h1, h2⟩ := ob_some h
  obtain ⟨h3, h4⟩ := ifo_some h2
  obtain ⟨x, h5, h6⟩ := ob_some h4
  obtain ⟨y, h7, h8⟩ := ob_some h6
  obtain ⟨h9, h10⟩ := ifo_some h8
  cases h10
  rw [Bool.and_eq_true] at h9
  have hs : s ≠ 0 := by intro e; subst e; cases h3
  cases r1 with
  | ptr i o qa ha =>
  cases r2 with
  | ptr j o2 qb hb =>
  obtain ⟨q1, a1, a2, _⟩ := hc.rows i x h5
  rw [ha] at a1; cases a1
  obtain ⟨q2, b1, b2, _⟩ := hc.rows j y h7
  rw [hb] at b1; cases b1
  obtain ⟨ar1, e1, c1⟩ := rowO_cells a2 h9.1
  obtain ⟨ar2, e2, c2⟩ := rowO_cells b2 h9.2
  have hsame := run_sameAddr (P := P) (o1 := o) (o2 := o2) c1 c2
  have hij : Nat.beq i j = Nat.beq qa.1 qb.1 := by
    rw [Bool.eq_iff_iff]
    constructor
    · intro e
      have e := Nat.eq_of_beq_eq_true e
      subst e
      rw [ha] at hb; cases hb
      exact Nat.beq_refl _
    · intro e
      have e := Nat.eq_of_beq_eq_true e
      have := hc.inj i j x y qa qb h5 h7 (isRow_obj h9.1) (isRow_obj h9.2) ha hb e
      subst this
      exact Nat.beq_refl _
  show _ = Result.ok (Nat.beq i j && Nat.beq o o2) w
  rw [hij]
  simp only [Op.equalIn, Sem.run_bind, hE.run_under hu, Result.andThen_ok, hE.run_size h1, ne_eq, hs, not_false_iff, if_true, Sem.run_ite, hsame]
set_option maxHeartbeats 4000000 in
theorem xeq_ok (hE : EnvOk P E) (hc : Conc E G ρ m w) : ∀ (d D : Nat) {t : TypeId} {x y x' y' : Value} {b : Bool}, d ≤ D → xeq E m d t x y = some b → Rel ρ x x' → Rel ρ y y' → (Op.equalIn D t x' y').run P w = .ok b w
  | 0, _, _, _, _, _, _, _, _, h, _, _ => by cases h
  | d + 1, 0, _, _, _, _, _, _, hd, _, _, _ => by omega
  | d + 1, D + 1, t, x, y, x', y', b, hd, h, r1, r2 => by
    obtain ⟨ut, h1, h2⟩ := ob_some (show ob (E.under t) (fun ut => xeq1 E m (xeq E m d) ut x y) = some b from h)
    have hu := hE.run_under h1 w
    unfold xeq1 at h2
    split at h2
    · cases r1; cases r2
      split at h2
      · cases h2; simp only [Op.equalIn, Sem.run_bind, hu, Result.andThen_ok, Sem.run_pure]
      · cases h2
    · cases r1; cases r2
      split at h2
      · obtain ⟨e1, e2⟩ := ifo_some h2
        cases e2
        cases eqK_eq e1
        simp only [Op.equalIn, Sem.run_bind, hu, Result.andThen_ok, if_true, Sem.run_pure, ieq_eq]
      · cases h2
    · cases r1; cases r2
      split at h2
      · cases h2; simp only [Op.equalIn, Sem.run_bind, hu, Result.andThen_ok, Sem.run_pure, bytesEq_eq]
      · cases h2
    · cases r1; cases r2
      split at h2
      · cases h2; simp only [Op.equalIn, Sem.run_bind, hu, Result.andThen_ok, Sem.run_pure, Option.isNone_none]
      · cases h2
    · cases r1; cases r2
      split at h2
      · cases h2; simp only [Op.equalIn, Sem.run_bind, hu, Result.andThen_ok, Sem.run_pure]
      · cases h2
    · cases r1; cases r2
      split at h2
      · cases h2; simp only [Op.equalIn, Sem.run_bind, hu, Result.andThen_ok, Sem.run_pure, Option.isNone_some]
      · cases h2
    · split at h2
      · exact peq_ok hE hc h1 h2 r1 r2
      · cases h2
    · obtain ⟨e1, e2⟩ := ifo_some h2
      cases e2; cases r1; cases r2
      cases ut <;> first | (cases e1; done) | simp only [Op.equalIn, Sem.run_bind, hu, Result.andThen_ok, Sem.run_pure]
    · obtain ⟨e1, e2⟩ := ifo_some h2
      cases e2; cases r1; cases r2
      cases ut <;> first | (cases e1; done) | simp only [Op.equalIn, Sem.run_bind, hu, Result.andThen_ok, Sem.run_pure]
    · rename_i t1 v1 t2 v2
      obtain ⟨e1, e2⟩ := ifo_some h2
      cases r1 with
      | iface _ _ v1' k1 =>
      cases r2 with
      | iface _ _ v2' k2 =>
      rw [bif_eq] at e2
      split at e2
      · rename_i e
        have e := Nat.eq_of_beq_eq_true e
        subst e
        obtain ⟨i, e3, e4⟩ := ob_some e2
        obtain ⟨e5, e6⟩ := ifo_some e4
        have ih := xeq_ok hE hc d D (by omega) e6 k1 k2
        cases ut <;> first | (cases e1; done) | simp only [Op.equalIn, Sem.run_bind, hu, Result.andThen_ok, ne_eq, not_true, if_false, Sem.run_ite, hE.run_info e3, e5, Bool.not_true, Bool.false_eq_true, ih]
      · rename_i e
        cases e2
        have e : t1 ≠ t2 := fun e' => e (by rw [e']; exact Nat.beq_refl t2)
        cases ut <;> first | (cases e1; done) | simp only [Op.equalIn, Sem.run_bind, hu, Result.andThen_ok, ne_eq, e, not_false_iff, if_true, Sem.run_pure]
    · obtain ⟨e1, e2⟩ := ifo_some h2
      cases e2
      cases r1
      cases ut <;> first | (cases e1; done) | (cases r2 <;> simp [Op.equalIn, hu])
    · obtain ⟨e1, e2⟩ := ifo_some h2
      cases e2
      cases r2
      cases ut <;> first | (cases e1; done) | (cases r1 <;> simp [Op.equalIn, hu])
    · obtain ⟨e1, e2⟩ := ifo_some h2
      cases e2
      cases r1
      cases ut <;> first | (cases e1; done) | (cases r2 <;> simp [Op.equalIn, hu])
    · obtain ⟨e1, e2⟩ := ifo_some h2
      cases e2
      cases r2
      cases ut <;> first | (cases e1; done) | (cases r1 <;> simp [Op.equalIn, hu])
    · obtain ⟨e1, e2⟩ := ifo_some h2
      cases e2; cases r1; cases r2
      cases ut <;> first | (cases e1; done) | simp [Op.equalIn, hu]
    · obtain ⟨e1, e2⟩ := ifo_some h2
      cases e2; cases r1; cases r2
      cases ut <;> first | (cases e1; done) | simp [Op.equalIn, hu]
    · obtain ⟨e1, e2⟩ := ifo_some h2
      cases e2; cases r1; cases r2
      cases ut <;> first | (cases e1; done) | simp [Op.equalIn, hu]
    · cases h2
end
end Go.Proofs.YtgmdbfackbdnlaaGreatDoor

/- The executor: equality of structs, binary operations, len; all operations that leave memory as it is. -/
namespace Go.Proofs.YtgmdbfackbdnlaaGreatDoor
open Go.RowKit Bl Th Go.Sx
set_option maxRecDepth 10000

section
variable {P : Program} {E : Env} {G : Gh} {ρ : Ren} {m : Mem} {w : World} {T : Tr Value} {a : Act}
/-- The types whose structs are compared. -/
structure CmpOk (P : Program) (E : Env) : Prop where
  held : ∀ t, E.cmp t = true → P.stoodInHeld t = false
  guard : ∀ t, E.cmp t = true → P.eqGuardType P.depth t = false
theorem part_one (hE : EnvOk P E) {t : TypeId} (h : E.isAgg t = some false) {cs : Array Value} {off : Nat} {v : Value} (hv : cs[off]? = some v) : (part t cs off).run P w = .ok v w := by
  simp only [part, Sem.run_bind, hE.run_agg h, Result.andThen_ok, Bool.false_eq_true, if_false, Sem.run_ite, hv, Sem.run_pure]
theorem xeqs_cons {t : TypeId} {ts : List TypeId} {xs ys : List Value} {b : Bool} (h : xeqs E m (t :: ts) xs ys = some b) : ∃ x xs' y ys' c, xs = x :: xs' ∧ ys = y :: ys' ∧ xeq E m 20 t x y = some c ∧ (c = true → xeqs E m ts xs' ys' = some b) ∧ (c = false → b = false) := by
  cases xs with
  | nil => cases h
  | cons x xs' => cases ys with
    | nil => cases h
    | cons y ys' =>
      obtain ⟨c, h1, h2⟩ := ob_some (show ob (xeq E m 20 t x y) (fun b => bif' b (xeqs E m ts xs' ys') (some false)) = some b from h)
      refine ⟨x, xs', y, ys', c, rfl, rfl, h1, fun e => ?_, fun e => ?_⟩
      · subst e; exact h2
      · subst e; cases h2; rfl
theorem fields_ok (hE : EnvOk P E) (hc : Conc E G ρ m w) {XS YS : List Value} : ∀ (fs : List Field) (i : Nat) (ts : List TypeId) (xs ys : List Value) (b : Bool) (D : Nat), 20 ≤ D →
    (List.rec (motive := fun _ => Nat → Option (List TypeId)) (fun _ => some []) (fun f _ ih i => ob (E.isAgg f.type) fun g => ob (E.size f.type) fun s => ifo (!g && Nat.beq s 1 && Nat.beq f.offset i && !(f.name == "_")) (ob (ih (i + 1)) fun l => some (f.type :: l))) fs i) = some ts →
    xeqs E m ts xs ys = some b → RelL ρ xs (XS.drop i) → RelL ρ ys (YS.drop i) → (Op.eqFields D ⟨XS⟩ ⟨YS⟩ fs).run P w = .ok b w
  | [], i, ts, xs, ys, b, D, hD, hts, hq, hx, hy => by
    cases hts
    cases xs with
    | cons => cases hq
    | nil => cases ys with
      | cons => cases hq
      | nil => cases hq; rfl
  | f :: fs, i, ts, xs, ys, b, D, hD, hts, hq, hx, hy => by
    obtain ⟨g, h1, hts⟩ := ob_some (show ob (E.isAgg f.type) _ = some ts from hts)
    obtain ⟨s, h2, hts⟩ := ob_some hts
    obtain ⟨h3, hts⟩ := ifo_some hts
    obtain ⟨l, h4, hts⟩ := ob_some hts
    cases hts
    simp only [Bool.and_eq_true, Bool.not_eq_true'] at h3
    obtain ⟨⟨⟨hg, _⟩, ho⟩, hn⟩ := h3
    subst hg
    have ho := Nat.eq_of_beq_eq_true ho
    have hn : f.name ≠ "_" := by intro e; rw [e] at hn; simp at hn
    obtain ⟨x, xs', y, ys', c, rfl, rfl, k1, k2, k3⟩ := xeqs_cons hq
    obtain ⟨x', xr, e1, e2, e3⟩ := hx.cons_inv
    obtain ⟨y', yr, f1, f2, f3⟩ := hy.cons_inv
    have gx : (⟨XS⟩ : Array Value)[f.offset]? = some x' := by
      have : (XS.drop i)[0]? = some x' := by rw [e1]; rfl
      rw [List.getElem?_drop] at this
      rw [ho]; simpa using this
    have gy : (⟨YS⟩ : Array Value)[f.offset]? = some y' := by
      have : (YS.drop i)[0]? = some y' := by rw [f1]; rfl
      rw [List.getElem?_drop] at this
      rw [ho]; simpa using this
    have dx : XS.drop (i + 1) = xr := by rw [← List.drop_drop, e1]; rfl
    have dy : YS.drop (i + 1) = yr := by rw [← List.drop_drop, f1]; rfl
    have q := xeq_ok hE hc 20 D hD k1 e2 f2
    simp only [Op.eqFields, ne_eq, hn, not_false_iff, if_true, Sem.run_bind, part_one hE h1 gx, part_one hE h1 gy, Result.andThen_ok, q, Sem.run_ite]
    cases c with
    | true =>
      simp only [Bool.not_true, Bool.false_eq_true, if_false]
      exact fields_ok hE hc fs (i + 1) l xs' ys' b D hD h4 (k2 rfl) (dx ▸ e3) (dy ▸ f3)
    | false =>
      rw [k3 rfl]
      simp only [Bool.not_false, if_true, Sem.run_pure]
end
end Go.Proofs.YtgmdbfackbdnlaaGreatDoor

/- The executor: binary operations, len; all operations that leave memory as it is. -/
namespace Go.Proofs.YtgmdbfackbdnlaaGreatDoor
open Go.RowKit Bl Th Go.Sx
set_option maxRecDepth 10000

section
variable {P : Program} {E : Env} {G : Gh} {ρ : Ren} {m : Mem} {w : World} {T : Tr Value} {a : Act}
theorem items_ok (hE : EnvOk P E) (hc : Conc E G ρ m w) {XS YS : List Value} {e : TypeId} (he : E.isAgg e = some false) : ∀ (k i : Nat) (xs ys : List Value) (b : Bool) (D : Nat), 20 ≤ D →
    xeqs E m (List.replicate k e) xs ys = some b → RelL ρ xs (XS.drop i) → RelL ρ ys (YS.drop i) → (Op.eqItems D e 1 ⟨XS⟩ ⟨YS⟩ (List.range' i k)).run P w = .ok b w
  | 0, i, xs, ys, b, D, hD, hq, hx, hy => by
    cases xs with
    | cons => cases hq
    | nil => cases ys with
      | cons => cases hq
      | nil => cases hq; rfl
  | k + 1, i, xs, ys, b, D, hD, hq, hx, hy => by
    obtain ⟨x, xs', y, ys', c, rfl, rfl, k1, k2, k3⟩ := xeqs_cons (show xeqs E m (e :: List.replicate k e) xs ys = some b from hq)
    obtain ⟨x', xr, e1, e2, e3⟩ := hx.cons_inv
    obtain ⟨y', yr, f1, f2, f3⟩ := hy.cons_inv
    have gx : (⟨XS⟩ : Array Value)[i * 1]? = some x' := by
      have : (XS.drop i)[0]? = some x' := by rw [e1]; rfl
      rw [List.getElem?_drop] at this
      simpa using this
    have gy : (⟨YS⟩ : Array Value)[i * 1]? = some y' := by
      have : (YS.drop i)[0]? = some y' := by rw [f1]; rfl
      rw [List.getElem?_drop] at this
      simpa using this
    have dx : XS.drop (i + 1) = xr := by rw [← List.drop_drop, e1]; rfl
    have dy : YS.drop (i + 1) = yr := by rw [← List.drop_drop, f1]; rfl
    have q := xeq_ok hE hc 20 D hD k1 e2 f2
    rw [List.range'_succ]
    simp only [Op.eqItems, Sem.run_bind, part_one hE he gx, part_one hE he gy, Result.andThen_ok, q, Sem.run_ite]
    cases c with
    | true =>
      simp only [Bool.not_true, Bool.false_eq_true, if_false]
      exact items_ok hE hc he k (i + 1) xs' ys' b D hD (k2 rfl) (dx ▸ e3) (dy ▸ f3)
    | false =>
      rw [k3 rfl]
      simp only [Bool.not_false, if_true, Sem.run_pure]
theorem xeqA_ok (hE : EnvOk P E) (hK : CmpOk P E) (hc : Conc E G ρ m w) {t : TypeId} {x y x' y' : Value} {b : Bool} (h : xeqA E m t x y = some b) (r1 : Rel ρ x x') (r2 : Rel ρ y y') : (Op.equalIn 10000 t x' y').run P w = .ok b w ∧ ((∃ xs ys, x' = .agg xs ∧ y' = .agg ys) → P.eqGuardType P.depth t = false) := by
  unfold xeqA at h
  split at h
  · rename_i xs ys
    obtain ⟨h0, h⟩ := ifo_some h
    refine ⟨?_, fun _ => hK.guard t h0⟩
    obtain ⟨ut, h1, h3⟩ := ob_some h
    obtain ⟨ts, h2, h4⟩ := ob_some h3
    clear h h3
    cases r1 with
    | agg A A' e1 e2 =>
    cases r2 with
    | agg B B' f1 f2 =>
    cases ut with
    | struct fs =>
      have hu := hE.under h1
      have hf : P.fieldsOf t = fs := by unfold Program.fieldsOf; rw [hu]
      rw [run_equalIn_struct w 9999 t ⟨A'⟩ ⟨B'⟩ (by rw [hf]; exact hu) (hK.held t h0), hf]
      exact fields_ok hE hc fs.toList 0 ts A B b 9999 (by omega) h2 h4 ⟨e1, e2⟩ ⟨f1, f2⟩
    | array n e =>
      obtain ⟨g, g1, h2⟩ := ob_some (show ob (E.isAgg e) _ = some ts from h2)
      obtain ⟨s, g2, h2⟩ := ob_some h2
      obtain ⟨g3, h2⟩ := ifo_some h2
      cases h2
      simp only [Bool.and_eq_true, Bool.not_eq_true'] at g3
      obtain ⟨rfl, hs⟩ := g3
      have hs := Nat.eq_of_beq_eq_true hs
      subst hs
      obtain ⟨i, k1, k2⟩ := ob_some g2
      have hi := hE.ty e i k1
      have hcell : P.cellsOf e = 1 := by
        unfold Program.cellsOf; rw [hi]; simp only [Option.map_some, Option.getD_some]
        exact (Option.some.inj k2)
      rw [run_equalIn_array w 9999 ⟨A'⟩ ⟨B'⟩ (hE.under h1) hi, hcell, List.range_eq_range']
      exact items_ok hE hc g1 n 0 A B b 9999 (by omega) h4 ⟨e1, e2⟩ ⟨f1, f2⟩
    | _ => cases h2
  · rename_i hne
    refine ⟨xeq_ok hE hc 20 10000 (by omega) h r1 r2, ?_⟩
    rintro ⟨xs, ys, rfl, rfl⟩
    cases r1 with
    | unk _ _ e => cases e.1
    | agg A A' =>
    cases r2 with
    | unk _ _ e => cases e.1
    | agg B B' => exact absurd rfl (fun e => hne _ _ rfl e)
theorem eqGuard_pure {op : BinOp} {t : TypeId} {x y : Operand} {u v : Value} (h1 : ¬ (u = .nilIface ∧ v = .nilIface)) (h2 : (∃ xs ys, u = .agg xs ∧ v = .agg ys) → P.eqGuardType P.depth t = false) : (eqGuard op t x y u v).run P w = .ok () w := by
  cases op <;> first | rfl | skip
  all_goals
    cases u <;> first | rfl | skip
    · cases v <;> first | rfl | exact absurd ⟨rfl, rfl⟩ h1
    · cases v <;> first | rfl | exact run_eqGuard_agg w _ t x y _ _ (h2 ⟨_, _, rfl, rfl⟩)
theorem eql_key {t : TypeId} {u v : Value} {b : Bool} (h1 : (Op.equalIn 10000 t u v).run P w = .ok b w) : (do pure (.bool (← Op.equal t u v)) : Sem Value).run P w = .ok (.bool b) w ∧ (do pure (.bool (!(← Op.equal t u v))) : Sem Value).run P w = .ok (.bool (!b)) w := by
  constructor <;> simp only [Op.equal, Op.maxDepth, Sem.run_bind, h1, Result.andThen_ok, Sem.run_pure]
theorem binOp_eql {t : TypeId} {x u v : Value} {b : Bool} (hr : Rel ρ x u) (h1 : (Op.equalIn 10000 t u v).run P w = .ok b w) (hi : ∀ k n, u ≠ .int k n) (hs : ∀ s, u ≠ .string s) (hf : ∀ k n, x ≠ .float k n) : (binOp .eql t u v).run P w = .ok (.bool b) w ∧ (binOp .neq t u v).run P w = .ok (.bool (!b)) w := by
  have key := eql_key h1
  cases hr with
  | int k n => exact absurd rfl (hi k n)
  | string s => exact absurd rfl (hs s)
  | wrd n e => exact absurd rfl (hi .u64 n)
  | unk n y e => exact absurd rfl (hf .f64 n)
  | _ => exact key
theorem binOp_str (t : TypeId) (s s' : ByteArray) : (binOp .eql t (.string s) (.string s')).run P w = .ok (.bool (s == s')) w ∧ (binOp .neq t (.string s) (.string s')).run P w = .ok (.bool (!(s == s'))) w := by
  rw [beq_toListBytes]; exact ⟨rfl, rfl⟩
end
end Go.Proofs.YtgmdbfackbdnlaaGreatDoor

/- The executor: all operations that leave memory as it is. -/
namespace Go.Proofs.YtgmdbfackbdnlaaGreatDoor
open Go.RowKit Bl Th Go.Sx
set_option maxRecDepth 10000

section
variable {P : Program} {E : Env} {G : Gh} {ρ : Ren} {m : Mem} {w : World} {T : Tr Value} {a : Act}
theorem xint_val {op : BinOp} {k k' : IntKind} {x y : Int} {v : Value} (h : xint op k k' x y = some v) : Rel ρ v v := by
  have : ∀ r : Option Value, (∀ u, r = some u → Rel ρ u u) → ∀ u, xint.ifk k k' r = some u → Rel ρ u u := by
    intro r hr u hu
    unfold xint.ifk at hu
    split at hu
    · exact hr u hu
    · cases hu
  have nz : ∀ r : Option Value, (∀ u, r = some u → Rel ρ u u) → ∀ u, xint.nz y r = some u → Rel ρ u u := by
    intro r hr u hu
    unfold xint.nz at hu
    split at hu
    · cases hu
    · exact hr u hu
  have sm : ∀ u' : Value, Rel ρ u' u' → ∀ u, some u' = some u → Rel ρ u u := by intro u' hu' u hu; cases hu; exact hu'
  have bits : ∀ f u, ibits k f x y = some u → Rel ρ u u := by
    intro f u hu
    obtain ⟨_, _, a, b, _, _, _, _, rfl⟩ := ibits_some hu
    exact .int _ _
  cases op with
  | add => exact this _ (sm _ (.int _ _)) _ h
  | sub => exact this _ (sm _ (.int _ _)) _ h
  | mul => exact this _ (sm _ (.int _ _)) _ h
  | quo => exact this _ (fun u hu => nz _ (sm _ (.int _ _)) u hu) _ h
  | rem => exact this _ (fun u hu => nz _ (sm _ (.int _ _)) u hu) _ h
  | and => exact this _ (fun u hu => bits _ u hu) _ h
  | or => exact this _ (fun u hu => bits _ u hu) _ h
  | xor => exact this _ (fun u hu => bits _ u hu) _ h
  | andNot => exact this _ (fun u hu => bits _ u hu) _ h
  | shl =>
    replace h : ish k (fun q => ishl k q x y) = some v := h
    unfold ish at h
    split at h
    · rename_i q _
      replace h : ishl k q x y = some v := h
      unfold ishl at h
      split at h
      · cases h; exact .int _ _
      · cases h
    · cases h
  | shr =>
    replace h : ish k (fun q => ishr k q x y) = some v := h
    unfold ish at h
    split at h
    · rename_i q _
      replace h : ishr k q x y = some v := h
      unfold ishr at h
      split at h
      · split at h
        · cases h; exact .int _ _
        · cases h
      · cases h
    · cases h
  | eql => exact this _ (sm _ (.bool _)) _ h
  | neq => exact this _ (sm _ (.bool _)) _ h
  | lss => exact this _ (sm _ (.bool _)) _ h
  | leq => exact this _ (sm _ (.bool _)) _ h
  | gtr => exact this _ (sm _ (.bool _)) _ h
  | geq => exact this _ (sm _ (.bool _)) _ h
theorem eqGuard_nil {neg : Bool} {t : TypeId} {ox oy : Operand} (h : (isConst ox || isConst oy) = true) : (eqGuard (bif neg then .neq else .eql) t ox oy .nilIface .nilIface).run P w = .ok () w := by
  cases neg <;> cases ox <;> cases oy <;> first | (cases h; done) | simp [eqGuard]
theorem equal_nil' (hE : EnvOk P E) {t : TypeId} {u : TypeDesc} (h1 : E.under t = some u) (hd : dIface u = true) (D : Nat) : (Op.equalIn (D + 1) t .nilIface .nilIface).run P w = .ok true w := by
  have hu := hE.run_under h1 w
  cases u <;> first | (cases hd; done) | simp only [Op.equalIn, Sem.run_bind, hu, Result.andThen_ok, Sem.run_pure]
theorem equal_nil (hE : EnvOk P E) {t : TypeId} {u : TypeDesc} (h1 : E.under t = some u) (hd : dIface u = true) : (Op.equalIn 10000 t .nilIface .nilIface).run P w = .ok true w := equal_nil' hE h1 hd 9999
set_option maxHeartbeats 1000000 in
theorem xeql_ok (hE : EnvOk P E) (hK : CmpOk P E) (hc : Conc E G ρ m w) {t : TypeId} {ox oy : Operand} {x y x' y' v : Value} {neg : Bool} (h : xeql E m neg t ox oy x y = some v) (r1 : Rel ρ x x') (r2 : Rel ρ y y') (hi : ∀ k n k' n', ¬ (x = .int k n ∧ y = .int k' n')) :
    ∃ b : Bool, v = .bool b ∧ (eqGuard (bif neg then .neq else .eql) t ox oy x' y').run P w = .ok () w ∧ (binOp (bif neg then .neq else .eql) t x' y').run P w = .ok (.bool b) w := by
  unfold xeql at h
  rw [bif_eq] at h
  split at h
  · rename_i hb
    obtain ⟨u, h1, h2⟩ := ob_some h
    obtain ⟨h3, h4⟩ := ifo_some h2
    cases h4
    unfold bothNil at hb
    split at hb
    · cases r1; cases r2
      rw [Bool.and_eq_true] at h3
      refine ⟨!neg, rfl, eqGuard_nil h3.2, ?_⟩
      have k := eql_key (equal_nil (w := w) hE h1 h3.1)
      cases neg
      · exact k.1
      · exact k.2
    · cases hb
  · rename_i hb
    obtain ⟨b, h1, h2⟩ := ob_some h
    cases h2
    obtain ⟨k1, k2⟩ := xeqA_ok hE hK hc h1 r1 r2
    have hfx : ∀ k n, x ≠ .float k n := fun k n e => by
      subst e
      unfold xeqA at h1
      simp only at h1
      obtain ⟨ut, g1, g2⟩ := ob_some (show ob (E.under t) (fun ut => xeq1 E m (xeq E m 19) ut (.float k n) y) = some b from h1)
      cases y <;> first | (cases g2; done) | (rename_i a l c; cases a <;> cases g2; done) | (rename_i a; cases a <;> cases g2; done)
    have hfy : ∀ k n, y ≠ .float k n := fun k n e => by
      subst e
      unfold xeqA at h1
      simp only at h1
      obtain ⟨ut, g1, g2⟩ := ob_some (show ob (E.under t) (fun ut => xeq1 E m (xeq E m 19) ut x (.float k n)) = some b from h1)
      cases x <;> first | (cases g2; done) | (rename_i a l c; cases a <;> cases g2; done) | (rename_i a; cases a <;> cases g2; done)
    have hg : ∀ op, (eqGuard op t ox oy x' y').run P w = .ok () w := fun op => eqGuard_pure (by
      rintro ⟨rfl, rfl⟩
      cases r1 with
      | unk => exact hfx _ _ rfl
      | nilIface => cases r2 with
        | unk => exact hfy _ _ rfl
        | nilIface => exact hb rfl) k2
    refine ⟨if neg = true then !b else b, by rw [bif_eq], hg _, ?_⟩
    have hbin : (binOp .eql t x' y').run P w = .ok (.bool b) w ∧ (binOp .neq t x' y').run P w = .ok (.bool (!b)) w := by
      by_cases hs : ∃ s, x' = .string s
      · obtain ⟨s, rfl⟩ := hs
        cases r1 with
        | unk => exact absurd rfl (hfx _ _)
        | string _ =>
        unfold xeqA at h1
        simp only at h1
        obtain ⟨ut, g1, g2⟩ := ob_some (show ob (E.under t) (fun ut => xeq1 E m (xeq E m 19) ut (.string s) y) = some b from h1)
        cases y with
        | string s2 =>
          cases r2 with
          | string _ =>
          unfold xeq1 at g2
          simp only at g2
          split at g2
          · cases g2; rw [bytesEq_eq]; exact binOp_str t s s2
          · cases g2
        | _ => cases g2
      · by_cases hn : ∃ k n, x' = .int k n
        · obtain ⟨k, n, rfl⟩ := hn
          cases r1 with
          | unk => exact absurd rfl (hfx _ _)
          | wrd => exact absurd rfl (hfx _ _)
          | int _ _ =>
          exfalso
          unfold xeqA at h1
          simp only at h1
          obtain ⟨ut, g1, g2⟩ := ob_some (show ob (E.under t) (fun ut => xeq1 E m (xeq E m 19) ut (.int k n) y) = some b from h1)
          cases y with
          | int k' n' => exact hi k n k' n' ⟨rfl, rfl⟩
          | _ => cases g2
        · exact binOp_eql r1 k1 (fun k n e => hn ⟨k, n, e⟩) (fun s e => hs ⟨s, e⟩) hfx
    cases neg
    · exact hbin.1
    · exact hbin.2
theorem geT_ok {t : Nat} {c : Int} {b : Bool} (h : geT t c = some b) : 1 ≤ t ∧ ∀ z : Int, (∀ l, tokLo t = some l → l ≤ z) → (∀ h, tokHi t = some h → z ≤ h) → b = !(ilt z c) := by
  have h1 : 1 ≤ t := by
    cases t with
    | zero => cases h
    | succ t => omega
  refine ⟨h1, fun z hl hh => ?_⟩
  unfold geT at h
  cases e1 : geLo (tokLo t) c with
  | true =>
    rw [e1] at h
    cases h
    cases e : tokLo t with
    | none => rw [e] at e1; cases e1
    | some l =>
      rw [e] at e1
      have e2 : (!(ilt l c)) = true := e1
      have := hl l e
      rw [ilt_eq] at e2 ⊢
      have h5 : ¬ l < c := fun hh => by rw [decide_eq_true hh] at e2; cases e2
      have h6 : ¬ z < c := by omega
      rw [decide_eq_false h6]
      rfl
  | false =>
    cases e3 : ltHi (tokHi t) c with
    | false => rw [e1, e3] at h; cases h
    | true =>
      rw [e1, e3] at h
      cases h
      cases e : tokHi t with
      | none => rw [e] at e3; cases e3
      | some l =>
        rw [e] at e3
        have e2 : ilt l c = true := e3
        have := hh l e
        rw [ilt_eq] at e2 ⊢
        have h5 := of_decide_eq_true e2
        have h6 : z < c := by omega
        rw [decide_eq_true h6]
        rfl
theorem xtok_ok {op : BinOp} {t : Nat} {c : Int} {v : Value} (h : xtok op t c = some v) {y : Value} (e : one y = true ∧ (1 ≤ t → ∃ z, y = .int .i64 z ∧ (∀ l, tokLo t = some l → l ≤ z) ∧ ∀ h, tokHi t = some h → z ≤ h)) : ∃ z, y = .int .i64 z ∧ xint op .i64 .i64 z c = some v := by
  have key : ∀ {c' : Int} {b : Bool}, geT t c' = some b → ∃ z, y = .int .i64 z ∧ b = !(ilt z c') := fun hb => by
    obtain ⟨h1, h2⟩ := geT_ok hb
    obtain ⟨z, e1, e2, e3⟩ := e.2 h1
    exact ⟨z, e1, h2 z e2 e3⟩
  have hs : ∀ z : Int, ilt z (Int.add c 1) = !(ilt c z) := fun z => by
    rw [ilt_eq, ilt_eq]
    have : Int.add c 1 = c + 1 := rfl
    rw [this]
    by_cases q : c < z
    · rw [decide_eq_true q, decide_eq_false (by omega)]; rfl
    · rw [decide_eq_false q, decide_eq_true (by omega)]; rfl
  unfold xtok at h
  split at h
  · obtain ⟨b, h1, h2⟩ := ob_some h
    cases h2
    obtain ⟨z, rfl, e1⟩ := key h1
    exact ⟨z, rfl, by rw [e1]; rfl⟩
  · obtain ⟨b, h1, h2⟩ := ob_some h
    cases h2
    obtain ⟨z, rfl, e1⟩ := key h1
    exact ⟨z, rfl, by rw [e1, Bool.not_not]; rfl⟩
  · obtain ⟨b, h1, h2⟩ := ob_some h
    cases h2
    obtain ⟨z, rfl, e1⟩ := key h1
    exact ⟨z, rfl, by rw [e1, hs, Bool.not_not]; rfl⟩
  · obtain ⟨b, h1, h2⟩ := ob_some h
    cases h2
    obtain ⟨z, rfl, e1⟩ := key h1
    exact ⟨z, rfl, by rw [e1, hs, Bool.not_not]; rfl⟩
  · cases h
theorem oBin_ok (hE : EnvOk P E) (hK : CmpOk P E) (hc : Conc E G ρ m w) (hT : Tmps ρ T a.tmps) {op : BinOp} {t : TypeId} {x y : Operand} (hx : opdOk x = true) (hy : opdOk y = true) {v : Value} {m' : Mem} (h : oBin op t x y E T m = some (v, m')) :
    m' = m ∧ ∃ v', (do eqGuard op t x y (a.eval x) (a.eval y); binOp op t (a.eval x) (a.eval y) : Sem Value).run P w = .ok v' w ∧ Rel ρ v v' := by
  obtain ⟨u, h1, h⟩ := ob_some h
  obtain ⟨z, h2, h⟩ := ob_some h
  obtain ⟨c, h3, h⟩ := ob_some h
  cases h
  have r1 := ev_ok hT hx h1
  have r2 := ev_ok hT hy h2
  refine ⟨rfl, ?_⟩
  have alt : (∃ k n k' n', u = .int k n ∧ z = .int k' n' ∧ xint op k k' n n' = some v) ∨ (∃ t c, u = .float .f64 t ∧ z = .int .i64 c ∧ xtok op t c = some v) ∨ (∃ a n : Nat, u = .int .u64 (a : Int) ∧ z = .float .f32 n ∧ addW op a n = some v) ∨ (xbin2 E m op t x y u z = some v ∧ ∀ k n k' n', ¬ (u = .int k n ∧ z = .int k' n')) := by
    unfold xbin at h3
    split at h3
    · exact .inl ⟨_, _, _, _, rfl, rfl, h3⟩
    · exact .inr (.inl ⟨_, _, rfl, rfl, h3⟩)
    · exact .inr (.inr (.inl ⟨_, _, rfl, rfl, h3⟩))
    · rename_i hne _ _
      exact .inr (.inr (.inr ⟨h3, by rintro k n k' n' ⟨rfl, rfl⟩; exact hne _ _ _ _ rfl rfl⟩))
  clear h3
  rcases alt with ⟨k, n, k', n', rfl, rfl, h3⟩ | ⟨tk, c, rfl, rfl, h3⟩ | ⟨wa, wn, rfl, rfl, h3⟩ | ⟨h3, hi⟩
  · rw [rel_int r1, rel_int r2]
    refine ⟨_, ?_, xint_val h3⟩
    have hg : (eqGuard op t x y (.int k n) (.int k' n')).run P w = .ok () w := eqGuard_pure (by simp) (by rintro ⟨_, _, h, _⟩; cases h)
    simp only [Sem.run_bind, hg, Result.andThen_ok, xint_ok h3]
  · rw [rel_int r2]
    obtain ⟨u', hu'⟩ : ∃ u', a.eval x = u' := ⟨_, rfl⟩
    rw [hu'] at r1 ⊢
    cases r1 with
    | unk _ _ e =>
    obtain ⟨z, rfl, h4⟩ := xtok_ok h3 e
    have hg : (eqGuard op t x y (.int .i64 z) (.int .i64 c)).run P w = .ok () w := eqGuard_pure (by simp) (by rintro ⟨_, _, h, _⟩; cases h)
    exact ⟨_, by simp only [Sem.run_bind, hg, Result.andThen_ok, xint_ok h4], xint_val h4⟩
  · rw [rel_int r1]
    obtain ⟨z', hz'⟩ : ∃ z', a.eval y = z' := ⟨_, rfl⟩
    rw [hz'] at r2 ⊢
    cases r2 with
    | wrd _ hn =>
    unfold addW at h3
    split at h3
    · cases h3
      have hg : (eqGuard .add t x y (.int .u64 (wa : Int)) (.int .u64 (wn : Int))).run P w = .ok () w := eqGuard_pure (by simp) (by rintro ⟨_, _, h, _⟩; cases h)
      have hx : xint .add .u64 .u64 (wa : Int) (wn : Int) = some (.int .u64 (((wa + wn) % 18446744073709551616 : Nat) : Int)) := rfl
      exact ⟨.int .u64 (((wa + wn) % 18446744073709551616 : Nat) : Int), by simp only [Sem.run_bind, hg, Result.andThen_ok, xint_ok hx], .wrd ((wa + wn) % 18446744073709551616) (Nat.mod_lt _ (by omega))⟩
    · cases h3
  · clear h
    unfold xbin2 at h3
    split at h3
    · obtain ⟨b, rfl, e1, e2⟩ := xeql_ok hE hK hc h3 r1 r2 hi
      simp only [cond_false] at e1 e2
      exact ⟨_, by simp only [Sem.run_bind, e1, Result.andThen_ok, e2], .bool b⟩
    · obtain ⟨b, rfl, e1, e2⟩ := xeql_ok hE hK hc h3 r1 r2 hi
      simp only [cond_true] at e1 e2
      exact ⟨_, by simp only [Sem.run_bind, e1, Result.andThen_ok, e2], .bool b⟩
    · cases h3
theorem idxArr_ok {d : TypeDesc} {v v' : Value} {q : List Value × Nat × TypeId} (h : idxArr d v = some q) (hr : Rel ρ v v') : ∃ n e cs, d = .array n e ∧ q.2 = (n, e) ∧ v' = .agg ⟨cs⟩ ∧ RelL ρ q.1 cs := by
  unfold idxArr at h
  split at h
  · cases h
    cases hr with
    | agg A B e1 e2 => exact ⟨_, _, B, rfl, rfl, rfl, e1, e2⟩
  · cases h
theorem ba_at (b : ByteArray) (i : Nat) : b[i]? = b.data.toList[i]? := by
  obtain ⟨⟨l⟩⟩ := b
  show (ByteArray.mk ⟨l⟩)[i]? = l[i]?
  by_cases h : i < l.length
  · rw [getElem?_pos (ByteArray.mk ⟨l⟩) i (show i < (ByteArray.mk ⟨l⟩).size from h), getElem?_pos l i h]
    rfl
  · rw [getElem?_neg (ByteArray.mk ⟨l⟩) i (show ¬ i < (ByteArray.mk ⟨l⟩).size from h), getElem?_neg l i h]
theorem oIndex_ok (hE : EnvOk P E) (hT : Tmps ρ T a.tmps) {t : TypeId} {x y : Operand} (hx : opdOk x = true) (hy : opdOk y = true) {v : Value} {m' : Mem} (h : oIndex t x y E T m = some (v, m')) : m' = m ∧ ∃ v', (Instr.index t (a.eval x) (a.eval y)).run P w = .ok v' w ∧ Rel ρ v v' := by
  obtain ⟨u, h1, h2⟩ := ob_some h
  obtain ⟨iv, h3, h4⟩ := ob_some h2
  obtain ⟨k, i, rfl, h5⟩ := nat_some h4
  obtain ⟨d, h6, h7⟩ := ob_some h5
  have ey := rel_int (ev_ok hT hy h3)
  cases hs : strAt i d u with
  | some r =>
    rw [hs] at h7
    have h7 : some (r, m) = some (v, m') := h7
    cases h7
    unfold strAt at hs
    split at hs
    · rename_i b
      have hr := ev_ok hT hx h1
      split at hs
      · rename_i z hz
        cases hs
        have ex : a.eval x = .string b := by
          generalize a.eval x = p at hr ⊢
          cases hr
          rfl
        have h0 : (0 : Int) ≤ (i : Int) := by omega
        refine ⟨rfl, _, ?_, .int _ _⟩
        simp only [Instr.index, ey, ex, asIntOf, Sem.run_bind, Sem.run_pure, Result.andThen_ok, hE.run_under h6, Int.ofNat_eq_natCast, h0, if_true, Int.toNat_natCast, ba_at, hz]
      · cases hs
    · cases hs
  | none =>
    rw [hs] at h7
    have h7 : oIndexE E m d u i = some (v, m') := h7
    obtain ⟨q, h8, h9⟩ := ob_some h7
    obtain ⟨s, h10, h11⟩ := ob_some h9
    obtain ⟨hi, h13⟩ := ifo_some h11
    obtain ⟨z, h14, h15⟩ := ob_some h13
    cases h15
    have hi' : i < q.2.1 := by rw [Nat.blt_eq] at hi; exact hi
    obtain ⟨n, e, cs, rfl, e2, e3, e4⟩ := idxArr_ok h8 (ev_ok hT hx h1)
    rw [e2] at h10 hi' h14
    have h10 : E.size e = some s := h10
    have hlt : (i : Int) < (n : Int) := by have : i < n := hi'; omega
    obtain ⟨v', r1, r2⟩ := partX_ok (P := P) (w := w) hE e4 h14
    refine ⟨rfl, v', ?_, r2⟩
    simp only [Instr.index, ey, e3, asIntOf, Sem.run_bind, Sem.run_pure, Result.andThen_ok, hE.run_under h6, Int.ofNat_eq_natCast, Int.natCast_nonneg, hlt, and_self, if_true, Sem.run_ite, hE.run_size h10, Int.toNat_natCast, r1]
theorem isLen_some {c : Call} {x : Operand} {t : TypeId} (h : isLen c = some (x, t)) : ∃ ts, c = { callee := .builtin .len, args := ⟨[x]⟩, argTypes := ⟨t :: ts⟩ } := by
  obtain ⟨cl, ⟨ar⟩, ⟨ts⟩⟩ := c
  unfold isLen at h
  split at h
  · rename_i e
    simp only at e
    subst e
    split at h
    · rename_i e1 e2
      simp only at e1 e2
      subst e1; subst e2
      cases h
      exact ⟨_, rfl⟩
    · cases h
  · cases h
theorem oLen_ok (hE : EnvOk P E) (hc : Conc E G ρ m w) (hT : Tmps ρ T a.tmps) {c : Call} {o : Oper} (ho : o.op = .call c) (hx : ∀ x ∈ c.args.toList, opdOk x = true) {v : Value} {m' : Mem} (h : oLen c E T m = some (v, m')) :
    m' = m ∧ (execOp a.eval o).run P w = .ok (.value v) w ∧ Rel ρ v v := by
  obtain ⟨q, h1, h⟩ := ob_some h
  obtain ⟨x, t⟩ := q
  obtain ⟨u, h2, h⟩ := ob_some h
  obtain ⟨d, h3, h⟩ := ob_some h
  obtain ⟨z, h4, h⟩ := ob_some h
  cases h
  obtain ⟨ts, rfl⟩ := isLen_some h1
  have r := ev_ok hT (hx x (by simp)) h2
  refine ⟨rfl, ?_⟩
  have hrun : ∀ v', (Builtin.len_ ⟨t :: ts⟩ o.type ⟨[a.eval x]⟩).run P w = .ok v' w → (execOp a.eval o).run P w = .ok (.value v') w := by
    intro v' hv
    unfold execOp
    rw [ho]
    have e : (⟨[x]⟩ : Array Operand).map a.eval = ⟨[a.eval x]⟩ := by apply Array.ext'; simp
    simp only [resolve, Sem.run_bind, Sem.run_pure, Result.andThen_ok, invoke, builtin, e, hv]
  have hu := hE.run_under h3 w
  generalize a.eval x = x' at r hrun
  unfold bLen at h4
  split at h4
  · obtain ⟨h5, h6⟩ := ifo_some h4
    cases h6
    cases r
    all_goals
      refine ⟨hrun _ ?_, .int _ _⟩
      cases d <;> first | (cases h5; done) | simp [Builtin.len_, hu, goInt]
  · obtain ⟨h5, h6⟩ := ifo_some h4
    cases h6
    cases r
    refine ⟨hrun _ ?_, .int _ _⟩
    cases d <;> first | (cases h5; done) | simp [Builtin.len_, hu, goInt]
  · obtain ⟨h5, h6⟩ := ifo_some h4
    obtain ⟨es, cl, ro, g1, g2⟩ := map_some h6
    cases g2
    cases r with
    | map _ q hq =>
    obtain ⟨q', b1, b2, _⟩ := hc.rows _ _ g1
    rw [hq] at b1; cases b1
    obtain ⟨arr, c1, c2⟩ := b2.relM
    refine ⟨hrun _ ?_, .int _ _⟩
    have hl := c2.1
    cases d <;> first | (cases h5; done) | simp [Builtin.len_, hu, run_getMap c1, goInt, hl]
  · cases h4
/-- Operands whose constants are flat. -/
def opOk (op : Op) : Prop := ∀ x ∈ op.operands.toList, opdOk x = true
theorem mem_o {x : Option Operand} (h : ∀ y ∈ x.toArray.toList, opdOk y = true) : opdOkO x := by
  cases x with
  | none => trivial
  | some y => exact h y (by simp)
theorem execOp_v {o : Oper} {s : Sem Value} {v' : Value} (he : execOp a.eval o = (do pure (.value (← s)) : Sem Next)) (h : s.run P w = .ok v' w) : (execOp a.eval o).run P w = .ok (.value v') w := by
  rw [he]; simp only [Sem.run_bind, h, Result.andThen_ok, Sem.run_pure]
theorem xop_ok (hE : EnvOk P E) (hK : CmpOk P E) (hc : Conc E G ρ m w) (hT : Tmps ρ T a.tmps) {o : Oper} (ho : opOk o.op) {v : Value} {m' : Mem} (h : xop o.op E T m = some (v, m')) :
    m' = m ∧ ∃ v', (execOp a.eval o).run P w = .ok (.value v') w ∧ Rel ρ v v' := by
  obtain ⟨dst, op, type, pos, after, guard⟩ := o
  simp only at ho h
  unfold opOk at ho
  cases op with
  | move x =>
    obtain ⟨rfl, r⟩ := oMove_ok (E := E) hT (ho x (by simp [Op.operands])) h
    exact ⟨rfl, _, rfl, r⟩
  | assign x =>
    obtain ⟨rfl, r⟩ := oMove_ok (E := E) hT (ho x (by simp [Op.operands])) h
    exact ⟨rfl, _, rfl, r⟩
  | pick c x y =>
    obtain ⟨rfl, b, e, r⟩ := oPick_ok (E := E) hT (ho c (by simp [Op.operands])) (ho x (by simp [Op.operands])) (ho y (by simp [Op.operands])) h
    refine ⟨rfl, _, ?_, r⟩
    simp only [execOp, e, asBool, Sem.run_bind, Sem.run_pure, Result.andThen_ok]
  | build t ps =>
    obtain ⟨rfl, v', e, r⟩ := oBuild_ok (w := w) hE hT (fun x hx => ho x.2 (by simp only [Op.operands]; simpa using ⟨x.1, by simpa using hx⟩)) h
    exact ⟨rfl, v', execOp_v rfl e, r⟩
  | load t x =>
    obtain ⟨rfl, v', e, r⟩ := oLoad_ok hE hc hT (ho x (by simp [Op.operands])) h
    exact ⟨rfl, v', execOp_v rfl e, r⟩
  | nilCheck x =>
    obtain ⟨rfl, e, r⟩ := oNil_ok (P := P) (E := E) (w := w) (o := ⟨dst, .nilCheck x, type, pos, after, guard⟩) hE hT (ho x (by simp [Op.operands])) rfl h
    exact ⟨rfl, _, e, r⟩
  | binOp op t x y yt =>
    obtain ⟨rfl, v', e, r⟩ := oBin_ok hE hK hc hT (ho x (by simp [Op.operands])) (ho y (by simp [Op.operands])) h
    exact ⟨rfl, _, execOp_v rfl e, r⟩
  | unOp op t x =>
    obtain ⟨rfl, e, r⟩ := oUn_ok (P := P) (E := E) (w := w) hT (ho x (by simp [Op.operands])) h
    exact ⟨rfl, _, execOp_v rfl e, r⟩
  | convert s d x =>
    obtain ⟨rfl, e, r⟩ := oConv_ok (w := w) hE hT (ho x (by simp [Op.operands])) h
    exact ⟨rfl, _, execOp_v rfl e, r⟩
  | makeInterface t x =>
    obtain ⟨rfl, e, r⟩ := oMakeI_ok (w := w) hE hT (ho x (by simp [Op.operands])) h
    exact ⟨rfl, _, execOp_v rfl e, r⟩
  | makeFunc f x y =>
    obtain ⟨rfl, r⟩ := oMakeF_ok (E := E) hT (fun z hz => ho z (by simp only [Op.operands, Array.toList_append, List.mem_append]; exact .inl hz)) (fun z hz => ho z (by simp only [Op.operands, Array.toList_append, List.mem_append]; exact .inr hz)) h
    exact ⟨rfl, _, execOp_v rfl rfl, r⟩
  | slice t x lo hi mx =>
    obtain ⟨rfl, v', e, r⟩ := oSlice_ok hE hc hT (ho x (by simp [Op.operands])) (mem_o fun y hy => ho y (by simp only [Op.operands, Array.toList_append, List.mem_append]; exact .inl (.inl (.inr hy)))) (mem_o fun y hy => ho y (by simp only [Op.operands, Array.toList_append, List.mem_append]; exact .inl (.inr hy))) (mem_o fun y hy => ho y (by simp only [Op.operands, Array.toList_append, List.mem_append]; exact .inr hy)) h
    exact ⟨rfl, v', execOp_v rfl e, r⟩
  | fieldAddr s x f =>
    obtain ⟨rfl, v', e, r⟩ := oFieldA_ok (w := w) hE hT (ho x (by simp [Op.operands])) h
    exact ⟨rfl, v', execOp_v rfl e, r⟩
  | field s x f =>
    obtain ⟨rfl, v', e, r⟩ := oField_ok (w := w) hE hT (ho x (by simp [Op.operands])) h
    exact ⟨rfl, v', execOp_v rfl e, r⟩
  | indexAddr t x i =>
    obtain ⟨rfl, v', e, r⟩ := oIndexA_ok (w := w) hE hT (ho x (by simp [Op.operands])) (ho i (by simp [Op.operands])) h
    exact ⟨rfl, v', execOp_v rfl e, r⟩
  | index t x i =>
    obtain ⟨rfl, v', e, r⟩ := oIndex_ok (w := w) hE hT (ho x (by simp [Op.operands])) (ho i (by simp [Op.operands])) h
    exact ⟨rfl, v', execOp_v rfl e, r⟩
  | lookup t x k ok =>
    obtain ⟨rfl, v', e, r⟩ := oLookup_ok hE hc hT (ho x (by simp [Op.operands])) (ho k (by simp [Op.operands])) h
    exact ⟨rfl, v', execOp_v rfl e, r⟩
  | typeAssert x xt t ok =>
    obtain ⟨rfl, v', e, r⟩ := oAssert_ok (w := w) (xT := xt) hE hT (ho x (by simp [Op.operands])) h
    exact ⟨rfl, v', execOp_v rfl e, r⟩
  | extract x i =>
    obtain ⟨rfl, v', e, r⟩ := oExtract_ok (P := P) (E := E) (w := w) hT (ho x (by simp [Op.operands])) h
    exact ⟨rfl, v', execOp_v rfl e, r⟩
  | call c =>
    obtain ⟨rfl, e, r⟩ := oLen_ok (o := ⟨dst, .call c, type, pos, after, guard⟩) hE hc hT rfl (fun x hx => ho x (by simp only [Op.operands, Call.operands, Array.toList_append, List.mem_append]; exact .inr hx)) h
    exact ⟨rfl, _, e, r⟩
  | _ => cases h
end
end Go.Proofs.YtgmdbfackbdnlaaGreatDoor
