/- The executor: what stands in symbolic memory stands in the world. -/
import Derived.Test.YtgmdbfackbdnlaaGreatDoorSxTr
import Derived.Test.YtgmdbfackbdnlaaGreatDoorRun
import Derived.Test.YtgmdbfackbdnlaaGreatDoorActPlain
namespace Go.Proofs.YtgmdbfackbdnlaaGreatDoor
open Go.RowKit Bl Th Go.Sx
set_option maxRecDepth 10000

/-- Where a number's block is: the block, and the room of a slice that has all of it. -/
abbrev Ren := Nat → Option (Nat × Nat)
def Ren.le (ρ ρ' : Ren) : Prop := ∀ i q, ρ i = some q → ρ' i = some q
theorem Ren.le_refl (ρ : Ren) : ρ.le ρ := fun _ _ h => h
theorem Ren.le_trans {a b c : Ren} (h : a.le b) (k : b.le c) : a.le c := fun i q e => k i q (h i q e)
/-- A symbolic value, and a value. -/
inductive Rel (ρ : Ren) : Value → Value → Prop
  | bool (b : Bool) : Rel ρ (.bool b) (.bool b)
  | int (k : IntKind) (n : Int) : Rel ρ (.int k n) (.int k n)
  | string (s : ByteArray) : Rel ρ (.string s) (.string s)
  | ptr0 : Rel ρ (.pointer none) (.pointer none)
  | ptr (i o : Nat) (q : Nat × Nat) : ρ i = some q → Rel ρ (.pointer (some ⟨i, o, none⟩)) (.pointer (some ⟨q.1, o, none⟩))
  | sl0 (n c : Nat) : c ≠ big → Rel ρ (.slice none n c) (.slice none n c)
  | sl (i o n c : Nat) (q : Nat × Nat) : ρ i = some q → c ≠ big → Rel ρ (.slice (some ⟨i, o, none⟩) n c) (.slice (some ⟨q.1, o, none⟩) n c)
  | slo (i o n c : Nat) (q : Nat × Nat) : ρ i = some q → (o = 0 → c = q.2) ∧ n ≤ c → Rel ρ (.slice (some ⟨i, o, none⟩) n big) (.slice (some ⟨q.1, o, none⟩) n c)
  | sle (i o : Nat) (a : Addr) (c : Nat) : o = big → Rel ρ (.slice (some ⟨i, o, none⟩) 0 big) (.slice (some a) 0 c)
  | map0 : Rel ρ (.map none) (.map none)
  | map (i : Nat) (q : Nat × Nat) : ρ i = some q → Rel ρ (.map (some i)) (.map (some q.1))
  | func (f : Fn) (a b c d : List Value) : a.length = b.length → (∀ (i : Nat) (x y : Value), a[i]? = some x → b[i]? = some y → Rel ρ x y) → c.length = d.length → (∀ (i : Nat) (x y : Value), c[i]? = some x → d[i]? = some y → Rel ρ x y) → Rel ρ (.func f ⟨a⟩ ⟨c⟩) (.func f ⟨b⟩ ⟨d⟩)
  | nilFunc : Rel ρ .nilFunc .nilFunc
  | iface (t : TypeId) (x y : Value) : Rel ρ x y → Rel ρ (.iface t x) (.iface t y)
  | nilIface : Rel ρ .nilIface .nilIface
  | agg (a b : List Value) : a.length = b.length → (∀ (i : Nat) (x y : Value), a[i]? = some x → b[i]? = some y → Rel ρ x y) → Rel ρ (.agg ⟨a⟩) (.agg ⟨b⟩)
  | tuple (a b : List Value) : a.length = b.length → (∀ (i : Nat) (x y : Value), a[i]? = some x → b[i]? = some y → Rel ρ x y) → Rel ρ (.tuple ⟨a⟩) (.tuple ⟨b⟩)
  | wrd (n : Nat) : n < 18446744073709551616 → Rel ρ (.float .f32 n) (.int .u64 (n : Int))
  | unk (n : Nat) (y : Value) : (one y = true ∧ (1 ≤ n → ∃ z, y = .int .i64 z ∧ (∀ l, tokLo n = some l → l ≤ z) ∧ ∀ h, tokHi n = some h → z ≤ h)) → Rel ρ (.float .f64 n) y
theorem Rel.mono {ρ ρ' : Ren} (h : ρ.le ρ') {x y : Value} (r : Rel ρ x y) : Rel ρ' x y := by
  induction r with
  | bool b => exact .bool b
  | int k n => exact .int k n
  | string s => exact .string s
  | ptr0 => exact .ptr0
  | ptr i o q e => exact .ptr i o q (h _ _ e)
  | sl0 n c e => exact .sl0 n c e
  | sl i o n c q e hc => exact .sl i o n c q (h _ _ e) hc
  | slo i o n c q e hz => exact .slo i o n c q (h _ _ e) hz
  | sle i o a c e => exact .sle i o a c e
  | map0 => exact .map0
  | map i q e => exact .map i q (h _ _ e)
  | func f a b c d e1 _ e2 _ ih1 ih2 => exact .func f a b c d e1 ih1 e2 ih2
  | nilFunc => exact .nilFunc
  | iface t x y _ ih => exact .iface t x y ih
  | nilIface => exact .nilIface
  | agg a b e _ ih => exact .agg a b e ih
  | tuple a b e _ ih => exact .tuple a b e ih
  | wrd n e => exact .wrd n e
  | unk n y e => exact .unk n y e
/-- Rows of values. -/
def RelL (ρ : Ren) (a b : List Value) : Prop := a.length = b.length ∧ ∀ (i : Nat) (x y : Value), a[i]? = some x → b[i]? = some y → Rel ρ x y
theorem RelL.nil (ρ : Ren) : RelL ρ [] [] := ⟨rfl, fun i x y h => by simp at h⟩
theorem RelL.cons {ρ : Ren} {x y : Value} {a b : List Value} (h : Rel ρ x y) (k : RelL ρ a b) : RelL ρ (x :: a) (y :: b) := by
  refine ⟨by simp [k.1], fun i u v hu hv => ?_⟩
  cases i with
  | zero => simp at hu hv; subst hu; subst hv; exact h
  | succ i => exact k.2 i u v (by simpa using hu) (by simpa using hv)
theorem RelL.mono {ρ ρ' : Ren} (h : ρ.le ρ') {a b : List Value} (r : RelL ρ a b) : RelL ρ' a b := ⟨r.1, fun i x y hx hy => (r.2 i x y hx hy).mono h⟩
theorem RelL.at {ρ : Ren} {a b : List Value} (r : RelL ρ a b) {i : Nat} {x : Value} (h : a[i]? = some x) : ∃ y, b[i]? = some y ∧ Rel ρ x y := by
  have hl : i < a.length := (List.getElem?_eq_some_iff.1 h).1
  have hb : i < b.length := r.1 ▸ hl
  exact ⟨b[i], List.getElem?_eq_getElem hb, r.2 i x b[i] h (List.getElem?_eq_getElem hb)⟩
theorem RelL.cons_inv {ρ : Ren} {x : Value} {a b : List Value} (h : RelL ρ (x :: a) b) : ∃ y c, b = y :: c ∧ Rel ρ x y ∧ RelL ρ a c := by
  obtain ⟨h1, h2⟩ := h
  cases b with
  | nil => simp at h1
  | cons y c => exact ⟨y, c, rfl, h2 0 x y rfl rfl, by simpa using h1, fun i u v hu hv => h2 (i + 1) u v (by simpa using hu) (by simpa using hv)⟩
theorem RelL.nil_inv {ρ : Ren} {b : List Value} (h : RelL ρ [] b) : b = [] := by
  have := h.1; exact List.length_eq_zero_iff.1 this.symm
theorem RelL.append {ρ : Ren} {a b c d : List Value} (h : RelL ρ a b) (k : RelL ρ c d) : RelL ρ (a ++ c) (b ++ d) := by
  refine ⟨by simp [h.1, k.1], fun i x y hx hy => ?_⟩
  by_cases hi : i < a.length
  · rw [List.getElem?_append_left hi] at hx
    rw [List.getElem?_append_left (h.1 ▸ hi)] at hy
    exact h.2 i x y hx hy
  · rw [List.getElem?_append_right (by omega)] at hx
    rw [List.getElem?_append_right (by have := h.1; omega)] at hy
    rw [← h.1] at hy
    exact k.2 _ x y hx hy
theorem RelL.take {ρ : Ren} {a b : List Value} (h : RelL ρ a b) (n : Nat) : RelL ρ (a.take n) (b.take n) := by
  refine ⟨by simp [h.1], fun i x y hx hy => ?_⟩
  rw [List.getElem?_take] at hx hy
  split at hx
  · exact h.2 i x y hx (by rw [if_pos (by assumption)] at hy; exact hy)
  · cases hx
theorem RelL.drop {ρ : Ren} {a b : List Value} (h : RelL ρ a b) (n : Nat) : RelL ρ (a.drop n) (b.drop n) := by
  refine ⟨by simp [h.1], fun i x y hx hy => ?_⟩
  rw [List.getElem?_drop] at hx hy
  exact h.2 _ x y hx hy
theorem cells_one {y : Value} (h : one y = true) : y.cells.toList = [y] := by
  cases y <;> first | rfl | (cases h; done)
theorem Rel.cells {ρ : Ren} {x y : Value} (h : Rel ρ x y) : RelL ρ x.cells.toList y.cells.toList := by
  cases h with
  | agg a b e ih => exact ⟨e, ih⟩
  | bool b => exact .cons (.bool b) (.nil ρ)
  | int k n => exact .cons (.int k n) (.nil ρ)
  | string s => exact .cons (.string s) (.nil ρ)
  | ptr0 => exact .cons .ptr0 (.nil ρ)
  | ptr i o q e => exact .cons (.ptr i o q e) (.nil ρ)
  | sl0 n c e => exact .cons (.sl0 n c e) (.nil ρ)
  | sl i o n c q e hc => exact .cons (.sl i o n c q e hc) (.nil ρ)
  | slo i o n c q e hz => exact .cons (.slo i o n c q e hz) (.nil ρ)
  | sle i o a c e => exact .cons (.sle i o a c e) (.nil ρ)
  | map0 => exact .cons .map0 (.nil ρ)
  | map i q e => exact .cons (.map i q e) (.nil ρ)
  | func f a b c d e1 h1 e2 h2 => exact .cons (.func f a b c d e1 h1 e2 h2) (.nil ρ)
  | nilFunc => exact .cons .nilFunc (.nil ρ)
  | iface t x y h => exact .cons (.iface t x y h) (.nil ρ)
  | nilIface => exact .cons .nilIface (.nil ρ)
  | tuple a b e ih => exact .cons (.tuple a b e ih) (.nil ρ)
  | wrd n e => exact .cons (.wrd n e) (.nil ρ)
  | unk n y e => rw [cells_one e.1]; exact .cons (.unk n y e) (.nil ρ)
theorem Rel.one {ρ : Ren} {x y : Value} (h : Rel ρ x y) (ho : one x = true) : ∀ cs, y ≠ .agg cs ∧ y ≠ .tuple cs := by
  intro cs
  cases h with
  | unk n y e => exact ⟨fun h => (by rw [h] at e; cases e.1), fun h => (by rw [h] at e; cases e.1)⟩
  | _ => first | (cases ho; done) | exact ⟨by simp, by simp⟩

/-- What is there ahead of a body, and what the body runs on: the world when blocks were made, what is held, the step's number, all accesses in order; ok: the blocks at which something may be. -/
structure Gh where
  W : World
  X : List Nat
  pa : Nat
  pb : Nat
  pc : Nat
  k : Nat
  D : List (Ntry × BS)
  S0 : BS
  ok : Nat → Prop
def Cs (G : Gh) (m : Mem) (c : CS) : Prop :=
  m.tl.reverse = G.D.take m.j ∧
  ((m.mode = 1 ∧ m.j ≤ G.k ∧ c = ⟨(G.D.take G.k).map (·.1), m.j, false, last G.S0 (G.D.take G.k)⟩) ∨
   (m.j = G.k + 1 ∧ c = ⟨(G.D.take (G.k + 1)).map (·.1), G.k + 1, true, last G.S0 (G.D.take (G.k + 1))⟩))
def Lay' (G : Gh) (ρ : Ren) (m : Mem) (R : List Nat) (w : World) : Prop :=
  (m.bs = none ∧ m.mode = 0) ∨ (∃ S pa q, m.bs = some S ∧ m.mode = 0 ∧ ρ m.ib = some q ∧ Held G.W R pa q.1 S w) ∨
  (m.mode ≠ 0 ∧ m.bs = some (last G.S0 (G.D.take m.j)) ∧ ∃ c, Cs G m c ∧ Ctx G.W R G.pa G.pb G.pc c w)
def isObj : SObj → Bool
  | .row .. => true
  | .map .. => true
  | _ => false
def chg : SObj → Bool
  | .row _ _ _ _ _ ro => !ro
  | .map _ _ ro => !ro
  | _ => false
def ObjC (E : Env) (ρ : Ren) (w : World) (q : Nat × Nat) : SObj → Prop
  | .row n c d e op _ => ∃ arr, Cells w q.1 arr e ∧ n ≤ arr.length ∧ n ≤ lim ∧ (op = false → arr.length = n) ∧ (op = true → ∃ s, E.size e = some s ∧ 0 < s ∧ arr.length = q.2 * s ∧ q.2 ≠ big) ∧ ∀ i v, cellAt n c d i = some v → ∃ v', arr[i]? = some v' ∧ Rel ρ v v'
  | .map es cl _ => ∃ arr : Array MapEntry, w.heap[q.1]? = some (.map arr cl) ∧ es.length = arr.size ∧ ∀ (i : Nat) (x : Value × Value × Nat) (a : MapEntry), es[i]? = some x → arr[i]? = some a → Rel ρ x.1 a.key ∧ Rel ρ x.2.1 a.val ∧ a.born = x.2.2
  | _ => True
/-- The table of trailing zeros lies at a global. -/
def TabG (g : Nat) (w : World) : Prop := ∀ j, j < 64 → w.cell? ⟨g, j, none⟩ = some (.int .u8 (Lib.deBruijn64tab.getD j 0))
/-- Symbolic memory stands in a world. -/
structure Conc (E : Env) (G : Gh) (ρ : Ren) (m : Mem) (w : World) : Prop where
  below : Below G.W.heap.size G.W w
  dom : ∀ i q, ρ i = some q → i < m.nx ∧ i < lim
  rows : ∀ i o, m.tr.get? i = some o → ∃ q, ρ i = some q ∧ ObjC E ρ w q o ∧ (chg o = true → G.W.heap.size ≤ q.1 ∧ q.1 ∉ G.X)
  inj : ∀ i j o o' q q', m.tr.get? i = some o → m.tr.get? j = some o' → isObj o = true → isObj o' = true → ρ i = some q → ρ j = some q' → q.1 = q'.1 → i = j
  lay : ∃ R, (∀ b ∈ G.X, b ∈ R) ∧ (∀ i o q, m.tr.get? i = some o → isObj o = true → ρ i = some q → q.1 ∈ R) ∧ Lay' G ρ m R w
  xlt : ∀ b ∈ G.X, b < w.heap.size
  ib : m.mode ≠ 0 → ∃ x, ρ m.ib = some (G.pb, x)
  ic : m.mode ≠ 0 → ∃ x, ρ m.ic = some (G.pc, x)
  off : ∀ i o q, m.tr.get? i = some o → isObj o = true → ρ i = some q → G.ok q.1
  new : ∀ b, w.heap.size ≤ b → G.ok b
  hand : Handle G.W ∧ ∀ g, E.tab = some g → TabG g G.W

theorem ObjC.lt {E : Env} {ρ : Ren} {w : World} {q : Nat × Nat} {o : SObj} (h : ObjC E ρ w q o) (ho : isObj o = true) : q.1 < w.heap.size := by
  cases o with
  | row n c d e op ro => obtain ⟨arr, h1, _⟩ := h; exact h1.lt
  | map es cl ro => obtain ⟨arr, h1, _⟩ := h; exact lt_of_block h1
  | abs => cases ho
  | dead => cases ho
theorem ObjC.to {E : Env} {ρ ρ' : Ren} {w w' : World} {q : Nat × Nat} {o : SObj} (h : ObjC E ρ w q o) (hr : ρ.le ρ') (hw : isObj o = true → w'.heap[q.1]? = w.heap[q.1]?) : ObjC E ρ' w' q o := by
  cases o with
  | row n c d e op ro =>
    obtain ⟨arr, h1, h2, h3, h4, h5, h6⟩ := h
    exact ⟨arr, (hw rfl).trans h1, h2, h3, h4, h5, fun i v hv => by obtain ⟨v', a, b⟩ := h6 i v hv; exact ⟨v', a, b.mono hr⟩⟩
  | map es cl ro =>
    obtain ⟨arr, h1, h2, h3⟩ := h
    exact ⟨arr, (hw rfl).trans h1, h2, fun i x a hx ha => by obtain ⟨p, q, r⟩ := h3 i x a hx ha; exact ⟨p.mono hr, q.mono hr, r⟩⟩
  | abs => trivial
  | dead => trivial
/-- The rest of it, when a world has changed so. -/
theorem Lay'.step {G : Gh} {ρ ρ' : Ren} {m m' : Mem} {R R' : List Nat} {w w' : World} (h : Lay' G ρ m R w) (hρ : ρ.le ρ') (hib : m'.ib = m.ib) (hm : m'.bs = m.bs ∧ m'.mode = m.mode ∧ m'.j = m.j ∧ m'.tl = m.tl) (k : Kept (fun b => b ∈ R) w w') (hb : Below G.W.heap.size G.W w') (hr : ∀ b ∈ R', (b ∈ R ∨ w.heap.size ≤ b) ∧ b < w'.heap.size) : Lay' G ρ' m' R' w' := by
  obtain ⟨e1, e2, e3, e4⟩ := hm
  rcases h with ⟨a, b⟩ | ⟨S, pa, q, a, b, b', c⟩ | ⟨a, b, c, d, f⟩
  · exact .inl ⟨e1 ▸ a, e2 ▸ b⟩
  · exact .inr (.inl ⟨S, pa, q, e1 ▸ a, e2 ▸ b, hib ▸ hρ _ _ b', c.step k hb hr⟩)
  · refine .inr (.inr ⟨e2 ▸ a, ?_, c, ?_, f.step k hb hr⟩)
    · rw [e1, e3]; exact b
    · unfold Cs at d ⊢
      rw [e2, e3, e4]; exact d
/-- Something about the objects changes: those of m', where they are by ρ', in w'. R: the blocks that may have changed are mutable objects' or new. -/
theorem Conc.turn {E : Env} {G : Gh} {ρ ρ' : Ren} {m m' : Mem} {w w' : World} (h : Conc E G ρ m w) (hr : ρ.le ρ')
    (hm : m'.bs = m.bs ∧ m'.mode = m.mode ∧ m'.j = m.j ∧ m'.tl = m.tl) (hids : m'.ib = m.ib ∧ m'.ic = m.ic)
    (k : Kept (fun b => ∃ i o q, m.tr.get? i = some o ∧ chg o = true ∧ ρ i = some q ∧ b = q.1) w w')
    (hdom : ∀ i q, ρ' i = some q → i < m'.nx ∧ i < lim)
    (hrows : ∀ i o, m'.tr.get? i = some o → ∃ q, ρ' i = some q ∧ ObjC E ρ' w' q o ∧ (chg o = true → G.W.heap.size ≤ q.1 ∧ q.1 ∉ G.X) ∧ (isObj o = true → (∃ i' o', m.tr.get? i' = some o' ∧ isObj o' = true ∧ ρ i' = some q) ∨ w.heap.size ≤ q.1))
    (hinj : ∀ i j o o' q q', m'.tr.get? i = some o → m'.tr.get? j = some o' → isObj o = true → isObj o' = true → ρ' i = some q → ρ' j = some q' → q.1 = q'.1 → i = j) :
    Conc E G ρ' m' w' ∧ HeldBy G.X w w' := by
  have hmutlow : ∀ b, b < G.W.heap.size → ¬ ∃ i o q, m.tr.get? i = some o ∧ chg o = true ∧ ρ i = some q ∧ b = q.1 := by
    rintro b hb ⟨i, o, q, e1, e2, e3, rfl⟩
    obtain ⟨q', e4, _, e5⟩ := h.rows i o e1
    rw [e3] at e4; cases e4
    have := (e5 e2).1; omega
  have hbel : Below G.W.heap.size G.W w' := h.below.trans (k.below h.below.size hmutlow)
  have hX : HeldBy G.X w w' := ⟨k.size, fun b hb => k.block b (h.xlt b hb) (by
    rintro ⟨i, o, q, e1, e2, e3, rfl⟩
    obtain ⟨q', e4, _, e5⟩ := h.rows i o e1
    rw [e3] at e4; cases e4
    exact (e5 e2).2 hb)⟩
  obtain ⟨R, r1, r2, r3⟩ := h.lay
  have hmo : ∀ o : SObj, chg o = true → isObj o = true := by intro o; cases o <;> simp [chg, isObj]
  refine ⟨⟨hbel, hdom, fun i o ho => ?_, hinj, ?_, fun b hb => Nat.lt_of_lt_of_le (h.xlt b hb) k.size, fun hb => ?_, fun hb => ?_, fun i o q e1 e2 e3 => ?_, fun b hb => h.new b (Nat.le_trans k.size hb), h.hand⟩, hX⟩
  · obtain ⟨q, a, b, c, _⟩ := hrows i o ho
    exact ⟨q, a, b, c⟩
  · -- the blocks that are held then: all of them
    have hfin : ∃ R' : List Nat, (∀ b ∈ G.X, b ∈ R') ∧ (∀ i o q, m'.tr.get? i = some o → isObj o = true → ρ' i = some q → q.1 ∈ R') ∧ ∀ b ∈ R', (b ∈ R ∨ w.heap.size ≤ b) ∧ b < w'.heap.size := by
      refine ⟨(List.range w'.heap.size).filter (fun b => decide (b ∈ R ∨ w.heap.size ≤ b)), fun b hb => ?_, fun i o q e1 e2 e3 => ?_, fun b hb => ?_⟩
      · rw [List.mem_filter]
        exact ⟨List.mem_range.2 (Nat.lt_of_lt_of_le (h.xlt b hb) k.size), by simpa using .inl (r1 b hb)⟩
      · obtain ⟨q', a, b, _, c⟩ := hrows i o e1
        rw [e3] at a; cases a
        rw [List.mem_filter]
        refine ⟨List.mem_range.2 (b.lt e2), ?_⟩
        rcases c e2 with ⟨i', o', f1, f2, f3⟩ | f
        · simpa using .inl (r2 i' o' q f1 f2 f3)
        · simpa using .inr f
      · rw [List.mem_filter] at hb
        exact ⟨by simpa using hb.2, List.mem_range.1 hb.1⟩
    obtain ⟨R', s1, s2, s3⟩ := hfin
    refine ⟨R', s1, s2, r3.step hr hids.1 hm (k.mono fun b _ hb => ?_) hbel s3⟩
    obtain ⟨i, o, q, e1, e2, e3, rfl⟩ := hb
    exact r2 i o q e1 (hmo o e2) e3
  · obtain ⟨x, hx⟩ := h.ib (hm.2.1 ▸ hb)
    exact ⟨x, hids.1 ▸ hr _ _ hx⟩
  · obtain ⟨x, hx⟩ := h.ic (hm.2.1 ▸ hb)
    exact ⟨x, hids.2 ▸ hr _ _ hx⟩
  · obtain ⟨q', a, _, _, c⟩ := hrows i o e1
    rw [e3] at a; cases a
    rcases c e2 with ⟨i', o', f1, f2, f3⟩ | f
    · exact h.off i' o' q f1 f2 f3
    · exact h.new _ f
/-- A world that has only new things. -/
theorem Conc.under {E : Env} {G : Gh} {ρ : Ren} {m : Mem} {w w' : World} (h : Conc E G ρ m w) (hb : Below w.heap.size w w') : Conc E G ρ m w' ∧ HeldBy G.X w w' := by
  refine h.turn (Ren.le_refl ρ) ⟨rfl, rfl, rfl, rfl⟩ ⟨rfl, rfl⟩ ((Kept.of_below hb).mono fun b h1 h2 => by omega) h.dom (fun i o ho => ?_) h.inj
  obtain ⟨q, a, b, c⟩ := h.rows i o ho
  exact ⟨q, a, b.to (Ren.le_refl ρ) fun hi => hb.block _ (b.lt hi), c, fun hi => .inl ⟨i, o, ho, hi, a⟩⟩
/-- A number more. -/
def Ren.put (ρ : Ren) (i : Nat) (q : Nat × Nat) : Ren := fun j => if j = i then some q else ρ j
theorem Ren.le_put {ρ : Ren} {i : Nat} {q : Nat × Nat} (h : ρ i = none) : ρ.le (ρ.put i q) := by
  intro j p hj
  unfold Ren.put
  split
  · rename_i e; rw [e, h] at hj; cases hj
  · exact hj
theorem Ren.put_self (ρ : Ren) (i : Nat) (q : Nat × Nat) : (ρ.put i q) i = some q := by simp [Ren.put]
theorem Ren.put_ne (ρ : Ren) {i j : Nat} (q : Nat × Nat) (h : j ≠ i) : (ρ.put i q) j = ρ j := by simp [Ren.put, h]
/-- Something new, at a number that nothing stands at. -/
theorem Conc.alloc {E : Env} {G : Gh} {ρ : Ren} {m : Mem} {w : World} (h : Conc E G ρ m w) {i : Nat} (hi : ρ i = none) (hl : i < lim) {nx : Nat} (hnx : m.nx ≤ nx) (hin : i < nx) (o : SObj) (ob : Obj) (K : Nat)
    (ho : ObjC E (ρ.put i (w.heap.size, K)) (w.alloc ob) (w.heap.size, K) o) :
    Conc E G (ρ.put i (w.heap.size, K)) { (m.newAt i o) with nx := nx } (w.alloc ob) ∧ HeldBy G.X w (w.alloc ob) := by
  have hg : ∀ j, ({ (m.newAt i o) with nx := nx } : Mem).tr.get? j = if j = i then some o else m.tr.get? j := fun j => Tr.get_set20 o m.tr i j (by unfold lim at hl; omega)
  have hnone : m.tr.get? i = none := by
    cases e : m.tr.get? i with
    | none => rfl
    | some o' => obtain ⟨q, a, _⟩ := h.rows i o' e; rw [hi] at a; cases a
  have hb : Below w.heap.size w (w.alloc ob) := (Below.refl _ _).alloc (Nat.le_refl _) ob
  refine h.turn (Ren.le_put hi) ⟨rfl, rfl, rfl, rfl⟩ ⟨rfl, rfl⟩ ((Kept.of_below hb).mono fun b h1 h2 => by omega) (fun j q hj => ?_) (fun j o' hj => ?_) (fun a b oa ob' qa qb ha hb' hoa hob hqa hqb e => ?_)
  · show j < nx ∧ j < lim
    by_cases e : j = i
    · exact ⟨by omega, by omega⟩
    · rw [Ren.put_ne _ _ e] at hj
      have := h.dom j q hj
      exact ⟨by omega, this.2⟩
  · rw [hg] at hj
    by_cases e : j = i
    · rw [if_pos e] at hj; cases hj; subst e
      refine ⟨_, Ren.put_self _ _ _, ho, fun _ => ⟨h.below.size, fun hm => ?_⟩, fun _ => .inr (Nat.le_refl _)⟩
      have := h.xlt _ hm
      simp at this
    · rw [if_neg e] at hj
      obtain ⟨q, a, b, c⟩ := h.rows j o' hj
      exact ⟨q, (Ren.put_ne _ _ e).trans a, b.to (Ren.le_put hi) fun hi' => hb.block _ (b.lt hi'), c, fun hi' => .inl ⟨j, o', hj, hi', a⟩⟩
  · rw [hg] at ha hb'
    have key : ∀ c oc qc, (if c = i then some o else m.tr.get? c) = some oc → isObj oc = true → (ρ.put i (w.heap.size, K)) c = some qc → (c = i ∧ qc.1 = w.heap.size) ∨ (c ≠ i ∧ m.tr.get? c = some oc ∧ ρ c = some qc ∧ qc.1 < w.heap.size) := by
      intro c oc qc h1 h2 h3
      by_cases e : c = i
      · subst e; rw [Ren.put_self] at h3; cases h3; exact .inl ⟨rfl, rfl⟩
      · rw [if_neg e] at h1
        rw [Ren.put_ne _ _ e] at h3
        obtain ⟨q, a, b, _⟩ := h.rows c oc h1
        rw [h3] at a; cases a
        exact .inr ⟨e, h1, h3, b.lt h2⟩
    rcases key a oa qa ha hoa hqa with ⟨e1, e2⟩ | ⟨e1, e2, e3, e4⟩ <;> rcases key b ob' qb hb' hob hqb with ⟨f1, f2⟩ | ⟨f1, f2, f3, f4⟩
    · omega
    · omega
    · omega
    · exact h.inj a b oa ob' qa qb e2 f2 hoa hob e3 f3 e
/-- An object changes where it is: mutable, and still one, or no more there. -/
theorem Conc.put {E : Env} {G : Gh} {ρ : Ren} {m : Mem} {w w' : World} (h : Conc E G ρ m w) {i : Nat} {o o' : SObj} {q : Nat × Nat} (hg : m.tr.get? i = some o) (hm : chg o = true) (hq : ρ i = some q)
    (k : Kept (fun b => b = q.1) w w') (ho : ObjC E ρ w' q o') :
    Conc E G ρ (m.put i o') w' ∧ HeldBy G.X w w' := by
  have hmo : ∀ o : SObj, chg o = true → isObj o = true := by intro o; cases o <;> simp [chg, isObj]
  have hl : i ≤ 1048574 := by have := (h.dom i q hq).2; unfold lim at this; omega
  have hg' : ∀ j, (m.put i o').tr.get? j = if j = i then some o' else m.tr.get? j := fun j => Tr.get_set20 o' m.tr i j hl
  obtain ⟨q1, a1, a2, a3⟩ := h.rows i o hg
  rw [hq] at a1; cases a1
  refine h.turn (Ren.le_refl ρ) ⟨rfl, rfl, rfl, rfl⟩ ⟨rfl, rfl⟩ (k.mono fun b _ e => ⟨i, o, q, hg, hm, hq, e⟩) h.dom (fun j x hj => ?_) (fun a b oa ob' qa qb ha hb' hoa hob hqa hqb e => ?_)
  · rw [hg'] at hj
    by_cases e : j = i
    · rw [if_pos e] at hj; cases hj; subst e
      exact ⟨q, hq, ho, fun _ => a3 hm, fun _ => .inl ⟨j, o, hg, hmo o hm, hq⟩⟩
    · rw [if_neg e] at hj
      obtain ⟨p, b1, b2, b3⟩ := h.rows j x hj
      refine ⟨p, b1, b2.to (Ren.le_refl ρ) fun hi' => k.block _ (b2.lt hi') fun e' => e ?_, b3, fun hi' => .inl ⟨j, x, hj, hi', b1⟩⟩
      exact h.inj j i x o p q hj hg hi' (hmo o hm) b1 hq e'
  · have key : ∀ c oc, (m.put i o').tr.get? c = some oc → isObj oc = true → ∃ oc', m.tr.get? c = some oc' ∧ isObj oc' = true := by
      intro c oc h1 h2
      rw [hg'] at h1
      by_cases e : c = i
      · subst e; exact ⟨o, hg, hmo o hm⟩
      · rw [if_neg e] at h1; exact ⟨oc, h1, h2⟩
    obtain ⟨x, x1, x2⟩ := key a oa ha hoa
    obtain ⟨y, y1, y2⟩ := key b ob' hb' hob
    exact h.inj a b x y qa qb x1 y1 x2 y2 hqa hqb e
/-- Less is known. -/
theorem Conc.less {E : Env} {G : Gh} {ρ : Ren} {m m' : Mem} {w : World} (h : Conc E G ρ m w) (hm : m'.bs = m.bs ∧ m'.mode = m.mode ∧ m'.j = m.j ∧ m'.tl = m.tl) (hids : m'.ib = m.ib ∧ m'.ic = m.ic) (hnx : m.nx ≤ m'.nx)
    (hg : ∀ i o, m'.tr.get? i = some o → isObj o = true ∧ m.tr.get? i = some o ∨ isObj o = false ∧ ∃ q, ρ i = some q) : Conc E G ρ m' w := by
  refine (h.turn (Ren.le_refl ρ) hm hids (Kept.refl _ w) (fun i q hq => ⟨Nat.lt_of_lt_of_le (h.dom i q hq).1 hnx, (h.dom i q hq).2⟩) (fun i o ho => ?_) (fun a b oa ob' qa qb ha hb' hoa hob hqa hqb e => ?_)).1
  · rcases hg i o ho with ⟨e1, e2⟩ | ⟨e1, q, e2⟩
    · obtain ⟨q, a, b, c⟩ := h.rows i o e2
      exact ⟨q, a, b, c, fun hi => .inl ⟨i, o, e2, hi, a⟩⟩
    · refine ⟨q, e2, ?_, ?_, fun hi => by rw [e1] at hi; cases hi⟩
      · cases o <;> first | trivial | (cases e1; done)
      · intro hm; cases o <;> first | (cases hm; done) | (cases e1; done)
  · rcases hg a oa ha with ⟨_, e1⟩ | ⟨e1, _⟩
    · rcases hg b ob' hb' with ⟨_, f1⟩ | ⟨f1, _⟩
      · exact h.inj a b oa ob' qa qb e1 f1 hoa hob hqa hqb e
      · rw [hob] at f1; cases f1
    · rw [hoa] at e1; cases e1
end Go.Proofs.YtgmdbfackbdnlaaGreatDoor
