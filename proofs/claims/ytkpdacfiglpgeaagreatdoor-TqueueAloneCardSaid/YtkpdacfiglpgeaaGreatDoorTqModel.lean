/- TqModel: TqModel0, AnyJ, TqReg19, TqModel. -/
import Derived.Test.YtkpdacfiglpgeaaGreatDoorTqCln
import Derived.Test.YtkpdacfiglpgeaaGreatDoorTqScene0
import Derived.Deep.AppendLies
import Derived.Deep.CutRange
import Derived.Deep.LoopGhost
import Derived.OrdersHeld
import Derived.Deep.RegionHeld3

/- Layer 29's laws: the model of two lists, in memory. -/
namespace Go.Proofs.YtkpdacfiglpgeaaGreatDoor
open Go.RowKit Bl Th
set_option maxRecDepth 10000

/-- What model answers. -/
def ModelPost (v0 : Bool → Value) (W w : World) (r : List Nat × (Bool → List Nat) × Bool) (e : Ending) (w' : World) : Prop :=
  ∃ (tv : Value) (vq : Bool → Value) (q' : Bool → List Nat), e = .returned (.tuple #[tv, .agg #[vq false, vq true], .bool r.2.2]) ∧ w'.ownsRow w.heap.size 25 1 tv r.1.length (encU r.1) ∧ (∀ j, w'.ownsRow W.heap.size 25 1 (vq j) (q' j).length (encU (q' j))) ∧ (r.2.2 = true → q' = r.2.1) ∧ Below w.heap.size w w' ∧ ∀ j, vq j = v0 j ∨ ∀ b, (vq j).ownBlock = some b → w.heap.size ≤ b
def bN (b : Bool) : Nat := if b then 1 else 0
/-- What lies in memory at each call's head. -/
structure ModelM (v0 : Bool → Value) (W : World) (b3 : Nat) (w0 : World) (pl : Bool → Nat) (tlen : Nat) (told : List Nat) (vq : Bool → Value) (q : Bool → List Nat) (tv : Value) (wr : World) : Prop where
  c3 : Cells wr b3 [vq false, vq true] 33
  c4 : Cells wr (b3 + 1) [.int .i64 (pl false : Int), .int .i64 (pl true : Int)] 37
  c7 : Cells wr (b3 + 1 + 1) [.slice none 0 0, .slice none 0 0] 33
  rows : ∀ j, wr.ownsRow W.heap.size 25 1 (vq j) (q j).length (encU (q j))
  row : wr.ownsRow w0.heap.size 25 1 tv tlen (encU told)
  tl : told.length = tlen
  apart : ∀ j b, (vq j).ownBlock = some b → tv.ownBlock ≠ some b ∧ b ≠ b3 ∧ b ≠ b3 + 1 ∧ b ≠ b3 + 1 + 1
  apartT : ∀ b, tv.ownBlock = some b → b ≠ b3 ∧ b ≠ b3 + 1 ∧ b ≠ b3 + 1 + 1
  lens : ∀ j, (q j).length ≤ pl j
  below : Below w0.heap.size w0 wr
  h3 : w0.heap.size ≤ b3
  src : ∀ j, vq j = v0 j ∨ ∀ b, (vq j).ownBlock = some b → w0.heap.size ≤ b
/-- What holds at each call's head. -/
structure ModelJ (v0 : Bool → Value) (W : World) (b3 : Nat) (w0 : World) (pl : Bool → Nat) (l : List ActQ) (res : List Nat × (Bool → List Nat) × Bool) (k tlen : Nat) (told : List Nat) (vq : Bool → Value) (q : Bool → List Nat) (tv : Value) (wr : World) : Prop where
  m : ModelM v0 W b3 w0 pl tlen told vq q tv wr
  few : tlen ≤ 5 * k
  run : res = mdl pl (l.drop k) told q
def ModelJJ (v0 : Bool → Value) (W : World) (b3 : Nat) (w0 : World) (pl : Bool → Nat) (l : List ActQ) (len : Nat) (res : List Nat × (Bool → List Nat) × Bool) (tv iv : Value) (wr : World) : Prop :=
  ∃ k tlen told vq q, k ≤ len ∧ iv = .int .i64 (k : Int) ∧ ModelJ v0 W b3 w0 pl l res k tlen told vq q tv wr
section
variable {v0 : Bool → Value} {W : World} {b3 : Nat} {w0 : World} {pl : Bool → Nat} {l : List ActQ} {res : List Nat × (Bool → List Nat) × Bool} {k tlen tlen' : Nat} {told told' : List Nat} {vq vr' : Bool → Value} {q r' : Bool → List Nat} {tv tv' : Value} {wr w' w5 : World} {a : ActQ} {x : List Nat}
theorem ModelM.fin {q2 : Bool → List Nat} {ok : Bool} (h : ModelM v0 W b3 w0 pl tlen told vq q tv wr) (hres : res = (told, q2, ok)) (hok : ok = true → q = q2) :
    ModelPost v0 W w0 res (.returned (.tuple #[tv, .agg #[vq false, vq true], .bool ok])) (((wr.setCell ⟨b3 + 1 + 1, 0, none⟩ (vq false)).setCell ⟨b3 + 1 + 1, 1, none⟩ (vq true)).drew) := by
  have h3 := h.h3
  have kk := (((Kept.refl (fun b => b = b3 + 1 + 1) wr).setCell (p := ⟨b3 + 1 + 1, 0, none⟩) (fun _ => rfl) (vq false)).setCell (p := ⟨b3 + 1 + 1, 1, none⟩) (fun _ => rfl) (vq true)).drew
  refine ⟨tv, vq, q, by rw [hres], ?_, fun j => ownsRow_kept (h.rows j) kk (fun b hb => (h.apart j b hb).2.2.2), fun e => by rw [hres] at e ⊢; exact hok e, h.below.trans (kk.below h.below.size (fun b hb e => by omega)), h.src⟩
  have := ownsRow_kept h.row kk (fun b hb => (h.apartT b hb).2.2)
  rw [hres]
  simp only
  rw [h.tl]
  exact this
theorem ModelM.under (h : ModelM v0 W b3 w0 pl tlen told vq q tv wr) (hb : Below wr.heap.size wr w') : ModelM v0 W b3 w0 pl tlen told vq q tv w' := by
  have kk : Kept (fun b => wr.heap.size ≤ b) wr w' := Kept.of_below hb
  have l3 := h.c3.lt; have l4 := h.c4.lt; have l7 := h.c7.lt
  exact ⟨h.c3.kept kk (by omega), h.c4.kept kk (by omega), h.c7.kept kk (by omega), fun j => ownsRow_kept (h.rows j) kk (fun b hb e => by have := ((h.rows j).lt b hb).2; omega), ownsRow_kept h.row kk (fun b hb e => by have := (h.row.lt b hb).2; omega), h.tl, h.apart, h.apartT, h.lens, h.below.trans (hb.mono h.below.size), h.h3, h.src⟩
/-- More is told. -/
theorem ModelM.say (h : ModelM v0 W b3 w0 pl tlen told vq q tv wr) (G : Kept (fun b => some b = tv.ownBlock) wr w5) (hrow : w5.ownsRow w0.heap.size 25 1 tv' (tlen + x.length) (encU told ++ encU x)) (hat : tv'.ownBlock = tv.ownBlock ∨ ∃ b, tv'.ownBlock = some b ∧ wr.heap.size ≤ b) : ModelM v0 W b3 w0 pl (tlen + x.length) (told ++ x) vq q tv' w5 := by
  have l7 := h.c7.lt
  have h3 := h.h3
  refine ⟨h.c3.kept G (fun e => (h.apartT _ e.symm).1 rfl), h.c4.kept G (fun e => (h.apartT _ e.symm).2.1 rfl), h.c7.kept G (fun e => (h.apartT _ e.symm).2.2 rfl), fun j => ownsRow_kept (h.rows j) G (fun b hb e => (h.apart j b hb).1 e.symm), ?_, by simp [h.tl], fun j b hb => ⟨?_, (h.apart j b hb).2⟩, fun b hb => ?_, h.lens, h.below.trans (G.below h.below.size fun b hb e => ?_), h.h3, h.src⟩
  · rw [show encU (told ++ x) = encU told ++ encU x by simp [encU]]
    exact hrow
  · rcases hat with e | ⟨y, e, hy⟩
    · rw [e]; exact (h.apart j b hb).1
    · rw [e]
      have := ((h.rows j).lt b hb).2
      intro e2
      simp only [Option.some.injEq] at e2
      omega
  · rcases hat with e | ⟨y, e, hy⟩
    · exact h.apartT b (by rw [← e, hb])
    · rw [e] at hb
      simp only [Option.some.injEq] at hb
      subst hb
      exact ⟨by omega, by omega, by omega⟩
  · have := (h.row.lt b e.symm).1
    omega
/-- One of the lists is another one. -/
theorem ModelM.put {w6 : World} {c : Bool} {v' : Value} {l' : List Nat} (h : ModelM v0 W b3 w0 pl tlen told vq q tv wr) (hb : Below wr.heap.size wr w6) (hv : w6.ownsRow W.heap.size 25 1 v' l'.length (encU l')) (hvn : ∀ b, v'.ownBlock = some b → wr.heap.size ≤ b) (hl : l'.length ≤ pl c) :
    ModelM v0 W b3 w0 pl tlen told (updB vq c v') (updB q c l') tv (w6.setCell ⟨b3, bN c, none⟩ v') := by
  have h6 := h.under hb
  have l7 := h.c7.lt
  have h3 := h.h3
  have kk := (Kept.refl (fun b => b = b3) w6).setCell (p := ⟨b3, bN c, none⟩) (fun _ => rfl) v'
  refine ⟨?_, h6.c4.kept kk (by omega), h6.c7.kept kk (by omega), fun j => ?_, ownsRow_kept h6.row kk (fun b hb e => (h6.apartT b hb).1 e), h.tl, fun j b hb => ?_, h.apartT, fun j => ?_, h6.below.trans (kk.below h6.below.size fun b hb e => by omega), h.h3, fun j => by
    unfold updB
    split
    · exact .inr fun b hb => Nat.le_trans h.below.size (hvn b hb)
    · exact h.src j⟩
  · cases c with
    | false => exact h6.c3.set 0 v'
    | true => exact h6.c3.set 1 v'
  · unfold updB
    split
    · exact ownsRow_kept hv kk (fun b hb e => by have := hvn b hb; omega)
    · exact ownsRow_kept (h6.rows j) kk (fun b hb e => (h6.apart j b hb).2.1 e)
  · unfold updB at hb
    split at hb
    · have hn := hvn b hb
      refine ⟨fun e => ?_, by omega, by omega, by omega⟩
      have := (h.row.lt b e).2
      omega
    · exact h.apart j b hb
  · unfold updB
    split
    · rename_i e
      rw [e]; exact hl
    · exact h.lens j
theorem ModelJ.next (h : ModelJ v0 W b3 w0 pl l res k tlen told vq q tv wr) (hka : l[k]? = some a) (hm : mdl1 pl a q = some (x, r')) (hx : x.length ≤ 5) (hM : ModelM v0 W b3 w0 pl (tlen + x.length) (told ++ x) vr' r' tv' w') : ModelJ v0 W b3 w0 pl l res (k + 1) (tlen + x.length) (told ++ x) vr' r' tv' w' := by
  refine ⟨hM, by have := h.few; omega, ?_⟩
  rw [h.run]
  have hl := (List.getElem?_eq_some_iff.1 hka).1
  have hd : l.drop k = a :: l.drop (k + 1) := by
    rw [List.drop_eq_getElem_cons hl]
    rw [List.getElem?_eq_getElem hl] at hka
    rw [Option.some.inj hka]
  rw [hd]
  simp only [mdl, hm]
theorem ModelJ.stop (h : ModelJ v0 W b3 w0 pl l res k tlen told vq q tv wr) (hka : l[k]? = some a) (hm : mdl1 pl a q = none) : res = (told, q, false) := by
  rw [h.run]
  have hl := (List.getElem?_eq_some_iff.1 hka).1
  have hd : l.drop k = a :: l.drop (k + 1) := by
    rw [List.drop_eq_getElem_cons hl]
    rw [List.getElem?_eq_getElem hl] at hka
    rw [Option.some.inj hka]
  rw [hd]
  simp only [mdl, hm]
end
/-- Words in memory, wherever they begin. -/
def WordsAt (w : World) (v : Value) (x : List Nat) : Prop := ∃ p cap, v = .slice p x.length cap ∧ (x ≠ [] → ∃ g o, p = some ⟨g, o, none⟩ ∧ ∀ (k y : Nat), x[k]? = some y → w.cell? ⟨g, o + k, none⟩ = some (.int .u64 (y : Int)))
theorem WordsAt.nil (w : World) (p : Option Addr) (cap : Nat) : WordsAt w (.slice p 0 cap) [] := ⟨p, cap, rfl, fun h => absurd rfl h⟩
theorem WordsAt.row {w : World} {base : Nat} {v : Value} {x : List Nat} (h : w.ownsRow base 25 1 v x.length (encU x)) : WordsAt w v x := by
  obtain ⟨p, cap, hv, hc⟩ := SomeAt.row h
  refine ⟨p, cap, hv, fun hn => ?_⟩
  obtain ⟨g, hp, hg⟩ := hc hn
  exact ⟨g, 0, hp, fun k y hy => by rw [Nat.zero_add]; exact hg k y hy⟩
theorem WordsAt.one (w : World) (x : Nat) : WordsAt (w.alloc (.cells #[.int .u64 (x : Int)] 25)) (.slice (some ⟨w.heap.size, 0, none⟩) 1 1) [x] := by
  obtain ⟨p, cap, hv, hc⟩ := SomeAt.one w x
  refine ⟨p, cap, hv, fun hn => ?_⟩
  obtain ⟨g, hp, hg⟩ := hc hn
  exact ⟨g, 0, hp, fun k y hy => by rw [Nat.zero_add]; exact hg k y hy⟩
/-- All but the first one. -/
theorem WordsAt.tail {w : World} {g n cap x : Nat} {l : List Nat} (h : WordsAt w (.slice (some ⟨g, 0, none⟩) n cap) (x :: l)) (p : Option Addr) (c : Nat) (hp : l ≠ [] → p = some ⟨g, 1, none⟩) : WordsAt w (.slice p l.length c) l := by
  refine ⟨p, c, rfl, fun hn => ⟨g, 1, hp hn, fun k y hy => ?_⟩⟩
  obtain ⟨p', cap', hv, hc⟩ := h
  simp only [Value.slice.injEq] at hv
  obtain ⟨g', o, hp', hg⟩ := hc (by simp)
  rw [hp'] at hv
  have hg0 := hv.1
  simp only [Option.some.injEq, Addr.mk.injEq] at hg0
  obtain ⟨rfl, rfl, -⟩ := hg0
  have := hg (k + 1) y (by simpa using hy)
  rw [show 1 + k = 0 + (k + 1) by omega]
  exact this
theorem WordsAt.kept {S : Nat → Prop} {w w' : World} {v : Value} {x : List Nat} (h : WordsAt w v x) (k : Kept S w w') (hs : ∀ b, v.ownBlock = some b → b < w.heap.size ∧ ¬ S b) : WordsAt w' v x := by
  obtain ⟨p, cap, rfl, hc⟩ := h
  refine ⟨p, cap, rfl, fun hn => ?_⟩
  obtain ⟨g, o, rfl, hg⟩ := hc hn
  obtain ⟨h1, h2⟩ := hs g rfl
  exact ⟨g, o, rfl, fun j y hy => (World.cell?_of_block (a := ⟨g, o + j, none⟩) (k.block g h1 h2)).trans (hg j y hy)⟩
/-- 'append(l, some...)'. -/
theorem run_append_any {w : World} (ty : TypeId) {base : Nat} {v : Value} {n : Nat} {xs : List Value} (hown : w.ownsRow base 25 1 v n xs) {y : Value} {news : List Nat} (hy : WordsAt w y news) (hn : n + news.length ≤ 1000000) (hbase : base ≤ w.heap.size) :
    ∃ v' w', (Builtin.append_ #[26, 26] ty #[v, y]).run Tryz.prog w = .ok v' w' ∧ w'.ownsRow base 25 1 v' (n + news.length) (xs ++ encU news) ∧ w.grownBy w' v.ownBlock ∧ (v'.ownBlock = v.ownBlock ∨ v'.ownBlock = some w.heap.size) := by
  obtain ⟨i0, hi0, hz0, hz1, hz2⟩ := info_parts u64info
  obtain ⟨pt, cap, rfl, hc⟩ := hy
  cases news with
  | nil =>
    have hrun : (Builtin.append_ #[26, 26] ty #[v, .slice pt 0 cap]).run Tryz.prog w = .ok v w := by
      rcases hown.2 with ⟨rfl, rfl⟩ | ⟨g, c2, cur, rfl, -, -, hle, -⟩
      · cases pt <;> simp [Builtin.append_, run_underlying Tryz.underlying26, sizeOf, typeInfo, hi0, Builtin.lenOf, Builtin.firstCells, loadCells, loadCellsFrom]
      · cases pt <;> simp [Builtin.append_, run_underlying Tryz.underlying26, sizeOf, typeInfo, hi0, Builtin.lenOf, Builtin.firstCells, loadCells, loadCellsFrom, storeCells, hle]
    exact ⟨v, w, hrun, by simpa [encU] using hown, ⟨rfl, rfl, rfl, Nat.le_refl _, fun _ _ _ => rfl⟩, .inl rfl⟩
  | cons z l =>
    obtain ⟨g, o, rfl, hg⟩ := hc (by simp)
    obtain ⟨v', w', hr, h2, h3, -, h5⟩ := run_append_own_at (P := Tryz.prog) w base 26 ty 25 i0 _ 1 8 Tryz.underlying26 hi0 hz0 hz1 hz2 rfl (by omega) v n xs hown ⟨g, o, none⟩ (z :: l).length cap (encU (z :: l)) (by simp [encU]) (fun j u hu => by
      rw [show (⟨g, o, none⟩ : Addr).add j = ⟨g, o + j, none⟩ by unfold Addr.add; split <;> simp_all]
      simp only [encU, List.getElem?_map, Option.map_eq_some_iff] at hu
      obtain ⟨q, hq, rfl⟩ := hu
      exact hg j q hq) (fun u hu => by
      simp only [encU, List.mem_map] at hu
      obtain ⟨q, -, rfl⟩ := hu
      rfl) (by unfold maxLen; omega) (by omega) hbase
    exact ⟨v', w', hr, h2, h3, h5⟩
theorem wpList_append_any {w : World} {ops : Array Oper} {rest : List Oper} {o : Oper} {a : Act} {Q : Exit → Act → World → Prop} (hgd : o.guard = none) (s x : Operand)
    (ho : o.op = .call { callee := .builtin .append, args := #[s, x], argTypes := #[26, 26] }) {base : Nat} {v : Value} {n : Nat} {xs : List Value} (hs : a.eval s = v) (hown : w.ownsRow base 25 1 v n xs)
    {y : Value} {news : List Nat} (hx : a.eval x = y) (hy : WordsAt w y news) (hn : n + news.length ≤ 1000000) (hbase : base ≤ w.heap.size)
    (h : ∀ p c w', w'.ownsRow base 25 1 (.slice p (n + news.length) c) (n + news.length) (xs ++ encU news) → w.grownBy w' v.ownBlock → ((Value.slice p (n + news.length) c).ownBlock = v.ownBlock ∨ (Value.slice p (n + news.length) c).ownBlock = some w.heap.size) → wpList Tryz.prog ops Q rest (a.put o.dst (.slice p (n + news.length) c)) w') :
    wpList Tryz.prog ops Q (o :: rest) a w := by
  obtain ⟨v', w', hrun, h1, h2, h3⟩ := run_append_any o.type hown hy hn hbase
  refine wpList_plain hgd fun K hK => ?_
  unfold Oper.wp execOp
  simp only [ho, resolve, invoke, builtin, Sem.run_bind, Sem.run_pure, Result.andThen_ok, List.map_toArray, List.map_cons, List.map_nil, hs, hx, hrun]
  obtain ⟨p, c, rfl⟩ := ownsRow_shape h1
  exact hK _ _ (h p c w' h1 h2 h3)
theorem step_append_any {w : World} {ops : Array Oper} {o : Oper} {a : Act} {K : Act → World → Prop} {Q : Exit → Act → World → Prop} {E : Prop} (hgd : o.guard = none) (s x : Operand)
    (ho : o.op = .call { callee := .builtin .append, args := #[s, x], argTypes := #[26, 26] }) {base : Nat} {v : Value} {n : Nat} {xs : List Value} (hs : a.eval s = v) (hown : w.ownsRow base 25 1 v n xs)
    {y : Value} {news : List Nat} (hx : a.eval x = y) (hy : WordsAt w y news) (hn : n + news.length ≤ 1000000) (hbase : base ≤ w.heap.size)
    (h : ∀ p c w', w'.ownsRow base 25 1 (.slice p (n + news.length) c) (n + news.length) (xs ++ encU news) → w.grownBy w' v.ownBlock → ((Value.slice p (n + news.length) c).ownBlock = v.ownBlock ∨ (Value.slice p (n + news.length) c).ownBlock = some w.heap.size) → K (a.put o.dst (.slice p (n + news.length) c)) w') :
    if Region.wanted o (yielded ops a.tmps) = true then Oper.wp Tryz.prog o a w K Q else E := by
  obtain ⟨v', w', hrun, h1, h2, h3⟩ := run_append_any o.type hown hy hn hbase
  have hw : Region.wanted o (yielded ops a.tmps) = true := by simp [Region.wanted, hgd]
  rw [if_pos hw]
  unfold Oper.wp execOp
  simp only [ho, resolve, invoke, builtin, Sem.run_bind, Sem.run_pure, Result.andThen_ok, List.map_toArray, List.map_cons, List.map_nil, hs, hx, hrun]
  obtain ⟨p, c, rfl⟩ := ownsRow_shape h1
  exact h p c w' h1 h2 h3
/-- An empty slice that is not none. -/
theorem row_empty (w : World) {base : Nat} (h : base ≤ w.heap.size) : (w.alloc (.cells #[] 25)).ownsRow base 25 1 (.slice (some ⟨w.heap.size, 0, none⟩) 0 0) 0 [] :=
  ⟨rfl, .inr ⟨w.heap.size, 0, #[], rfl, h, heap_alloc_new w _, Nat.le_refl _, Nat.zero_le _, rfl, rfl⟩⟩
theorem row_head {w : World} {base n c y : Nat} {t : List Nat} {p : Option Addr} (h : w.ownsRow base 25 1 (.slice p n c) n (encU (y :: t))) : ∃ g, p = some ⟨g, 0, none⟩ ∧ w.cell? ⟨g, 0, none⟩ = some (.int .u64 (y : Int)) ∧ n ≤ c ∧ c ≤ maxLen := by
  have hn : n = t.length + 1 := by have := h.1; simp [encU] at this; omega
  obtain ⟨h1, h2, h3, h4⟩ := (show n ≤ c ∧ c ≤ maxLen ∧ (p = none → n = 0 ∧ c = 0) ∧ ∀ a, p = some a → ∃ g, a = ⟨g, 0, none⟩ by
    rcases h.2 with ⟨hv, h0⟩ | ⟨g, c', cur, hv, hb, hg, hn, hm, hc, ht⟩
    · omega
    · simp only [Value.slice.injEq] at hv
      obtain ⟨rfl, -, rfl⟩ := hv
      exact ⟨hn, hm, by simp, fun a ha => ⟨g, (Option.some.inj ha).symm⟩⟩)
  obtain ⟨a, ha⟩ : ∃ a, p = some a := by
    cases p with
    | none => have := (h3 rfl).1; omega
    | some a => exact ⟨a, rfl⟩
  obtain ⟨g, rfl⟩ := h4 a ha
  subst ha
  have := h.cellAt 0 (by omega)
  exact ⟨g, rfl, by simpa [encU] using this, h1, h2⟩
end Go.Proofs.YtkpdacfiglpgeaaGreatDoor

/- (XAnyI, for the tqueue laws, under a second name.) A region that draws its order, gone through by what holds whichever operations were done. No program stands here. -/
namespace Go.Proofs.YtkpdacfiglpgeaaGreatDoor
open Go

section
variable {P : Program} {ops : Array Oper} {Q : Exit → Act → World → Prop} {md : Region.Mode}
def leftOf (L : Array Bool) : Nat := (L.toList.filter (! ·)).length
theorem leftOf_list : ∀ (l : List Bool) (i : Nat), l[i]? = some false → ((l.set i true).filter (! ·)).length + 1 = (l.filter (! ·)).length
  | [], i, h => by simp at h
  | x :: l, 0, h => by
    simp only [List.getElem?_cons_zero, Option.some.injEq] at h
    subst h
    simp
  | x :: l, i + 1, h => by
    have := leftOf_list l i (by simpa using h)
    cases x <;> simp <;> simpa using this
theorem getD_some {L : Array Bool} {i : Nat} (h : L.getD i true = false) : L.toList[i]? = some false := by
  rcases Nat.lt_or_ge i L.size with q | q
  · simp [Array.getD, q] at h
    simp [q, h]
  · simp [Array.getD, Nat.not_lt.2 q] at h
theorem leftOf_set {L : Array Bool} {i : Nat} (h : L.getD i true = false) : leftOf (L.setIfInBounds i true) + 1 = leftOf L := by
  have := leftOf_list L.toList i (getD_some h)
  unfold leftOf
  rw [Array.toList_setIfInBounds]
  exact this
theorem leftOf_pos {L : Array Bool} {i : Nat} (h : L.getD i true = false) : 0 < leftOf L := by
  have := leftOf_set h
  omega
/-- What holds whichever operations were done, holds at the end. -/
theorem wpAny_inv {I : Array Bool → Act → World → Prop}
    (hstep : ∀ (i : Nat) (o : Oper) (L : Array Bool) (a : Act) (w : World), ops[i]? = some o → L.size = ops.size → L.getD i true = false → (∀ e ∈ o.after, Region.binds md e = true → L.getD e.on false = true) → I L a w → wpOp P ops Q i (I (L.setIfInBounds i true)) a w)
    (hfin : ∀ (L : Array Bool) (a : Act) (w : World), L.size = ops.size → Region.ready md ops L = [] → I L a w → Q .normal a w) :
    ∀ (fuel : Nat) (L : Array Bool) (a : Act) (w : World), L.size = ops.size → leftOf L ≤ fuel → I L a w → wpAny P md ops Q fuel L a w := by
  intro fuel
  induction fuel with
  | zero =>
    intro L a w hs hl hI
    have hr : Region.ready md ops L = [] := by
      cases hq : Region.ready md ops L with
      | nil => rfl
      | cons j l =>
        have : j ∈ Region.ready md ops L := by rw [hq]; exact List.mem_cons_self ..
        have := leftOf_pos (mem_ready.1 this).1
        omega
    exact ⟨hr, hfin L a w hs hr hI⟩
  | succ fuel ih =>
    intro L a w hs hl hI
    refine ⟨fun hr => hfin L a w hs hr hI, fun i hi => ?_⟩
    obtain ⟨h1, o, h2, h3⟩ := mem_ready.1 hi
    refine wpOp_mono (fun a' w' h => ih _ a' w' (by simpa using hs) ?_ h) (hstep i o L a w h2 hs h1 h3 hI)
    have := leftOf_set h1
    omega
theorem leftOf_none (n : Nat) : leftOf (Array.replicate n false) ≤ n := by
  unfold leftOf
  simp
/-- Behind the last one all were done, if each waits for elder ones alone. -/
theorem all_done {L : Array Bool} (hr : Region.ready md ops L = []) (ho : (List.range ops.size).all (fun j => (ops[j]?).all fun o => o.after.all fun e => !Region.binds md e || Nat.blt e.on j) = true) : ∀ j, j < ops.size → L.getD j true = true := by
  intro j
  induction j using Nat.strongRecOn with
  | ind j ih =>
    intro hj
    cases h : L.getD j true with
    | true => rfl
    | false =>
      exfalso
      obtain ⟨o, hoj⟩ : ∃ o, ops[j]? = some o := ⟨_, Array.getElem?_eq_getElem hj⟩
      have hall := List.all_eq_true.1 ho j (List.mem_range.2 hj)
      rw [hoj] at hall
      simp only [Option.all_some] at hall
      have : j ∈ Region.ready md ops L := mem_ready.2 ⟨h, o, hoj, fun e he hb => by
        have h1 := Array.all_eq_true'.1 hall e he
        rw [hb] at h1
        have hlt : e.on < j := by simpa using h1
        have h2 := ih e.on hlt (Nat.lt_trans hlt hj)
        rcases Nat.lt_or_ge e.on L.size with q | q
        · simp [Array.getD, q] at h2 ⊢
          exact h2
        · exfalso
          have h3 : j < L.size := by
            rcases Nat.lt_or_ge j L.size with q2 | q2
            · exact q2
            · simp [Array.getD, Nat.not_lt.2 q2] at h
          omega⟩
      rw [hr] at this
      cases this
end
end Go.Proofs.YtkpdacfiglpgeaaGreatDoor

/- Layer 29's laws: model's region that draws its order: a list of one word more. -/
namespace Go.Proofs.YtkpdacfiglpgeaaGreatDoor
open Go.RowKit Bl Th
set_option maxRecDepth 10000

section
variable {ops : Array Oper} {Q : Exit → Act → World → Prop} {K : Act → World → Prop} {a : Act} {w : World} {o : Oper}
theorem v_op {i : Nat} (ho : ops[i]? = some o) (hg : o.guard = none) (h : o.wp Tryz.prog a w K Q) : wpOp Tryz.prog ops Q i K a w := by
  unfold wpOp
  rw [ho]
  simp only
  rw [if_pos (by simp [Region.wanted, hg])]
  exact .inl h
theorem v_move {t : Nat} {v : Value} (ho : o.op = .move (.tmp t)) (hv : a.tmps[t]? = some v) (hK : K (a.put o.dst v) w) : o.wp Tryz.prog a w K Q := by
  unfold Oper.wp execOp
  simp only [ho]
  go_simp
  exact hK
theorem v_index {t u b k : Nat} (ho : o.op = .indexAddr 33 (.tmp t) (.tmp u)) (hv : a.tmps[t]? = some (.pointer (some ⟨b, 0, none⟩))) (hu : a.tmps[u]? = some (.int .i64 (k : Int))) (hk : k < 2) (hK : K (a.put o.dst (.pointer (some ⟨b, k, none⟩))) w) : o.wp Tryz.prog a w K Q := by
  have h1 : (k : Int) < 2 := by omega
  unfold Oper.wp execOp
  simp only [ho]
  go_simp
  exact hK
theorem v_loads {t b k : Nat} {v : Value} (ho : o.op = .load 26 (.tmp t)) (hv : a.tmps[t]? = some (.pointer (some ⟨b, k, none⟩))) (hc : w.cell? ⟨b, k, none⟩ = some v) (hK : K (a.put o.dst v) w) : o.wp Tryz.prog a w K Q := by
  unfold Oper.wp execOp
  simp only [ho]
  go_simp
  exact hK
theorem v_loadx {t b k : Nat} {v : Value} (ho : o.op = .load 25 (.tmp t)) (hv : a.tmps[t]? = some (.pointer (some ⟨b, k, none⟩))) (hc : w.cell? ⟨b, k, none⟩ = some v) (hK : K (a.put o.dst v) w) : o.wp Tryz.prog a w K Q := by
  unfold Oper.wp execOp
  simp only [ho]
  go_simp
  exact hK
theorem v_field {t b : Nat} (ho : o.op = .fieldAddr 92 (.tmp t) 1) (hv : a.tmps[t]? = some (.pointer (some ⟨b, 0, none⟩))) (hK : K (a.put o.dst (.pointer (some ⟨b, 1, none⟩))) w) : o.wp Tryz.prog a w K Q := by
  unfold Oper.wp execOp
  simp only [ho]
  go_simp
  exact hK
theorem v_none (ho : o.op = .buildSlice 26 0 #[]) (hK : K (a.put o.dst (.slice (some ⟨w.heap.size, 0, none⟩) 0 0)) (w.alloc (.cells #[] 25))) : o.wp Tryz.prog a w K Q := by
  unfold Oper.wp execOp
  simp only [ho]
  go_simp
  exact hK
theorem v_one {t : Nat} {x : Int} (ho : o.op = .buildSlice 26 1 #[(0, .tmp t)]) (hv : a.tmps[t]? = some (.int .u64 x)) (hK : K (a.put o.dst (.slice (some ⟨w.heap.size, 0, none⟩) 1 1)) (w.alloc (.cells #[.int .u64 x] 25))) : o.wp Tryz.prog a w K Q := by
  unfold Oper.wp execOp
  simp only [ho]
  go_simp
  exact hK
theorem v_app {t u : Nat} (ho : o.op = .call { callee := .builtin .append, args := #[.tmp t, .tmp u], argTypes := #[26, 26] }) {base : Nat} {v : Value} {n : Nat} {xs : List Value} (hs : a.tmps[t]? = some v) (hown : w.ownsRow base 25 1 v n xs)
    {y : Value} {news : List Nat} (hx : a.tmps[u]? = some y) (hy : WordsAt w y news) (hn : n + news.length ≤ 1000000) (hbase : base ≤ w.heap.size)
    (h : ∀ p c w', w'.ownsRow base 25 1 (.slice p (n + news.length) c) (n + news.length) (xs ++ encU news) → w.grownBy w' v.ownBlock → ((Value.slice p (n + news.length) c).ownBlock = v.ownBlock ∨ (Value.slice p (n + news.length) c).ownBlock = some w.heap.size) → K (a.put o.dst (.slice p (n + news.length) c)) w') : o.wp Tryz.prog a w K Q := by
  obtain ⟨v', w', hrun, h1, h2, h3⟩ := run_append_any o.type hown hy hn hbase
  have es : a.eval (.tmp t) = v := by simp [Act.eval, hs]
  have ex : a.eval (.tmp u) = y := by simp [Act.eval, hx]
  unfold Oper.wp execOp
  simp only [ho, resolve, invoke, builtin, Sem.run_bind, Sem.run_pure, Result.andThen_ok, List.map_toArray, List.map_cons, List.map_nil, es, ex, hrun]
  obtain ⟨p, c, rfl⟩ := ownsRow_shape h1
  exact h p c w' h1 h2 h3
theorem v_store {t u b k : Nat} {p : Option Addr} {n c : Nat} (ho : o.op = .store 26 (.tmp t) (.tmp u)) (hd : o.dst = none) (hv : a.tmps[t]? = some (.pointer (some ⟨b, k, none⟩))) (hu : a.tmps[u]? = some (.slice p n c)) {v0 : Value} (hc : w.cell? ⟨b, k, none⟩ = some v0) (hf : w.frozen? ⟨b, k, none⟩ = false) (hK : K a (w.setCell ⟨b, k, none⟩ (.slice p n c))) : o.wp Tryz.prog a w K Q := by
  unfold Oper.wp execOp
  simp only [ho]
  go_simp
  exact hK
end
def vDst (k : Nat) : Bool := Nat.ble 59 k && Nat.ble k 69
def vNeeds (o : Oper) (j : Nat) : Bool := o.after.any fun e => Region.binds .any e && e.on == j
theorem vNeeds_spec {o : Oper} {j : Nat} {L : Array Bool} (h : vNeeds o j = true) (hl : ∀ e ∈ o.after, Region.binds .any e = true → L.getD e.on false = true) : L.getD j false = true := by
  obtain ⟨e, he, hq⟩ := Array.any_eq_true'.1 h
  simp only [Bool.and_eq_true, beq_iff_eq] at hq
  rw [← hq.2]
  exact hl e he hq.1
/-- What holds, whichever operations were done. -/
structure TI (W : World) (a0 : Act) (qv : Value) (b3 kb nb x n : Nat) (xs : List Value) (v : Value) (b8 : Nat) (l : Nat → Bool) (a : Act) (w : World) : Prop where
  size : a.tmps.size = a0.tmps.size
  defers : a.defers = a0.defers
  same : ∀ k, vDst k = false → a.tmps[k]? = a0.tmps[k]?
  below : Below W.heap.size W w
  k5 : l 5 = true → l 1 = true
  k9 : l 9 = true → l 5 = true ∧ l 8 = true
  c0 : l 0 = true → a.tmps[59]? = some (.int .i64 (kb : Int))
  c1 : l 1 = true → l 5 = false → a.tmps[60]? = some v ∧ w.ownsRow W.heap.size 25 1 v 0 []
  c2 : l 2 = true → a.tmps[61]? = some (.int .i64 (kb : Int))
  c3 : l 3 = true → a.tmps[62]? = some (.pointer (some ⟨b3, kb, none⟩))
  c4 : l 4 = true → a.tmps[63]? = some qv
  c5 : l 5 = true → l 9 = false → a.tmps[64]? = some v ∧ w.ownsRow W.heap.size 25 1 v n xs
  c6 : l 6 = true → a.tmps[65]? = some (.pointer (some ⟨nb, 1, none⟩))
  c7 : l 7 = true → a.tmps[66]? = some (.int .u64 (x : Int))
  c8 : l 8 = true → a.tmps[67]? = some (.slice (some ⟨b8, 0, none⟩) 1 1) ∧ Cells w b8 [.int .u64 (x : Int)] 25 ∧ W.heap.size ≤ b8 ∧ (l 1 = true → v.ownBlock ≠ some b8)
  c9 : l 9 = true → a.tmps[68]? = some v ∧ w.ownsRow W.heap.size 25 1 v (n + 1) (xs ++ [.int .u64 (x : Int)]) ∧ ∃ p c, v = .slice p (n + 1) c
  c10 : l 10 = true → a.tmps[69]? = some (.pointer (some ⟨b3, kb, none⟩))
def T19 (W : World) (a0 : Act) (qv : Value) (b3 kb nb x n : Nat) (xs : List Value) (l : Nat → Bool) (a : Act) (w : World) : Prop :=
  (l 11 = false ∧ ∃ v b8, TI W a0 qv b3 kb nb x n xs v b8 l a w) ∨ ((∀ j, j < 12 → l j = true) ∧ ∃ p c b8 w1, TI W a0 qv b3 kb nb x n xs (.slice p (n + 1) c) b8 l a w1 ∧ w = w1.setCell ⟨b3, kb, none⟩ (.slice p (n + 1) c))
structure VOp (ops : Array Oper) (i : Nat) (dst : Option Nat) (op : Op) (nd : List Nat) : Prop where
  is : ∃ o, ops[i]? = some o ∧ o.guard = none ∧ o.dst = dst ∧ o.op = op ∧ nd.all (vNeeds o) = true
theorem VOp.get {ops : Array Oper} {i : Nat} {dst : Option Nat} {op : Op} {nd : List Nat} (h : VOp ops i dst op nd) {o : Oper} (ho : ops[i]? = some o) {L : Array Bool} (hl : ∀ e ∈ o.after, Region.binds .any e = true → L.getD e.on false = true) : o.guard = none ∧ o.dst = dst ∧ o.op = op ∧ ∀ j ∈ nd, L.getD j false = true := by
  obtain ⟨o', h1, h2, h3, h4, h5⟩ := h.is
  rw [ho] at h1
  obtain rfl := Option.some.inj h1
  exact ⟨h2, h3, h4, fun j hj => vNeeds_spec (List.all_eq_true.1 h5 j hj) hl⟩
structure VOps (ops : Array Oper) : Prop where
  size : ops.size = 12
  old : (List.range ops.size).all (fun j => (ops[j]?).all fun o => o.after.all fun e => !Region.binds .any e || Nat.blt e.on j) = true
  o0 : VOp ops 0 (some 59) (.move (.tmp 12)) []
  o1 : VOp ops 1 (some 60) (.buildSlice 26 0 #[]) []
  o2 : VOp ops 2 (some 61) (.move (.tmp 12)) []
  o3 : VOp ops 3 (some 62) (.indexAddr 33 (.tmp 3) (.tmp 61)) [2]
  o4 : VOp ops 4 (some 63) (.load 26 (.tmp 62)) [3]
  o5 : VOp ops 5 (some 64) (.call { callee := .builtin .append, args := #[.tmp 60, .tmp 63], argTypes := #[26, 26] }) [1, 4]
  o6 : VOp ops 6 (some 65) (.fieldAddr 92 (.tmp 11) 1) []
  o7 : VOp ops 7 (some 66) (.load 25 (.tmp 65)) [6]
  o8 : VOp ops 8 (some 67) (.buildSlice 26 1 #[(0, .tmp 66)]) [7]
  o9 : VOp ops 9 (some 68) (.call { callee := .builtin .append, args := #[.tmp 64, .tmp 67], argTypes := #[26, 26] }) [5, 8]
  o10 : VOp ops 10 (some 69) (.indexAddr 33 (.tmp 3) (.tmp 59)) [0]
  o11 : VOp ops 11 none (.store 26 (.tmp 69) (.tmp 68)) [0, 1, 2, 3, 4, 5, 6, 7, 8, 9, 10]
theorem vput_same {a : Act} {d : Nat} {v : Value} (h : d < a.tmps.size) : (a.put (some d) v).tmps[d]? = some v := by
  simp [Act.put, h]
theorem vput_ne {a : Act} {d k : Nat} {v : Value} (h : d ≠ k) : (a.put (some d) v).tmps[k]? = a.tmps[k]? := by
  simp [Act.put, Array.getElem?_setIfInBounds_ne h]
theorem vput_size {a : Act} {d : Nat} {v : Value} : (a.put (some d) v).tmps.size = a.tmps.size := by
  simp [Act.put]
theorem vat_set {L : Array Bool} {i : Nat} (hi : i < L.size) (j : Nat) : (L.setIfInBounds i true).getD j false = (decide (j = i) || L.getD j false) := by
  by_cases h : j = i
  · subst h
    simp [Array.getD, hi]
  · have h' : ¬ i = j := fun e => h e.symm
    rw [show decide (j = i) = false from decide_eq_false h, Bool.false_or]
    unfold Array.getD
    simp only [Array.size_setIfInBounds]
    split
    · exact Array.getElem_setIfInBounds_ne _ h'
    · rfl
section
variable {W : World} {a0 : Act} {qv : Value} {b3 kb nb x n : Nat} {xs : List Value} {v : Value} {b8 : Nat} {l : Nat → Bool} {a : Act} {w w' : World}
theorem TI.world {S : Nat → Prop} (h : TI W a0 qv b3 kb nb x n xs v b8 l a w) (k : Kept S w w') (hS : ∀ b, S b → W.heap.size ≤ b) (hv : l 1 = true → ∀ b, v.ownBlock = some b → ¬ S b) (h8 : l 8 = true → ¬ S b8) : TI W a0 qv b3 kb nb x n xs v b8 l a w' where
  size := h.size
  defers := h.defers
  same := h.same
  below := h.below.trans (k.below h.below.size fun b hb e => by have := hS b e; omega)
  k5 := h.k5
  k9 := h.k9
  c0 := h.c0
  c1 := fun q0 q2 => ⟨(h.c1 q0 q2).1, ownsRow_kept (h.c1 q0 q2).2 k (hv q0)⟩
  c2 := h.c2
  c3 := h.c3
  c4 := h.c4
  c5 := fun q2 q5 => ⟨(h.c5 q2 q5).1, ownsRow_kept (h.c5 q2 q5).2 k (hv (h.k5 q2))⟩
  c6 := h.c6
  c7 := h.c7
  c8 := fun q => ⟨(h.c8 q).1, (h.c8 q).2.1.kept k (h8 q), (h.c8 q).2.2⟩
  c9 := fun q => ⟨(h.c9 q).1, ownsRow_kept (h.c9 q).2.1 k (hv (h.k5 (h.k9 q).1)), (h.c9 q).2.2⟩
  c10 := h.c10
set_option maxHeartbeats 1600000 in
theorem t19_step {ops : Array Oper} {Q : Exit → Act → World → Prop} (hops : VOps ops) (hs : 70 ≤ a0.tmps.size) (h3 : a0.tmps[3]? = some (.pointer (some ⟨b3, 0, none⟩))) (h11 : a0.tmps[11]? = some (.pointer (some ⟨nb, 0, none⟩))) (h12 : a0.tmps[12]? = some (.int .i64 (kb : Int))) (hkb : kb < 2)
    (hb3 : b3 < W.heap.size) (hc3 : W.cell? ⟨b3, kb, none⟩ = some qv) (hf3 : W.frozen? ⟨b3, kb, none⟩ = false) (hnb : nb < W.heap.size) (hcx : W.cell? ⟨nb, 1, none⟩ = some (.int .u64 (x : Int))) {q : List Nat} (hq : WordsAt W qv q) (hqv : ∀ b, qv.ownBlock = some b → b < W.heap.size) (hn : q.length = n) (hn1 : n + 1 ≤ 1000000) (hxs : encU q = xs)
    (i : Nat) (o : Oper) (L : Array Bool) (ho : ops[i]? = some o) (hL : L.size = ops.size) (hun : L.getD i true = false) (hrd : ∀ e ∈ o.after, Region.binds .any e = true → L.getD e.on false = true)
    (hI : T19 W a0 qv b3 kb nb x n xs (fun j => L.getD j false) a w) : wpOp Tryz.prog ops Q i (T19 W a0 qv b3 kb nb x n xs (fun j => (L.setIfInBounds i true).getD j false)) a w := by
  have hi9 : i < 12 := by
    have := (Array.getElem?_eq_some_iff.1 ho).1
    rw [hops.size] at this
    exact this
  have hil : i < L.size := by rw [hL, hops.size]; exact hi9
  have hun' : L.getD i false = false := by
    simp [Array.getD, hil] at hun ⊢
    exact hun
  have hset := vat_set hil
  obtain ⟨l, hl⟩ : ∃ l : Nat → Bool, (fun j => L.getD j false) = l := ⟨_, rfl⟩
  have hlj : ∀ j, L.getD j false = l j := fun j => by rw [← hl]
  rw [hl] at hI
  rw [hlj] at hun'
  have hset' : (fun j => (L.setIfInBounds i true).getD j false) = fun j => (decide (j = i) || l j) := by
    funext j
    rw [hset, hlj]
  rw [hset']
  rcases hI with ⟨h11l, v, b8, hI⟩ | ⟨hall, -⟩
  case inr =>
    have := hall i hi9
    rw [hun'] at this
    cases this
  have hsz : 70 ≤ a.tmps.size := by rw [hI.size]; exact hs
  have hws := hI.below.size
  match i, hi9 with
  | 0, _ =>
    obtain ⟨g1, g2, g3, -⟩ := hops.o0.get ho hrd
    refine v_op ho g1 (v_move g3 ((hI.same 12 rfl).trans h12) ?_)
    rw [g2]
    have hW := hI
    refine .inl ⟨by simp [h11l], v, b8, vput_size.trans hW.size, hW.defers, fun k hk => ?_, hW.below, ?_, ?_, ?_, ?_, ?_, ?_, ?_, ?_, ?_, ?_, ?_, ?_, ?_⟩
    · rw [vput_ne (by rintro rfl; cases hk)]; exact hW.same k hk
    · simpa using hW.k5
    · intro h1; have z := hW.k9 (by simpa using h1); simp [z.1, z.2]
    · exact fun _ => vput_same (by omega)
    · intro h1 h2; have z := hW.c1 (by simpa using h1) (by simpa using h2); exact ⟨by rw [vput_ne (by decide)]; exact z.1, z.2⟩
    · intro h1; rw [vput_ne (by decide)]; exact hW.c2 (by simpa using h1)
    · intro h1; rw [vput_ne (by decide)]; exact hW.c3 (by simpa using h1)
    · intro h1; rw [vput_ne (by decide)]; exact hW.c4 (by simpa using h1)
    · intro h1 h2; have z := hW.c5 (by simpa using h1) (by simpa using h2); exact ⟨by rw [vput_ne (by decide)]; exact z.1, z.2⟩
    · intro h1; rw [vput_ne (by decide)]; exact hW.c6 (by simpa using h1)
    · intro h1; rw [vput_ne (by decide)]; exact hW.c7 (by simpa using h1)
    · intro h1; have z := hW.c8 (by simpa using h1); exact ⟨by rw [vput_ne (by decide)]; exact z.1, z.2.1, z.2.2.1, fun h3 => z.2.2.2 (by simpa using h3)⟩
    · intro h1; have z := hW.c9 (by simpa using h1); exact ⟨by rw [vput_ne (by decide)]; exact z.1, z.2⟩
    · intro h1; rw [vput_ne (by decide)]; exact hW.c10 (by simpa using h1)
  | 1, _ =>
    obtain ⟨g1, g2, g3, -⟩ := hops.o1.get ho hrd
    have n5 : l 5 = false := by
      cases e : l 5 with
      | false => rfl
      | true => rw [hI.k5 e] at hun'; cases hun'
    have n9 : l 9 = false := by
      cases e : l 9 with
      | false => rfl
      | true => rw [(hI.k9 e).1] at n5; cases n5
    refine v_op ho g1 (v_none g3 ?_)
    rw [g2]
    have kw := (Kept.refl (fun _ => False) w).alloc (.cells #[] 25)
    have hW := hI.world kw (fun _ h => h.elim) (fun _ _ _ h => h) (fun _ h => h)
    refine .inl ⟨by simp [h11l], .slice (some ⟨w.heap.size, 0, none⟩) 0 0, b8, vput_size.trans hW.size, hW.defers, fun k hk => ?_, hW.below, ?_, ?_, ?_, ?_, ?_, ?_, ?_, ?_, ?_, ?_, ?_, ?_, ?_⟩
    · rw [vput_ne (by rintro rfl; cases hk)]; exact hW.same k hk
    · simp
    · simp [n9]
    · intro h1; rw [vput_ne (by decide)]; exact hW.c0 (by simpa using h1)
    · exact fun _ _ => ⟨vput_same (by omega), ⟨rfl, .inr ⟨w.heap.size, 0, #[], rfl, hws, Cells.new w [] _, Nat.le_refl _, Nat.zero_le _, rfl, rfl⟩⟩⟩
    · intro h1; rw [vput_ne (by decide)]; exact hW.c2 (by simpa using h1)
    · intro h1; rw [vput_ne (by decide)]; exact hW.c3 (by simpa using h1)
    · intro h1; rw [vput_ne (by decide)]; exact hW.c4 (by simpa using h1)
    · simp [n5]
    · intro h1; rw [vput_ne (by decide)]; exact hW.c6 (by simpa using h1)
    · intro h1; rw [vput_ne (by decide)]; exact hW.c7 (by simpa using h1)
    · intro h1
      have z := hW.c8 (by simpa using h1)
      have z' := (hI.c8 (by simpa using h1)).2.1.lt
      refine ⟨by rw [vput_ne (by decide)]; exact z.1, z.2.1, z.2.2.1, fun _ e => ?_⟩
      simp only [Value.ownBlock, Option.some.injEq] at e
      omega
    · simp [n9]
    · intro h1; rw [vput_ne (by decide)]; exact hW.c10 (by simpa using h1)
  | 2, _ =>
    obtain ⟨g1, g2, g3, -⟩ := hops.o2.get ho hrd
    refine v_op ho g1 (v_move g3 ((hI.same 12 rfl).trans h12) ?_)
    rw [g2]
    have hW := hI
    refine .inl ⟨by simp [h11l], v, b8, vput_size.trans hW.size, hW.defers, fun k hk => ?_, hW.below, ?_, ?_, ?_, ?_, ?_, ?_, ?_, ?_, ?_, ?_, ?_, ?_, ?_⟩
    · rw [vput_ne (by rintro rfl; cases hk)]; exact hW.same k hk
    · simpa using hW.k5
    · intro h1; have z := hW.k9 (by simpa using h1); simp [z.1, z.2]
    · intro h1; rw [vput_ne (by decide)]; exact hW.c0 (by simpa using h1)
    · intro h1 h2; have z := hW.c1 (by simpa using h1) (by simpa using h2); exact ⟨by rw [vput_ne (by decide)]; exact z.1, z.2⟩
    · exact fun _ => vput_same (by omega)
    · intro h1; rw [vput_ne (by decide)]; exact hW.c3 (by simpa using h1)
    · intro h1; rw [vput_ne (by decide)]; exact hW.c4 (by simpa using h1)
    · intro h1 h2; have z := hW.c5 (by simpa using h1) (by simpa using h2); exact ⟨by rw [vput_ne (by decide)]; exact z.1, z.2⟩
    · intro h1; rw [vput_ne (by decide)]; exact hW.c6 (by simpa using h1)
    · intro h1; rw [vput_ne (by decide)]; exact hW.c7 (by simpa using h1)
    · intro h1; have z := hW.c8 (by simpa using h1); exact ⟨by rw [vput_ne (by decide)]; exact z.1, z.2.1, z.2.2.1, fun h3 => z.2.2.2 (by simpa using h3)⟩
    · intro h1; have z := hW.c9 (by simpa using h1); exact ⟨by rw [vput_ne (by decide)]; exact z.1, z.2⟩
    · intro h1; rw [vput_ne (by decide)]; exact hW.c10 (by simpa using h1)
  | 3, _ =>
    obtain ⟨g1, g2, g3, g4⟩ := hops.o3.get ho hrd
    have r2 : l 2 = true := (hlj 2).symm.trans (g4 2 (by simp))
    refine v_op ho g1 (v_index g3 ((hI.same 3 rfl).trans h3) (hI.c2 r2) hkb ?_)
    rw [g2]
    have hW := hI
    refine .inl ⟨by simp [h11l], v, b8, vput_size.trans hW.size, hW.defers, fun k hk => ?_, hW.below, ?_, ?_, ?_, ?_, ?_, ?_, ?_, ?_, ?_, ?_, ?_, ?_, ?_⟩
    · rw [vput_ne (by rintro rfl; cases hk)]; exact hW.same k hk
    · simpa using hW.k5
    · intro h1; have z := hW.k9 (by simpa using h1); simp [z.1, z.2]
    · intro h1; rw [vput_ne (by decide)]; exact hW.c0 (by simpa using h1)
    · intro h1 h2; have z := hW.c1 (by simpa using h1) (by simpa using h2); exact ⟨by rw [vput_ne (by decide)]; exact z.1, z.2⟩
    · intro h1; rw [vput_ne (by decide)]; exact hW.c2 (by simpa using h1)
    · exact fun _ => vput_same (by omega)
    · intro h1; rw [vput_ne (by decide)]; exact hW.c4 (by simpa using h1)
    · intro h1 h2; have z := hW.c5 (by simpa using h1) (by simpa using h2); exact ⟨by rw [vput_ne (by decide)]; exact z.1, z.2⟩
    · intro h1; rw [vput_ne (by decide)]; exact hW.c6 (by simpa using h1)
    · intro h1; rw [vput_ne (by decide)]; exact hW.c7 (by simpa using h1)
    · intro h1; have z := hW.c8 (by simpa using h1); exact ⟨by rw [vput_ne (by decide)]; exact z.1, z.2.1, z.2.2.1, fun h3 => z.2.2.2 (by simpa using h3)⟩
    · intro h1; have z := hW.c9 (by simpa using h1); exact ⟨by rw [vput_ne (by decide)]; exact z.1, z.2⟩
    · intro h1; rw [vput_ne (by decide)]; exact hW.c10 (by simpa using h1)
  | 4, _ =>
    obtain ⟨g1, g2, g3, g4⟩ := hops.o4.get ho hrd
    have r3 : l 3 = true := (hlj 3).symm.trans (g4 3 (by simp))
    refine v_op ho g1 (v_loads g3 (hI.c3 r3) ((World.cell?_of_block (a := ⟨b3, kb, none⟩) (hI.below.block b3 hb3)).trans hc3) ?_)
    rw [g2]
    have hW := hI
    refine .inl ⟨by simp [h11l], v, b8, vput_size.trans hW.size, hW.defers, fun k hk => ?_, hW.below, ?_, ?_, ?_, ?_, ?_, ?_, ?_, ?_, ?_, ?_, ?_, ?_, ?_⟩
    · rw [vput_ne (by rintro rfl; cases hk)]; exact hW.same k hk
    · simpa using hW.k5
    · intro h1; have z := hW.k9 (by simpa using h1); simp [z.1, z.2]
    · intro h1; rw [vput_ne (by decide)]; exact hW.c0 (by simpa using h1)
    · intro h1 h2; have z := hW.c1 (by simpa using h1) (by simpa using h2); exact ⟨by rw [vput_ne (by decide)]; exact z.1, z.2⟩
    · intro h1; rw [vput_ne (by decide)]; exact hW.c2 (by simpa using h1)
    · intro h1; rw [vput_ne (by decide)]; exact hW.c3 (by simpa using h1)
    · exact fun _ => vput_same (by omega)
    · intro h1 h2; have z := hW.c5 (by simpa using h1) (by simpa using h2); exact ⟨by rw [vput_ne (by decide)]; exact z.1, z.2⟩
    · intro h1; rw [vput_ne (by decide)]; exact hW.c6 (by simpa using h1)
    · intro h1; rw [vput_ne (by decide)]; exact hW.c7 (by simpa using h1)
    · intro h1; have z := hW.c8 (by simpa using h1); exact ⟨by rw [vput_ne (by decide)]; exact z.1, z.2.1, z.2.2.1, fun h3 => z.2.2.2 (by simpa using h3)⟩
    · intro h1; have z := hW.c9 (by simpa using h1); exact ⟨by rw [vput_ne (by decide)]; exact z.1, z.2⟩
    · intro h1; rw [vput_ne (by decide)]; exact hW.c10 (by simpa using h1)
  | 5, _ =>
    obtain ⟨g1, g2, g3, g4⟩ := hops.o5.get ho hrd
    have r1 : l 1 = true := (hlj 1).symm.trans (g4 1 (by simp))
    have r4 : l 4 = true := (hlj 4).symm.trans (g4 4 (by simp))
    have n9 : l 9 = false := by
      cases e : l 9 with
      | false => rfl
      | true => rw [(hI.k9 e).1] at hun'; cases hun'
    obtain ⟨q1, q2⟩ := hI.c1 r1 hun'
    have hq' := hq.kept (Kept.of_below hI.below) (fun b hb => ⟨hqv b hb, by have := hqv b hb; omega⟩)
    refine v_op ho g1 (v_app g3 q1 q2 (hI.c4 r4) hq' (by omega) hws ?_)
    intro p' c' w' hrow' hgr hob
    rw [g2]
    simp only [Nat.zero_add, List.nil_append, hn, hxs] at hrow' hob ⊢
    have kw := Kept.of_grown hgr
    have hrl := q2.lt
    have hnew : ∀ b, (Value.slice p' n c').ownBlock = some b → v.ownBlock = some b ∨ b = w.heap.size := fun b hb => by
      rcases hob with e | e
      · exact .inl (by rw [← e]; exact hb)
      · rw [e] at hb; exact .inr (Option.some.inj hb).symm
    have hbel : Below W.heap.size W w' := hI.below.trans (kw.below hws fun b hb e => by have := (hrl b e.symm).1; omega)
    refine .inl ⟨by simp [h11l], (.slice p' n c'), b8, vput_size.trans hI.size, hI.defers, fun k hk => ?_, hbel, ?_, ?_, ?_, ?_, ?_, ?_, ?_, ?_, ?_, ?_, ?_, ?_, ?_⟩
    · rw [vput_ne (by rintro rfl; cases hk)]; exact hI.same k hk
    · simp [r1]
    · simp [n9]
    · intro h1; rw [vput_ne (by decide)]; exact hI.c0 (by simpa using h1)
    · intro _ h1; simp at h1
    · intro h1; rw [vput_ne (by decide)]; exact hI.c2 (by simpa using h1)
    · intro h1; rw [vput_ne (by decide)]; exact hI.c3 (by simpa using h1)
    · intro h1; rw [vput_ne (by decide)]; exact hI.c4 (by simpa using h1)
    · exact fun _ _ => ⟨vput_same (by omega), hrow'⟩
    · intro h1; rw [vput_ne (by decide)]; exact hI.c6 (by simpa using h1)
    · intro h1; rw [vput_ne (by decide)]; exact hI.c7 (by simpa using h1)
    · intro h1
      have z := hI.c8 (by simpa using h1)
      have z' := z.2.1.lt
      refine ⟨by rw [vput_ne (by decide)]; exact z.1, z.2.1.kept kw (fun e => z.2.2.2 r1 e.symm), z.2.2.1, fun _ e => ?_⟩
      rcases hnew _ e with e | e
      · exact z.2.2.2 r1 e
      · omega
    · simp [n9]
    · intro h1; rw [vput_ne (by decide)]; exact hI.c10 (by simpa using h1)
  | 6, _ =>
    obtain ⟨g1, g2, g3, -⟩ := hops.o6.get ho hrd
    refine v_op ho g1 (v_field g3 ((hI.same 11 rfl).trans h11) ?_)
    rw [g2]
    have hW := hI
    refine .inl ⟨by simp [h11l], v, b8, vput_size.trans hW.size, hW.defers, fun k hk => ?_, hW.below, ?_, ?_, ?_, ?_, ?_, ?_, ?_, ?_, ?_, ?_, ?_, ?_, ?_⟩
    · rw [vput_ne (by rintro rfl; cases hk)]; exact hW.same k hk
    · simpa using hW.k5
    · intro h1; have z := hW.k9 (by simpa using h1); simp [z.1, z.2]
    · intro h1; rw [vput_ne (by decide)]; exact hW.c0 (by simpa using h1)
    · intro h1 h2; have z := hW.c1 (by simpa using h1) (by simpa using h2); exact ⟨by rw [vput_ne (by decide)]; exact z.1, z.2⟩
    · intro h1; rw [vput_ne (by decide)]; exact hW.c2 (by simpa using h1)
    · intro h1; rw [vput_ne (by decide)]; exact hW.c3 (by simpa using h1)
    · intro h1; rw [vput_ne (by decide)]; exact hW.c4 (by simpa using h1)
    · intro h1 h2; have z := hW.c5 (by simpa using h1) (by simpa using h2); exact ⟨by rw [vput_ne (by decide)]; exact z.1, z.2⟩
    · exact fun _ => vput_same (by omega)
    · intro h1; rw [vput_ne (by decide)]; exact hW.c7 (by simpa using h1)
    · intro h1; have z := hW.c8 (by simpa using h1); exact ⟨by rw [vput_ne (by decide)]; exact z.1, z.2.1, z.2.2.1, fun h3 => z.2.2.2 (by simpa using h3)⟩
    · intro h1; have z := hW.c9 (by simpa using h1); exact ⟨by rw [vput_ne (by decide)]; exact z.1, z.2⟩
    · intro h1; rw [vput_ne (by decide)]; exact hW.c10 (by simpa using h1)
  | 7, _ =>
    obtain ⟨g1, g2, g3, g4⟩ := hops.o7.get ho hrd
    have r6 : l 6 = true := (hlj 6).symm.trans (g4 6 (by simp))
    refine v_op ho g1 (v_loadx g3 (hI.c6 r6) ((World.cell?_of_block (a := ⟨nb, 1, none⟩) (hI.below.block nb hnb)).trans hcx) ?_)
    rw [g2]
    have hW := hI
    refine .inl ⟨by simp [h11l], v, b8, vput_size.trans hW.size, hW.defers, fun k hk => ?_, hW.below, ?_, ?_, ?_, ?_, ?_, ?_, ?_, ?_, ?_, ?_, ?_, ?_, ?_⟩
    · rw [vput_ne (by rintro rfl; cases hk)]; exact hW.same k hk
    · simpa using hW.k5
    · intro h1; have z := hW.k9 (by simpa using h1); simp [z.1, z.2]
    · intro h1; rw [vput_ne (by decide)]; exact hW.c0 (by simpa using h1)
    · intro h1 h2; have z := hW.c1 (by simpa using h1) (by simpa using h2); exact ⟨by rw [vput_ne (by decide)]; exact z.1, z.2⟩
    · intro h1; rw [vput_ne (by decide)]; exact hW.c2 (by simpa using h1)
    · intro h1; rw [vput_ne (by decide)]; exact hW.c3 (by simpa using h1)
    · intro h1; rw [vput_ne (by decide)]; exact hW.c4 (by simpa using h1)
    · intro h1 h2; have z := hW.c5 (by simpa using h1) (by simpa using h2); exact ⟨by rw [vput_ne (by decide)]; exact z.1, z.2⟩
    · intro h1; rw [vput_ne (by decide)]; exact hW.c6 (by simpa using h1)
    · exact fun _ => vput_same (by omega)
    · intro h1; have z := hW.c8 (by simpa using h1); exact ⟨by rw [vput_ne (by decide)]; exact z.1, z.2.1, z.2.2.1, fun h3 => z.2.2.2 (by simpa using h3)⟩
    · intro h1; have z := hW.c9 (by simpa using h1); exact ⟨by rw [vput_ne (by decide)]; exact z.1, z.2⟩
    · intro h1; rw [vput_ne (by decide)]; exact hW.c10 (by simpa using h1)
  | 8, _ =>
    obtain ⟨g1, g2, g3, g4⟩ := hops.o8.get ho hrd
    have r7 : l 7 = true := (hlj 7).symm.trans (g4 7 (by simp))
    have n9 : l 9 = false := by
      cases e : l 9 with
      | false => rfl
      | true => rw [(hI.k9 e).2] at hun'; cases hun'
    refine v_op ho g1 (v_one g3 (hI.c7 r7) ?_)
    rw [g2]
    have kw := (Kept.refl (fun _ => False) w).alloc (.cells [Value.int .u64 (x : Int)].toArray 25)
    have hW := hI.world kw (fun _ h => h.elim) (fun _ _ _ h => h) (fun _ h => h)
    refine .inl ⟨by simp [h11l], v, w.heap.size, vput_size.trans hW.size, hW.defers, fun k hk => ?_, hW.below, ?_, ?_, ?_, ?_, ?_, ?_, ?_, ?_, ?_, ?_, ?_, ?_, ?_⟩
    · rw [vput_ne (by rintro rfl; cases hk)]; exact hW.same k hk
    · simpa using hW.k5
    · simp [n9]
    · intro h1; rw [vput_ne (by decide)]; exact hW.c0 (by simpa using h1)
    · intro h1 h2; have z := hW.c1 (by simpa using h1) (by simpa using h2); exact ⟨by rw [vput_ne (by decide)]; exact z.1, z.2⟩
    · intro h1; rw [vput_ne (by decide)]; exact hW.c2 (by simpa using h1)
    · intro h1; rw [vput_ne (by decide)]; exact hW.c3 (by simpa using h1)
    · intro h1; rw [vput_ne (by decide)]; exact hW.c4 (by simpa using h1)
    · intro h1 h2; have z := hW.c5 (by simpa using h1) (by simpa using h2); exact ⟨by rw [vput_ne (by decide)]; exact z.1, z.2⟩
    · intro h1; rw [vput_ne (by decide)]; exact hW.c6 (by simpa using h1)
    · intro h1; rw [vput_ne (by decide)]; exact hW.c7 (by simpa using h1)
    · refine fun _ => ⟨vput_same (by omega), Cells.new w [Value.int .u64 (x : Int)] _, hws, fun h1 e => ?_⟩
      have hl1 : l 1 = true := by simpa using h1
      cases e2 : l 5 with
      | false => have := ((hI.c1 hl1 e2).2.lt _ e).2; omega
      | true => have := ((hI.c5 e2 n9).2.lt _ e).2; omega
    · simp [n9]
    · intro h1; rw [vput_ne (by decide)]; exact hW.c10 (by simpa using h1)
  | 9, _ =>
    obtain ⟨g1, g2, g3, g4⟩ := hops.o9.get ho hrd
    have r5 : l 5 = true := (hlj 5).symm.trans (g4 5 (by simp))
    have r8 : l 8 = true := (hlj 8).symm.trans (g4 8 (by simp))
    have r1 : l 1 = true := hI.k5 r5
    obtain ⟨q1, q2⟩ := hI.c5 r5 hun'
    obtain ⟨y1, y2, y3, y4⟩ := hI.c8 r8
    refine v_op ho g1 (v_app (news := [x]) g3 q1 q2 y1 ⟨_, _, rfl, fun _ => ⟨b8, 0, rfl, fun k y hy => by rw [Nat.zero_add]; exact (y2.cell k).trans (by
      cases k with
      | zero => simp only [List.getElem?_cons_zero, Option.some.injEq] at hy ⊢; rw [hy]
      | succ k => simp at hy)⟩⟩ (by simp only [List.length_singleton]; omega) hws ?_)
    intro p' c' w' hrow' hgr hob
    rw [g2]
    simp only [List.length_singleton, encU, List.map_cons, List.map_nil] at hrow' hob ⊢
    have kw := Kept.of_grown hgr
    have hrl := q2.lt
    have hnew : ∀ b, (Value.slice p' (n + 1) c').ownBlock = some b → v.ownBlock = some b ∨ b = w.heap.size := fun b hb => by
      rcases hob with e | e
      · exact .inl (by rw [← e]; exact hb)
      · rw [e] at hb; exact .inr (Option.some.inj hb).symm
    have hbel : Below W.heap.size W w' := hI.below.trans (kw.below hws fun b hb e => by have := (hrl b e.symm).1; omega)
    refine .inl ⟨by simp [h11l], (.slice p' (n + 1) c'), b8, vput_size.trans hI.size, hI.defers, fun k hk => ?_, hbel, ?_, ?_, ?_, ?_, ?_, ?_, ?_, ?_, ?_, ?_, ?_, ?_, ?_⟩
    · rw [vput_ne (by rintro rfl; cases hk)]; exact hI.same k hk
    · simpa using hI.k5
    · simp [r5, r8]
    · intro h1; rw [vput_ne (by decide)]; exact hI.c0 (by simpa using h1)
    · intro _ h1; simp [r5] at h1
    · intro h1; rw [vput_ne (by decide)]; exact hI.c2 (by simpa using h1)
    · intro h1; rw [vput_ne (by decide)]; exact hI.c3 (by simpa using h1)
    · intro h1; rw [vput_ne (by decide)]; exact hI.c4 (by simpa using h1)
    · intro _ h1; simp at h1
    · intro h1; rw [vput_ne (by decide)]; exact hI.c6 (by simpa using h1)
    · intro h1; rw [vput_ne (by decide)]; exact hI.c7 (by simpa using h1)
    · intro h1
      have z := hI.c8 (by simpa using h1)
      have z' := z.2.1.lt
      refine ⟨by rw [vput_ne (by decide)]; exact z.1, z.2.1.kept kw (fun e => z.2.2.2 r1 e.symm), z.2.2.1, fun _ e => ?_⟩
      rcases hnew _ e with e | e
      · exact z.2.2.2 r1 e
      · omega
    · exact fun _ => ⟨vput_same (by omega), hrow', p', c', rfl⟩
    · intro h1; rw [vput_ne (by decide)]; exact hI.c10 (by simpa using h1)
  | 10, _ =>
    obtain ⟨g1, g2, g3, g4⟩ := hops.o10.get ho hrd
    have r0 : l 0 = true := (hlj 0).symm.trans (g4 0 (by simp))
    refine v_op ho g1 (v_index g3 ((hI.same 3 rfl).trans h3) (hI.c0 r0) hkb ?_)
    rw [g2]
    have hW := hI
    refine .inl ⟨by simp [h11l], v, b8, vput_size.trans hW.size, hW.defers, fun k hk => ?_, hW.below, ?_, ?_, ?_, ?_, ?_, ?_, ?_, ?_, ?_, ?_, ?_, ?_, ?_⟩
    · rw [vput_ne (by rintro rfl; cases hk)]; exact hW.same k hk
    · simpa using hW.k5
    · intro h1; have z := hW.k9 (by simpa using h1); simp [z.1, z.2]
    · intro h1; rw [vput_ne (by decide)]; exact hW.c0 (by simpa using h1)
    · intro h1 h2; have z := hW.c1 (by simpa using h1) (by simpa using h2); exact ⟨by rw [vput_ne (by decide)]; exact z.1, z.2⟩
    · intro h1; rw [vput_ne (by decide)]; exact hW.c2 (by simpa using h1)
    · intro h1; rw [vput_ne (by decide)]; exact hW.c3 (by simpa using h1)
    · intro h1; rw [vput_ne (by decide)]; exact hW.c4 (by simpa using h1)
    · intro h1 h2; have z := hW.c5 (by simpa using h1) (by simpa using h2); exact ⟨by rw [vput_ne (by decide)]; exact z.1, z.2⟩
    · intro h1; rw [vput_ne (by decide)]; exact hW.c6 (by simpa using h1)
    · intro h1; rw [vput_ne (by decide)]; exact hW.c7 (by simpa using h1)
    · intro h1; have z := hW.c8 (by simpa using h1); exact ⟨by rw [vput_ne (by decide)]; exact z.1, z.2.1, z.2.2.1, fun h3 => z.2.2.2 (by simpa using h3)⟩
    · intro h1; have z := hW.c9 (by simpa using h1); exact ⟨by rw [vput_ne (by decide)]; exact z.1, z.2⟩
    · exact fun _ => vput_same (by omega)
  | 11, _ =>
    obtain ⟨g1, g2, g3, g4⟩ := hops.o11.get ho hrd
    have r : ∀ j, j < 11 → l j = true := fun j hj => (hlj j).symm.trans (g4 j (by simp; omega))
    obtain ⟨q1, q2, pv, cv, rfl⟩ := hI.c9 (r 9 (by omega))
    refine v_op ho g1 (v_store g3 g2 (hI.c10 (r 10 (by omega))) q1 ((World.cell?_of_block (a := ⟨b3, kb, none⟩) (hI.below.block b3 hb3)).trans hc3) ((World.frozen?_of_block (a := ⟨b3, kb, none⟩) (hI.below.block b3 hb3)).trans hf3) ?_)
    have el : ∀ j, j < 12 → (decide (j = 11) || l j) = true := fun j hj => by
      by_cases e : j = 11
      · simp [e]
      · simp [r j (by omega)]
    refine .inr ⟨el, pv, cv, b8, w, ⟨hI.size, hI.defers, hI.same, hI.below, fun _ => by simp [r 1 (by omega)], fun _ => by simp [r 5 (by omega), r 8 (by omega)], fun _ => hI.c0 (r 0 (by omega)), fun _ h => by simp [r 5 (by omega)] at h, fun _ => hI.c2 (r 2 (by omega)), fun _ => hI.c3 (r 3 (by omega)), fun _ => hI.c4 (r 4 (by omega)), fun _ h => by simp [r 9 (by omega)] at h, fun _ => hI.c6 (r 6 (by omega)), fun _ => hI.c7 (r 7 (by omega)), fun _ => ?_, fun _ => ⟨q1, q2, pv, cv, rfl⟩, fun _ => hI.c10 (r 10 (by omega))⟩, rfl⟩
    have z := hI.c8 (r 8 (by omega))
    exact ⟨z.1, z.2.1, z.2.2.1, fun _ => z.2.2.2 (r 1 (by omega))⟩
/-- Behind the region. -/
theorem t19_act (h : TI W a0 qv b3 kb nb x n xs v b8 l a w) (hs : 70 ≤ a0.tmps.size) : ∃ x59 x60 x61 x62 x63 x64 x65 x66 x67 x68 x69, a = ((((((((((a0.put (some 59) x59).put (some 60) x60).put (some 61) x61).put (some 62) x62).put (some 63) x63).put (some 64) x64).put (some 65) x65).put (some 66) x66).put (some 67) x67).put (some 68) x68).put (some 69) x69 := by
  have hz : 70 ≤ a.tmps.size := by rw [h.size]; exact hs
  have at' : ∀ k, k < 70 → ∃ x, a.tmps[k]? = some x := fun k hk => ⟨_, Array.getElem?_eq_getElem (by omega)⟩
  obtain ⟨x59, e59⟩ := at' 59 (by omega)
  obtain ⟨x60, e60⟩ := at' 60 (by omega)
  obtain ⟨x61, e61⟩ := at' 61 (by omega)
  obtain ⟨x62, e62⟩ := at' 62 (by omega)
  obtain ⟨x63, e63⟩ := at' 63 (by omega)
  obtain ⟨x64, e64⟩ := at' 64 (by omega)
  obtain ⟨x65, e65⟩ := at' 65 (by omega)
  obtain ⟨x66, e66⟩ := at' 66 (by omega)
  obtain ⟨x67, e67⟩ := at' 67 (by omega)
  obtain ⟨x68, e68⟩ := at' 68 (by omega)
  obtain ⟨x69, e69⟩ := at' 69 (by omega)
  refine ⟨x59, x60, x61, x62, x63, x64, x65, x66, x67, x68, x69, ?_⟩
  have ht : a.tmps = (((((((((((a0.put (some 59) x59).put (some 60) x60).put (some 61) x61).put (some 62) x62).put (some 63) x63).put (some 64) x64).put (some 65) x65).put (some 66) x66).put (some 67) x67).put (some 68) x68).put (some 69) x69).tmps := by
    refine Array.ext_getElem? fun k => ?_
    by_cases hk : vDst k = false
    · rw [vput_ne (by rintro rfl; cases hk), vput_ne (by rintro rfl; cases hk), vput_ne (by rintro rfl; cases hk), vput_ne (by rintro rfl; cases hk), vput_ne (by rintro rfl; cases hk), vput_ne (by rintro rfl; cases hk), vput_ne (by rintro rfl; cases hk), vput_ne (by rintro rfl; cases hk), vput_ne (by rintro rfl; cases hk), vput_ne (by rintro rfl; cases hk), vput_ne (by rintro rfl; cases hk)]
      exact h.same k hk
    · have hk' : k = 59 ∨ k = 60 ∨ k = 61 ∨ k = 62 ∨ k = 63 ∨ k = 64 ∨ k = 65 ∨ k = 66 ∨ k = 67 ∨ k = 68 ∨ k = 69 := by
        simp [vDst] at hk
        omega
      rcases hk' with rfl | rfl | rfl | rfl | rfl | rfl | rfl | rfl | rfl | rfl | rfl
      · rw [vput_ne (by decide), vput_ne (by decide), vput_ne (by decide), vput_ne (by decide), vput_ne (by decide), vput_ne (by decide), vput_ne (by decide), vput_ne (by decide), vput_ne (by decide), vput_ne (by decide), vput_same (by omega)]; exact e59
      · rw [vput_ne (by decide), vput_ne (by decide), vput_ne (by decide), vput_ne (by decide), vput_ne (by decide), vput_ne (by decide), vput_ne (by decide), vput_ne (by decide), vput_ne (by decide), vput_same (by simp only [vput_size]; omega)]; exact e60
      · rw [vput_ne (by decide), vput_ne (by decide), vput_ne (by decide), vput_ne (by decide), vput_ne (by decide), vput_ne (by decide), vput_ne (by decide), vput_ne (by decide), vput_same (by simp only [vput_size]; omega)]; exact e61
      · rw [vput_ne (by decide), vput_ne (by decide), vput_ne (by decide), vput_ne (by decide), vput_ne (by decide), vput_ne (by decide), vput_ne (by decide), vput_same (by simp only [vput_size]; omega)]; exact e62
      · rw [vput_ne (by decide), vput_ne (by decide), vput_ne (by decide), vput_ne (by decide), vput_ne (by decide), vput_ne (by decide), vput_same (by simp only [vput_size]; omega)]; exact e63
      · rw [vput_ne (by decide), vput_ne (by decide), vput_ne (by decide), vput_ne (by decide), vput_ne (by decide), vput_same (by simp only [vput_size]; omega)]; exact e64
      · rw [vput_ne (by decide), vput_ne (by decide), vput_ne (by decide), vput_ne (by decide), vput_same (by simp only [vput_size]; omega)]; exact e65
      · rw [vput_ne (by decide), vput_ne (by decide), vput_ne (by decide), vput_same (by simp only [vput_size]; omega)]; exact e66
      · rw [vput_ne (by decide), vput_ne (by decide), vput_same (by simp only [vput_size]; omega)]; exact e67
      · rw [vput_ne (by decide), vput_same (by simp only [vput_size]; omega)]; exact e68
      · rw [vput_same (by simp only [vput_size]; omega)]; exact e69
  have hd := h.defers
  cases a
  cases a0
  simp only [Act.put] at ht hd ⊢
  rw [ht, hd]
end
theorem region19 {id : Nat} {ops : Array Oper} {Q : Exit → Act → World → Prop} {a0 : Act} {W : World} {qv : Value} {b3 kb nb x : Nat} (hops : VOps ops) (hs : 70 ≤ a0.tmps.size) (h3 : a0.tmps[3]? = some (.pointer (some ⟨b3, 0, none⟩))) (h11 : a0.tmps[11]? = some (.pointer (some ⟨nb, 0, none⟩))) (h12 : a0.tmps[12]? = some (.int .i64 (kb : Int))) (hkb : kb < 2)
    (hb3 : b3 < W.heap.size) (hc3 : W.cell? ⟨b3, kb, none⟩ = some qv) (hf3 : W.frozen? ⟨b3, kb, none⟩ = false) (hnb : nb < W.heap.size) (hcx : W.cell? ⟨nb, 1, none⟩ = some (.int .u64 (x : Int))) {q : List Nat} (hq : WordsAt W qv q) (hqv : ∀ b, qv.ownBlock = some b → b < W.heap.size) (hn1 : q.length + 1 ≤ 1000000)
    (hK : ∀ (x59 x60 x61 x62 x63 x64 x65 x66 x67 x68 x69 : Value) (p : Option Addr) (c : Nat) (w1 : World), w1.ownsRow W.heap.size 25 1 (.slice p (q.length + 1) c) (q.length + 1) (encU (q ++ [x])) → Below W.heap.size W w1 → Q .normal (((((((((((a0.put (some 59) x59).put (some 60) x60).put (some 61) x61).put (some 62) x62).put (some 63) x63).put (some 64) x64).put (some 65) x65).put (some 66) x66).put (some 67) x67).put (some 68) x68).put (some 69) x69) (w1.setCell ⟨b3, kb, none⟩ (.slice p (q.length + 1) c))) :
    (Code.region id ops true).wp Tryz.prog Q a0 W := by
  refine wp_region_any (by kernel_rfl) (wpAny_inv (I := fun L a w => T19 W.drew a0 qv b3 kb nb x q.length (encU q) (fun j => L.getD j false) a w) (fun i o L a w ho hL hun hrd hI => t19_step (W := W.drew) hops hs h3 h11 h12 hkb hb3 hc3 hf3 hnb hcx (hq.kept (Kept.refl (fun _ => False) W).drew fun b hb => ⟨hqv b hb, fun h => h⟩) hqv rfl hn1 rfl i o L ho hL hun hrd hI) (fun L a w hL hr hI => ?_) ops.size _ _ _ (by simp) (leftOf_none _) (.inl ⟨by simp [Array.getD], undef, 0, rfl, rfl, fun _ _ => rfl, Below.refl _ _, ?_, ?_, ?_, ?_, ?_, ?_, ?_, ?_, ?_, ?_, ?_, ?_, ?_⟩))
  · have hall := all_done hr hops.old
    have hl : ∀ j, j < 12 → L.getD j false = true := fun j hj => by
      have h1 := hall j (by rw [hops.size]; exact hj)
      have h2 : j < L.size := by rw [hL, hops.size]; exact hj
      simp [Array.getD, h2] at h1 ⊢
      exact h1
    rcases hI with ⟨h0, -⟩ | ⟨-, p, c, b8, w1, hI, rfl⟩
    · have := hl 11 (by omega)
      simp only at h0
      rw [h0] at this
      cases this
    · obtain ⟨x59, x60, x61, x62, x63, x64, x65, x66, x67, x68, x69, ea⟩ := t19_act hI hs
      obtain ⟨-, f2, -⟩ := hI.c9 (hl 9 (by omega))
      rw [ea]
      refine hK x59 x60 x61 x62 x63 x64 x65 x66 x67 x68 x69 p c w1 ?_ ⟨hI.below.os, hI.below.tape, hI.below.output, hI.below.size, hI.below.block⟩
      rw [show encU (q ++ [x]) = encU q ++ [.int .u64 (x : Int)] by simp [encU]]
      exact f2
  all_goals simp [Array.getD]
end Go.Proofs.YtkpdacfiglpgeaaGreatDoor

/- Layer 29's laws: the model of two lists. -/
namespace Go.Proofs.YtkpdacfiglpgeaaGreatDoor
open Go.RowKit Bl Th
set_option maxRecDepth 10000

theorem wrap_natU {n : Nat} (h : n < 18446744073709551616) : IntKind.u64.wrap (n : Int) = (n : Int) := by
  show (n : Int) % 18446744073709551616 = _
  omega
theorem own_lower {w : World} {B B' n : Nat} {e : TypeId} {sz : Nat} {v : Value} {xs : List Value} (h : w.ownsRow B e sz v n xs) (hB : B' ≤ B) : w.ownsRow B' e sz v n xs := by
  refine ⟨h.1, h.2.imp_right ?_⟩
  rintro ⟨g, cap, cur, h1, h2, h3⟩
  exact ⟨g, cap, cur, h1, Nat.le_trans hB h2, h3⟩
theorem own_shape3 {w : World} {B n : Nat} {e : TypeId} {sz : Nat} {v : Value} {xs : List Value} (h : w.ownsRow B e sz v n xs) : ∃ p n' c, v = .slice p n' c := by
  rcases h.2 with ⟨h1, -⟩ | ⟨g, cap, cur, h1, -⟩
  · exact ⟨_, _, _, h1⟩
  · exact ⟨_, _, _, h1⟩
theorem mdl_nine {pl : Bool → Nat} {x : Nat} {b c : Bool} {r : Bool → List Nat} (hc : (if (r b).length = 0 then !b else b) = c) : mdl1 pl ⟨9, x, b⟩ r = match r c with
    | [] => none
    | y :: t => some ([y], updB r c t) := by
  unfold mdl1
  simp only [show ¬ ((9 : Int) = 0) by decide, show ¬ ((9 : Int) = 1 ∨ (9 : Int) = 2) by decide, show ¬ ((9 : Int) = 3) by decide, show ¬ ((9 : Int) = 4) by decide, show ¬ ((9 : Int) = 5) by decide, show ¬ ((9 : Int) = 6) by decide, show ¬ ((9 : Int) = 7) by decide, show ¬ ((9 : Int) = 8) by decide, if_false, if_true]
  cases hb : r b with
  | nil =>
    rw [hb] at hc
    simp only [List.length_nil, if_true] at hc
    subst hc
    rfl
  | cons y t =>
    rw [hb] at hc
    simp only [List.length_cons, Nat.add_one_ne_zero, if_false] at hc
    subst hc
    rw [hb]
theorem empty_q (w : World) : (w.alloc (.cells #[] 25)).ownsRow w.heap.size 25 1 (.slice (some ⟨w.heap.size, 0, none⟩) 0 0) 0 [] :=
  ⟨rfl, .inr ⟨w.heap.size, 0, #[], rfl, Nat.le_refl _, Cells.new w [] _, Nat.le_refl _, Nat.zero_le _, rfl, rfl⟩⟩
/-- All but the first one, in a list that was made anew. -/
theorem tail_q {w : World} {g n cap y : Nat} {t : List Nat} (h : WordsAt w (.slice (some ⟨g, 0, none⟩) n cap) (y :: t)) (hg : g < w.heap.size) (hn : n = t.length + 1) (hc : n ≤ cap) : WordsAt (w.alloc (.cells #[] 25)) (.slice (if cap = 1 then some ⟨g, 0, none⟩ else some ⟨g, 1, none⟩) (n - 1) (cap - 1)) t := by
  have h2 := (h.tail (if cap = 1 then some ⟨g, 0, none⟩ else some ⟨g, 1, none⟩) (cap - 1) (fun ht => by
    have := List.length_pos_iff.2 ht
    rw [if_neg (by omega)])).kept ((Kept.refl (fun _ => False) w).alloc (.cells #[] 25)) (fun b hb => by
    have : b = g := by
      split at hb <;> cases hb <;> rfl
    exact ⟨by omega, fun h => h⟩)
  rw [show n - 1 = t.length by omega]
  exact h2
theorem tail_new {w w6 : World} {p : Option Addr} {n c : Nat} {xs : List Value} (hgr : (w.alloc (.cells #[] 25)).grownBy w6 (Value.slice (some ⟨w.heap.size, 0, none⟩) 0 0).ownBlock) (hown : w6.ownsRow w.heap.size 25 1 (.slice p n c) n xs) : Below w.heap.size w w6 ∧ (∀ B, B ≤ w.heap.size → w6.ownsRow B 25 1 (.slice p n c) n xs) ∧ ∀ b, (Value.slice p n c).ownBlock = some b → w.heap.size ≤ b :=
  ⟨((((Kept.refl (fun b => w.heap.size ≤ b) w).alloc _).trans ((Kept.of_grown hgr).mono fun k _ e => by
    have : k = w.heap.size := Option.some.inj e
    omega)).below (Nat.le_refl _) fun k h1 h2 => by omega), fun B hB => own_lower hown hB, fun b hb => (hown.lt b hb).1⟩
theorem ModelM.old {v0 : Bool → Value} {W : World} {b3 : Nat} {w0 : World} {pl : Bool → Nat} {tlen : Nat} {told : List Nat} {vq : Bool → Value} {q : Bool → List Nat} {tv : Value} {wr : World} (h : ModelM v0 W b3 w0 pl tlen told vq q tv wr) (hW : W.heap.size ≤ w0.heap.size) : W.heap.size ≤ wr.heap.size := Nat.le_trans hW h.below.size
set_option maxHeartbeats 64000000 in
theorem model_ok {W w : World} {vq : Bool → Value} {q : Bool → List Nat} {pl : Bool → Nat} {l : List ActQ} {lp : Option Addr} {len lcap : Nat} (hb : Below W.heap.size W w) (hrows : ∀ j, w.ownsRow W.heap.size 25 1 (vq j) (q j).length (encU (q j))) (hpl : ∀ j, 1 ≤ pl j ∧ pl j ≤ 5) (hq : ∀ j, (q j).length ≤ pl j) (hl : ActsIn W w (.slice lp len lcap) [] l) (hlen : l.length = len) (hl10 : len ≤ 10) :
    Calls Tryz.prog 10 #[.agg #[vq false, vq true], .agg #[.int .i64 (pl false : Int), .int .i64 (pl true : Int)], .slice lp len lcap] w (ModelPost vq W w (mdl pl l [] q)) := by
  obtain ⟨res, hres⟩ : ∃ res, mdl pl l [] q = res := ⟨_, rfl⟩
  rw [hres]
  obtain ⟨p0, a0, hv0⟩ := ownsRow_shape (hrows false)
  obtain ⟨p1, a1, hv1⟩ := ownsRow_shape (hrows true)
  obtain ⟨n0, hn0⟩ : ∃ n0, (q false).length = n0 := ⟨_, rfl⟩
  obtain ⟨n1, hn1⟩ : ∃ n1, (q true).length = n1 := ⟨_, rfl⟩
  rw [hn0] at hv0
  rw [hn1] at hv1
  have HB := Lib.hid hb; have HROWS := Lib.hid hrows; have HPL := Lib.hid hpl; have HQ := Lib.hid hq; have HL := Lib.hid hl; have HLEN := Lib.hid hlen; have HRES := Lib.hid hres; have HV0 := Lib.hid hv0; have HV1 := Lib.hid hv1
  obtain ⟨b3, hb3⟩ : ∃ b3, w.heap.size = b3 := ⟨_, rfl⟩
  have B3 := (Below.refl w.heap.size w).alloc (Nat.le_refl _) (.cells #[vq false, vq true] 33)
  have C3 : Cells (w.alloc (.cells #[vq false, vq true] 33)) w.heap.size [vq false, vq true] 33 := Cells.new w [vq false, vq true] 33
  have z3 : (w.alloc (.cells #[vq false, vq true] 33)).heap.size = b3 + 1 := by simp [hb3]
  obtain ⟨w3, hw3⟩ : ∃ w3, w.alloc (.cells #[vq false, vq true] 33) = w3 := ⟨_, rfl⟩
  rw [hw3] at B3 C3 z3
  have B4 := (Below.refl w3.heap.size w3).alloc (Nat.le_refl _) (.cells #[.int .i64 (pl false : Int), .int .i64 (pl true : Int)] 37)
  have C4 : Cells (w3.alloc (.cells #[.int .i64 (pl false : Int), .int .i64 (pl true : Int)] 37)) w3.heap.size [.int .i64 (pl false : Int), .int .i64 (pl true : Int)] 37 := Cells.new w3 [.int .i64 (pl false : Int), .int .i64 (pl true : Int)] 37
  have z4 : (w3.alloc (.cells #[.int .i64 (pl false : Int), .int .i64 (pl true : Int)] 37)).heap.size = b3 + 1 + 1 := by simp [z3]
  obtain ⟨w4, hw4⟩ : ∃ w4, w3.alloc (.cells #[.int .i64 (pl false : Int), .int .i64 (pl true : Int)] 37) = w4 := ⟨_, rfl⟩
  rw [hw4] at B4 C4 z4
  have B7 := (Below.refl w4.heap.size w4).alloc (Nat.le_refl _) (.cells #[.slice none 0 0, .slice none 0 0] 33)
  have C7 : Cells (w4.alloc (.cells #[.slice none 0 0, .slice none 0 0] 33)) w4.heap.size [.slice none 0 0, .slice none 0 0] 33 := Cells.new w4 [.slice none 0 0, .slice none 0 0] 33
  have z7 : (w4.alloc (.cells #[.slice none 0 0, .slice none 0 0] 33)).heap.size = b3 + 3 := by simp [z4]
  obtain ⟨w7, hw7⟩ : ∃ w7, w4.alloc (.cells #[.slice none 0 0, .slice none 0 0] 33) = w7 := ⟨_, rfl⟩
  rw [hw7] at B7 C7 z7
  rw [hb3] at C3
  rw [z3] at C4
  rw [z4] at C7
  have b07 : Below w.heap.size w w7 := (B3.trans (B4.mono B3.size)).trans (B7.mono (Nat.le_trans B3.size B4.size))
  have hlt : ∀ j b, (vq j).ownBlock = some b → b < b3 := fun j b hb => by rw [← hb3]; exact ((hrows j).lt b hb).2
  have HJ : Hid (ModelJJ vq W b3 w pl l len res (.slice none 0 0) (.int .i64 0) w7) := Lib.hid ⟨0, 0, [], vq, q, Nat.zero_le _, rfl, ⟨(C3.heldBy (HeldBy.of_below (R := [b3]) B4 (by simp; omega)) (by simp)).heldBy (HeldBy.of_below (R := [b3]) B7 (by simp; omega)) (by simp), C4.heldBy (HeldBy.of_below (R := [b3 + 1]) B7 (by simp; omega)) (by simp), C7, fun j => ownsRow_kept (hrows j) (Kept.of_below b07) (fun b hb => by have := hlt j b hb; omega), World.ownsRow_nil _ _ _ _, rfl, fun j b hb => ⟨by simp [Value.ownBlock], by have := hlt j b hb; omega, by have := hlt j b hb; omega, by have := hlt j b hb; omega⟩, by simp [Value.ownBlock], hq, b07, by omega, fun j => .inl rfl⟩, Nat.zero_le _, by rw [← hres]; rfl⟩
  have HW3 := Lib.hid hw3; have HW4 := Lib.hid hw4; have HW7 := Lib.hid hw7; have HB3 := Lib.hid hb3; have HZ3 := Lib.hid z3; have HZ4 := Lib.hid z4
  rw [hv0, hv1] at HW3
  rw [hv0, hv1]
  clear hb hrows hpl hq hl hlen hres hv0 hv1 hn0 hn1 hb3 B3 C3 z3 hw3 B4 C4 z4 hw4 B7 C7 z7 hw7 b07 hlt
  go_enter Tryz.func10, Tryz.ntmps10
  go_wp2
  rw [HW3.out, HW4.out, HW7.out, HB3.out]
  go_loopg [9, 18] len (fun gk tv iv wr => (∃ k : Nat, iv = .int .i64 (k : Int) ∧ gk = len - k) ∧ ModelJJ vq W b3 w pl l len res tv iv wr)
  case atStart => exact ⟨⟨0, rfl, rfl⟩, HJ.out⟩
  case round =>
    clear HJ HROWS HQ HW3 HW4 HW7 HV0 HV1 HZ3 HZ4
    obtain ⟨⟨k', hk', rfl⟩, k, tlen, told, vr, r, hk, rfl, hj⟩ := hrel
    simp only [Value.int.injEq, true_and, Int.natCast_inj] at hk'
    subst hk'
    obtain ⟨tp, tcap, rfl⟩ := ownsRow_shape hj.m.row
    obtain ⟨c30, c31⟩ := (show wr.cell? ⟨b3, 0, none⟩ = some (vr false) ∧ wr.cell? ⟨b3, 1, none⟩ = some (vr true) from ⟨hj.m.c3.cell 0, hj.m.c3.cell 1⟩)
    obtain ⟨c40, c41⟩ := (show wr.cell? ⟨b3 + 1, 0, none⟩ = some (.int .i64 (pl false : Int)) ∧ wr.cell? ⟨b3 + 1, 1, none⟩ = some (.int .i64 (pl true : Int)) from ⟨hj.m.c4.cell 0, hj.m.c4.cell 1⟩)
    obtain ⟨c70, c71, f70, f71⟩ := (show wr.cell? ⟨b3 + 1 + 1, 0, none⟩ = some (.slice none 0 0) ∧ wr.cell? ⟨b3 + 1 + 1, 1, none⟩ = some (.slice none 0 0) ∧ wr.frozen? ⟨b3 + 1 + 1, 0, none⟩ = false ∧ wr.frozen? ⟨b3 + 1 + 1, 1, none⟩ = false from ⟨hj.m.c7.cell 0, hj.m.c7.cell 1, hj.m.c7.free 0, hj.m.c7.free 1⟩)
    obtain ⟨f30, f31⟩ := (show wr.frozen? ⟨b3, 0, none⟩ = false ∧ wr.frozen? ⟨b3, 1, none⟩ = false from ⟨hj.m.c3.free 0, hj.m.c3.free 1⟩)
    have HJ := Lib.hid hj
    by_cases hlt : k < len
    · have hlt' : (k : Int) < (len : Int) := by omega
      have hkl : k < l.length := by rw [HLEN.out]; exact hlt
      obtain ⟨a, hka⟩ : ∃ a, l[k]? = some a := ⟨l[k], List.getElem?_eq_getElem hkl⟩
      obtain ⟨ga, oa, rfl, a0, a1, a2, ax⟩ := (HL.out.heldBy (R := []) (w' := wr) ⟨hj.m.below.size, by simp⟩ (by simp)).at (HB.out.trans (hj.m.below.mono HB.out.size)) hka
      obtain ⟨kd, x, b⟩ := a
      simp only at a0 a1 a2 ax
      have BK := (Below.refl wr.heap.size wr).alloc (Nat.le_refl _) (.cells #[.int .i64 kd, .int .u64 (x : Int), .bool b] 92)
      have CK : Cells (wr.alloc (.cells #[.int .i64 kd, .int .u64 (x : Int), .bool b] 92)) wr.heap.size [.int .i64 kd, .int .u64 (x : Int), .bool b] 92 := Cells.new wr [.int .i64 kd, .int .u64 (x : Int), .bool b] 92
      obtain ⟨nb, hnb⟩ : ∃ nb, wr.heap.size = nb := ⟨_, rfl⟩
      obtain ⟨wk, hwk⟩ : ∃ wk, wr.alloc (.cells #[.int .i64 kd, .int .u64 (x : Int), .bool b] 92) = wk := ⟨_, rfl⟩
      rw [hwk] at BK CK
      rw [hnb] at CK
      have hjk := hj.m.under BK
      have HJK := Lib.hid hjk; have HKA := Lib.hid hka; have HAX := Lib.hid ax; have HCK := Lib.hid CK; have HWK := Lib.hid hwk; have HNB := Lib.hid hnb; have HBK := Lib.hid BK
      have k0 := CK.cell 0
      have k1 := CK.cell 1
      have k2 := CK.cell 2
      simp only [List.getElem?_cons_zero, List.getElem?_cons_succ] at k0 k1 k2
      clear hj hka ax CK BK hjk hkl f30 f31 c70 c71 f70 f71
      go_upto_region 5 with (fail)
      clear a0 a1 a2 c30 c31 c40 c41 hwk hnb
      iterate 11 go_step
      go_cut [12, 13] from 22 to 158 (fun s12 s13 wx => (s12 = .int .i64 ((bN b : Nat) : Int) ∧ s13 = .int .i64 ((bN (!b) : Nat) : Int)) ∧ wk = wx)
      case first =>
        cases b with
        | false =>
          go_wp2
          go_meet
          case rel => exact ⟨⟨rfl, rfl⟩, rfl⟩
        | true =>
          go_wp2
          go_meet
          case rel => exact ⟨⟨rfl, rfl⟩, rfl⟩
      case rest =>
        obtain ⟨⟨rfl, rfl⟩, rfl⟩ := hcut
        have hbl : bN b < 2 ∧ bN (!b) < 2 := by cases b <;> exact ⟨by decide, by decide⟩
        have hcb : wk.cell? ⟨b3, bN b, none⟩ = some (vr b) := by cases b <;> first | exact HJK.out.c3.cell 0 | exact HJK.out.c3.cell 1
        have hco : wk.cell? ⟨b3, bN (!b), none⟩ = some (vr (!b)) := by cases b <;> first | exact HJK.out.c3.cell 0 | exact HJK.out.c3.cell 1
        have hfb : wk.frozen? ⟨b3, bN b, none⟩ = false := by cases b <;> first | exact HJK.out.c3.free 0 | exact HJK.out.c3.free 1
        have hfo : wk.frozen? ⟨b3, bN (!b), none⟩ = false := by cases b <;> first | exact HJK.out.c3.free 0 | exact HJK.out.c3.free 1
        have hpb : wk.cell? ⟨b3 + 1, bN b, none⟩ = some (.int .i64 (pl b : Int)) := by cases b <;> first | exact HJK.out.c4.cell 0 | exact HJK.out.c4.cell 1
        have hpo : wk.cell? ⟨b3 + 1, bN (!b), none⟩ = some (.int .i64 (pl (!b) : Int)) := by cases b <;> first | exact HJK.out.c4.cell 0 | exact HJK.out.c4.cell 1
        obtain ⟨kb, hkb⟩ : ∃ kb, bN b = kb := ⟨_, rfl⟩
        obtain ⟨ko, hko⟩ : ∃ ko, bN (!b) = ko := ⟨_, rfl⟩
        rw [hkb] at hbl hcb hfb hpb
        rw [hko] at hbl hco hfo hpo
        rw [hkb, hko]
        obtain ⟨hb2, ho2⟩ := hbl
        obtain ⟨pv, cv, hvb⟩ := ownsRow_shape (HJK.out.rows b)
        obtain ⟨pw, cw, hvo⟩ := ownsRow_shape (HJK.out.rows (!b))
        obtain ⟨nB, hnB⟩ : ∃ nB, (r b).length = nB := ⟨_, rfl⟩
        obtain ⟨nO, hnO⟩ : ∃ nO, (r (!b)).length = nO := ⟨_, rfl⟩
        rw [hnB] at hvb
        rw [hnO] at hvo
        rw [hvb] at hcb
        rw [hvo] at hco
        obtain ⟨c, hc⟩ : ∃ c, (if kd = 9 ∧ nB = 0 then !b else b) = c := ⟨_, rfl⟩
        have HC := Lib.hid hc; have HNB' := Lib.hid hnB; have HNO := Lib.hid hnO; have HKB := Lib.hid hkb; have HKO := Lib.hid hko
        clear hc hnB hnO hkb hko hfb hfo hpb hpo hvb hvo
        iterate 22 go_step
        go_cut [12, 14] from 28 to 158 (fun s12 s14 wx => (s12 = .int .i64 ((bN c : Nat) : Int) ∧ s14 = .int .i64 (((r c).length : Nat) : Int)) ∧ wk = wx)
        case first =>
          by_cases hk9 : kd = 9
          · as_aux_lemma =>
              have g9 : (kd == 9) = true := by simp [hk9]
              by_cases hn0 : nB = 0
              · have g0 : ((nB : Int) == 0) = true := by simp [hn0]
                have hcc : (!b) = c := by rw [← HC.out, if_pos ⟨hk9, hn0⟩]
                have HR := Lib.hid (show ((ko : Int) = ((bN c : Nat) : Int) ∧ (nO : Int) = (((r c).length : Nat) : Int)) from by rw [← hcc, HKO.out, HNO.out]; exact ⟨rfl, rfl⟩)
                clear hk9 hcc
                go_wp2
                go_meet
                case rel => exact ⟨⟨by rw [HR.out.1], by rw [HR.out.2]⟩, rfl⟩
              · have g0 : ((nB : Int) == 0) = false := by simp [hn0]
                have hcc : b = c := by rw [← HC.out, if_neg (fun h => hn0 h.2)]
                have HR := Lib.hid (show ((kb : Int) = ((bN c : Nat) : Int) ∧ (nB : Int) = (((r c).length : Nat) : Int)) from by rw [← hcc, HKB.out, HNB'.out]; exact ⟨rfl, rfl⟩)
                clear hk9 hcc
                go_wp2
                go_meet
                case rel => exact ⟨⟨by rw [HR.out.1], by rw [HR.out.2]⟩, rfl⟩
          · have g9 : (kd == 9) = false := by simp [hk9]
            have hcc : b = c := by rw [← HC.out, if_neg (fun h => hk9 h.1)]
            have HR := Lib.hid (show ((kb : Int) = ((bN c : Nat) : Int) ∧ (nB : Int) = (((r c).length : Nat) : Int)) from by rw [← hcc, HKB.out, HNB'.out]; exact ⟨rfl, rfl⟩)
            clear hk9 hcc
            go_wp2
            go_meet
            case rel => exact ⟨⟨by rw [HR.out.1], by rw [HR.out.2]⟩, rfl⟩
        case rest =>
          obtain ⟨⟨rfl, rfl⟩, rfl⟩ := hcut
          obtain ⟨pc, cc, hvc⟩ := ownsRow_shape (HJK.out.rows c)
          obtain ⟨nC, hnC⟩ : ∃ nC, (r c).length = nC := ⟨_, rfl⟩
          have hkc2 : bN c < 2 := by cases c <;> decide
          have hcx : wk.cell? ⟨b3, bN c, none⟩ = some (vr c) := by cases c <;> first | exact HJK.out.c3.cell 0 | exact HJK.out.c3.cell 1
          have hfx : wk.frozen? ⟨b3, bN c, none⟩ = false := by cases c <;> first | exact HJK.out.c3.free 0 | exact HJK.out.c3.free 1
          have hpx : wk.cell? ⟨b3 + 1, bN c, none⟩ = some (.int .i64 (pl c : Int)) := by cases c <;> first | exact HJK.out.c4.cell 0 | exact HJK.out.c4.cell 1
          obtain ⟨kc, hkc⟩ : ∃ kc, bN c = kc := ⟨_, rfl⟩
          rw [hnC] at hvc
          rw [hkc] at hkc2 hcx hfx hpx
          rw [hvc] at hcx
          rw [hkc, hnC]
          have hnc5 : nC ≤ 5 := by have := HJK.out.lens c; have := (HPL.out c).2; omega
          have hmc5 : pl c ≤ 5 := (HPL.out c).2
          have HVC := Lib.hid hvc; have HNC := Lib.hid hnC; have HKC := Lib.hid hkc
          have HRW := Lib.hid HJK.out.row
          have hbs := HJK.out.below.size
          have htl : tlen + 5 ≤ 1000000 := by have := HJ.out.few; omega
          have hb3l : b3 < wk.heap.size := HJK.out.c3.lt
          have hnbl : nb < wk.heap.size := HCK.out.lt
          have hnb3 : b3 < nb := by rw [← HNB.out]; exact HJ.out.m.c3.lt
          have HN3 := Lib.hid hnb3
          have HTV := Lib.hid (show (Value.slice tp tlen tcap).ownBlock ≠ some nb from fun e => by have := (HJ.out.m.row.lt _ e).2; rw [HNB.out] at this; omega)
          clear hvc hnC hkc hcb hco
          by_cases hk0 : kd = 0
          · as_aux_lemma =>
              have g0 : (kd == 0) = true := by simp [hk0]
              have gt := wrap_natU (show nC < 18446744073709551616 by omega)
              have hcb : b = c := by rw [← HC.out, if_neg (fun h => by omega)]
              have HM1 := Lib.hid (show mdl1 pl ⟨kd, x, b⟩ r = some ([nC], r) by unfold mdl1; rw [if_pos hk0, hcb]; simp only [HNC.out])
              clear hk0 hcb
              go_wp2_with (first
                | (at_builtin; refine wpList_append_any rfl _ _ rfl (v := .slice tp tlen tcap) rfl (HRW.out.alloc _) rfl (WordsAt.one wk nC) (by simp; omega) (by simp; omega) ?_; intro p5 c5 w5 hown5 hgrow5 hat5; have HO5 := Lib.hid hown5; have HG5 := Lib.hid (((Kept.refl _ wk).alloc _).trans (Kept.of_grown hgrow5)); have HA5 := Lib.hid hat5; clear hown5 hgrow5 hat5)
                | go_in)
              have HX := Lib.hid (HJ.out.next HKA.out HM1.out (by simp) (HJK.out.say HG5.out HO5.out (HA5.out.imp_right fun q => ⟨_, q, by simp⟩)))
              go_roundg (len - (k + 1))
              case rel => exact ⟨⟨k + 1, by simp, rfl⟩, k + 1, _, _, vr, r, by omega, by simp, HX.out⟩
              case measure => omega
          have g0 : (kd == 0) = false := by simp [hk0]
          by_cases hk12 : kd = 1 ∨ kd = 2
          · as_aux_lemma =>
              have hcb : b = c := by rw [← HC.out, if_neg (fun h => by omega)]
              by_cases hfull : nC = pl c
              · have HRS := Lib.hid (HJ.out.stop HKA.out (show mdl1 pl ⟨kd, x, b⟩ r = none by unfold mdl1; rw [if_neg hk0, if_pos hk12, hcb, if_pos (by rw [HNC.out]; exact hfull)]))
                have gf : ((nC : Int) == (pl c : Int)) = true := by simp [hfull]
                have HMR := HJK
                clear hcb
                rcases hk12 with hk | hk
                · have g1 : (kd == 1) = true := by simp [hk]
                  clear hk hfull
                  obtain ⟨pr0, nr0, ar0, hr0⟩ := own_shape3 (HMR.out.rows false)
                  obtain ⟨pr1, nr1, ar1, hr1⟩ := own_shape3 (HMR.out.rows true)
                  have cr0 := HMR.out.c3.cell 0
                  have cr1 := HMR.out.c3.cell 1
                  simp only [List.getElem?_cons_zero, List.getElem?_cons_succ] at cr0 cr1
                  rw [hr0] at cr0
                  rw [hr1] at cr1
                  obtain ⟨cr70, cr71, fr70, fr71⟩ := (show _ ∧ _ ∧ _ ∧ _ from ⟨HMR.out.c7.cell 0, HMR.out.c7.cell 1, HMR.out.c7.free 0, HMR.out.c7.free 1⟩)
                  simp only [List.getElem?_cons_zero, List.getElem?_cons_succ] at cr70 cr71
                  have HR0 := Lib.hid hr0; have HR1 := Lib.hid hr1
                  clear hr0 hr1
                  go_wp2
                  go_still_tail 3, (by kernel_rfl)
                  go_wp2
                  refine bodyPost_ret (v := .tuple #[.slice tp tlen tcap, .agg #[.slice pr0 nr0 ar0, .slice pr1 nr1 ar1], .bool false]) (by simp [results, Tryz.results10, go_sem, cr70, cr71]) rfl ?_
                  rw [← HR0.out, ← HR1.out]
                  exact HMR.out.fin HRS.out (fun h => by cases h)
                · have g1 : (kd == 1) = false := by simp [hk]
                  have g2 : (kd == 2) = true := by simp [hk]
                  clear hk hfull
                  obtain ⟨pr0, nr0, ar0, hr0⟩ := own_shape3 (HMR.out.rows false)
                  obtain ⟨pr1, nr1, ar1, hr1⟩ := own_shape3 (HMR.out.rows true)
                  have cr0 := HMR.out.c3.cell 0
                  have cr1 := HMR.out.c3.cell 1
                  simp only [List.getElem?_cons_zero, List.getElem?_cons_succ] at cr0 cr1
                  rw [hr0] at cr0
                  rw [hr1] at cr1
                  obtain ⟨cr70, cr71, fr70, fr71⟩ := (show _ ∧ _ ∧ _ ∧ _ from ⟨HMR.out.c7.cell 0, HMR.out.c7.cell 1, HMR.out.c7.free 0, HMR.out.c7.free 1⟩)
                  simp only [List.getElem?_cons_zero, List.getElem?_cons_succ] at cr70 cr71
                  have HR0 := Lib.hid hr0; have HR1 := Lib.hid hr1
                  clear hr0 hr1
                  go_wp2
                  go_still_tail 3, (by kernel_rfl)
                  go_wp2
                  refine bodyPost_ret (v := .tuple #[.slice tp tlen tcap, .agg #[.slice pr0 nr0 ar0, .slice pr1 nr1 ar1], .bool false]) (by simp [results, Tryz.results10, go_sem, cr70, cr71]) rfl ?_
                  rw [← HR0.out, ← HR1.out]
                  exact HMR.out.fin HRS.out (fun h => by cases h)
              · have HM1 := Lib.hid (show mdl1 pl ⟨kd, x, b⟩ r = some ([], updB r c (r c ++ [x])) by unfold mdl1; rw [if_neg hk0, if_pos hk12, hcb, if_neg (by rw [HNC.out]; exact hfull)])
                have HLC := Lib.hid (show nC + 1 ≤ pl c by have := HJK.out.lens c; rw [HNC.out] at this; omega)
                have gf : ((nC : Int) == (pl c : Int)) = false := by simp; omega
                clear hcb
                rcases hk12 with hk | hk
                · have g1 : (kd == 1) = true := by simp [hk]
                  clear hk hfull
                  go_upto_region 19 with (fail)
                  refine region19 (q := r c) (kb := kc) (x := x) ⟨rfl, by kernel_rfl, ⟨⟨_, rfl, rfl, rfl, rfl, by kernel_rfl⟩⟩, ⟨⟨_, rfl, rfl, rfl, rfl, by kernel_rfl⟩⟩, ⟨⟨_, rfl, rfl, rfl, rfl, by kernel_rfl⟩⟩, ⟨⟨_, rfl, rfl, rfl, rfl, by kernel_rfl⟩⟩, ⟨⟨_, rfl, rfl, rfl, rfl, by kernel_rfl⟩⟩, ⟨⟨_, rfl, rfl, rfl, rfl, by kernel_rfl⟩⟩, ⟨⟨_, rfl, rfl, rfl, rfl, by kernel_rfl⟩⟩, ⟨⟨_, rfl, rfl, rfl, rfl, by kernel_rfl⟩⟩, ⟨⟨_, rfl, rfl, rfl, rfl, by kernel_rfl⟩⟩, ⟨⟨_, rfl, rfl, rfl, rfl, by kernel_rfl⟩⟩, ⟨⟨_, rfl, rfl, rfl, rfl, by kernel_rfl⟩⟩, ⟨⟨_, rfl, rfl, rfl, rfl, by kernel_rfl⟩⟩⟩ (by simp) rfl rfl rfl hkc2 hb3l hcx hfx hnbl k1 (by
                    have := WordsAt.row (HJK.out.rows c)
                    rw [HVC.out] at this
                    exact this) (fun g hg => by
                    have := HJK.out.rows c
                    rw [HVC.out] at this
                    exact (this.lt g hg).2) (by rw [HNC.out]; omega) ?_
                  intro x59 x60 x61 x62 x63 x64 x65 x66 x67 x68 x69 pq cq w6 hrow6 hb6
                  simp only [Act.put, List.setIfInBounds_toArray, List.set_cons_zero, List.set_cons_succ]
                  have hlen6 : (r c).length + 1 = (r c ++ [x]).length := by simp
                  rw [hlen6] at hrow6 ⊢
                  have HX := Lib.hid (HJ.out.next HKA.out HM1.out (by simp) (show ModelM vq W b3 w pl (tlen + ([] : List Nat).length) (told ++ []) _ _ _ _ from by
                    rw [List.append_nil]
                    exact HJK.out.put (c := c) hb6 (own_lower hrow6 (HJK.out.old HB.out.size)) (fun g hg => (hrow6.lt g hg).1) (by have := HLC.out; rw [List.length_append, HNC.out]; exact this)))
                  rw [HKC.out] at HX
                  obtain ⟨w8, hw8⟩ : ∃ w8, w6.setCell ⟨b3, kc, none⟩ (.slice pq (r c ++ [x]).length cq) = w8 := ⟨_, rfl⟩
                  rw [hw8] at HX ⊢
                  clear hrow6 hb6 hlen6 hw8 hcx hfx hpx hb3l hnbl k0 k1 k2
                  go_wp2
                  go_roundg (len - (k + 1))
                  case rel => exact ⟨⟨k + 1, by simp, rfl⟩, k + 1, _, _, _, _, by omega, by simp, HX.out⟩
                  case measure => omega
                · have g1 : (kd == 1) = false := by simp [hk]
                  have g2 : (kd == 2) = true := by simp [hk]
                  clear hk hfull
                  go_upto_region 19 with (fail)
                  refine region19 (q := r c) (kb := kc) (x := x) ⟨rfl, by kernel_rfl, ⟨⟨_, rfl, rfl, rfl, rfl, by kernel_rfl⟩⟩, ⟨⟨_, rfl, rfl, rfl, rfl, by kernel_rfl⟩⟩, ⟨⟨_, rfl, rfl, rfl, rfl, by kernel_rfl⟩⟩, ⟨⟨_, rfl, rfl, rfl, rfl, by kernel_rfl⟩⟩, ⟨⟨_, rfl, rfl, rfl, rfl, by kernel_rfl⟩⟩, ⟨⟨_, rfl, rfl, rfl, rfl, by kernel_rfl⟩⟩, ⟨⟨_, rfl, rfl, rfl, rfl, by kernel_rfl⟩⟩, ⟨⟨_, rfl, rfl, rfl, rfl, by kernel_rfl⟩⟩, ⟨⟨_, rfl, rfl, rfl, rfl, by kernel_rfl⟩⟩, ⟨⟨_, rfl, rfl, rfl, rfl, by kernel_rfl⟩⟩, ⟨⟨_, rfl, rfl, rfl, rfl, by kernel_rfl⟩⟩, ⟨⟨_, rfl, rfl, rfl, rfl, by kernel_rfl⟩⟩⟩ (by simp) rfl rfl rfl hkc2 hb3l hcx hfx hnbl k1 (by
                    have := WordsAt.row (HJK.out.rows c)
                    rw [HVC.out] at this
                    exact this) (fun g hg => by
                    have := HJK.out.rows c
                    rw [HVC.out] at this
                    exact (this.lt g hg).2) (by rw [HNC.out]; omega) ?_
                  intro x59 x60 x61 x62 x63 x64 x65 x66 x67 x68 x69 pq cq w6 hrow6 hb6
                  simp only [Act.put, List.setIfInBounds_toArray, List.set_cons_zero, List.set_cons_succ]
                  have hlen6 : (r c).length + 1 = (r c ++ [x]).length := by simp
                  rw [hlen6] at hrow6 ⊢
                  have HX := Lib.hid (HJ.out.next HKA.out HM1.out (by simp) (show ModelM vq W b3 w pl (tlen + ([] : List Nat).length) (told ++ []) _ _ _ _ from by
                    rw [List.append_nil]
                    exact HJK.out.put (c := c) hb6 (own_lower hrow6 (HJK.out.old HB.out.size)) (fun g hg => (hrow6.lt g hg).1) (by have := HLC.out; rw [List.length_append, HNC.out]; exact this)))
                  rw [HKC.out] at HX
                  obtain ⟨w8, hw8⟩ : ∃ w8, w6.setCell ⟨b3, kc, none⟩ (.slice pq (r c ++ [x]).length cq) = w8 := ⟨_, rfl⟩
                  rw [hw8] at HX ⊢
                  clear hrow6 hb6 hlen6 hw8 hcx hfx hpx hb3l hnbl k0 k1 k2
                  go_wp2
                  go_roundg (len - (k + 1))
                  case rel => exact ⟨⟨k + 1, by simp, rfl⟩, k + 1, _, _, _, _, by omega, by simp, HX.out⟩
                  case measure => omega
          have g1 : (kd == 1) = false := by simp; omega
          have g2 : (kd == 2) = false := by simp; omega
          have hlc : nC ≤ pl c := by have := HJK.out.lens c; rw [HNC.out] at this; exact this
          have hcon : ∀ c', kd ≠ 9 → (if kd = 9 ∧ nB = 0 then !b else b) = c' → b = c' := fun c' h e => by rw [← e, if_neg (fun q => h q.1)]
          by_cases hk3 : kd = 3
          · as_aux_lemma =>
              have g3 : (kd == 3) = true := by simp [hk3]
              have g3' : (kd != 3) = false := by simp [hk3]
              have g8 : (kd == 8) = false := by simp [hk3]
              have g8' : (kd != 8) = true := by simp [hk3]
              have hcb : b = c := hcon c (by omega) HC.out
              cases hrc : r c with
              | nil =>
                have HRS := Lib.hid (HJ.out.stop HKA.out (show mdl1 pl ⟨kd, x, b⟩ r = none by unfold mdl1; simp [hk3, hcb, hrc]))
                have gf0 : ((nC : Int) == 0) = true := by rw [← HNC.out, hrc]; rfl
                have HMR := HJK
                clear hcb hk3 hk0 hk12 hrc hcon
                obtain ⟨pr0, nr0, ar0, hr0⟩ := own_shape3 (HMR.out.rows false)
                obtain ⟨pr1, nr1, ar1, hr1⟩ := own_shape3 (HMR.out.rows true)
                have cr0 := HMR.out.c3.cell 0
                have cr1 := HMR.out.c3.cell 1
                simp only [List.getElem?_cons_zero, List.getElem?_cons_succ] at cr0 cr1
                rw [hr0] at cr0
                rw [hr1] at cr1
                obtain ⟨cr70, cr71, fr70, fr71⟩ := (show _ ∧ _ ∧ _ ∧ _ from ⟨HMR.out.c7.cell 0, HMR.out.c7.cell 1, HMR.out.c7.free 0, HMR.out.c7.free 1⟩)
                simp only [List.getElem?_cons_zero, List.getElem?_cons_succ] at cr70 cr71
                have HR0 := Lib.hid hr0; have HR1 := Lib.hid hr1
                clear hr0 hr1
                go_wp2
                go_still_tail 3, (by kernel_rfl)
                go_wp2
                refine bodyPost_ret (v := .tuple #[.slice tp tlen tcap, .agg #[.slice pr0 nr0 ar0, .slice pr1 nr1 ar1], .bool false]) (by simp [results, Tryz.results10, go_sem, cr70, cr71]) rfl ?_
                rw [← HR0.out, ← HR1.out]
                exact HMR.out.fin HRS.out (fun h => by cases h)
              | cons y t =>
                have HM1 := Lib.hid (show mdl1 pl ⟨kd, x, b⟩ r = some ([y], r) by unfold mdl1; simp [hk3, hcb, hrc])
                clear hcb hk3 hk0 hk12 hcon
                have hnt : nC = t.length + 1 := by rw [← HNC.out, hrc]; rfl
                have hn0 : ¬ nC = 0 := by omega
                have gf0 : ((nC : Int) == 0) = false := by simp [hn0]
                have hrw : wk.ownsRow W.heap.size 25 1 (.slice pc nC cc) nC (encU (y :: t)) := by
                  have := HJK.out.rows c
                  rw [HVC.out, HNC.out, hrc] at this
                  exact this
                obtain ⟨g, rfl, gy, hcc, hcm⟩ := row_head hrw
                unfold maxLen at hcm
                have hn1 : 0 < nC := by omega
                have hRT := WordsAt.row (HJK.out.rows c)
                rw [HVC.out, hrc] at hRT
                have HRT := Lib.hid hRT; have HRC := Lib.hid hrc
                have hgo : g < wk.heap.size := (hrw.lt g rfl).2
                have hgo2 : (Value.slice tp tlen tcap).ownBlock ≠ some g := (HJK.out.apart c g (by rw [HVC.out]; rfl)).1
                have HNT := Lib.hid hnt
                clear hRT hrc hrw hn0 hnt
                go_wp2_with (first
                  | (at_builtin; (refine wpList_append_any rfl _ _ rfl (v := .slice tp tlen tcap) rfl (HRW.out.alloc _) rfl (WordsAt.one wk y) (by rw [List.length_singleton]; omega) (Nat.le_trans hbs (by simp)) ?_; intro p5 c5 w5 hown5 hgrow5 hat5; have hg5 := ((Kept.refl _ wk).alloc (.cells #[.int .u64 (y : Int)] 25)).trans (Kept.of_grown hgrow5); have hm5 := HJK.out.say hg5 hown5 (hat5.imp_right fun q => ⟨_, q, by simp⟩); have HM5 := Lib.hid hm5; have hcx5 : w5.cell? ⟨b3, kc, none⟩ = some (.slice (some ⟨g, 0, none⟩) nC cc) := (World.cell?_of_block (a := ⟨b3, kc, none⟩) (hg5.block b3 hb3l (fun e => HJK.out.apartT _ e.symm |>.1 rfl))).trans hcx; have hfx5 : w5.frozen? ⟨b3, kc, none⟩ = false := (World.frozen?_of_block (a := ⟨b3, kc, none⟩) (hg5.block b3 hb3l (fun e => HJK.out.apartT _ e.symm |>.1 rfl))).trans hfx; have k05 : w5.cell? ⟨nb, 0, none⟩ = some (.int .i64 kd) := (World.cell?_of_block (a := ⟨nb, 0, none⟩) (hg5.block nb hnbl (fun e => HTV.out e.symm))).trans k0; have HB5 := Lib.hid (show wk.heap.size ≤ w5.heap.size from hg5.size); have hb5 : b3 < w5.heap.size := Nat.lt_of_lt_of_le hb3l hg5.size; have hb5' : ¬ b3 = w5.heap.size := Nat.ne_of_lt hb5; have hn5' : ¬ nb = w5.heap.size := Nat.ne_of_lt (Nat.lt_of_lt_of_le hnbl hg5.size); have hca5 : (w5.alloc (.cells #[] 25)).cell? ⟨b3, kc, none⟩ = some (.slice (some ⟨g, 0, none⟩) nC cc) := (World.cell?_of_block (a := ⟨b3, kc, none⟩) (Below.heap_alloc w5 _ b3 hb5)).trans hcx5; have HRT5 := Lib.hid (HRT.out.kept hg5 (fun b hb => by cases hb; exact ⟨hgo, fun e => hgo2 e.symm⟩)); clear hown5 hgrow5 hat5 hg5 hm5 k0 hcx hfx))
                  | go_in)
                all_goals
                  have HX := Lib.hid (HJ.out.next HKA.out HM1.out (by simp) HM5.out)
                  go_roundg (len - (k + 1))
                  case rel => exact ⟨⟨k + 1, by simp, rfl⟩, k + 1, _, _, _, _, by omega, by simp, HX.out⟩
                  case measure => omega
          have g3 : (kd == 3) = false := by simp [hk3]
          have g3' : (kd != 3) = true := by simp [hk3]
          by_cases hk4 : kd = 4
          · as_aux_lemma =>
              have g4 : (kd == 4) = true := by simp [hk4]
              have g8 : (kd == 8) = false := by simp [hk4]
              have g8' : (kd != 8) = true := by simp [hk4]
              have hcb : b = c := hcon c (by omega) HC.out
              cases hrc : r c with
              | nil =>
                have HRS := Lib.hid (HJ.out.stop HKA.out (show mdl1 pl ⟨kd, x, b⟩ r = none by unfold mdl1; simp [hk4, hcb, hrc]))
                have gf0 : ((nC : Int) == 0) = true := by rw [← HNC.out, hrc]; rfl
                have HMR := HJK
                clear hcb hk4 hk3 hk0 hk12 hrc hcon
                obtain ⟨pr0, nr0, ar0, hr0⟩ := own_shape3 (HMR.out.rows false)
                obtain ⟨pr1, nr1, ar1, hr1⟩ := own_shape3 (HMR.out.rows true)
                have cr0 := HMR.out.c3.cell 0
                have cr1 := HMR.out.c3.cell 1
                simp only [List.getElem?_cons_zero, List.getElem?_cons_succ] at cr0 cr1
                rw [hr0] at cr0
                rw [hr1] at cr1
                obtain ⟨cr70, cr71, fr70, fr71⟩ := (show _ ∧ _ ∧ _ ∧ _ from ⟨HMR.out.c7.cell 0, HMR.out.c7.cell 1, HMR.out.c7.free 0, HMR.out.c7.free 1⟩)
                simp only [List.getElem?_cons_zero, List.getElem?_cons_succ] at cr70 cr71
                have HR0 := Lib.hid hr0; have HR1 := Lib.hid hr1
                clear hr0 hr1
                go_wp2
                go_still_tail 3, (by kernel_rfl)
                go_wp2
                refine bodyPost_ret (v := .tuple #[.slice tp tlen tcap, .agg #[.slice pr0 nr0 ar0, .slice pr1 nr1 ar1], .bool false]) (by simp [results, Tryz.results10, go_sem, cr70, cr71]) rfl ?_
                rw [← HR0.out, ← HR1.out]
                exact HMR.out.fin HRS.out (fun h => by cases h)
              | cons y t =>
                have HM1 := Lib.hid (show mdl1 pl ⟨kd, x, b⟩ r = some ([y], updB r c t) by unfold mdl1; simp [hk4, hcb, hrc])
                clear hcb hk4 hk3 hk0 hk12 hcon
                have hnt : nC = t.length + 1 := by rw [← HNC.out, hrc]; rfl
                have hn0 : ¬ nC = 0 := by omega
                have gf0 : ((nC : Int) == 0) = false := by simp [hn0]
                have hrw : wk.ownsRow W.heap.size 25 1 (.slice pc nC cc) nC (encU (y :: t)) := by
                  have := HJK.out.rows c
                  rw [HVC.out, HNC.out, hrc] at this
                  exact this
                obtain ⟨g, rfl, gy, hcc, hcm⟩ := row_head hrw
                unfold maxLen at hcm
                have hn1 : 0 < nC := by omega
                have hRT := WordsAt.row (HJK.out.rows c)
                rw [HVC.out, hrc] at hRT
                have HRT := Lib.hid hRT; have HRC := Lib.hid hrc
                have hgo : g < wk.heap.size := (hrw.lt g rfl).2
                have hgo2 : (Value.slice tp tlen tcap).ownBlock ≠ some g := (HJK.out.apart c g (by rw [HVC.out]; rfl)).1
                have HNT := Lib.hid hnt
                clear hRT hrc hrw hn0 hnt
                go_wp2_with (first
                  | (at_builtin; (refine wpList_append_any (news := t) rfl _ _ rfl (v := .slice (some ⟨w5.heap.size, 0, none⟩) 0 0) rfl (empty_q w5) rfl (by simp [Act.eval]; exact tail_q HRT5.out (Nat.lt_of_lt_of_le hgo HB5.out) HNT.out hcc) (by rw [Nat.zero_add]; have := HNT.out; omega) (by simp) ?_; intro p6 c6 w6 hown6 hgrow6 _hat6; simp only [Nat.zero_add, List.nil_append] at hown6 ⊢; obtain ⟨hb6, hown6', hn6⟩ := tail_new hgrow6 hown6; have hm6 := HM5.out.under hb6; have hcx6 : w6.cell? ⟨b3, kc, none⟩ = some (.slice (some ⟨g, 0, none⟩) nC cc) := (World.cell?_of_block (a := ⟨b3, kc, none⟩) (hb6.block b3 hb5)).trans hcx5; have hfx6 : w6.frozen? ⟨b3, kc, none⟩ = false := (World.frozen?_of_block (a := ⟨b3, kc, none⟩) (hb6.block b3 hb5)).trans hfx5; have k06 : w6.cell? ⟨nb, 0, none⟩ = some (.int .i64 kd) := (World.cell?_of_block (a := ⟨nb, 0, none⟩) (hb6.block nb (Nat.lt_of_lt_of_le hnbl HB5.out))).trans k05; have HM6 := Lib.hid (fun hl => HM5.out.put (c := c) hb6 (l' := t) (hown6' _ (HM5.out.old HB.out.size)) hn6 hl); clear hown6 hgrow6 hb6 hown6' hn6 hm6 k05 hcx5 hfx5 hca5))
                  | (at_builtin; (refine wpList_append_any rfl _ _ rfl (v := .slice tp tlen tcap) rfl (HRW.out.alloc _) rfl (WordsAt.one wk y) (by rw [List.length_singleton]; omega) (Nat.le_trans hbs (by simp)) ?_; intro p5 c5 w5 hown5 hgrow5 hat5; have hg5 := ((Kept.refl _ wk).alloc (.cells #[.int .u64 (y : Int)] 25)).trans (Kept.of_grown hgrow5); have hm5 := HJK.out.say hg5 hown5 (hat5.imp_right fun q => ⟨_, q, by simp⟩); have HM5 := Lib.hid hm5; have hcx5 : w5.cell? ⟨b3, kc, none⟩ = some (.slice (some ⟨g, 0, none⟩) nC cc) := (World.cell?_of_block (a := ⟨b3, kc, none⟩) (hg5.block b3 hb3l (fun e => HJK.out.apartT _ e.symm |>.1 rfl))).trans hcx; have hfx5 : w5.frozen? ⟨b3, kc, none⟩ = false := (World.frozen?_of_block (a := ⟨b3, kc, none⟩) (hg5.block b3 hb3l (fun e => HJK.out.apartT _ e.symm |>.1 rfl))).trans hfx; have k05 : w5.cell? ⟨nb, 0, none⟩ = some (.int .i64 kd) := (World.cell?_of_block (a := ⟨nb, 0, none⟩) (hg5.block nb hnbl (fun e => HTV.out e.symm))).trans k0; have HB5 := Lib.hid (show wk.heap.size ≤ w5.heap.size from hg5.size); have hb5 : b3 < w5.heap.size := Nat.lt_of_lt_of_le hb3l hg5.size; have hb5' : ¬ b3 = w5.heap.size := Nat.ne_of_lt hb5; have hn5' : ¬ nb = w5.heap.size := Nat.ne_of_lt (Nat.lt_of_lt_of_le hnbl hg5.size); have hca5 : (w5.alloc (.cells #[] 25)).cell? ⟨b3, kc, none⟩ = some (.slice (some ⟨g, 0, none⟩) nC cc) := (World.cell?_of_block (a := ⟨b3, kc, none⟩) (Below.heap_alloc w5 _ b3 hb5)).trans hcx5; have HRT5 := Lib.hid (HRT.out.kept hg5 (fun b hb => by cases hb; exact ⟨hgo, fun e => hgo2 e.symm⟩)); clear hown5 hgrow5 hat5 hg5 hm5 k0 hcx hfx))
                  | go_in)
                all_goals
                  have HX := Lib.hid (HJ.out.next HKA.out HM1.out (by simp) (HM6.out (by have := HNT.out; omega)))
                  rw [HKC.out] at HX
                  go_roundg (len - (k + 1))
                  case rel => exact ⟨⟨k + 1, by simp, rfl⟩, k + 1, _, _, _, _, by omega, by simp, HX.out⟩
                  case measure => omega
          have g4 : (kd == 4) = false := by simp [hk4]
          by_cases hk9 : kd = 9
          · as_aux_lemma =>
              have g8 : (kd == 8) = false := by simp [hk9]
              have g8' : (kd != 8) = true := by simp [hk9]
              have g9 : (kd == 9) = true := by simp [hk9]
              have hn9 := mdl_nine (pl := pl) (x := x) (r := r) (b := b) (c := c) (by have := HC.out; rw [HNB'.out]; simpa [hk9] using this)
              cases hrc : r c with
              | nil =>
                have HRS := Lib.hid (HJ.out.stop HKA.out (show mdl1 pl ⟨kd, x, b⟩ r = none by rw [hk9, hn9, hrc]))
                have gf0 : ((nC : Int) == 0) = true := by rw [← HNC.out, hrc]; rfl
                have HMR := HJK
                clear hn9 hk9 hk4 hk3 hk0 hk12 hrc hcon
                obtain ⟨pr0, nr0, ar0, hr0⟩ := own_shape3 (HMR.out.rows false)
                obtain ⟨pr1, nr1, ar1, hr1⟩ := own_shape3 (HMR.out.rows true)
                have cr0 := HMR.out.c3.cell 0
                have cr1 := HMR.out.c3.cell 1
                simp only [List.getElem?_cons_zero, List.getElem?_cons_succ] at cr0 cr1
                rw [hr0] at cr0
                rw [hr1] at cr1
                obtain ⟨cr70, cr71, fr70, fr71⟩ := (show _ ∧ _ ∧ _ ∧ _ from ⟨HMR.out.c7.cell 0, HMR.out.c7.cell 1, HMR.out.c7.free 0, HMR.out.c7.free 1⟩)
                simp only [List.getElem?_cons_zero, List.getElem?_cons_succ] at cr70 cr71
                have HR0 := Lib.hid hr0; have HR1 := Lib.hid hr1
                clear hr0 hr1
                go_wp2
                go_still_tail 3, (by kernel_rfl)
                go_wp2
                refine bodyPost_ret (v := .tuple #[.slice tp tlen tcap, .agg #[.slice pr0 nr0 ar0, .slice pr1 nr1 ar1], .bool false]) (by simp [results, Tryz.results10, go_sem, cr70, cr71]) rfl ?_
                rw [← HR0.out, ← HR1.out]
                exact HMR.out.fin HRS.out (fun h => by cases h)
              | cons y t =>
                have HM1 := Lib.hid (show mdl1 pl ⟨kd, x, b⟩ r = some ([y], updB r c t) by rw [hk9, hn9, hrc])
                clear hn9 hk9 hk4 hk3 hk0 hk12 hcon
                have hnt : nC = t.length + 1 := by rw [← HNC.out, hrc]; rfl
                have hn0 : ¬ nC = 0 := by omega
                have gf0 : ((nC : Int) == 0) = false := by simp [hn0]
                have hrw : wk.ownsRow W.heap.size 25 1 (.slice pc nC cc) nC (encU (y :: t)) := by
                  have := HJK.out.rows c
                  rw [HVC.out, HNC.out, hrc] at this
                  exact this
                obtain ⟨g, rfl, gy, hcc, hcm⟩ := row_head hrw
                unfold maxLen at hcm
                have hn1 : 0 < nC := by omega
                have hRT := WordsAt.row (HJK.out.rows c)
                rw [HVC.out, hrc] at hRT
                have HRT := Lib.hid hRT; have HRC := Lib.hid hrc
                have hgo : g < wk.heap.size := (hrw.lt g rfl).2
                have hgo2 : (Value.slice tp tlen tcap).ownBlock ≠ some g := (HJK.out.apart c g (by rw [HVC.out]; rfl)).1
                have HNT := Lib.hid hnt
                clear hRT hrc hrw hn0 hnt
                go_wp2_with (first
                  | (at_builtin; (refine wpList_append_any (news := t) rfl _ _ rfl (v := .slice (some ⟨w5.heap.size, 0, none⟩) 0 0) rfl (empty_q w5) rfl (by simp [Act.eval]; exact tail_q HRT5.out (Nat.lt_of_lt_of_le hgo HB5.out) HNT.out hcc) (by rw [Nat.zero_add]; have := HNT.out; omega) (by simp) ?_; intro p6 c6 w6 hown6 hgrow6 _hat6; simp only [Nat.zero_add, List.nil_append] at hown6 ⊢; obtain ⟨hb6, hown6', hn6⟩ := tail_new hgrow6 hown6; have hm6 := HM5.out.under hb6; have hcx6 : w6.cell? ⟨b3, kc, none⟩ = some (.slice (some ⟨g, 0, none⟩) nC cc) := (World.cell?_of_block (a := ⟨b3, kc, none⟩) (hb6.block b3 hb5)).trans hcx5; have hfx6 : w6.frozen? ⟨b3, kc, none⟩ = false := (World.frozen?_of_block (a := ⟨b3, kc, none⟩) (hb6.block b3 hb5)).trans hfx5; have k06 : w6.cell? ⟨nb, 0, none⟩ = some (.int .i64 kd) := (World.cell?_of_block (a := ⟨nb, 0, none⟩) (hb6.block nb (Nat.lt_of_lt_of_le hnbl HB5.out))).trans k05; have HM6 := Lib.hid (fun hl => HM5.out.put (c := c) hb6 (l' := t) (hown6' _ (HM5.out.old HB.out.size)) hn6 hl); clear hown6 hgrow6 hb6 hown6' hn6 hm6 k05 hcx5 hfx5 hca5))
                  | (at_builtin; (refine wpList_append_any rfl _ _ rfl (v := .slice tp tlen tcap) rfl (HRW.out.alloc _) rfl (WordsAt.one wk y) (by rw [List.length_singleton]; omega) (Nat.le_trans hbs (by simp)) ?_; intro p5 c5 w5 hown5 hgrow5 hat5; have hg5 := ((Kept.refl _ wk).alloc (.cells #[.int .u64 (y : Int)] 25)).trans (Kept.of_grown hgrow5); have hm5 := HJK.out.say hg5 hown5 (hat5.imp_right fun q => ⟨_, q, by simp⟩); have HM5 := Lib.hid hm5; have hcx5 : w5.cell? ⟨b3, kc, none⟩ = some (.slice (some ⟨g, 0, none⟩) nC cc) := (World.cell?_of_block (a := ⟨b3, kc, none⟩) (hg5.block b3 hb3l (fun e => HJK.out.apartT _ e.symm |>.1 rfl))).trans hcx; have hfx5 : w5.frozen? ⟨b3, kc, none⟩ = false := (World.frozen?_of_block (a := ⟨b3, kc, none⟩) (hg5.block b3 hb3l (fun e => HJK.out.apartT _ e.symm |>.1 rfl))).trans hfx; have k05 : w5.cell? ⟨nb, 0, none⟩ = some (.int .i64 kd) := (World.cell?_of_block (a := ⟨nb, 0, none⟩) (hg5.block nb hnbl (fun e => HTV.out e.symm))).trans k0; have HB5 := Lib.hid (show wk.heap.size ≤ w5.heap.size from hg5.size); have hb5 : b3 < w5.heap.size := Nat.lt_of_lt_of_le hb3l hg5.size; have hb5' : ¬ b3 = w5.heap.size := Nat.ne_of_lt hb5; have hn5' : ¬ nb = w5.heap.size := Nat.ne_of_lt (Nat.lt_of_lt_of_le hnbl hg5.size); have hca5 : (w5.alloc (.cells #[] 25)).cell? ⟨b3, kc, none⟩ = some (.slice (some ⟨g, 0, none⟩) nC cc) := (World.cell?_of_block (a := ⟨b3, kc, none⟩) (Below.heap_alloc w5 _ b3 hb5)).trans hcx5; have HRT5 := Lib.hid (HRT.out.kept hg5 (fun b hb => by cases hb; exact ⟨hgo, fun e => hgo2 e.symm⟩)); clear hown5 hgrow5 hat5 hg5 hm5 k0 hcx hfx))
                  | go_in)
                all_goals
                  have HX := Lib.hid (HJ.out.next HKA.out HM1.out (by simp) (HM6.out (by have := HNT.out; omega)))
                  rw [HKC.out] at HX
                  go_roundg (len - (k + 1))
                  case rel => exact ⟨⟨k + 1, by simp, rfl⟩, k + 1, _, _, _, _, by omega, by simp, HX.out⟩
                  case measure => omega
          have g9 : (kd == 9) = false := by simp [hk9]
          have hcb : b = c := hcon c hk9 HC.out
          by_cases hk5 : kd = 5
          · as_aux_lemma =>
              have g5 : (kd == 5) = true := by simp [hk5]
              have g8 : (kd == 8) = false := by simp [hk5]
              cases hrc : r c with
              | nil =>
                have HM1 := Lib.hid (show mdl1 pl ⟨kd, x, b⟩ r = some ([], r) by unfold mdl1; simp [hk5, hcb, hrc])
                have hz : nC = 0 := by rw [← HNC.out, hrc]; rfl
                have hz' : ¬ 0 < nC := by omega
                have hzi : ¬ (0 : Int) < (nC : Int) := by omega
                clear hcb hk5 hk9 hk4 hk3 hk0 hk12 hcon hrc hz
                go_wp2
                all_goals
                  have HX := Lib.hid (HJ.out.next HKA.out HM1.out (by simp) (show ModelM vq W b3 w pl (tlen + ([] : List Nat).length) (told ++ []) vr r (.slice tp tlen tcap) wk from by
                    rw [List.append_nil]
                    exact HJK.out))
                  go_roundg (len - (k + 1))
                  case rel => exact ⟨⟨k + 1, by simp, rfl⟩, k + 1, _, _, _, _, by omega, by simp, HX.out⟩
                  case measure => omega
              | cons y t =>
                have HM1 := Lib.hid (show mdl1 pl ⟨kd, x, b⟩ r = some ([y], updB r c t) by unfold mdl1; simp [hk5, hcb, hrc])
                clear hcb hk5 hk9 hk4 hk3 hk0 hk12 hcon
                have hnt : nC = t.length + 1 := by rw [← HNC.out, hrc]; rfl
                have hn0 : ¬ nC = 0 := by omega
                have gf0 : ((nC : Int) == 0) = false := by simp [hn0]
                have hrw : wk.ownsRow W.heap.size 25 1 (.slice pc nC cc) nC (encU (y :: t)) := by
                  have := HJK.out.rows c
                  rw [HVC.out, HNC.out, hrc] at this
                  exact this
                obtain ⟨g, rfl, gy, hcc, hcm⟩ := row_head hrw
                unfold maxLen at hcm
                have hn1 : 0 < nC := by omega
                have hRT := WordsAt.row (HJK.out.rows c)
                rw [HVC.out, hrc] at hRT
                have HRT := Lib.hid hRT; have HRC := Lib.hid hrc
                have hgo : g < wk.heap.size := (hrw.lt g rfl).2
                have hgo2 : (Value.slice tp tlen tcap).ownBlock ≠ some g := (HJK.out.apart c g (by rw [HVC.out]; rfl)).1
                have HNT := Lib.hid hnt
                clear hRT hrc hrw hn0 hnt
                have hzi : (0 : Int) < (nC : Int) := by omega
                go_wp2_with (first
                  | (at_builtin; (refine wpList_append_any (news := t) rfl _ _ rfl (v := .slice (some ⟨w5.heap.size, 0, none⟩) 0 0) rfl (empty_q w5) rfl (by simp [Act.eval]; exact tail_q HRT5.out (Nat.lt_of_lt_of_le hgo HB5.out) HNT.out hcc) (by rw [Nat.zero_add]; have := HNT.out; omega) (by simp) ?_; intro p6 c6 w6 hown6 hgrow6 _hat6; simp only [Nat.zero_add, List.nil_append] at hown6 ⊢; obtain ⟨hb6, hown6', hn6⟩ := tail_new hgrow6 hown6; have hm6 := HM5.out.under hb6; have hcx6 : w6.cell? ⟨b3, kc, none⟩ = some (.slice (some ⟨g, 0, none⟩) nC cc) := (World.cell?_of_block (a := ⟨b3, kc, none⟩) (hb6.block b3 hb5)).trans hcx5; have hfx6 : w6.frozen? ⟨b3, kc, none⟩ = false := (World.frozen?_of_block (a := ⟨b3, kc, none⟩) (hb6.block b3 hb5)).trans hfx5; have k06 : w6.cell? ⟨nb, 0, none⟩ = some (.int .i64 kd) := (World.cell?_of_block (a := ⟨nb, 0, none⟩) (hb6.block nb (Nat.lt_of_lt_of_le hnbl HB5.out))).trans k05; have HM6 := Lib.hid (fun hl => HM5.out.put (c := c) hb6 (l' := t) (hown6' _ (HM5.out.old HB.out.size)) hn6 hl); clear hown6 hgrow6 hb6 hown6' hn6 hm6 k05 hcx5 hfx5 hca5))
                  | (at_builtin; (refine wpList_append_any rfl _ _ rfl (v := .slice tp tlen tcap) rfl (HRW.out.alloc _) rfl (WordsAt.one wk y) (by rw [List.length_singleton]; omega) (Nat.le_trans hbs (by simp)) ?_; intro p5 c5 w5 hown5 hgrow5 hat5; have hg5 := ((Kept.refl _ wk).alloc (.cells #[.int .u64 (y : Int)] 25)).trans (Kept.of_grown hgrow5); have hm5 := HJK.out.say hg5 hown5 (hat5.imp_right fun q => ⟨_, q, by simp⟩); have HM5 := Lib.hid hm5; have hcx5 : w5.cell? ⟨b3, kc, none⟩ = some (.slice (some ⟨g, 0, none⟩) nC cc) := (World.cell?_of_block (a := ⟨b3, kc, none⟩) (hg5.block b3 hb3l (fun e => HJK.out.apartT _ e.symm |>.1 rfl))).trans hcx; have hfx5 : w5.frozen? ⟨b3, kc, none⟩ = false := (World.frozen?_of_block (a := ⟨b3, kc, none⟩) (hg5.block b3 hb3l (fun e => HJK.out.apartT _ e.symm |>.1 rfl))).trans hfx; have k05 : w5.cell? ⟨nb, 0, none⟩ = some (.int .i64 kd) := (World.cell?_of_block (a := ⟨nb, 0, none⟩) (hg5.block nb hnbl (fun e => HTV.out e.symm))).trans k0; have HB5 := Lib.hid (show wk.heap.size ≤ w5.heap.size from hg5.size); have hb5 : b3 < w5.heap.size := Nat.lt_of_lt_of_le hb3l hg5.size; have hb5' : ¬ b3 = w5.heap.size := Nat.ne_of_lt hb5; have hn5' : ¬ nb = w5.heap.size := Nat.ne_of_lt (Nat.lt_of_lt_of_le hnbl hg5.size); have hca5 : (w5.alloc (.cells #[] 25)).cell? ⟨b3, kc, none⟩ = some (.slice (some ⟨g, 0, none⟩) nC cc) := (World.cell?_of_block (a := ⟨b3, kc, none⟩) (Below.heap_alloc w5 _ b3 hb5)).trans hcx5; have HRT5 := Lib.hid (HRT.out.kept hg5 (fun b hb => by cases hb; exact ⟨hgo, fun e => hgo2 e.symm⟩)); clear hown5 hgrow5 hat5 hg5 hm5 k0 hcx hfx))
                  | go_in)
                all_goals
                  have HX := Lib.hid (HJ.out.next HKA.out HM1.out (by simp) (HM6.out (by have := HNT.out; omega)))
                  rw [HKC.out] at HX
                  go_roundg (len - (k + 1))
                  case rel => exact ⟨⟨k + 1, by simp, rfl⟩, k + 1, _, _, _, _, by omega, by simp, HX.out⟩
                  case measure => omega
          have g5 : (kd == 5) = false := by simp [hk5]
          by_cases hk6 : kd = 6
          · as_aux_lemma =>
              have g6 : (kd == 6) = true := by simp [hk6]
              have g7 : (kd == 7) = false := by simp [hk6]
              have g8 : (kd == 8) = false := by simp [hk6]
              have HM1 := Lib.hid (show mdl1 pl ⟨kd, x, b⟩ r = some (r c, r) by unfold mdl1; simp [hk6, hcb])
              clear hcb hk6 hk5 hk9 hk4 hk3 hk0 hk12 hcon
              go_wp2_with (first
                | (at_builtin; (refine wpList_append_any (news := r c) rfl _ _ rfl (v := .slice tp tlen tcap) rfl HRW.out rfl (by simp [Act.eval]; have h7 := WordsAt.row (HJK.out.rows c); rw [HVC.out] at h7; exact h7) (by rw [HNC.out]; omega) hbs ?_; rw [HNC.out]; intro p5 c5 w5 hown5 hgrow5 hat5; have hg5 := Kept.of_grown hgrow5; have hm5 := HJK.out.say (x := r c) hg5 (by rw [HNC.out]; exact hown5) (hat5.imp_right fun q => ⟨_, q, Nat.le_refl _⟩); have HM5 := Lib.hid hm5; have hcx5 : w5.cell? ⟨b3, kc, none⟩ = some (.slice pc nC cc) := (World.cell?_of_block (a := ⟨b3, kc, none⟩) (hg5.block b3 hb3l (fun e => HJK.out.apartT _ e.symm |>.1 rfl))).trans hcx; have hfx5 : w5.frozen? ⟨b3, kc, none⟩ = false := (World.frozen?_of_block (a := ⟨b3, kc, none⟩) (hg5.block b3 hb3l (fun e => HJK.out.apartT _ e.symm |>.1 rfl))).trans hfx; have k05 : w5.cell? ⟨nb, 0, none⟩ = some (.int .i64 kd) := (World.cell?_of_block (a := ⟨nb, 0, none⟩) (hg5.block nb hnbl (fun e => HTV.out e.symm))).trans k0; clear hown5 hgrow5 hat5 hg5 hm5 k0 hcx hfx))
                | go_in)
              all_goals
                have HX := Lib.hid (HJ.out.next HKA.out HM1.out (by rw [HNC.out]; exact hnc5) HM5.out)
                go_roundg (len - (k + 1))
                case rel => exact ⟨⟨k + 1, by simp, rfl⟩, k + 1, _, _, _, _, by omega, by simp, HX.out⟩
                case measure => omega
          have g6 : (kd == 6) = false := by simp [hk6]
          by_cases hk7 : kd = 7
          · as_aux_lemma =>
              have g7 : (kd == 7) = true := by simp [hk7]
              have g8 : (kd == 8) = false := by simp [hk7]
              have HM1 := Lib.hid (show mdl1 pl ⟨kd, x, b⟩ r = some (r c, updB r c []) by unfold mdl1; simp [hk7, hcb])
              clear hcb hk7 hk6 hk5 hk9 hk4 hk3 hk0 hk12 hcon
              go_wp2_with (first
                | (at_builtin; (refine wpList_append_any (news := r c) rfl _ _ rfl (v := .slice tp tlen tcap) rfl HRW.out rfl (by simp [Act.eval]; have h7 := WordsAt.row (HJK.out.rows c); rw [HVC.out] at h7; exact h7) (by rw [HNC.out]; omega) hbs ?_; rw [HNC.out]; intro p5 c5 w5 hown5 hgrow5 hat5; have hg5 := Kept.of_grown hgrow5; have hm5 := HJK.out.say (x := r c) hg5 (by rw [HNC.out]; exact hown5) (hat5.imp_right fun q => ⟨_, q, Nat.le_refl _⟩); have HM5 := Lib.hid hm5; have hcx5 : w5.cell? ⟨b3, kc, none⟩ = some (.slice pc nC cc) := (World.cell?_of_block (a := ⟨b3, kc, none⟩) (hg5.block b3 hb3l (fun e => HJK.out.apartT _ e.symm |>.1 rfl))).trans hcx; have hfx5 : w5.frozen? ⟨b3, kc, none⟩ = false := (World.frozen?_of_block (a := ⟨b3, kc, none⟩) (hg5.block b3 hb3l (fun e => HJK.out.apartT _ e.symm |>.1 rfl))).trans hfx; have k05 : w5.cell? ⟨nb, 0, none⟩ = some (.int .i64 kd) := (World.cell?_of_block (a := ⟨nb, 0, none⟩) (hg5.block nb hnbl (fun e => HTV.out e.symm))).trans k0; clear hown5 hgrow5 hat5 hg5 hm5 k0 hcx hfx))
                | go_in)
              all_goals
                have HX := Lib.hid (HJ.out.next HKA.out HM1.out (by rw [HNC.out]; exact hnc5) (HM5.out.put (c := c) (l' := []) (Below.refl _ _) ⟨rfl, .inl ⟨rfl, rfl⟩⟩ (fun b hb => by cases hb) (Nat.zero_le _)))
                rw [HKC.out] at HX
                go_roundg (len - (k + 1))
                case rel => exact ⟨⟨k + 1, by simp, rfl⟩, k + 1, _, _, _, _, by omega, by simp, HX.out⟩
                case measure => omega
          have g7 : (kd == 7) = false := by simp [hk7]
          by_cases hk8 : kd = 8
          · as_aux_lemma =>
              have g8 : (kd == 8) = true := by simp [hk8]
              have g8' : (kd != 8) = false := by simp [hk8]
              cases hrc : r c with
              | nil =>
                have HRS := Lib.hid (HJ.out.stop HKA.out (show mdl1 pl ⟨kd, x, b⟩ r = none by unfold mdl1; simp [hk8, hcb, hrc]))
                have gf0 : ((nC : Int) == 0) = true := by rw [← HNC.out, hrc]; rfl
                have HMR := HJK
                clear hcb hk8 hk7 hk6 hk5 hk9 hk4 hk3 hk0 hk12 hrc hcon
                obtain ⟨pr0, nr0, ar0, hr0⟩ := own_shape3 (HMR.out.rows false)
                obtain ⟨pr1, nr1, ar1, hr1⟩ := own_shape3 (HMR.out.rows true)
                have cr0 := HMR.out.c3.cell 0
                have cr1 := HMR.out.c3.cell 1
                simp only [List.getElem?_cons_zero, List.getElem?_cons_succ] at cr0 cr1
                rw [hr0] at cr0
                rw [hr1] at cr1
                obtain ⟨cr70, cr71, fr70, fr71⟩ := (show _ ∧ _ ∧ _ ∧ _ from ⟨HMR.out.c7.cell 0, HMR.out.c7.cell 1, HMR.out.c7.free 0, HMR.out.c7.free 1⟩)
                simp only [List.getElem?_cons_zero, List.getElem?_cons_succ] at cr70 cr71
                have HR0 := Lib.hid hr0; have HR1 := Lib.hid hr1
                clear hr0 hr1
                go_wp2
                go_still_tail 3, (by kernel_rfl)
                go_wp2
                refine bodyPost_ret (v := .tuple #[.slice tp tlen tcap, .agg #[.slice pr0 nr0 ar0, .slice pr1 nr1 ar1], .bool false]) (by simp [results, Tryz.results10, go_sem, cr70, cr71]) rfl ?_
                rw [← HR0.out, ← HR1.out]
                exact HMR.out.fin HRS.out (fun h => by cases h)
              | cons y t =>
                have hcb' := hcb.symm
                subst hcb'
                obtain ⟨pw, nO, cw, hvo⟩ := own_shape3 (HJK.out.rows (!c))
                have hnO : (r (!c)).length = nO := by
                  obtain ⟨p', c', h2⟩ := ownsRow_shape (HJK.out.rows (!c))
                  rw [hvo] at h2
                  simp only [Value.slice.injEq] at h2
                  exact h2.2.1.symm
                have hmn : nO = pl (!c) → mdl1 pl ⟨kd, x, c⟩ r = none := fun e => by
                  rw [hk8]
                  unfold mdl1
                  simp only [hrc, show ¬ ((8 : Int) = 0) by decide, show ¬ ((8 : Int) = 1 ∨ (8 : Int) = 2) by decide, show ¬ ((8 : Int) = 3) by decide, show ¬ ((8 : Int) = 4) by decide, show ¬ ((8 : Int) = 5) by decide, show ¬ ((8 : Int) = 6) by decide, show ¬ ((8 : Int) = 7) by decide, if_false, if_true]
                  rw [if_pos (hnO.trans e)]
                have hmy : ¬ nO = pl (!c) → mdl1 pl ⟨kd, x, c⟩ r = some ([], updB (updB r c t) (!c) (r (!c) ++ [y])) := fun e => by
                  rw [hk8]
                  unfold mdl1
                  simp only [hrc, show ¬ ((8 : Int) = 0) by decide, show ¬ ((8 : Int) = 1 ∨ (8 : Int) = 2) by decide, show ¬ ((8 : Int) = 3) by decide, show ¬ ((8 : Int) = 4) by decide, show ¬ ((8 : Int) = 5) by decide, show ¬ ((8 : Int) = 6) by decide, show ¬ ((8 : Int) = 7) by decide, if_false, if_true]
                  rw [if_neg (fun h => e (hnO.symm.trans h))]
                have HMN := Lib.hid hmn; have HMY := Lib.hid hmy; have HVO := Lib.hid hvo; have HNO2 := Lib.hid hnO
                have hnbb : ¬ nb = b3 := by omega
                have hnbb' : ¬ b3 = nb := by omega
                clear hmn hmy hvo hnO hk8 hk7 hk6 hk5 hk9 hk4 hk3 hk0 hk12 hcon hcb
                have hnt : nC = t.length + 1 := by rw [← HNC.out, hrc]; rfl
                have hn0 : ¬ nC = 0 := by omega
                have gf0 : ((nC : Int) == 0) = false := by simp [hn0]
                have hrw : wk.ownsRow W.heap.size 25 1 (.slice pc nC cc) nC (encU (y :: t)) := by
                  have := HJK.out.rows c
                  rw [HVC.out, HNC.out, hrc] at this
                  exact this
                obtain ⟨g, rfl, gy, hcc, hcm⟩ := row_head hrw
                unfold maxLen at hcm
                have hn1 : 0 < nC := by omega
                have hRT := WordsAt.row (HJK.out.rows c)
                rw [HVC.out, hrc] at hRT
                have HRT := Lib.hid hRT; have HRC := Lib.hid hrc
                have hgo : g < wk.heap.size := (hrw.lt g rfl).2
                have hgo2 : (Value.slice tp tlen tcap).ownBlock ≠ some g := (HJK.out.apart c g (by rw [HVC.out]; rfl)).1
                have HNT := Lib.hid hnt
                clear hRT hrc hrw hn0 hnt
                go_upto_region 31 with (first
                  | (at_builtin; (refine wpList_append_any (news := t) rfl _ _ rfl (v := .slice (some ⟨wk.heap.size, 0, none⟩) 0 0) rfl (empty_q wk) rfl (by simp [Act.eval]; exact tail_q HRT.out hgo HNT.out hcc) (by rw [Nat.zero_add]; have := HNT.out; omega) (by simp) ?_; intro p6 c6 w6 hown6 hgrow6 _hat6; simp only [Nat.zero_add, List.nil_append] at hown6 ⊢; obtain ⟨hb6, hown6', hn6⟩ := tail_new hgrow6 hown6; have hm6 := HJK.out.under hb6; have hcx6 : w6.cell? ⟨b3, kc, none⟩ = some (.slice (some ⟨g, 0, none⟩) nC cc) := (World.cell?_of_block (a := ⟨b3, kc, none⟩) (hb6.block b3 hb3l)).trans hcx; have hfx6 : w6.frozen? ⟨b3, kc, none⟩ = false := (World.frozen?_of_block (a := ⟨b3, kc, none⟩) (hb6.block b3 hb3l)).trans hfx; have k06 : w6.cell? ⟨nb, 0, none⟩ = some (.int .i64 kd) := (World.cell?_of_block (a := ⟨nb, 0, none⟩) (hb6.block nb hnbl)).trans k0; have HM6 := Lib.hid (fun hl => HJK.out.put (c := c) hb6 (l' := t) (hown6' _ (HJK.out.old HB.out.size)) hn6 hl); clear hown6 hgrow6 hown6' hn6 hm6 k0 hcx hfx))
                  | go_in)
                all_goals
                  obtain ⟨w7, hw7⟩ : ∃ w7, w6.setCell ⟨b3, kc, none⟩ (.slice p6 t.length c6) = w7 := ⟨_, rfl⟩
                  have hm7 := HM6.out (by have := HNT.out; omega)
                  rw [HKC.out, hw7] at hm7
                  have hm8 : ModelM vq W b3 w pl tlen told (updB vr c (.slice p6 t.length c6)) (updB r c t) (.slice tp tlen tcap) w7.drew := hm7.under ⟨rfl, rfl, rfl, Nat.le_refl _, fun _ _ => rfl⟩
                  have k07 : w7.cell? ⟨nb, 0, none⟩ = some (.int .i64 kd) := by
                    rw [← hw7]
                    exact (World.cell?_of_block (a := ⟨nb, 0, none⟩) (Below.heap_setCell w6 ⟨b3, kc, none⟩ (.slice p6 t.length c6) nb hnbb)).trans k06
                  have hun : updB vr c (.slice p6 t.length c6) (!c) = .slice pw nO cw := by
                    unfold updB
                    rw [if_neg (by cases c <;> decide), HVO.out]
                  have hco7 : w7.cell? ⟨b3, ko, none⟩ = some (.slice pw nO cw) := by
                    rw [← HKO.out, ← hun]
                    cases c <;> first | exact hm7.c3.cell 1 | exact hm7.c3.cell 0
                  have hpo7 : w7.cell? ⟨b3 + 1, ko, none⟩ = some (.int .i64 (pl (!c) : Int)) := by
                    rw [← HKO.out]
                    cases c <;> first | exact hm7.c4.cell 1 | exact hm7.c4.cell 0
                  have hfo7 : w7.frozen? ⟨b3, ko, none⟩ = false := by
                    rw [← HKO.out]
                    cases c <;> first | exact hm7.c3.free 1 | exact hm7.c3.free 0
                  have hbw : wk.heap.size ≤ w7.heap.size := by rw [← hw7]; simpa using hb6.size
                  have hrow7 := hm8.rows (!c)
                  rw [hun, show updB r c t (!c) = r (!c) from by unfold updB; rw [if_neg (by cases c <;> decide)], HNO2.out] at hrow7
                  have HROW7 := Lib.hid hrow7
                  have hnO5 : nO ≤ 5 := by have := HJK.out.lens (!c); have := (HPL.out (!c)).2; have := HNO2.out; omega
                  have hpl5 : pl (!c) ≤ 5 := (HPL.out (!c)).2
                  have HM8 := Lib.hid hm8; have HUN := Lib.hid hun
                  rw [hw7]
                  clear hm7 hm8 hw7 k06 hcx6 hfx6 hb6 HM6 hrow7 hun hpx gy
                  have hko2 : ko < 2 := by rw [← HKO.out]; cases c <;> decide
                  have hko2i : (ko : Int) < 2 := by omega
                  go_upto_region 32 with (fail)
                  go_region_held3 (fun wx => wx.cell? ⟨b3, ko, none⟩ = some (.slice pw nO cw) ∧ wx.cell? ⟨b3 + 1, ko, none⟩ = some (.int .i64 (pl (!c) : Int)))
                    (first | exact ⟨hco7, hpo7⟩ | go_keep)
                    (fail)
                  obtain ⟨w8, hw8⟩ : ∃ w8, w7.drew = w8 := ⟨_, rfl⟩
                  have hco8 : w8.cell? ⟨b3, ko, none⟩ = some (.slice pw nO cw) := by rw [← hw8]; exact hco7
                  have hfo8 : w8.frozen? ⟨b3, ko, none⟩ = false := by rw [← hw8]; exact hfo7
                  have hbw8 : wk.heap.size ≤ w8.heap.size := by rw [← hw8]; exact hbw
                  rw [hw8] at HM8 HROW7 ⊢
                  clear hw8 hco7 hfo7 hpo7 k07 hbw
                  by_cases hfu : nO = pl (!c)
                  · have HRS := Lib.hid (HJ.out.stop HKA.out (HMN.out hfu))
                    have gfo : ((nO : Int) == (pl (!c) : Int)) = true := by simp [hfu]
                    have HMR := HM8
                    clear hfu hco8 hfo8 hbw8
                    obtain ⟨pr0, nr0, ar0, hr0⟩ := own_shape3 (HMR.out.rows false)
                    obtain ⟨pr1, nr1, ar1, hr1⟩ := own_shape3 (HMR.out.rows true)
                    have cr0 := HMR.out.c3.cell 0
                    have cr1 := HMR.out.c3.cell 1
                    simp only [List.getElem?_cons_zero, List.getElem?_cons_succ] at cr0 cr1
                    rw [hr0] at cr0
                    rw [hr1] at cr1
                    obtain ⟨cr70, cr71, fr70, fr71⟩ := (show _ ∧ _ ∧ _ ∧ _ from ⟨HMR.out.c7.cell 0, HMR.out.c7.cell 1, HMR.out.c7.free 0, HMR.out.c7.free 1⟩)
                    simp only [List.getElem?_cons_zero, List.getElem?_cons_succ] at cr70 cr71
                    have HR0 := Lib.hid hr0; have HR1 := Lib.hid hr1
                    clear hr0 hr1
                    go_wp2
                    go_still_tail 3, (by kernel_rfl)
                    go_wp2
                    refine bodyPost_ret (v := .tuple #[.slice tp tlen tcap, .agg #[.slice pr0 nr0 ar0, .slice pr1 nr1 ar1], .bool false]) (by simp [results, Tryz.results10, go_sem, cr70, cr71]) rfl ?_
                    rw [← HR0.out, ← HR1.out]
                    exact HMR.out.fin HRS.out (fun h => by cases h)
                  · have HM1 := Lib.hid (HMY.out hfu)
                    have HLO := Lib.hid (show nO + 1 ≤ pl (!c) by have := HJK.out.lens (!c); have := HNO2.out; omega)
                    have gfo : ((nO : Int) == (pl (!c) : Int)) = false := by simp; omega
                    have hb38 : b3 < w8.heap.size := Nat.lt_of_lt_of_le hb3l hbw8
                    have hWO := WordsAt.row (x := r (!c)) (by rw [HNO2.out]; exact HROW7.out)
                    have HWO := Lib.hid (hWO.kept ((Kept.refl (fun _ => False) w8).alloc (.cells #[] 25)) (fun b hb => ⟨(HROW7.out.lt b hb).2, fun h => h⟩))
                    clear hfu hWO
                    go_wp2_with (first
                      | (at_builtin; (refine wpList_append_any rfl _ _ rfl (v := .slice p9 nO c9) rfl (HOZ.out.alloc _) rfl (WordsAt.one wy y) (by rw [List.length_singleton]; omega) (Nat.le_trans HGZ.out.1.size (by simp)) ?_; intro pz cz w9 hown9a hgrow9 hat9; have hg9 := ((Kept.refl (fun b => w8.heap.size ≤ b) wy).alloc (.cells #[.int .u64 (y : Int)] 25)).trans ((Kept.of_grown hgrow9).mono fun k' _ e => HGZ.out.2.2 k' e.symm); have hb9 : Below w8.heap.size w8 w9 := HGZ.out.1.trans (hg9.below HGZ.out.1.size (fun k' h1 h2 => absurd h1 (Nat.not_lt.2 h2))); have hco9 : w9.cell? ⟨b3, ko, none⟩ = some (.slice pw nO cw) := (World.cell?_of_block (a := ⟨b3, ko, none⟩) (hg9.block b3 (Nat.lt_of_lt_of_le hb38 HGZ.out.1.size) (fun h => absurd hb38 (Nat.not_lt.2 h)))).trans hcoz; have hfo9 : w9.frozen? ⟨b3, ko, none⟩ = false := (World.frozen?_of_block (a := ⟨b3, ko, none⟩) (hg9.block b3 (Nat.lt_of_lt_of_le hb38 HGZ.out.1.size) (fun h => absurd hb38 (Nat.not_lt.2 h)))).trans hfoz; have hn9 := fun b hb => (hown9a.lt b hb).1; have hown9 : w9.ownsRow W.heap.size 25 1 (.slice pz (nO + 1) cz) (r (!c) ++ [y]).length (encU (r (!c) ++ [y])) := (by rw [List.length_append, HNO2.out, show encU (r (!c) ++ [y]) = encU (r (!c)) ++ encU [y] by simp [encU]]; exact own_lower hown9a (HM8.out.old HB.out.size)); have HB9 := Lib.hid hb9; have HN9 := Lib.hid hn9; have HOW9 := Lib.hid hown9; clear hown9a hgrow9 hat9 hg9 hcoz hfoz hb9 hn9 hown9))
                      | (at_builtin; (refine wpList_append_any (news := r (!c)) rfl _ _ rfl (v := .slice (some ⟨w8.heap.size, 0, none⟩) 0 0) rfl (empty_q w8) rfl (by simp [Act.eval]; exact HWO.out) (by rw [Nat.zero_add, HNO2.out]; omega) (by simp) ?_; rw [HNO2.out]; intro p9 c9 wy hownz hgrowz _hatz; simp only [Nat.zero_add, List.nil_append] at hownz ⊢; have HOZ := Lib.hid hownz; have HGZ := Lib.hid (tail_new hgrowz hownz); have hcoz : wy.cell? ⟨b3, ko, none⟩ = some (.slice pw nO cw) := (World.cell?_of_block (a := ⟨b3, ko, none⟩) (HGZ.out.1.block b3 hb38)).trans hco8; have hfoz : wy.frozen? ⟨b3, ko, none⟩ = false := (World.frozen?_of_block (a := ⟨b3, ko, none⟩) (HGZ.out.1.block b3 hb38)).trans hfo8; clear hownz hgrowz hco8 hfo8))
                      | go_in)
                    all_goals
                      have HX := Lib.hid (HJ.out.next HKA.out HM1.out (by simp) (show ModelM vq W b3 w pl (tlen + ([] : List Nat).length) (told ++ []) _ _ _ _ from by
                        rw [List.append_nil]
                        exact HM8.out.put (c := !c) (l' := r (!c) ++ [y]) HB9.out HOW9.out HN9.out (by rw [List.length_append, HNO2.out]; exact HLO.out)))
                      rw [HKO.out] at HX
                      go_roundg (len - (k + 1))
                      case rel => exact ⟨⟨k + 1, by simp, rfl⟩, k + 1, _, _, _, _, by omega, by simp, HX.out⟩
                      case measure => omega
          have g8 : (kd == 8) = false := by simp [hk8]
          have HM1 := Lib.hid (show mdl1 pl ⟨kd, x, b⟩ r = some ([], r) by unfold mdl1; simp [hk8, hk7, hk6, hk5, hk9, hk4, hk3, hk0]; omega)
          clear hcb hk8 hk7 hk6 hk5 hk9 hk4 hk3 hk0 hk12 hcon
          go_wp2
          all_goals
            have HX := Lib.hid (HJ.out.next HKA.out HM1.out (by simp) (show ModelM vq W b3 w pl (tlen + ([] : List Nat).length) (told ++ []) vr r (.slice tp tlen tcap) wk from by
              rw [List.append_nil]
              exact HJK.out))
            go_roundg (len - (k + 1))
            case rel => exact ⟨⟨k + 1, by simp, rfl⟩, k + 1, _, _, _, _, by omega, by simp, HX.out⟩
            case measure => omega
    · obtain rfl : k = len := by omega
      have hlt' : ¬ ((k : Int) < (k : Int)) := by omega
      have hres' : res = (told, r, true) := by rw [hj.run, List.drop_of_length_le (by rw [HLEN.out]; exact Nat.le_refl _)]; rfl
      obtain ⟨p0, a0, hv0⟩ := ownsRow_shape (hj.m.rows false)
      obtain ⟨p1, a1, hv1⟩ := ownsRow_shape (hj.m.rows true)
      obtain ⟨n0, hn0⟩ : ∃ n0, (r false).length = n0 := ⟨_, rfl⟩
      obtain ⟨n1, hn1⟩ : ∃ n1, (r true).length = n1 := ⟨_, rfl⟩
      rw [hn0] at hv0
      rw [hn1] at hv1
      have HV0 := Lib.hid hv0; have HV1 := Lib.hid hv1; have HRR := Lib.hid hres'
      rw [hv0] at c30
      rw [hv1] at c31
      clear hj hlt hv0 hv1 hn0 hn1 hres'
      go_wp2
      go_still_tail 3, (by kernel_rfl)
      go_wp2
      refine bodyPost_ret (v := .tuple #[.slice tp tlen tcap, .agg #[.slice p0 n0 a0, .slice p1 n1 a1], .bool true]) (by simp [results, Tryz.results10, go_sem, c70, c71]) rfl ?_
      rw [← HV0.out, ← HV1.out]
      exact HJ.out.m.fin HRR.out (fun _ => rfl)
end Go.Proofs.YtkpdacfiglpgeaaGreatDoor
