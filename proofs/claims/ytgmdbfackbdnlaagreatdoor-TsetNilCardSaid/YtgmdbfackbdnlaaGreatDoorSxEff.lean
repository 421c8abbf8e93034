/- SxEff: SxNew, SxEff, SxEff2, SxEff3, SxEff4, SxEff5, SxEff6, SxEff7. -/
import Derived.Test.YtgmdbfackbdnlaaGreatDoorSxOps
import Derived.Laws.Append

/- The executor: what makes something new. -/
namespace Go.Proofs.YtgmdbfackbdnlaaGreatDoor
open Go.RowKit Bl Th Go.Sx
set_option maxRecDepth 10000

section
variable {P : Program} {E : Env} {G : Gh} {ρ : Ren} {m : Mem} {w : World} {T : Tr Value} {a : Act}
theorem rowOf_ok {cs : List Value} {e : TypeId} {o : SObj} (h : rowOf cs e = some o) : cs.length ≤ 1000 ∧ o = .row cs.length (Tr.ofList cs 0 .nil) none e false false := by
  obtain ⟨h1, h2⟩ := ifo_some h
  cases h2
  exact ⟨Nat.le_of_ble_eq_true h1, rfl⟩
theorem cellAt_list {cs : List Value} {i : Nat} {v : Value} (hl : cs.length ≤ 1000) (h : cellAt cs.length (Tr.ofList cs 0 .nil) none i = some v) : cs[i]? = some v := by
  obtain ⟨h1, h2⟩ := ifo_some h
  rw [Nat.blt_eq] at h1
  rw [Tr.get_ofList cs 0 .nil i (by omega), if_pos (by omega), Nat.sub_zero] at h2
  cases e : cs[i]? with
  | none => rw [e] at h2; cases h2
  | some u => rw [e] at h2; exact h2
/-- A row of such cells. -/
theorem row_objC {ρ : Ren} {cs cs' : List Value} {e : TypeId} {o : SObj} (h : rowOf cs e = some o) (hr : RelL ρ cs cs') {w : World} {q : Nat × Nat} (hc : Cells w q.1 cs' e) : ObjC E ρ w q o := by
  obtain ⟨h1, rfl⟩ := rowOf_ok h
  refine ⟨cs', hc, by rw [hr.1]; exact Nat.le_refl _, by unfold lim; omega, fun _ => hr.1.symm, (fun e => by cases e), fun i v hv => ?_⟩
  exact hr.at (cellAt_list h1 hv)
theorem mk1_ok {i : Nat} (hl : i < lim) {f : Nat → Value} {o : Option SObj} {v : Value} {o' : SObj} (h : mk1 i f o = some (v, o')) : ∃ ob, o = some ob ∧ i < lim ∧ v = f i ∧ o' = ob := by
  obtain ⟨ob, h1, h2⟩ := ob_some h
  cases h2
  exact ⟨_, h1, hl, rfl, rfl⟩
theorem xal_some {op : Op} {i : Nat} {v : Value} {m' : Mem} (h : xal op E T m i = some (v, m')) : i < lim ∧ ∃ o, xalO op E T i = some (v, o) ∧ m' = m.newAt i o := by
  obtain ⟨⟨v0, o⟩, h1, h2⟩ := ob_some h
  obtain ⟨h3, h4⟩ := ifo_some h2
  rw [Nat.blt_eq] at h3
  cases h4
  exact ⟨h3, o, h1, rfl⟩
/-- What it comes to. -/
def NewPost (E : Env) (G : Gh) (ρ : Ren) (m' : Mem) (i nx : Nat) (w : World) (v : Value) (r : Result Next) : Prop :=
  ∃ v' ρ' w', r = .ok (.value v') w' ∧ ρ.le ρ' ∧ (∀ j, j ≠ i → ρ' j = ρ j) ∧ Rel ρ' v v' ∧ Conc E G ρ' { m' with nx := nx } w' ∧ HeldBy G.X w w'
theorem newRow_post (hc : Conc E G ρ m w) {i nx : Nat} (hi : ρ i = none) (hl : i < lim) (hnx : m.nx ≤ nx) (hin : i < nx) {cs cs' : List Value} {e : TypeId} {o : SObj} (h : rowOf cs e = some o) (hr : RelL ρ cs cs') :
    Conc E G (ρ.put i (w.heap.size, 0)) { (m.newAt i o) with nx := nx } (w.alloc (.cells cs'.toArray e)) ∧ HeldBy G.X w (w.alloc (.cells cs'.toArray e)) :=
  hc.alloc hi hl hnx hin o (.cells cs'.toArray e) 0 (row_objC h (hr.mono (Ren.le_put hi)) (Cells.new w cs' e))
theorem range_rep (z : List Value) : ∀ len : Nat, ((List.range (len * z.length)).map fun i => z.toArray[i % z.length]!) = (List.replicate len z).flatten
  | 0 => by simp
  | len + 1 => by
    rw [Nat.add_mul, Nat.one_mul, List.range_add, List.map_append, range_rep z len, List.map_map, List.replicate_succ', List.flatten_append]
    congr 1
    simp only [List.flatten_cons, List.flatten_nil, List.append_nil]
    apply List.ext_getElem?
    intro i
    by_cases hi : i < z.length
    · rw [List.getElem?_map, List.getElem?_range hi]
      simp only [Option.map_some, Function.comp]
      rw [Nat.add_comm, Nat.add_mul_mod_self_right, Nat.mod_eq_of_lt hi]
      simp [hi]
    · rw [List.getElem?_eq_none (by simpa using hi), List.getElem?_eq_none (by omega)]
theorem RelL.replicate {ρ : Ren} {a b : List Value} (h : RelL ρ a b) : ∀ n, RelL ρ (List.replicate n a).flatten (List.replicate n b).flatten
  | 0 => .nil ρ
  | n + 1 => by simp only [List.replicate_succ, List.flatten_cons]; exact h.append (h.replicate n)
theorem range_arr (z : Array Value) (k len n : Nat) (hz : z.toList.length = n) (hk : k = len * n) : ((Array.range k).map (z[· % z.size]!)) = ⟨(List.replicate len z.toList).flatten⟩ := by
  subst hk
  apply Array.ext'
  rw [Array.toList_map, Array.toList_range, ← range_rep z.toList len, ← hz]
  simp
theorem map_range0 (f : Nat → Value) : (Array.range 0).map f = ⟨[]⟩ := by apply Array.ext'; simp
theorem cells_eta (v : Value) : v.cells.toList.toArray = v.cells := by simp
theorem execOp_w {o : Oper} {s : Sem Value} {v' : Value} {w' : World} (he : execOp a.eval o = (do pure (.value (← s)) : Sem Next)) (h : s.run P w = .ok v' w') : (execOp a.eval o).run P w = .ok (.value v') w' := by
  rw [he]; simp only [Sem.run_bind, h, Result.andThen_ok, Sem.run_pure]
theorem xal_ok (hE : EnvOk P E) (hc : Conc E G ρ m w) (hT : Tmps ρ T a.tmps) {o : Oper} (ho : opOk o.op) {i nx : Nat} (hi : ρ i = none) (hnx : m.nx ≤ nx) (hin : i < nx) {v : Value} {m' : Mem} (h : xal o.op E T m i = some (v, m')) :
    NewPost E G ρ m' i nx w v ((execOp a.eval o).run P w) := by
  obtain ⟨dst, op, type, pos, after, guard⟩ := o
  simp only at ho h
  unfold opOk at ho
  obtain ⟨hl, o', h0, rfl⟩ := xal_some h
  replace h := h0
  cases op with
  | alloc e =>
    obtain ⟨z, h1, h2⟩ := ob_some (show ob (E.zero e) _ = some (v, o') from h)
    obtain ⟨ob, h3, h4, rfl, rfl⟩ := mk1_ok hl h2
    have hz := (hE.rel_zero h1 ρ).cells
    obtain ⟨c1, c2⟩ := newRow_post hc hi h4 hnx hin h3 hz
    rw [cells_eta] at c1 c2
    refine ⟨.pointer (some ⟨w.heap.size, 0, none⟩), _, _, ?_, Ren.le_put hi, fun j hj => Ren.put_ne _ _ hj, .ptr i 0 _ (Ren.put_self _ _ _), c1, c2⟩
    simp only [execOp, Sem.run_bind, Instr.alloc, hE.run_zero h1, Result.andThen_ok, newVar, newRow, run_newObj, Sem.run_pure]
    rfl
  | box e x =>
    obtain ⟨z, h1, h2⟩ := ob_some (show ob (ev T x) _ = some (v, o') from h)
    obtain ⟨ob, h3, h4, rfl, rfl⟩ := mk1_ok hl h2
    have hz := (ev_ok hT (ho x (by simp [Op.operands])) h1).cells
    obtain ⟨c1, c2⟩ := newRow_post hc hi h4 hnx hin h3 hz
    rw [cells_eta] at c1 c2
    refine ⟨.pointer (some ⟨w.heap.size, 0, none⟩), _, _, ?_, Ren.le_put hi, fun j hj => Ren.put_ne _ _ hj, .ptr i 0 _ (Ren.put_self _ _ _), c1, c2⟩
    simp only [execOp, Sem.run_bind, Instr.box, newVar, newRow, run_newObj, Sem.run_pure, Result.andThen_ok]
    rfl
  | makeMap t r =>
    obtain ⟨h0, h2⟩ := ifo_some (show ifo r.isNone _ = some (v, o') from h)
    obtain ⟨ob, h3, h4, rfl, rfl⟩ := mk1_ok hl h2
    cases h3
    obtain ⟨c1, c2⟩ := hc.alloc hi h4 hnx hin (.map [] 0 false) (.map #[] 0) 0 ⟨#[], (by show (w.heap.push _)[w.heap.size]? = _; simp), rfl, fun i x a hx => by simp at hx⟩
    refine ⟨.map (some w.heap.size), _, _, ?_, Ren.le_put hi, fun j hj => Ren.put_ne _ _ hj, .map i _ (Ren.put_self _ _ _), c1, c2⟩
    cases r with
    | some r => cases h0
    | none =>
      simp only [execOp, Sem.run_bind, Instr.makeMap, Option.map_none, run_newObj, Sem.run_pure, Result.andThen_ok]
      rfl
  | buildSlice t len ps =>
    obtain ⟨l, h1, h2⟩ := ob_some (show ob (evp T ps.toList) _ = some (v, o') from h)
    obtain ⟨e, n, h3, h4, h5⟩ := EnvOk.elemS h2
    obtain ⟨z, h6, h7⟩ := ob_some h5
    obtain ⟨h8, h9⟩ := ifo_some h7
    obtain ⟨cs, h10, h11⟩ := ob_some h9
    obtain ⟨ob, h12, h13, rfl, rfl⟩ := mk1_ok hl h11
    simp only [Bool.and_eq_true] at h8
    have hle1 : len ≤ 1000 := Nat.le_of_ble_eq_true h8.1.1
    have hle : len * n ≤ 1000 := Nat.le_of_ble_eq_true h8.1.2
    have hzl : z.cells.toList.length = n := Nat.eq_of_beq_eq_true h8.2
    have rp := evp_ok hT (fun x hx => ho x.2 (by simp only [Op.operands]; simpa using ⟨x.1, by simpa using hx⟩)) h1
    have rz := (hE.rel_zero h6 ρ).cells.replicate len
    obtain ⟨r', f1, f2⟩ := fill_ok rp rz h10
    obtain ⟨c1, c2⟩ := newRow_post hc hi h13 hnx hin h12 f2
    have ep : (ps.map fun (i, x) => (i, a.eval x)).toList = ps.toList.map fun (i, x) => (i, a.eval x) := by simp
    have hra := range_arr z.cells (len * n) len n hzl rfl
    have hno : ¬ (len * n > 2 ^ 24) := by omega
    have hlb : len ≠ big := by unfold big; omega
    refine ⟨.slice (some ⟨w.heap.size, 0, none⟩) len len, _, _, ?_, Ren.le_put hi, fun j hj => Ren.put_ne _ _ hj, .sl i 0 len len _ (Ren.put_self _ _ _) hlb, c1, c2⟩
    have hrun : (Instr.buildSlice t len (ps.map fun (i, x) => (i, a.eval x))).run P w = .ok (.slice (some ⟨w.heap.size, 0, none⟩) len len) (w.alloc (.cells r'.toArray e)) := by
      by_cases h0 : len * n = 0
      · have hnil : (List.replicate len z.cells.toList).flatten = [] := by
          apply List.length_eq_zero_iff.1; simp only [List.length_flatten, List.map_replicate, List.sum_replicate_nat, hzl]; exact h0
        rw [hnil] at f1
        simp only [Instr.buildSlice, Sem.run_bind, hE.run_under h3, Result.andThen_ok, hE.run_size h4, if_false, Sem.run_ite, h0, if_true, Sem.run_pure, map_range0, show ¬ ((0 : Nat) > 2 ^ 24) by omega]
        rw [ep, f1]
        simp only [newRow, Sem.run_bind, run_newObj, Result.andThen_ok, Sem.run_pure]
        rfl
      · simp only [Instr.buildSlice, Sem.run_bind, hE.run_under h3, Result.andThen_ok, hE.run_size h4, hno, if_false, Sem.run_ite, h0, hE.run_zero h6, Sem.run_pure]
        rw [hra, ep, f1]
        simp only [newRow, Sem.run_bind, run_newObj, Result.andThen_ok, Sem.run_pure]
        rfl
    exact execOp_w rfl hrun
  | makeSlice t l c =>
    obtain ⟨lv, h1, h2⟩ := ob_some (show ob (ev T l) _ = some (v, o') from h)
    obtain ⟨k1, ln, rfl, h3⟩ := nat_some h2
    obtain ⟨cv, h4, h5⟩ := ob_some h3
    obtain ⟨k2, cn, rfl, h6⟩ := nat_some h5
    obtain ⟨e, n, g1, g2, h7⟩ := EnvOk.elemS h6
    obtain ⟨inf, g3, h8⟩ := ob_some h7
    obtain ⟨z, g4, h9⟩ := ob_some h8
    obtain ⟨g5, h10⟩ := ifo_some h9
    simp only [Bool.and_eq_true] at g5
    obtain ⟨⟨⟨q1, q2⟩, q3⟩, q4⟩ := g5
    have q1 : ln ≤ cn := Nat.le_of_ble_eq_true q1
    have q2 : inf.bytes ≤ 10000 := Nat.le_of_ble_eq_true q2
    have q3 : cn ≤ 1000000 := Nat.le_of_ble_eq_true q3
    have q4 : z.cells.toList.length = n := Nat.eq_of_beq_eq_true q4
    have el := rel_int (ev_ok hT (ho l (by simp [Op.operands])) h1)
    have ec := rel_int (ev_ok hT (ho c (by simp [Op.operands])) h4)
    have hz : E.zero e = some z := by
      show ob (E.ty e) (fun i => i.zero) = some z
      rw [g3]; exact g4
    have hcb : cn ≠ big := by unfold big; omega
    have hbytes : (inf.bytes : Int) * (cn : Int) ≤ 10000000000 := by
      have : inf.bytes * cn ≤ 10000 * 1000000 := Nat.mul_le_mul q2 q3
      omega
    have hbytes0 : (0 : Int) ≤ (inf.bytes : Int) * (cn : Int) := by
      have := Int.natCast_nonneg (inf.bytes * cn); rw [Int.natCast_mul] at this; exact this
    have hra := range_arr z.cells (cn * n) cn n q4 rfl
    have hw1 : IntKind.i64.wrap (ln : Int) = ln := wrap_i64' _ (by omega) (by omega)
    have hw2 : IntKind.i64.wrap (cn : Int) = cn := wrap_i64' _ (by omega) (by omega)
    have hrun : (Instr.makeSlice t (a.eval l) (a.eval c)).run P w = .ok (.slice (some ⟨w.heap.size, 0, none⟩) ln cn) (w.alloc (.cells (List.replicate cn z.cells.toList).flatten.toArray e)) := by
      rw [el, ec]
      have b1 : (decide ((cn : Int) < 0)) = false := by simp
      have b2 : (decide ((inf.bytes : Int) * (cn : Int) > 2 ^ 48)) = false := by
        rw [decide_eq_false_iff_not]; have : (2 : Int) ^ 48 = 281474976710656 := by decide
        omega
      have b3 : (decide ((ln : Int) < 0)) = false := by simp
      have b4 : (decide ((ln : Int) > (cn : Int))) = false := by rw [decide_eq_false_iff_not]; omega
      by_cases h0 : cn * n = 0
      · have hnil : (List.replicate cn z.cells.toList).flatten = [] := by
          apply List.length_eq_zero_iff.1; simp only [List.length_flatten, List.map_replicate, List.sum_replicate_nat, q4]; exact h0
        rw [hnil]
        simp only [Instr.makeSlice, Sem.run_bind, hE.run_under g1, Result.andThen_ok, asInt, asIntOf, Sem.run_pure, hE.run_info g3, Int.ofNat_eq_natCast, hw1, hw2, b1, b2, b3, b4, Bool.or_false, Bool.false_eq_true, if_false, Sem.run_ite, run_askRoom, hE.run_size g2, Int.toNat_natCast, h0, if_true, map_range0]
        simp only [newRow, Sem.run_bind, run_newObj, Result.andThen_ok, Sem.run_pure]
        rfl
      · simp only [Instr.makeSlice, Sem.run_bind, hE.run_under g1, Result.andThen_ok, asInt, asIntOf, Sem.run_pure, hE.run_info g3, Int.ofNat_eq_natCast, hw1, hw2, b1, b2, b3, b4, Bool.or_false, Bool.false_eq_true, if_false, Sem.run_ite, run_askRoom, hE.run_size g2, Int.toNat_natCast, h0, hE.run_zero hz]
        rw [hra]
        simp only [newRow, Sem.run_bind, run_newObj, Result.andThen_ok, Sem.run_pure]
        rfl
    have hrz := (hE.rel_zero hz ρ).cells
    have fin : ∀ {ob : SObj}, i < lim → ObjC E (ρ.put i (w.heap.size, 0)) (w.alloc (.cells (List.replicate cn z.cells.toList).flatten.toArray e)) (w.heap.size, 0) ob → NewPost E G ρ (m.newAt i ob) i nx w (sv i ln cn) ((execOp a.eval ⟨dst, .makeSlice t l c, type, pos, after, guard⟩).run P w) := by
      intro ob hl hob
      obtain ⟨c1, c2⟩ := hc.alloc hi hl hnx hin ob (.cells (List.replicate cn z.cells.toList).flatten.toArray e) 0 hob
      exact ⟨.slice (some ⟨w.heap.size, 0, none⟩) ln cn, _, _, execOp_w rfl hrun, Ren.le_put hi, fun j hj => Ren.put_ne _ _ hj, .sl i 0 ln cn _ (Ren.put_self _ _ _) hcb, c1, c2⟩
    split at h10
    · rename_i u hu
      obtain ⟨ob, h12, h13, rfl, rfl⟩ := mk1_ok hl h10
      cases h12
      refine fin h13 ?_
      rw [hu] at hrz ⊢
      have hflat : (List.replicate cn [u]).flatten = List.replicate cn u := by simp
      rw [hflat]
      refine ⟨List.replicate cn u, Cells.new w _ e, by simp, by unfold lim; omega, fun _ => by simp, (fun e => by cases e), fun j x hx => ?_⟩
      obtain ⟨y1, y2⟩ := ifo_some hx
      rw [Nat.blt_eq] at y1
      cases y2
      refine ⟨u, by simp [y1], ?_⟩
      obtain ⟨y, _, e1, e2, _⟩ := hrz.cons_inv
      cases e1
      exact e2.mono (Ren.le_put hi)
    · obtain ⟨q5, h11⟩ := ifo_some h10
      obtain ⟨ob, h12, h13, rfl, rfl⟩ := mk1_ok hl h11
      exact fin h13 (row_objC h12 ((hrz.replicate cn).mono (Ren.le_put hi)) (Cells.new w _ e))
  | _ => cases h
end
end Go.Proofs.YtgmdbfackbdnlaaGreatDoor

/- The executor: what changes memory. -/
namespace Go.Proofs.YtgmdbfackbdnlaaGreatDoor
open Go.RowKit Bl Th Go.Sx
set_option maxRecDepth 10000

section
variable {P : Program} {E : Env} {G : Gh} {ρ : Ren} {m : Mem} {w : World} {T : Tr Value} {a : Act}
theorem one_cell {x y : Value} (h : Rel ρ x y) (ho : one x = true) : y.oneCell' = true := by
  have := h.one ho
  cases y <;> first | rfl | exact absurd rfl (this _).1 | exact absurd rfl (this _).2
/-- Cells are stored into a row. -/
theorem run_storeCells {b : Nat} {e : TypeId} : ∀ (vs : List Value) (i o : Nat) (arr : List Value) (w : World), (∀ v ∈ vs, v.oneCell' = true) → o + i + vs.length ≤ arr.length → Cells w b arr e →
    ∃ w', (storeCells ⟨b, o, none⟩ vs i).run P w = .ok () w' ∧ Kept (fun k => k = b) w w' ∧ Cells w' b (splice arr (o + i) vs) e
  | [], i, o, arr, w, _, _, hc => ⟨w, rfl, Kept.refl _ _, hc.cast (by simp [splice])⟩
  | v :: vs, i, o, arr, w, hv, hl, hc => by
    simp only [List.length_cons] at hl
    have hcell : w.cell? ⟨b, o + i, none⟩ = arr[o + i]? := hc.cell (o + i)
    have hlt : o + i < arr.length := by omega
    rw [List.getElem?_eq_getElem hlt] at hcell
    have hfree : w.frozen? ⟨b, o + i, none⟩ = false := hc.free (o + i)
    have hc' := hc.set (o + i) v
    obtain ⟨w', h1, h2, h3⟩ := run_storeCells vs (i + 1) o (arr.set (o + i) v) (w.setCell ⟨b, o + i, none⟩ v) (fun u hu => hv u (by simp [hu])) (by rw [List.length_set]; omega) hc'
    refine ⟨w', ?_, ((Kept.refl (fun k => k = b) w).setCell (fun _ => rfl) v).trans h2, h3.cast ?_⟩
    · simp only [storeCells, Sem.run_bind, addr_add, run_store P w _ v _ (hv v (by simp)), hcell, hfree, Bool.false_eq_true, if_false, Result.andThen_ok, h1]
    · apply List.ext_getElem?
      intro j
      rw [splice_get _ _ _ (by rw [List.length_set]; omega), splice_get _ _ _ (by simp only [List.length_cons]; omega), List.getElem?_set, List.length_cons]
      by_cases h1 : j < o + i
      · rw [if_pos (by omega), if_neg (by omega), if_pos h1]
      · by_cases h2 : j = o + i
        · subst h2
          rw [if_pos (by omega), if_pos rfl, if_pos (by omega), if_neg (by omega), if_pos (by omega), Nat.sub_self]; rfl
        · rw [if_neg (by omega), if_neg h1]
          by_cases h3 : j < o + i + (vs.length + 1)
          · rw [if_pos (by omega), if_pos h3, show j - (o + i) = (j - (o + (i + 1))) + 1 by omega]; rfl
          · rw [if_neg (by omega), if_neg h3, if_neg (by omega)]
theorem putCells_ok {n : Nat} (hn : n ≤ lim) : ∀ {l : List Value} {i : Nat} {t t' : Tr Value}, putCells n l i t = some t' → (l = [] ∨ i + l.length ≤ n) ∧ (∀ v ∈ l, one v = true) ∧ ∀ j, t'.get? j = if i ≤ j ∧ j < i + l.length then l[j - i]? else t.get? j
  | [], i, t, t', h => by
    cases h
    exact ⟨.inl rfl, by simp, fun j => by rw [if_neg (by simp only [List.length_nil]; omega)]⟩
  | v :: l, i, t, t', h => by
    obtain ⟨h1, h2⟩ := ifo_some (show ifo (Nat.blt i n && one v) (putCells n l (i + 1) (Tr.set 20 t i v)) = some t' from h)
    simp only [Bool.and_eq_true, Nat.blt_eq] at h1
    obtain ⟨a1, a2, a3⟩ := putCells_ok hn h2
    refine ⟨.inr ?_, fun u hu => ?_, fun j => ?_⟩
    · rcases a1 with e | e
      · subst e; simp only [List.length_cons, List.length_nil]; omega
      · simp only [List.length_cons]; omega
    · rcases List.mem_cons.1 hu with e | e
      · rw [e]; exact h1.2
      · exact a2 u e
    · rw [a3, Tr.get_set20 _ _ _ _ (by unfold lim at hn; omega), List.length_cons]
      by_cases e1 : j = i
      · subst e1; rw [if_neg (by omega), if_pos rfl, if_pos (by omega), Nat.sub_self]; rfl
      · by_cases e2 : i + 1 ≤ j ∧ j < i + 1 + l.length
        · rw [if_pos e2, if_pos (by omega), show j - i = (j - (i + 1)) + 1 by omega]; rfl
        · rw [if_neg e2, if_neg e1, if_neg (by omega)]
/-- A row in which cells were put. -/
theorem objC_put {n : Nat} {c c' : Tr Value} {d : Option Value} {e : TypeId} {op ro : Bool} {q : Nat × Nat} {w w' : World} {arr l l' : List Value} {i : Nat} (h : ObjC E ρ w q (.row n c d e op ro)) (hc : Cells w q.1 arr e) (hp : putCells n l i c = some c') (hr : RelL ρ l l') (hc' : Cells w' q.1 (splice arr i l') e) (hl : i + l'.length ≤ arr.length) :
    ObjC E ρ w' q (.row n c' d e op ro) := by
  obtain ⟨arr', b1, b2, b3, b4, b5, b6⟩ := h
  have : arr' = arr := by
    unfold Cells at b1 hc
    rw [b1] at hc
    simpa using hc
  subst this
  obtain ⟨_, _, a3⟩ := putCells_ok b3 hp
  have hlen : (splice arr' i l').length = arr'.length := splice_length _ _ _ hl
  refine ⟨splice arr' i l', hc', by omega, b3, fun e => by rw [hlen]; exact b4 e, fun e => by rw [hlen]; exact b5 e, fun j v hv => ?_⟩
  obtain ⟨k1, k2⟩ := ifo_some hv
  rw [splice_get _ _ _ hl]
  rw [a3] at k2
  have hll := hr.1
  by_cases e : i ≤ j ∧ j < i + l.length
  · rw [if_pos e] at k2
    rw [if_neg (by omega), if_pos (by omega)]
    have hx : ∃ x, l[j - i]? = some x := ⟨_, List.getElem?_eq_getElem (by omega)⟩
    obtain ⟨x, hx⟩ := hx
    rw [hx] at k2
    cases k2
    exact hr.at hx
  · rw [if_neg e] at k2
    have hold := b6 j v (by unfold cellAt; rw [k1]; exact k2)
    by_cases e2 : j < i
    · rw [if_pos e2]; exact hold
    · rw [if_neg e2, if_neg (by omega)]; exact hold
theorem storeAt_ok (hE : EnvOk P E) (hc : Conc E G ρ m w) {t : TypeId} {p p' v v' : Value} {m' : Mem} (hp : Rel ρ p p') (hv : Rel ρ v v') (h : storeAt E t m v p = some m') :
    ∃ w', (Instr.storeAt t p' v').run P w = .ok () w' ∧ Conc E G ρ m' w' ∧ HeldBy G.X w w' := by
  obtain ⟨b, o, rfl, h⟩ := ptr_some h
  obtain ⟨n, c, d, e, op, ro, h1, h⟩ := row_some h
  obtain ⟨k, h2, h⟩ := ob_some h
  obtain ⟨h3, h⟩ := ifo_some h
  obtain ⟨c', h4, h5⟩ := ob_some h
  cases h5
  simp only [Bool.and_eq_true] at h3
  have hk : v.cells.toList.length = k := Nat.eq_of_beq_eq_true h3.2
  cases hp with
  | ptr _ _ q hq =>
  obtain ⟨q', a1, a2, a3⟩ := hc.rows b _ h1
  rw [hq] at a1; cases a1
  have ⟨arr, b1, b2, b3, _⟩ := a2
  obtain ⟨p1, p2, _⟩ := putCells_ok b3 h4
  have hrc := hv.cells
  have hone : ∀ u ∈ v'.cells.toList, u.oneCell' = true := by
    intro u hu
    obtain ⟨i, hi⟩ := List.mem_iff_getElem?.1 hu
    have hl : i < v.cells.toList.length := by rw [hrc.1]; exact (List.getElem?_eq_some_iff.1 hi).1
    exact one_cell (hrc.2 i _ u (List.getElem?_eq_getElem hl) hi) (p2 _ (List.getElem_mem hl))
  have hlen : v.cells.toList = [] ∨ o + v'.cells.toList.length ≤ arr.length := by
    rcases p1 with e | e
    · exact .inl e
    · right; have := hrc.1; omega
  have hsz : v'.cells.size = k := by
    have : v'.cells.size = v'.cells.toList.length := by simp
    have := hrc.1; omega
  rcases hlen with hl | hl
  · exfalso
    rw [hl] at hk
    have h0 := h3.1.2
    rw [Nat.blt_eq] at h0
    simp only [List.length_nil] at hk; omega
  · obtain ⟨w', r1, r2, r3⟩ := run_storeCells (P := P) v'.cells.toList 0 o arr w hone (by omega) b1
    obtain ⟨c1, c2⟩ := hc.put h1 (by show (!ro) = true; exact h3.1.1) hq r2 (objC_put a2 b1 h4 hrc (by simpa using r3) hl)
    refine ⟨w', ?_, c1, c2⟩
    simp only [Instr.storeAt, Instr.sureAddr, storeVar, Sem.run_bind, Sem.run_pure, Result.andThen_ok, hE.run_size h2, hsz, ne_eq, not_true, if_false, Sem.run_ite, r1]
end
end Go.Proofs.YtgmdbfackbdnlaaGreatDoor

/- The executor: maps change. -/
namespace Go.Proofs.YtgmdbfackbdnlaaGreatDoor
open Go.RowKit Bl Th Go.Sx
set_option maxRecDepth 10000

section
variable {P : Program} {E : Env} {G : Gh} {ρ : Ren} {m : Mem} {w : World} {T : Tr Value} {a : Act}
theorem kept_obj {r : Nat} {o : Obj} : Kept (fun k => k = r) w { w with heap := w.heap.setIfInBounds r o } := by
  refine ⟨rfl, rfl, rfl, by simp, fun k hk hne => ?_⟩
  show (w.heap.setIfInBounds r o)[k]? = w.heap[k]?
  rw [Array.getElem?_setIfInBounds_ne (fun e => hne e.symm)]
theorem heap_obj {r : Nat} {o : Obj} (h : r < w.heap.size) : ({ w with heap := w.heap.setIfInBounds r o } : World).heap[r]? = some o := by
  show (w.heap.setIfInBounds r o)[r]? = some o
  simp [h]
theorem run_setMap {r : Nat} {arr : List MapEntry} {cl : Nat} (h : w.heap[r]? = some (.map ⟨arr⟩ cl)) (o : Obj) : (setObj r o).run P w = .ok () { w with heap := w.heap.setIfInBounds r o } := by
  simp only [setObj, Sem.run, h]
theorem RelM.append {es : List (Value × Value × Nat)} {arr : List MapEntry} (h : RelM ρ es arr) {k k' v v' : Value} {b : Nat} (h1 : Rel ρ k k') (h2 : Rel ρ v v') : RelM ρ (es ++ [(k, v, b)]) (arr ++ [{ key := k', val := v', born := b }]) := by
  refine ⟨by simp [h.1], fun i x y hx hy => ?_⟩
  by_cases hi : i < es.length
  · rw [List.getElem?_append_left hi] at hx
    rw [List.getElem?_append_left (h.1 ▸ hi)] at hy
    exact h.2 i x y hx hy
  · rw [List.getElem?_append_right (by omega)] at hx
    rw [List.getElem?_append_right (by have := h.1; omega), ← h.1] at hy
    cases e : i - es.length with
    | zero => rw [e] at hx hy; simp at hx hy; subst hx; subst hy; exact ⟨h1, h2, rfl⟩
    | succ n => rw [e] at hx; simp at hx
theorem keyEq_true {d : TypeDesc} {k k' x x' : Value} (hk : keyOk d k = true) (h : keyEq k x = some true) (r1 : Rel ρ k k') (r2 : Rel ρ x x') : Rel ρ x k' ∧ Instr.sameBits 10000 x' k' = true := by
  unfold keyEq at h
  split at h
  · rename_i kk n kk' n'
    rw [rel_int r1, rel_int r2]
    split at h
    · rename_i e
      cases eqK_eq e
      have h : ieq n n' = true := Option.some.inj h
      rw [ieq_eq, beq_iff_eq] at h
      subst h
      exact ⟨.int _ _, by simp [Instr.sameBits]⟩
    · cases h
  · rename_i s s'
    cases r1; cases r2
    have h : bytesEq s s' = true := Option.some.inj h
    have e : s = s' := by
      unfold bytesEq at h
      split at h
      · rename_i e _
        obtain ⟨⟨x⟩⟩ := s
        obtain ⟨⟨y⟩⟩ := s'
        have e : x = y := e
        subst e; rfl
      · cases h
    subst e
    refine ⟨.string _, ?_⟩
    unfold Instr.sameBits
    rw [← bytesEq_eq]; exact h
  · cases h
/-- An entry changes. -/
theorem upd_ok {d : TypeDesc} {k k' v v' : Value} (hk : keyOk d k = true) (r1 : Rel ρ k k') (r2 : Rel ρ v v') : ∀ {es : List (Value × Value × Nat)} {arr : List MapEntry} {u : Value} (i : Nat), RelM ρ es arr → findK k es = some (some u) →
    ∃ j e0, arr[j]? = some e0 ∧ Instr.sameBits 10000 e0.key k' = true ∧ Instr.findNow d k' arr i = some (some (i + j, e0.val)) ∧ RelM ρ (updK k v es) (arr.modify j fun e => { e with key := k', val := v' })
  | [], arr, u, i, hm, h => by cases h
  | x :: es, arr, u, i, hm, h => by
    obtain ⟨y, rr, rfl, e1, e2, e3, e4⟩ := hm.cons_inv
    obtain ⟨b, h1, h2⟩ := ob_some (show ob (keyEq k x.1) (fun b => bif' b (some (some x.2.1)) (findK k es)) = some (some u) from h)
    have hn := keyEq_now hk h1 r1 e1
    have hu : updK k v (x :: es) = Option.rec (x :: updK k v es) (fun b => bif' b ((x.1, v, x.2.2) :: es) (x :: updK k v es)) (keyEq k x.1) := rfl
    rw [h1] at hu
    cases b with
    | true =>
      obtain ⟨k1, k2⟩ := keyEq_true hk h1 r1 e1
      refine ⟨0, y, rfl, k2, ?_, ?_⟩
      · unfold Instr.findNow; rw [hn]; rfl
      · rw [hu]
        show RelM ρ ((x.1, v, x.2.2) :: es) ({ y with key := k', val := v' } :: rr)
        refine ⟨by simp [e4.1], fun n p q hp hq => ?_⟩
        cases n with
        | zero => simp at hp hq; subst hp; subst hq; exact ⟨k1, r2, e3⟩
        | succ n => exact e4.2 n p q (by simpa using hp) (by simpa using hq)
    | false =>
      obtain ⟨j, e0, f1, f2, f3, f4⟩ := upd_ok hk r1 r2 (i + 1) e4 h2
      refine ⟨j + 1, e0, by simpa using f1, f2, ?_, ?_⟩
      · unfold Instr.findNow; rw [hn]
        rw [show i + (j + 1) = i + 1 + j by omega]; exact f3
      · rw [hu]
        show RelM ρ (x :: updK k v es) (y :: rr.modify j _)
        refine ⟨by simp [f4.1], fun n p q hp hq => ?_⟩
        cases n with
        | zero => simp at hp hq; subst hp; subst hq; exact ⟨e1, e2, e3⟩
        | succ n => exact f4.2 n p q (by simpa using hp) (by simpa using hq)
/-- A map's object behind a change. -/
theorem map_put (hc : Conc E G ρ m w) {b : Nat} {es es' : List (Value × Value × Nat)} {cl cl' : Nat} {q : Nat × Nat} (h1 : m.tr.get? b = some (.map es cl false)) (hq : ρ b = some q) {arr' : List MapEntry} (hm : RelM ρ es' arr') :
    Conc E G ρ (m.put b (.map es' cl' false)) { w with heap := w.heap.setIfInBounds q.1 (.map ⟨arr'⟩ cl') } ∧ HeldBy G.X w { w with heap := w.heap.setIfInBounds q.1 (.map ⟨arr'⟩ cl') } := by
  obtain ⟨q', a1, a2, _⟩ := hc.rows b _ h1
  rw [hq] at a1; cases a1
  have hlt := a2.lt rfl
  exact hc.put h1 rfl hq kept_obj ⟨⟨arr'⟩, heap_obj hlt, hm.1, fun i x a hx ha => hm.2 i x a hx (by simpa using ha)⟩
theorem oUpd_ok (hE : EnvOk P E) (hc : Conc E G ρ m w) (hT : Tmps ρ T a.tmps) {t : TypeId} {x k u : Operand} (hx : opdOk x = true) (hk : opdOk k = true) (hu : opdOk u = true) {v : Value} {m' : Mem} (h : oUpd t x k u E T m = some (v, m')) :
    v = .tuple ⟨[]⟩ ∧ ∃ w', (Instr.mapUpdate t (a.eval x) (a.eval k) (a.eval u)).run P w = .ok () w' ∧ Conc E G ρ m' w' ∧ HeldBy G.X w w' := by
  obtain ⟨xv, h1, h⟩ := ob_some h
  unfold mapP at h
  split at h
  · rename_i r
    obtain ⟨kv, h2, h⟩ := ob_some h
    obtain ⟨uv, h3, h⟩ := ob_some h
    obtain ⟨key, el, ud, g1, g2, g3, h⟩ := mapT_some h
    obtain ⟨es, cl, ro, g4, h⟩ := map_some h
    obtain ⟨g5, h⟩ := ifo_some h
    obtain ⟨f, g6, h⟩ := ob_some h
    have rx := ev_ok hT hx h1
    have rk := ev_ok hT hk h2
    have ru := ev_ok hT hu h3
    have hro : ro = false := by cases ro with | false => rfl | true => cases g5
    subst hro
    generalize a.eval x = x' at rx ⊢
    cases rx with
    | map _ q hq =>
    obtain ⟨q', b1, b2, _⟩ := hc.rows _ _ g4
    rw [hq] at b1; cases b1
    obtain ⟨arr, c1, c2⟩ := b2.relM
    have hck := run_checkKey (w := w) hE g2 g3 rk false 9999
    cases f with
    | none =>
      rcases findK_ok g3 rk 0 c2 g6 with ⟨_, f1⟩ | ⟨_, _, _, e, _⟩
      · cases h
        obtain ⟨d1, d2⟩ := map_put (cl' := cl + 1) hc g4 hq (c2.append (b := cl) rk ru)
        refine ⟨rfl, _, ?_, d1, d2⟩
        simp only [Instr.mapUpdate, Sem.run_bind, hE.run_under g1, Result.andThen_ok, run_getMap c1, hck, run_findKey hE g2 f1, run_setMap c1]
        congr 3
        simp
      · cases e
    | some u0 =>
      obtain ⟨j, e0, f1, f2, f3, f4⟩ := upd_ok g3 rk ru 0 c2 g6
      cases h
      obtain ⟨d1, d2⟩ := map_put (cl' := cl) hc g4 hq f4
      refine ⟨rfl, _, ?_, d1, d2⟩
      have hk0 : (Instr.keyThatStays ((((⟨arr⟩ : Array MapEntry)[0 + j]?).map (·.key)).getD (a.eval k)) (a.eval k)).run P w = .ok (a.eval k) w := by
        have : (⟨arr⟩ : Array MapEntry)[0 + j]? = some e0 := by rw [Nat.zero_add]; simpa using f1
        rw [this]
        simp only [Option.map_some, Option.getD_some, Instr.keyThatStays, f2, if_true, Sem.run_pure]
      simp only [Instr.mapUpdate, Sem.run_bind, hE.run_under g1, Result.andThen_ok, run_getMap c1, hck, run_findKey hE g2 f3, hk0, run_setMap c1]
      congr 3
      simp
  · cases h
end
end Go.Proofs.YtgmdbfackbdnlaaGreatDoor

/- The executor: append. -/
namespace Go.Proofs.YtgmdbfackbdnlaaGreatDoor
open Go.RowKit Bl Th Go.Sx
set_option maxRecDepth 10000

section
variable {P : Program} {E : Env} {G : Gh} {ρ : Ren} {m : Mem} {w : World} {T : Tr Value} {a : Act}
theorem firstCells_none (w : World) (sz : Nat) (a : Addr) (c : Nat) : (Builtin.firstCells sz 0 (.slice (some a) 0 c)).run P w = .ok ⟨[]⟩ w := by
  have h := run_loadCells_list (P := P) w a [] (fun j v hj => by simp at hj)
  have e : ([] : List Value).length = 0 * sz := by simp
  rw [e] at h
  exact h
/-- The cells of a slice. -/
theorem takeCells_ok (hc : Conc E G ρ m w) {sz : Nat} {v v' : Value} {k : Nat} {l : List Value} (h : takeCells m sz v = some (k, l)) (hr : Rel ρ v v') :
    ∃ a' c' l', v' = .slice a' k c' ∧ l.length = k * sz ∧ RelL ρ l l' ∧ ∀ w', Below w.heap.size w w' → (Builtin.firstCells sz k v').run P w' = .ok ⟨l'⟩ w' := by
  obtain ⟨ad, n, c, rfl, h⟩ := slc_some h
  cases ad with
  | none =>
    obtain ⟨h1, h⟩ := ifo_some (show ifo (Nat.beq n 0) (some (0, [])) = some (k, l) from h)
    have h1 : n = 0 := Nat.eq_of_beq_eq_true h1
    subst h1
    cases h
    cases hr
    exact ⟨none, _, [], rfl, by simp, .nil ρ, fun _ _ => rfl⟩
  | some ad =>
    have h : bif' (Nat.beq ad.off big) (ifo (Nat.beq n 0) (some (0, []))) (ob (m.row ad.block fun n' c d _ _ _ => ifo ad.spot.isNone (cellsAt n' c d (n * sz) ad.off)) fun l => some (n, l)) = some (k, l) := h
    rw [bif_eq] at h
    split at h
    · obtain ⟨h1, h⟩ := ifo_some h
      have h1 : n = 0 := Nat.eq_of_beq_eq_true h1
      subst h1
      cases h
      cases hr with
      | sl i o n c q hq => exact ⟨_, _, [], rfl, by simp, .nil ρ, fun w' _ => firstCells_none w' _ _ _⟩
      | slo i o n c q hq hz => exact ⟨_, _, [], rfl, by simp, .nil ρ, fun w' _ => firstCells_none w' _ _ _⟩
      | sle i o a c e => exact ⟨_, _, [], rfl, by simp, .nil ρ, fun w' _ => firstCells_none w' _ _ _⟩
    rename_i hbig
    obtain ⟨l0, h1, h2⟩ := ob_some h
    cases h2
    obtain ⟨n', c', d, e, op, ro, h3, h4⟩ := row_some h1
    obtain ⟨h5, h6⟩ := ifo_some h4
    have hq : ∃ q, ρ ad.block = some q ∧ ∃ c'', v' = .slice (some ⟨q.1, ad.off, none⟩) k c'' := by
      cases hr with
      | sl i o n c q hq => exact ⟨q, hq, _, rfl⟩
      | slo i o n c q hq hz => exact ⟨q, hq, _, rfl⟩
      | sle i o a c e => exact absurd (show Nat.beq o big = true by rw [e]; exact Nat.beq_refl big) hbig
    obtain ⟨q, hq, c'', rfl⟩ := hq
    obtain ⟨q', b1, b2, _⟩ := hc.rows _ _ h3
    rw [hq] at b1; cases b1
    obtain ⟨arr, d1, d2, _, _, _, d6⟩ := b2
    obtain ⟨r1, r2⟩ := cellsAt_rel d6 h6
    refine ⟨_, _, (arr.drop ad.off).take (k * sz), rfl, (cellsAt_ok _ _ _ h6).1, r1, fun w' hb => ?_⟩
    have d1 : Cells w' q.1 arr e := (hb.block _ d1.lt).trans d1
    have hld := run_loadCells_list (P := P) w' ⟨q.1, ad.off, none⟩ ((arr.drop ad.off).take (k * sz)) (fun j v hj => by
      rw [addr_add, d1.cell]
      rw [List.getElem?_take] at hj
      split at hj
      · rw [List.getElem?_drop] at hj; exact hj
      · cases hj)
    rw [r2] at hld
    exact hld
end
end Go.Proofs.YtgmdbfackbdnlaaGreatDoor

/- The executor: delete; what changes memory. -/
namespace Go.Proofs.YtgmdbfackbdnlaaGreatDoor
open Go.RowKit Bl Th Go.Sx
set_option maxRecDepth 10000

section
variable {P : Program} {E : Env} {G : Gh} {ρ : Ren} {m : Mem} {w : World} {T : Tr Value} {a : Act}
theorem del_ok {d : TypeDesc} {k k' : Value} (hk : keyOk d k = true) (r1 : Rel ρ k k') : ∀ {es : List (Value × Value × Nat)} {arr : List MapEntry} {f : Option Value} (i : Nat), RelM ρ es arr → findK k es = some f →
    (f = none ∧ Instr.findNow d k' arr i = some none ∧ delK k es = es) ∨ ∃ u j v0, f = some u ∧ Instr.findNow d k' arr i = some (some (i + j, v0)) ∧ RelM ρ (delK k es) (arr.eraseIdx j)
  | [], arr, f, i, hm, h => by
    cases h
    rw [hm.nil_inv]
    exact .inl ⟨rfl, rfl, rfl⟩
  | x :: es, arr, f, i, hm, h => by
    obtain ⟨y, rr, rfl, e1, e2, e3, e4⟩ := hm.cons_inv
    obtain ⟨b, h1, h2⟩ := ob_some (show ob (keyEq k x.1) (fun b => bif' b (some (some x.2.1)) (findK k es)) = some f from h)
    have hn := keyEq_now hk h1 r1 e1
    have hu : delK k (x :: es) = Option.rec (x :: delK k es) (fun b => bif' b es (x :: delK k es)) (keyEq k x.1) := rfl
    rw [h1] at hu
    cases b with
    | true =>
      cases h2
      refine .inr ⟨_, 0, y.val, rfl, ?_, ?_⟩
      · unfold Instr.findNow; rw [hn]; rfl
      · rw [hu]; exact e4
    | false =>
      rcases del_ok hk r1 (i + 1) e4 (show findK k es = some f from h2) with ⟨a1, a2, a3⟩ | ⟨u, j, v0, a1, a2, a3⟩
      · refine .inl ⟨a1, ?_, ?_⟩
        · unfold Instr.findNow; rw [hn]; exact a2
        · rw [hu]; show x :: delK k es = _; rw [a3]
      · refine .inr ⟨u, j + 1, v0, a1, ?_, ?_⟩
        · unfold Instr.findNow; rw [hn]
          rw [show i + (j + 1) = i + 1 + j by omega]; exact a2
        · rw [hu]
          show RelM ρ (x :: delK k es) (y :: rr.eraseIdx j)
          refine ⟨by simp [a3.1], fun n p q hp hq => ?_⟩
          cases n with
          | zero => simp at hp hq; subst hp; subst hq; exact ⟨e1, e2, e3⟩
          | succ n => exact a3.2 n p q (by simpa using hp) (by simpa using hq)
theorem bDel_ok (hE : EnvOk P E) (hc : Conc E G ρ m w) {t : TypeId} {ts : List TypeId} {ty : TypeId} {x x' k k' : Value} (r1 : Rel ρ x x') (r2 : Rel ρ k k') {v : Value} {m' : Mem} (h : bDel E t m k x = some (v, m')) :
    v = .tuple ⟨[]⟩ ∧ ∃ w', (Builtin.delete_ ⟨t :: ts⟩ ty ⟨[x', k']⟩).run P w = .ok (.tuple ⟨[]⟩) w' ∧ Conc E G ρ m' w' ∧ HeldBy G.X w w' := by
  unfold bDel at h
  split at h
  · obtain ⟨key, el, ud, g1, g2, g3, h⟩ := mapT_some h
    cases h
    cases r1
    have hck := run_checkKey (w := w) hE g2 g3 r2 true 9999
    refine ⟨rfl, w, ?_, hc, HeldBy.refl _ _⟩
    simp [Builtin.delete_, hE.run_under g1, hck]
  · obtain ⟨key, el, ud, g1, g2, g3, h⟩ := mapT_some h
    obtain ⟨es, cl, ro, g4, h⟩ := map_some h
    obtain ⟨g5, h⟩ := ifo_some h
    obtain ⟨f, g6, h⟩ := ob_some h
    cases h
    have hro : ro = false := by cases ro with | false => rfl | true => cases g5
    subst hro
    cases r1 with
    | map _ q hq =>
    obtain ⟨q', b1, b2, _⟩ := hc.rows _ _ g4
    rw [hq] at b1; cases b1
    obtain ⟨arr, c1, c2⟩ := b2.relM
    have hck := fun b => run_checkKey (w := w) hE g2 g3 r2 b 9999
    rcases del_ok g3 r2 0 c2 g6 with ⟨_, f1, f2⟩ | ⟨u, j, v0, _, f1, f2⟩
    · rw [f2]
      obtain ⟨d1, d2⟩ := map_put (cl' := cl) hc g4 hq c2
      refine ⟨rfl, _, ?_, d1, d2⟩
      simp [Builtin.delete_, hE.run_under g1, run_getMap c1, hck, run_findKey hE g2 f1, run_setMap c1]
    · obtain ⟨d1, d2⟩ := map_put (cl' := cl) hc g4 hq f2
      refine ⟨rfl, _, ?_, d1, d2⟩
      simp [Builtin.delete_, hE.run_under g1, run_getMap c1, hck, run_findKey hE g2 f1, run_setMap c1]
  · cases h
end
end Go.Proofs.YtgmdbfackbdnlaaGreatDoor

/- The executor: a row goes on under a new number. -/
namespace Go.Proofs.YtgmdbfackbdnlaaGreatDoor
open Go.RowKit Bl Th Go.Sx
set_option maxRecDepth 10000

section
variable {P : Program} {E : Env} {G : Gh} {ρ : Ren} {m : Mem} {w : World} {T : Tr Value} {a : Act}
/-- What stood at b is no more known by that number; it stands at i. -/
theorem Conc.alias (h : Conc E G ρ m w) {w' : World} {b i nx : Nat} {o o' : SObj} {q : Nat × Nat} (hg : m.tr.get? b = some o) (hm : chg o = true) (hq : ρ b = some q) (hi : ρ i = none) (hl : i < lim) (hnx : m.nx ≤ nx) (hin : i < nx)
    (k : Kept (fun k => k = q.1) w w') (ho : ObjC E (ρ.put i q) w' q o') :
    Conc E G (ρ.put i q) { ((m.put b .dead).newAt i o') with nx := nx } w' ∧ HeldBy G.X w w' := by
  have hmo : ∀ o : SObj, chg o = true → isObj o = true := by intro o; cases o <;> simp [chg, isObj]
  have hbl : b ≤ 1048574 := by have := (h.dom b q hq).2; unfold lim at this; omega
  have hbi : b ≠ i := fun e => by rw [e, hi] at hq; cases hq
  have hg' : ∀ j, ({ ((m.put b .dead).newAt i o') with nx := nx } : Mem).tr.get? j = if j = i then some o' else if j = b then some .dead else m.tr.get? j := fun j => by
    show (Tr.set 20 (Tr.set 20 m.tr b .dead) i o').get? j = _
    rw [Tr.get_set20 _ _ _ _ (by unfold lim at hl; omega), Tr.get_set20 _ _ _ _ hbl]
  obtain ⟨q1, a1, a2, a3⟩ := h.rows b o hg
  rw [hq] at a1; cases a1
  refine h.turn (Ren.le_put hi) ⟨rfl, rfl, rfl, rfl⟩ ⟨rfl, rfl⟩ (k.mono fun x _ e => ⟨b, o, q, hg, hm, hq, e⟩) (fun j p hj => ?_) (fun j x hj => ?_) (fun c d oc od qc qd hc hd hoc hod hqc hqd e => ?_)
  · show j < nx ∧ j < lim
    by_cases e : j = i
    · exact ⟨by omega, by omega⟩
    · rw [Ren.put_ne _ _ e] at hj
      have := h.dom j p hj
      exact ⟨by omega, this.2⟩
  · rw [hg'] at hj
    by_cases e : j = i
    · rw [if_pos e] at hj; cases hj; subst e
      exact ⟨q, Ren.put_self _ _ _, ho, fun _ => a3 hm, fun _ => .inl ⟨b, o, hg, hmo o hm, hq⟩⟩
    · rw [if_neg e] at hj
      by_cases e2 : j = b
      · rw [if_pos e2] at hj; cases hj; subst e2
        exact ⟨q, (Ren.put_ne _ _ e).trans hq, trivial, (fun hh => by cases hh), (fun hh => by cases hh)⟩
      · rw [if_neg e2] at hj
        obtain ⟨p, b1, b2, b3⟩ := h.rows j x hj
        refine ⟨p, (Ren.put_ne _ _ e).trans b1, b2.to (Ren.le_put hi) fun hi' => k.block _ (b2.lt hi') fun e' => e2 ?_, b3, fun hi' => .inl ⟨j, x, hj, hi', b1⟩⟩
        exact h.inj j b x o p q hj hg hi' (hmo o hm) b1 hq e'
  · rw [hg'] at hc hd
    have key : ∀ c oc qc, (if c = i then some o' else if c = b then some .dead else m.tr.get? c) = some oc → isObj oc = true → (ρ.put i q) c = some qc → (c = i ∧ qc = q) ∨ (c ≠ i ∧ c ≠ b ∧ m.tr.get? c = some oc ∧ ρ c = some qc) := by
      intro c oc qc h1 h2 h3
      by_cases e : c = i
      · subst e; rw [Ren.put_self] at h3; cases h3; exact .inl ⟨rfl, rfl⟩
      · rw [if_neg e] at h1
        rw [Ren.put_ne _ _ e] at h3
        by_cases e2 : c = b
        · rw [if_pos e2] at h1; cases h1; cases h2
        · rw [if_neg e2] at h1
          exact .inr ⟨e, e2, h1, h3⟩
    rcases key c oc qc hc hoc hqc with ⟨e1, rfl⟩ | ⟨e1, e2, e3, e4⟩ <;> rcases key d od qd hd hod hqd with ⟨f1, rfl⟩ | ⟨f1, f2, f3, f4⟩
    · omega
    · exact absurd (h.inj d b od o qd _ f3 hg hod (hmo o hm) f4 hq e.symm) f2
    · exact absurd (h.inj c b oc o qc _ e3 hg hoc (hmo o hm) e4 hq e) e2
    · exact h.inj c d oc od qc qd e3 f3 hoc hod e4 f4 e
end
end Go.Proofs.YtgmdbfackbdnlaaGreatDoor

/- The executor: append. -/
namespace Go.Proofs.YtgmdbfackbdnlaaGreatDoor
open Go.RowKit Bl Th Go.Sx
set_option maxRecDepth 10000

section
variable {P : Program} {E : Env} {G : Gh} {ρ : Ren} {m : Mem} {w : World} {T : Tr Value} {a : Act}
theorem lenOf_slice {p : Option Addr} {n c : Nat} : (Builtin.lenOf (.slice p n c)).run P w = .ok n w := rfl
/-- There is room: it stays where it is. -/
theorem run_append_in (hE : EnvOk P E) {t u e ue : TypeId} {ts : List TypeId} {ty : TypeId} {sz : Nat} (ht : E.under t = some (.slice e)) (hz : E.size e = some sz) (hu : E.under u = some (.slice ue)) {p q : Option Addr} {n c k c2 : Nat} {new : List Value} {w' : World}
    (hf : (Builtin.firstCells sz k (.slice q k c2)).run P w = .ok ⟨new⟩ w) (hroom : n + k ≤ c) (hs : ∀ ad, p = some ad → (storeCells (ad.add (n * sz)) new).run P w = .ok () w') (hp : p = none → w' = w) :
    (Builtin.append_ ⟨t :: u :: ts⟩ ty ⟨[.slice p n c, .slice q k c2]⟩).run P w = .ok (.slice p (n + k) c) w' := by
  cases p with
  | none =>
    have := hp rfl
    subst this
    simp [Builtin.append_, hE.run_under ht, hE.run_size hz, hE.run_under hu, lenOf_slice, hroom, hf]
  | some ad =>
    have := hs ad rfl
    simp [Builtin.append_, hE.run_under ht, hE.run_size hz, hE.run_under hu, lenOf_slice, hroom, hf, this]
/-- There is none: a new row, whose room is drawn. -/
theorem run_append_new (hE : EnvOk P E) {t u e ue : TypeId} {ts : List TypeId} {ty : TypeId} {inf : TypeInfo} {z : Value} (ht : E.under t = some (.slice e)) (hi : E.ty e = some inf) (hz : inf.zero = some z) (hzs : z.cells.size = inf.size) (hb : inf.bytes ≤ 10000) (hu : E.under u = some (.slice ue)) {p q : Option Addr} {n c k c2 : Nat} {old new : List Value}
    (hf : (Builtin.firstCells inf.size k (.slice q k c2)).run P w.drew = .ok ⟨new⟩ w.drew) (ho : (Builtin.firstCells inf.size n (.slice p n c)).run P w.drew = .ok ⟨old⟩ w.drew) (hroom : c < n + k) (hl : n + k ≤ 1000000) :
    ∃ nc rest, n + k ≤ nc ∧ nc < 9223372036854775808 ∧ rest.length = (nc - (n + k)) * inf.size ∧
    (Builtin.append_ ⟨t :: u :: ts⟩ ty ⟨[.slice p n c, .slice q k c2]⟩).run P w = .ok (.slice (some ⟨w.heap.size, 0, none⟩) (n + k) nc) (w.drew.alloc (.cells (old ++ new ++ rest).toArray e)) := by
  have hfit : Builtin.nextslicecap (n + k) c * inf.bytes ≤ 281474976710656 := growslice_fits hroom (by
    have : (n + k) * inf.bytes ≤ 1000000 * 10000 := Nat.mul_le_mul hl hb
    omega)
  have hsize : E.size e = some inf.size := by
    show ob (E.ty e) _ = _
    rw [hi]; rfl
  have hzero : E.zero e = some z := by
    show ob (E.ty e) (fun i => i.zero) = some z
    rw [hi]; exact hz
  obtain ⟨nc, hnc⟩ : ∃ nc, (n + k) + (w.tape w.drawn (.appendCap (n + k) c e)) % (2 ^ 63 - (n + k)) = nc := ⟨_, rfl⟩
  have h63 : (2 : Nat) ^ 63 = 9223372036854775808 := by decide
  have hmod : (w.tape w.drawn (.appendCap (n + k) c e)) % (2 ^ 63 - (n + k)) < 2 ^ 63 - (n + k) := Nat.mod_lt _ (by omega)
  refine ⟨nc, (Builtin.zeroCells z.cells (nc - (n + k))).toList, by omega, by omega, by simp [Builtin.zeroCells, hzs], ?_⟩
  have h1 : ¬ ((n + k : Nat) : Int) > IntKind.i64.max := by
    have : IntKind.i64.max = 9223372036854775807 := by decide
    rw [this]; omega
  have h2 : ¬ (n + k ≤ c) := by omega
  have h3 : ¬ (Builtin.nextslicecap (n + k) c * inf.bytes > 2 ^ 48) := by
    have : (2 : Nat) ^ 48 = 281474976710656 := by decide
    omega
  have hch : (choose (.appendCap (n + k) c e)).run P w = .ok nc w.drew := by
    rw [run_choose]
    show (if false = true then _ else Result.ok ((n + k) + (w.tape w.drawn (.appendCap (n + k) c e)) % (2 ^ 63 - (n + k))) _) = _
    rw [hnc]; rfl
  have hti := fun w => hE.run_info hi w
  have hzr := fun w => hE.run_zero hzero w
  have hsz := fun w => hE.run_size hsize w
  have hut := fun w => hE.run_under ht w
  have huu := fun w => hE.run_under hu w
  simp only [Builtin.append_, List.getElem?_toArray, List.getElem?_cons_zero, List.getElem?_cons_succ, Sem.run_bind, hut, huu, hsz, Result.andThen_ok, Sem.run_pure, lenOf_slice, Bool.false_eq_true, if_false, Sem.run_ite, h2, hti, h1, false_and, h3, hch, run_askRoom, ho, Bool.not_false, if_true, hf, hzr, newRow, run_newObj]
  have hcat : (⟨old⟩ ++ ⟨new⟩ ++ Builtin.zeroCells z.cells (nc - (n + k)) : Array Value) = (old ++ new ++ (Builtin.zeroCells z.cells (nc - (n + k))).toList).toArray := by
    apply Array.ext'; simp
  rw [hcat]
  rfl
end
end Go.Proofs.YtgmdbfackbdnlaaGreatDoor

/- The executor: append and copy, whatever comes of them. -/
namespace Go.Proofs.YtgmdbfackbdnlaaGreatDoor
open Go.RowKit Bl Th Go.Sx
set_option maxRecDepth 10000

/-- From one place in the run to a later one. -/
structure Since (G : Gh) (n : Nat) (ρ : Ren) (w : World) (ρ' : Ren) (w' : World) : Prop where
  le : ρ.le ρ'
  low : ∀ j, j < n → ρ' j = ρ j
  by' : HeldBy G.X w w'
theorem Since.refl (G : Gh) (n : Nat) (ρ : Ren) (w : World) : Since G n ρ w ρ w := ⟨Ren.le_refl ρ, fun _ _ => rfl, HeldBy.refl _ _⟩
theorem Since.trans {G : Gh} {n n' : Nat} {ρ ρ1 ρ2 : Ren} {w w1 w2 : World} (h : Since G n ρ w ρ1 w1) (k : Since G n' ρ1 w1 ρ2 w2) (hn : n ≤ n') : Since G n ρ w ρ2 w2 :=
  ⟨Ren.le_trans h.le k.le, fun j hj => (k.low j (Nat.lt_of_lt_of_le hj hn)).trans (h.low j hj), HeldBy.trans h.by' k.by'⟩
/-- What an effect comes to. -/
def EffPost (E : Env) (G : Gh) (ρ : Ren) (m : Mem) (w : World) (v : Value) (m' : Mem) (v' : Value) (w' : World) : Prop :=
  ∃ ρ', Since G m.nx ρ w ρ' w' ∧ m.nx ≤ m'.nx ∧ Rel ρ' v v' ∧ Conc E G ρ' m' w'

section
variable {P : Program} {E : Env} {G : Gh} {ρ : Ren} {m : Mem} {w : World} {T : Tr Value} {a : Act}
theorem Conc.fresh (h : Conc E G ρ m w) : ρ m.nx = none := by
  cases e : ρ m.nx with
  | none => rfl
  | some q => have := (h.dom _ _ e).1; omega
theorem EffPost.under {v v' : Value} {m' : Mem} {w1 w' : World} (h : EffPost E G ρ m w1 v m' v' w') (k : HeldBy G.X w w1) : EffPost E G ρ m w v m' v' w' := by
  obtain ⟨ρ', s, a, b, c⟩ := h
  exact ⟨ρ', ⟨s.le, s.low, HeldBy.trans k s.by'⟩, a, b, c⟩
theorem allOne_ok : ∀ {l : List Value}, allOne l = true → ∀ v ∈ l, one v = true
  | [], _, v, hv => by cases hv
  | x :: l, h, v, hv => by
    have h : (one x && allOne l) = true := h
    rw [Bool.and_eq_true] at h
    rcases List.mem_cons.1 hv with e | e
    · rw [e]; exact h.1
    · exact allOne_ok h.2 v e
theorem ones_rel {l l' : List Value} (hr : RelL ρ l l') (h : ∀ v ∈ l, one v = true) : ∀ u ∈ l', u.oneCell' = true := by
  intro u hu
  obtain ⟨j, hj⟩ := List.mem_iff_getElem?.1 hu
  have hl : j < l.length := by rw [hr.1]; exact (List.getElem?_eq_some_iff.1 hj).1
  exact one_cell (hr.2 j _ u (List.getElem?_eq_getElem hl) hj) (h _ (List.getElem_mem hl))
theorem putRow_ok (hc : Conc E G ρ m w) {b n : Nat} {c c' : Tr Value} {d : Option Value} {e : TypeId} {op : Bool} {q : Nat × Nat} (h1 : m.tr.get? b = some (.row n c d e op false)) (hq : ρ b = some q) {i : Nat} {l l' : List Value} (hp : putCells n l i c = some c') (hr : RelL ρ l l') :
    ∃ w', (storeCells ⟨q.1, i, none⟩ l').run P w = .ok () w' ∧ Conc E G ρ (m.put b (.row n c' d e op false)) w' ∧ HeldBy G.X w w' := by
  obtain ⟨q', a1, a2, a3⟩ := hc.rows b _ h1
  rw [hq] at a1; cases a1
  have ⟨arr, b1, b2, b3, _⟩ := a2
  obtain ⟨p1, p2, _⟩ := putCells_ok b3 hp
  have hone := ones_rel hr p2
  have hlen := hr.1
  rcases p1 with rfl | hl
  · obtain rfl := hr.nil_inv
    cases hp
    obtain ⟨c1, c2⟩ := hc.put h1 rfl hq (Kept.refl _ w) a2
    exact ⟨w, rfl, c1, c2⟩
  · obtain ⟨w', r1, r2, r3⟩ := run_storeCells (P := P) l' 0 i arr w hone (by omega) b1
    obtain ⟨c1, c2⟩ := hc.put h1 rfl hq r2 (objC_put a2 b1 hp hr (by simpa using r3) (by omega))
    exact ⟨w', r1, c1, c2⟩
theorem newV_ok (hc : Conc E G ρ m w) {len sz nc : Nat} {c : Tr Value} {d : Option Value} {e : TypeId} {v : Value} {m' : Mem} (h : newRowV m len sz c d e = some (v, m')) (hs : E.size e = some sz) {arr : List Value} (hl : arr.length = nc * sz) (hle : len * sz ≤ arr.length) (hnc : nc ≠ big)
    (hk : len * sz ≤ lim → ∀ i u, cellAt (len * sz) c d i = some u → ∃ u', arr[i]? = some u' ∧ Rel ρ u u') :
    EffPost E G ρ m w v m' (.slice (some ⟨w.heap.size, 0, none⟩) len nc) (w.alloc (.cells arr.toArray e)) := by
  obtain ⟨h1, h2⟩ := ifo_some h
  simp only [Bool.and_eq_true] at h1
  obtain ⟨⟨a1, a2⟩, a3⟩ := h1
  have a1 : len * sz ≤ lim := Nat.le_of_ble_eq_true a1
  rw [Nat.blt_eq] at a2 a3
  cases h2
  have hi := hc.fresh
  obtain ⟨c1, c2⟩ := hc.alloc hi a2 (Nat.le_succ m.nx) (Nat.lt_succ_self _) (.row (len * sz) c d e true false) (.cells arr.toArray e) nc
    ⟨arr, Cells.new w arr e, hle, a1, (fun e => by cases e), fun _ => ⟨sz, hs, a3, hl, hnc⟩, fun i u hu => by obtain ⟨u', x, y⟩ := hk a1 i u hu; exact ⟨u', x, y.mono (Ren.le_put hi)⟩⟩
  exact ⟨_, ⟨Ren.le_put hi, fun j hj => Ren.put_ne _ _ (by omega), c2⟩, Nat.le_succ _, .slo m.nx 0 len _ _ (Ren.put_self _ _ _) ⟨fun _ => rfl, Nat.le_of_mul_le_mul_right (hl ▸ hle) a3⟩, c1⟩
theorem firstCells_row {b sz k off k' c' : Nat} {arr : List Value} {e : TypeId} (h : Cells w b arr e) (hl : off + k * sz ≤ arr.length) : (Builtin.firstCells sz k (.slice (some ⟨b, off, none⟩) k' c')).run P w = .ok ⟨(arr.drop off).take (k * sz)⟩ w := by
  have hL : ((arr.drop off).take (k * sz)).length = k * sz := by rw [List.length_take, List.length_drop]; omega
  have hld := run_loadCells_list (P := P) w ⟨b, off, none⟩ ((arr.drop off).take (k * sz)) (fun j v hj => by
    rw [addr_add, h.cell]
    rw [List.getElem?_take] at hj
    split at hj
    · rw [List.getElem?_drop] at hj; exact hj
    · cases hj)
  rw [hL] at hld
  exact hld
/-- A row that goes on. -/
theorem grow_cells {arr A : List Value} {n L : Nat} {c : Tr Value} {d : Option Value} {new new' : List Value} (b6 : ∀ i v, cellAt n c d i = some v → ∃ v', arr[i]? = some v' ∧ Rel ρ v v') (hL : L ≤ n) (hn : RelL ρ new new') (hb : L + new.length ≤ 1048575) (hA1 : ∀ j, j < L → A[j]? = arr[j]?) (hA2 : ∀ j, j < new'.length → A[L + j]? = new'[j]?) :
    ∀ i v, cellAt (L + new.length) (Tr.ofList new L c) d i = some v → ∃ v', A[i]? = some v' ∧ Rel ρ v v' := by
  intro i v hv
  obtain ⟨h1, h2⟩ := ifo_some hv
  rw [Nat.blt_eq] at h1
  rw [Tr.get_ofList _ _ _ _ hb] at h2
  by_cases e : L ≤ i
  · rw [if_pos ⟨e, h1⟩] at h2
    obtain ⟨x, hx⟩ : ∃ x, new[i - L]? = some x := ⟨_, List.getElem?_eq_getElem (by omega)⟩
    rw [hx] at h2
    cases h2
    obtain ⟨y, hy, r⟩ := hn.at hx
    refine ⟨y, ?_, r⟩
    have := hA2 (i - L) (List.getElem?_eq_some_iff.1 hy).1
    rw [show L + (i - L) = i by omega] at this
    exact this.trans hy
  · rw [if_neg (by omega)] at h2
    obtain ⟨y, hy, r⟩ := b6 i v (by unfold cellAt; rw [show Nat.blt i n = true by rw [Nat.blt_eq]; omega]; exact h2)
    exact ⟨y, (hA1 i (by omega)).trans hy, r⟩
theorem list_cells {old old' : List Value} (hr : RelL ρ old old') (hb : old.length ≤ 1048575) : ∀ i v, cellAt old.length (Tr.ofList old 0 .nil) none i = some v → ∃ v', old'[i]? = some v' ∧ Rel ρ v v' := by
  have := grow_cells (ρ := ρ) (arr := []) (A := old') (n := 0) (L := 0) (c := .nil) (d := none) (new := old) (new' := old') (fun i v h => by
    obtain ⟨h1, _⟩ := ifo_some h
    rw [Nat.blt_eq] at h1; omega) (Nat.le_refl _) hr (by omega) (fun j hj => by omega) (fun j _ => by rw [Nat.zero_add])
  rw [Nat.zero_add] at this
  exact this

set_option maxHeartbeats 1000000 in
theorem xappend_ok (hE : EnvOk P E) (hc : Conc E G ρ m w) {t u ue : TypeId} {ts : List TypeId} {ty : TypeId} {s s' x x' v : Value} {m' : Mem} (hu : E.under u = some (.slice ue)) (r1 : Rel ρ s s') (r2 : Rel ρ x x') (h : xappend E m t s x = some (v, m')) :
    ∃ v' w', (Builtin.append_ ⟨t :: u :: ts⟩ ty ⟨[s', x']⟩).run P w = .ok v' w' ∧ EffPost E G ρ m w v m' v' w' := by
  obtain ⟨e, sz, g1, g2, h⟩ := EnvOk.elemS h
  obtain ⟨inf, g3, h⟩ := ob_some h
  obtain ⟨z, g4, h⟩ := ob_some h
  obtain ⟨g5, h⟩ := ifo_some h
  simp only [Bool.and_eq_true] at g5
  have gb : inf.bytes ≤ 10000 := Nat.le_of_ble_eq_true g5.1
  have gz : z.cells.toList.length = sz := Nat.eq_of_beq_eq_true g5.2
  obtain ⟨ad, len, cap, rfl, h⟩ := slc_some h
  obtain ⟨⟨k, new⟩, g6, h⟩ := ob_some h
  obtain ⟨g7, h⟩ := ifo_some h
  simp only [Bool.and_eq_true] at g7
  obtain ⟨g7, g8⟩ := g7
  have g7 : len + k ≤ 1000000 := Nat.le_of_ble_eq_true g7
  have g8 := allOne_ok g8
  have gs : sz = inf.size := by
    have g2' : ob (E.ty e) (fun i => some i.size) = some sz := g2
    rw [g3] at g2'; exact (Option.some.inj g2').symm
  have gzs : z.cells.size = inf.size := by rw [← gs, ← gz]; simp
  obtain ⟨xa, xc, new', rfl, n1, n2, n3⟩ := takeCells_ok (P := P) hc g6 r2
  have n4 := n3 w (Below.refl _ _)
  have hbel : Below w.heap.size w w.drew := (Below.refl _ w).drew
  have n5 := n3 w.drew hbel
  obtain ⟨hcd, hhd⟩ := hc.under hbel
  have hlen := n2.1
  rw [bif_eq] at h
  split at h
  · rename_i hb
    have hb : cap = big := Nat.eq_of_beq_eq_true hb
    have hh : bif' (Nat.beq k 0) (some (Value.slice ad len cap, m)) (ob ad fun a => appOpen E m a len k sz new e) = some (v, m') := h
    clear h
    by_cases hk0 : k = 0
    · subst hk0
      have hh : some (Value.slice ad len cap, m) = some (v, m') := hh
      cases hh
      have hnil : new' = [] := by
        have : new'.length = 0 := by rw [← hlen, n1, Nat.zero_mul]
        exact List.length_eq_zero_iff.1 this
      subst hnil
      cases r1 with
      | sl0 _ _ hcb => exact absurd hb hcb
      | sl i o nn cc q hq hcb => exact absurd hb hcb
      | slo i oo nn cc q hq hz =>
        exact ⟨_, w, run_append_in hE g1 g2 hu n4 (show len + 0 ≤ cc by omega) (fun ad had => rfl) (fun e => by cases e), ρ, Since.refl _ _ _ _, Nat.le_refl _, .slo i oo len cc q hq hz, hc⟩
      | sle i o aa cc he =>
        exact ⟨_, w, run_append_in hE g1 g2 hu n4 (show 0 + 0 ≤ cc by omega) (fun ad had => rfl) (fun e => by cases e), ρ, Since.refl _ _ _ _, Nat.le_refl _, .sle i o aa cc he, hc⟩
    rw [bif_eq, if_neg (fun e => hk0 (Nat.eq_of_beq_eq_true e))] at hh
    obtain ⟨a, ha, h4⟩ := ob_some hh
    obtain ⟨n, c, d, e', op, ro, f1, h5⟩ := row_some h4
    obtain ⟨s0, f2, h6⟩ := ob_some h5
    obtain ⟨f3, h7⟩ := ifo_some h6
    clear hh h4 h5 h6
    subst ha
    simp only [Bool.and_eq_true] at f3
    obtain ⟨⟨⟨⟨o1, o2⟩, o3⟩, o4⟩, o5⟩ := f3
    have o5 : s0 = sz := Nat.eq_of_beq_eq_true o5
    subst o5
    have hro : ro = false := by cases ro with | false => rfl | true => cases o2
    subst hro
    subst o1
    cases r1 with
    | sl i o nn cc q hq hcb => exact absurd hb hcb
    | sle i o aa cc he => exact absurd (Nat.eq_of_beq_eq_true o3) (by rw [show (({ block := i, off := o } : Addr).off) = big from he]; decide)
    | slo i oo nn cc q hq hz =>
    obtain rfl : oo = 0 := Nat.eq_of_beq_eq_true o3
    obtain rfl := hz.1 rfl
    obtain ⟨q', a1, a2, a3⟩ := hc.rows i _ f1
    rw [hq] at a1; cases a1
    have ⟨arr, b1, b2, b3, b4, b5, b6⟩ := a2
    obtain ⟨s1, c1, c2, c3, c4⟩ := b5 rfl
    have hs1 : s1 = s0 := by rw [f2] at c1; exact (Option.some.inj c1).symm
    subst hs1
    have hmul : (len + k) * s1 = len * s1 + new.length := by rw [n1, Nat.add_mul]
    have h : bif' (Nat.ble ((len + k) * s1) n) _ _ = some (v, m') := h7
    clear h7
    by_cases hr : (len + k) * s1 ≤ n
    · rw [Nat.ble_eq_true_of_le hr, bif_true] at h
      obtain ⟨c', p1, p2⟩ := ob_some h
      cases p2
      obtain ⟨w', k1, k2, k3⟩ := putRow_ok (P := P) hc f1 hq p1 n2
      have room : len + k ≤ q.2 := Nat.le_of_mul_le_mul_right (by omega) c2
      refine ⟨_, w', run_append_in hE g1 g2 hu n4 room (fun ad had => by cases had; rw [addr_add, Nat.zero_add]; exact k1) (fun e => by cases e), ρ, ⟨Ren.le_refl ρ, fun _ _ => rfl, k3⟩, Nat.le_refl _, .slo i 0 (len + k) _ q hq ⟨fun _ => rfl, room⟩, k2⟩
    · rw [show Nat.ble ((len + k) * s1) n = false by rw [Bool.eq_false_iff]; exact fun e => hr (Nat.le_of_ble_eq_true e), bif_false] at h
      obtain ⟨o6, h8⟩ := ifo_some h
      clear h
      simp only [Bool.and_eq_true] at o6
      have o7 : len * s1 ≤ n := Nat.le_of_ble_eq_true o6.1
      have o8 : e' = e := Nat.eq_of_beq_eq_true o6.2
      subst o8
      by_cases room : len + k ≤ q.2
      · have hfit : (len + k) * s1 ≤ arr.length := by rw [c3]; exact Nat.mul_le_mul_right _ room
        obtain ⟨w', k1, k2, k3⟩ := run_storeCells (P := P) new' 0 (len * s1) arr w (ones_rel n2 g8) (by omega) b1
        obtain ⟨y1, y2⟩ := ifo_some h8
        simp only [Bool.and_eq_true] at y1
        obtain ⟨⟨z1, z2⟩, z3⟩ := y1
        have z1 : (len + k) * s1 ≤ lim := Nat.le_of_ble_eq_true z1
        rw [Nat.blt_eq] at z2
        cases y2
        have hi := hc.fresh
        have hsl : (splice arr (len * s1) new').length = arr.length := splice_length _ _ _ (by omega)
        obtain ⟨d1, d2⟩ := hc.alias (w' := w') (o' := .row ((len + k) * s1) (Tr.ofList new (len * s1) c) d e' true false) f1 rfl hq hi z2 (Nat.le_succ m.nx) (Nat.lt_succ_self _) k2
          ⟨splice arr (len * s1) new', by simpa using k3, by omega, z1, (fun e => by cases e), fun _ => ⟨s1, f2, c2, by omega, c4⟩, fun j y hy => by
            rw [hmul] at hy
            obtain ⟨y', q1, q2⟩ := grow_cells (A := splice arr (len * s1) new') b6 o7 n2 (by unfold lim at z1; omega) (fun j hj => by rw [splice_get _ _ _ (by omega), if_pos hj]) (fun j hj => by rw [splice_get _ _ _ (by omega), if_neg (by omega), if_pos (by omega), Nat.add_sub_cancel_left]) j y hy
            exact ⟨y', q1, q2.mono (Ren.le_put hi)⟩⟩
        refine ⟨_, w', run_append_in hE g1 g2 hu n4 room (fun ad had => by cases had; rw [addr_add, Nat.zero_add]; exact k1) (fun e => by cases e), _, ⟨Ren.le_put hi, fun j hj => Ren.put_ne _ _ (by omega), d2⟩, Nat.le_succ _, .slo m.nx 0 (len + k) _ q (Ren.put_self _ _ _) ⟨fun _ => rfl, room⟩, d1⟩
      · have hroom : q.2 < len + k := by omega
        have b1' : Cells w.drew q.1 arr e' := b1
        have hold := firstCells_row (P := P) (sz := s1) (k := len) (k' := len) (c' := q.2) (off := 0) b1' (by omega)
        rw [gs] at hold n5
        obtain ⟨nc, rest, t1, t2, t3, t4⟩ := run_append_new (ts := ts) (ty := ty) hE g1 g3 g4 gzs gb hu n5 hold hroom g7
        rw [List.drop_zero] at t4
        rw [← gs] at t3 t4
        obtain ⟨u1, u2⟩ := hcd.put (w' := w.drew) (o' := .dead) f1 rfl hq (Kept.refl _ _) trivial
        have htk : (arr.take (len * s1)).length = len * s1 := by rw [List.length_take]; omega
        have hnl : (nc - (len + k)) * s1 = nc * s1 - (len + k) * s1 := Nat.sub_mul _ _ _
        have hnm : (len + k) * s1 ≤ nc * s1 := Nat.mul_le_mul_right _ t1
        refine ⟨_, _, t4, EffPost.under (newV_ok (nc := nc) u1 h8 g2 (by simp only [List.length_append, htk]; omega) (by simp only [List.length_append, htk]; omega) (by unfold big; omega) fun hz j y hy => ?_) (HeldBy.trans hhd u2)⟩
        rw [hmul] at hy
        refine grow_cells (A := arr.take (len * s1) ++ new' ++ rest) b6 o7 n2 (by unfold lim at hz; omega) (fun j hj => ?_) (fun j hj => ?_) j y hy
        · rw [List.append_assoc, List.getElem?_append_left (by omega), List.getElem?_take, if_pos hj]
        · rw [List.append_assoc, List.getElem?_append_right (by omega), htk, Nat.add_sub_cancel_left, List.getElem?_append_left hj]
  · rename_i hb
    have hb : cap ≠ big := fun e => hb (by rw [e]; exact Nat.beq_refl big)
    rw [bif_eq] at h
    split at h
    · rename_i hr
      have hr : len + k ≤ cap := Nat.le_of_ble_eq_true hr
      cases ad with
      | none =>
        obtain ⟨y1, y2⟩ := ifo_some h
        have y1 : k = 0 := Nat.eq_of_beq_eq_true y1
        subst y1
        cases y2
        cases r1 with
        | sl0 _ _ hcb =>
        exact ⟨_, w, run_append_in hE g1 g2 hu n4 hr (fun ad had => by cases had) (fun _ => rfl), ρ, Since.refl _ _ _ _, Nat.le_refl _, .sl0 len cap hcb, hc⟩
      | some a =>
        obtain ⟨n, c, d, e', op, ro, f1, h⟩ := row_some h
        obtain ⟨f3, h⟩ := ifo_some h
        simp only [Bool.and_eq_true] at f3
        have hro : ro = false := by cases ro with | false => rfl | true => cases f3.1
        subst hro
        obtain ⟨c', p1, p2⟩ := ob_some h
        cases p2
        cases r1 with
        | slo i oo nn cc q hq hz => exact absurd rfl hb
        | sle i o aa cc he => exact absurd rfl hb
        | sl i o nn cc q hq hcb =>
        obtain ⟨w', k1, k2, k3⟩ := putRow_ok (P := P) hc f1 hq p1 n2
        exact ⟨_, w', run_append_in hE g1 g2 hu n4 hr (fun ad had => by cases had; rw [addr_add]; exact k1) (fun e => by cases e), ρ, ⟨Ren.le_refl ρ, fun _ _ => rfl, k3⟩, Nat.le_refl _, .sl i o (len + k) cap q hq hcb, k2⟩
    · rename_i hr
      have hr : cap < len + k := by
        rcases Nat.lt_or_ge cap (len + k) with e | e
        · exact e
        · exact absurd (Nat.ble_eq_true_of_le e) hr
      have hmul : (len + k) * sz = len * sz + new.length := by rw [n1, Nat.add_mul]
      cases ad with
      | none =>
        obtain ⟨y1, y2⟩ := ifo_some h
        have y1 : len = 0 := Nat.eq_of_beq_eq_true y1
        subst y1
        cases r1 with
        | sl0 _ _ hcb =>
        have hold : (Builtin.firstCells inf.size 0 (.slice none 0 cap)).run P w.drew = .ok ⟨[]⟩ w.drew := rfl
        rw [gs] at n5
        obtain ⟨nc, rest, t1, t2, t3, t4⟩ := run_append_new (ts := ts) (ty := ty) hE g1 g3 g4 gzs gb hu n5 hold hr g7
        rw [← gs] at t3
        rw [Nat.zero_add] at t1 t3 t4
        have hnl : (nc - k) * sz = nc * sz - k * sz := Nat.sub_mul _ _ _
        have hnm : k * sz ≤ nc * sz := Nat.mul_le_mul_right _ t1
        rw [List.nil_append] at t4
        refine ⟨_, _, t4, EffPost.under (newV_ok (nc := nc) hcd y2 g2 (by simp only [List.length_append]; omega) (by simp only [List.length_append]; omega) (by unfold big; omega) fun hz j y hy => ?_) hhd⟩
        rw [← n1] at hy
        have hz : k * sz ≤ lim := hz
        obtain ⟨y', q1, q2⟩ := list_cells n2 (by rw [n1]; unfold lim at hz; omega) j y hy
        exact ⟨y', by rw [List.getElem?_append_left (List.getElem?_eq_some_iff.1 q1).1]; exact q1, q2⟩
      | some a =>
        obtain ⟨n, c, d, e', op, ro, f1, h⟩ := row_some h
        obtain ⟨f3, h⟩ := ifo_some h
        obtain ⟨old, p1, p2⟩ := ob_some h
        cases r1 with
        | slo i oo nn cc q hq hz => exact absurd rfl hb
        | sle i o aa cc he => exact absurd rfl hb
        | sl i o nn cc q hq hcb =>
        obtain ⟨q', a1, a2, a3⟩ := hc.rows i _ f1
        rw [hq] at a1; cases a1
        have ⟨arr, b1, b2, b3, b4, b5, b6⟩ := a2
        obtain ⟨l1, l2⟩ := cellsAt_rel b6 p1
        have b1' : Cells w.drew q.1 arr e' := b1
        have hfo : ∃ old', RelL ρ old old' ∧ (Builtin.firstCells sz len (.slice (some ⟨q.1, o, none⟩) len cap)).run P w.drew = .ok ⟨old'⟩ w.drew := by
          have hld := run_loadCells_list (P := P) w.drew ⟨q.1, o, none⟩ ((arr.drop o).take (len * sz)) (fun j v hj => by
            rw [addr_add, b1'.cell]
            rw [List.getElem?_take] at hj
            split at hj
            · rw [List.getElem?_drop] at hj; exact hj
            · cases hj)
          rw [l2] at hld
          exact ⟨_, l1, hld⟩
        obtain ⟨old', l3, hold⟩ := hfo
        have l4 := (cellsAt_ok _ _ _ p1).1
        have l5 := l3.1
        rw [gs] at hold n5
        obtain ⟨nc, rest, t1, t2, t3, t4⟩ := run_append_new (ts := ts) (ty := ty) hE g1 g3 g4 gzs gb hu n5 hold hr g7
        rw [← gs] at t3
        have hnl : (nc - (len + k)) * sz = nc * sz - (len + k) * sz := Nat.sub_mul _ _ _
        have hnm : (len + k) * sz ≤ nc * sz := Nat.mul_le_mul_right _ t1
        refine ⟨_, _, t4, EffPost.under (newV_ok (nc := nc) hcd p2 g2 (by simp only [List.length_append]; omega) (by simp only [List.length_append]; omega) (by unfold big; omega) fun hz j y hy => ?_) hhd⟩
        rw [hmul] at hy
        have hz : (len + k) * sz ≤ lim := hz
        have hb' : len * sz + new.length ≤ 1048575 := by unfold lim at hz; omega
        refine grow_cells (A := old' ++ new' ++ rest) (list_cells l3 (by omega)) (by omega) n2 hb' (fun j hj => ?_) (fun j hj => ?_) j y hy
        · rw [List.append_assoc, List.getElem?_append_left (by omega)]
        · rw [List.append_assoc, List.getElem?_append_right (by omega), ← l5, l4, Nat.add_sub_cancel_left, List.getElem?_append_left hj]
theorem xcopy_ok (hE : EnvOk P E) (hc : Conc E G ρ m w) {t : TypeId} {ts : List TypeId} {ty : TypeId} {s s' x x' v : Value} {m' : Mem} (r1 : Rel ρ s s') (r2 : Rel ρ x x') (h : xcopy E m t s x = some (v, m')) :
    ∃ v' w', (Builtin.copy_ ⟨t :: ts⟩ ty ⟨[s', x']⟩).run P w = .ok v' w' ∧ EffPost E G ρ m w v m' v' w' := by
  obtain ⟨e, sz, g1, g2, h⟩ := EnvOk.elemS h
  obtain ⟨a, len, cap, hs, h1⟩ := slc_some h
  obtain ⟨b, len', cap', hx, h2⟩ := slc_some h1
  clear h h1
  subst hs hx
  obtain ⟨⟨k, new⟩, g6, h⟩ := ob_some h2
  clear h2
  have r3 : ∃ xb xc, x' = .slice xb len' xc ∧ Rel ρ (.slice b (Nat.min len len') cap') (.slice xb (Nat.min len len') xc) := by
    cases r2 with
    | sl0 _ _ hb => exact ⟨_, _, rfl, .sl0 _ _ hb⟩
    | sl i o _ _ q hq hb => exact ⟨_, _, rfl, .sl i o _ _ q hq hb⟩
    | slo i o _ c q hq hz => exact ⟨_, _, rfl, .slo i o _ c q hq ⟨hz.1, Nat.le_trans (Nat.min_le_right _ _) hz.2⟩⟩
    | sle i o aa cc he => exact ⟨_, _, rfl, by rw [show Nat.min len 0 = 0 from Nat.min_zero len]; exact .sle i o aa cc he⟩
  obtain ⟨xb, xc, rfl, r3⟩ := r3
  obtain ⟨xa', xc', new', n0, n1, n2, n3⟩ := takeCells_ok (P := P) hc g6 r3
  cases n0
  have n4 := n3 w (Below.refl _ _)
  have n5 : (Builtin.firstCells sz (Nat.min len' len) (.slice xb len' xc)).run P w = .ok ⟨new'⟩ w := by
    rw [show Nat.min len' len = Nat.min len len' from Nat.min_comm _ _]
    cases xb <;> exact n4
  have hmin : Nat.min len' len = Nat.min len len' := Nat.min_comm _ _
  have rv : Rel ρ (.int .i64 (Nat.min len len' : Nat)) (.int .i64 ((Nat.min len' len : Nat) : Int)) := by rw [hmin]; exact .int _ _
  cases a with
  | none =>
    cases h
    cases r1
    refine ⟨_, w, ?_, ρ, Since.refl _ _ _ _, Nat.le_refl _, rv, hc⟩
    simp [Builtin.copy_, hE.run_under g1, hE.run_size g2, lenOf_slice, n5, goInt]
  | some a =>
    obtain ⟨n, c, d, e', op, ro, f1, h⟩ := row_some h
    obtain ⟨f3, h⟩ := ifo_some h
    simp only [Bool.and_eq_true] at f3
    have hro : ro = false := by cases ro with | false => rfl | true => cases f3.1
    subst hro
    obtain ⟨c', p1, p2⟩ := ob_some h
    cases p2
    have hq : ∃ q c2, ρ a.block = some q ∧ s' = .slice (some ⟨q.1, a.off, none⟩) len c2 := by
      cases r1 with
      | sl i o _ _ q hq hb => exact ⟨q, _, hq, rfl⟩
      | slo i o _ c q hq hz => exact ⟨q, _, hq, rfl⟩
      | sle i o aa cc he => have f4 := f3.2; rw [show (({ block := i, off := o } : Addr).off) = big from he, Nat.beq_refl] at f4; cases f4
    obtain ⟨q, c2, hq, rfl⟩ := hq
    obtain ⟨w', k1, k2, k3⟩ := putRow_ok (P := P) hc f1 hq p1 n2
    refine ⟨_, w', ?_, ρ, ⟨Ren.le_refl ρ, fun _ _ => rfl, k3⟩, Nat.le_refl _, rv, k2⟩
    simp [Builtin.copy_, hE.run_under g1, hE.run_size g2, lenOf_slice, n5, goInt, k1]
theorem xclear_ok (hE : EnvOk P E) (hc : Conc E G ρ m w) {t : TypeId} {ts : List TypeId} {ty : TypeId} {s s' v : Value} {m' : Mem} (r1 : Rel ρ s s') (h : xclear E m t s = some (v, m')) :
    ∃ v' w', (Builtin.clear_ ⟨t :: ts⟩ ty ⟨[s']⟩).run P w = .ok v' w' ∧ EffPost E G ρ m w v m' v' w' := by
  obtain ⟨e, sz, g1, g2, x1⟩ := EnvOk.elemS h
  clear h
  obtain ⟨z, gz, x2⟩ := ob_some x1
  clear x1
  obtain ⟨a0, len, cap, hs, x3⟩ := slc_some x2
  clear x2
  subst hs
  obtain ⟨a, ha, x4⟩ := ob_some x3
  clear x3
  subst ha
  obtain ⟨n, c, d, e', op, ro, f1, x5⟩ := row_some x4
  clear x4
  obtain ⟨f3, h⟩ := ifo_some x5
  clear x5
  simp only [Bool.and_eq_true] at f3
  obtain ⟨⟨⟨o1, o2⟩, o3⟩, o4⟩ := f3
  have hro : ro = false := by cases ro with | false => rfl | true => cases o1
  subst hro
  rw [Nat.blt_eq] at o3
  obtain ⟨c', p1, p2⟩ := ob_some h
  cases p2
  have hq : ∃ q c2, ρ a.block = some q ∧ s' = .slice (some ⟨q.1, a.off, none⟩) len c2 := by
    cases r1 with
    | sl i o _ _ q hq hb => exact ⟨q, _, hq, rfl⟩
    | slo i o _ c q hq hz => exact ⟨q, _, hq, rfl⟩
    | sle i o aa cc he => exact absurd o3 (Nat.lt_irrefl 0)
  obtain ⟨q, c2, hq, rfl⟩ := hq
  obtain ⟨w', k1, k2, k3⟩ := putRow_ok (P := P) hc f1 hq p1 ((hE.rel_zero gz ρ).cells.replicate len)
  refine ⟨.tuple ⟨[]⟩, w', ?_, ρ, ⟨Ren.le_refl ρ, fun _ _ => rfl, k3⟩, Nat.le_refl _, .tuple [] [] rfl (RelL.nil ρ).2, k2⟩
  obtain ⟨len, rfl⟩ : ∃ k, len = k + 1 := ⟨len - 1, by omega⟩
  have hzc : (Builtin.zeroCells z.cells (len + 1)).toList = (List.replicate (len + 1) z.cells.toList).flatten := by
    unfold Builtin.zeroCells
    rw [Array.toList_map, Array.toList_range, ← range_rep z.cells.toList (len + 1)]
    simp
  simp [Builtin.clear_, hE.run_under g1, hE.run_zero gz, hzc, k1]
end
end Go.Proofs.YtgmdbfackbdnlaaGreatDoor
