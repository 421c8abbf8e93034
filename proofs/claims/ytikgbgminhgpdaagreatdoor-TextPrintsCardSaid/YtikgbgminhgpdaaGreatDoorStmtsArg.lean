/- Statements that came in: a slice argument of statements, as a tree. -/
import Derived.Test.YtikgbgminhgpdaaGreatDoorTxtRead
import Derived.ProofKit
import Derived.OpenShut
import Derived.Deep.Slices
import Derived.Deep.Fields
namespace Go.Proofs.YtikgbgminhgpdaaGreatDoor
open Go.ChangeShapes Go.WideShapes Go.ChangeAt Go.RowKit Go.Deep Tx
set_option maxRecDepth 10000

theorem stmtFields : ∃ fs : Array Field, Tryz.prog.underlying 45 = some (.struct fs) ∧ (fs.toList.map fun f => (f.type, f.offset)) = [(3, 0), (3, 1), (3, 2), (43, 3), (43, 5), (22, 7), (22, 8)] := ⟨_, Tryz.underlying45, by kernel_rfl⟩
theorem argFields : ∃ fs : Array Field, Tryz.prog.underlying 43 = some (.struct fs) ∧ (fs.toList.map fun f => (f.type, f.offset)) = [(3, 0), (3, 1)] := ⟨_, Tryz.underlying43, by kernel_rfl⟩
theorem stmtCells : Tryz.prog.cellsOf 45 = 9 := by kernel_rfl
theorem argCells : Tryz.prog.cellsOf 43 = 2 := by kernel_rfl
theorem intCells : Tryz.prog.cellsOf 3 = 1 := by kernel_rfl
theorem stmtsCells : Tryz.prog.cellsOf 22 = 1 := by kernel_rfl

section
variable {H : Type} {enc : TypeId × Value → H} {W : World} {base : Nat} {sp : Nat → Bool} {held : Bool}
/-- A struct's fields, by their types and places. -/
theorem fields_of {t : TypeId} {fs : Array Field} {n : Nat} {cs : List Value} {x : DataW H × List MemPlace} {L : List (TypeId × Nat)} (hs : Tryz.prog.underlying t = some (.struct fs)) (hL : (fs.toList.map fun f => (f.type, f.offset)) = L)
    (h : DataW.trod enc Tryz.prog W base sp held n t cs = some x) :
    ∃ m, n = m + 1 ∧ cs.length = Tryz.prog.cellsOf t ∧ ∀ (j : Nat) (u : TypeId) (o : Nat), L[j]? = some (u, o) → ∃ y, DataW.trod enc Tryz.prog W base sp held m u ((cs.drop o).take (Tryz.prog.cellsOf u)) = some y := by
  obtain ⟨xs, m, hn, _, hlen, hsz, hf⟩ := DataW.trod_struct hs h
  refine ⟨m, hn, hlen, fun j u o hj => ?_⟩
  rw [← hL, List.getElem?_map, Option.map_eq_some_iff] at hj
  obtain ⟨f, hf1, hf2⟩ := hj
  simp only [Prod.mk.injEq] at hf2
  obtain ⟨rfl, rfl⟩ := hf2
  have hfa : fs[j]? = some f := by simpa using hf1
  have hlt : j < fs.size := (Array.getElem?_eq_some_iff.1 hfa).1
  have h1 := hf j f hfa
  rw [List.getElem?_eq_getElem (by omega)] at h1
  exact ⟨_, h1⟩
theorem int_of {n : Nat} {c : Value} {y : DataW H × List MemPlace} (h : DataW.trod enc Tryz.prog W base sp held n 3 [c] = some y) : ∃ z : Int, c = .int .i64 z := by
  obtain ⟨a, e, -, -⟩ := DataW.trod_int Tryz.underlying3 h
  exact ⟨a, (List.cons.inj e).1⟩
theorem arg_of {n : Nat} {c d : Value} {y : DataW H × List MemPlace} (h : DataW.trod enc Tryz.prog W base sp held n 43 [c, d] = some y) : ∃ a : Int × Int, c = .int .i64 a.1 ∧ d = .int .i64 a.2 := by
  obtain ⟨fs, hs, hL⟩ := argFields
  obtain ⟨m, _, _, key⟩ := fields_of hs hL h
  obtain ⟨y0, k0⟩ := key 0 _ _ rfl
  obtain ⟨y1, k1⟩ := key 1 _ _ rfl
  rw [intCells] at k0 k1
  obtain ⟨a, rfl⟩ := int_of k0
  obtain ⟨b, rfl⟩ := int_of k1
  exact ⟨(a, b), rfl, rfl⟩
theorem rows_of {B : Nat} {w : World} : ∀ (n : Nat) (g : Nat → Option Value), (∀ i, i < n → ∃ s c, StR B w s c ∧ ∀ j, j < 9 → g (9 * i + j) = c[j]?) → ∃ l cs, l.length = n ∧ StsR B w l cs ∧ ∀ j x, cs.flatten[j]? = some x → g j = some x
  | 0, g, _ => ⟨[], [], rfl, by unfold StsR; rfl, fun j x h => by simp at h⟩
  | n + 1, g, h => by
    obtain ⟨s, c, h1, h2⟩ := h 0 (by omega)
    obtain ⟨l, cs, q1, q2, q3⟩ := rows_of n (fun k => g (9 + k)) (fun i hi => by
      obtain ⟨s, c, k1, k2⟩ := h (i + 1) (by omega)
      exact ⟨s, c, k1, fun j hj => by rw [← k2 j hj]; congr 1; omega⟩)
    refine ⟨s :: l, c :: cs, by simp [q1], by unfold StsR; exact ⟨c, cs, rfl, h1, q2⟩, fun j x hx => ?_⟩
    have hl := h1.len
    rw [List.flatten_cons] at hx
    by_cases hj : j < 9
    · rw [List.getElem?_append_left (by omega)] at hx
      have := h2 j hj
      rw [hx] at this
      simpa using this
    · rw [List.getElem?_append_right (by omega), hl] at hx
      have := q3 _ _ hx
      rwa [show 9 + (j - 9) = j by omega] at this
theorem stmt_of {n : Nat} (ih : ∀ m, m < n → ∀ (cs : List Value) (y : DataW H × List MemPlace), DataW.trod enc Tryz.prog W base sp held m 22 cs = some y → ∃ v l, cs = [v] ∧ SlR W.heap.size W l v) {cs : List Value} {y : DataW H × List MemPlace} (h : DataW.trod enc Tryz.prog W base sp held n 45 cs = some y) :
    ∃ s, StR W.heap.size W s cs := by
  obtain ⟨fs, hs, hL⟩ := stmtFields
  obtain ⟨m, rfl, hlen, key⟩ := fields_of hs hL h
  rw [stmtCells] at hlen
  obtain ⟨c0, c1, c2, c3, c4, c5, c6, c7, c8, rfl⟩ : ∃ c0 c1 c2 c3 c4 c5 c6 c7 c8, cs = [c0, c1, c2, c3, c4, c5, c6, c7, c8] := by
    match cs, hlen with
    | [c0, c1, c2, c3, c4, c5, c6, c7, c8], _ => exact ⟨_, _, _, _, _, _, _, _, _, rfl⟩
  obtain ⟨y0, k0⟩ := key 0 _ _ rfl
  obtain ⟨y1, k1⟩ := key 1 _ _ rfl
  obtain ⟨y2, k2⟩ := key 2 _ _ rfl
  obtain ⟨y3, k3⟩ := key 3 _ _ rfl
  obtain ⟨y4, k4⟩ := key 4 _ _ rfl
  obtain ⟨y5, k5⟩ := key 5 _ _ rfl
  obtain ⟨y6, k6⟩ := key 6 _ _ rfl
  rw [intCells] at k0 k1 k2
  rw [argCells] at k3 k4
  rw [stmtsCells] at k5 k6
  obtain ⟨z, rfl⟩ := int_of k0
  obtain ⟨co, rfl⟩ := int_of k1
  obtain ⟨r, rfl⟩ := int_of k2
  obtain ⟨a, rfl, rfl⟩ := arg_of k3
  obtain ⟨b, rfl, rfl⟩ := arg_of k4
  obtain ⟨v1, l1, e1, s1⟩ := ih m (by omega) _ _ k5
  obtain ⟨v2, l2, e2, s2⟩ := ih m (by omega) _ _ k6
  obtain rfl : c7 = v1 := (List.cons.inj e1).1
  obtain rfl : c8 = v2 := (List.cons.inj e2).1
  obtain ⟨cb, s3, s4⟩ := s1
  obtain ⟨ce, s5, s6⟩ := s2
  refine ⟨.mk ⟨z.toNat, co, r, a, b⟩ l1 l2, ?_⟩
  unfold StR
  exact ⟨z, c7, c8, cb, ce, rfl, rfl, s3, s4, s5, s6⟩
theorem stmts_of : ∀ (n : Nat) (cs : List Value) (y : DataW H × List MemPlace), DataW.trod enc Tryz.prog W base sp held n 22 cs = some y → ∃ v l, cs = [v] ∧ SlR W.heap.size W l v := by
  intro n
  induction n using Nat.strongRecOn with
  | _ n ih =>
    intro cs y h
    rcases DataW.trod_slice Tryz.underlying22 h with ⟨h0, _⟩ | ⟨a, len, cap, elems, rest, m, hn, hcs, hx, hb, hl, hm, hlen, hel, _⟩
    · exact ⟨_, [], h0, SlR.nil _ _⟩
    · subst hn hcs
      have key : ∀ i, i < len → ∃ s c, StR W.heap.size W s c ∧ ∀ j, j < 9 → W.cell? ((a.add (i * 9)).add j) = c[j]? := by
        intro i hi
        have h1 := hel i hi
        rw [stmtCells, List.getElem?_eq_getElem (by omega), Option.bind_eq_some_iff] at h1
        obtain ⟨cs', hcs', hy⟩ := h1
        obtain ⟨_, hcl, hat⟩ := World.cells?_some hcs'
        obtain ⟨s, hs⟩ := stmt_of (fun k hk => ih k (by omega)) hy
        exact ⟨s, cs', hs, fun j hj => hat j hj⟩
      rcases Nat.eq_zero_or_pos len with e | hpos
      · subst e
        exact ⟨_, [], rfl, [], by unfold StsR; rfl, some a, cap, rfl, .inl rfl⟩
      · have hsp : a.spot = none := by
          obtain ⟨⟨hh, hbb, hee⟩, c, q1, q2⟩ := key 0 hpos
          unfold StR at q1
          obtain ⟨z, bv, ev, cb, ce, _, rfl, _⟩ := q1
          have h0 := q2 0 (by omega)
          simp only [Nat.zero_mul, Addr.add, if_true] at h0
          have h1 : W.cell? a = some (.int .i64 z) := h0
          cases hs : a.spot with
          | none => rfl
          | some s =>
            unfold World.cell? at h1
            split at h1
            · simp [hs] at h1
            · cases h1
        obtain ⟨blk, off, spot⟩ := a
        simp only at hsp
        subst hsp
        have had : ∀ i j, ((⟨blk, off, none⟩ : Addr).add (i * 9)).add j = ⟨blk, off + (9 * i + j), none⟩ := by
          intro i j
          have e : off + (9 * i + j) = off + i * 9 + j := by omega
          rw [e]
          unfold Addr.add
          split <;> split <;> simp_all
        obtain ⟨l, C, q1, q2, q3⟩ := rows_of len (fun k => W.cell? ⟨blk, off + k, none⟩) (fun i hi => by
          obtain ⟨s, c, k1, k2⟩ := key i hi
          exact ⟨s, c, k1, fun j hj => by rw [← k2 j hj, had]⟩)
        have hblk : blk < W.heap.size := by
          obtain ⟨s, c, k1, k2⟩ := key 0 hpos
          have h1 := k2 0 (by omega)
          rw [had] at h1
          obtain ⟨x, hx2⟩ : ∃ x, c[0]? = some x := ⟨_, List.getElem?_eq_getElem (by rw [k1.len]; omega)⟩
          exact World.block_lt_of_cell? W _ (h1.trans hx2)
        refine ⟨_, l, rfl, C, q2, some ⟨blk, off, none⟩, cap, by rw [q1], .inr ⟨blk, off, rfl, hblk, hblk, q3⟩⟩
theorem came_stmts {v : Value} {d : DataW H} {ps : List MemPlace} {r : Reach} {b0 : Nat}
    (hval : Value.okWide Tryz.prog W r b0 22 v) (hd : DataW.Trod enc Tryz.prog W base sp held 22 v d ps) : ∃ l : List St, SlR W.heap.size W l v := by
  obtain ⟨a0, len0, cap0, rfl⟩ := okWide_slice Tryz.underlying22 hval
  obtain ⟨fuel, hf⟩ := hd
  obtain ⟨v, l, hcs, h⟩ := stmts_of _ _ _ hf
  have hv : Value.slice a0 len0 cap0 = v := by
    simp only [Value.cells] at hcs
    exact (List.cons.inj hcs).1
  exact ⟨l, hv ▸ h⟩
end
end Go.Proofs.YtikgbgminhgpdaaGreatDoor
