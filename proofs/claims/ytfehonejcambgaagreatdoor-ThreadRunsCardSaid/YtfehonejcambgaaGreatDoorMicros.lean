/- A slice argument of micros. -/
import Derived.Test.YtfehonejcambgaaGreatDoorBody
import Derived.ProofKit
import Derived.OpenShut
import Derived.Deep.Slices
import Derived.Deep.Fields
namespace Go.Proofs.YtfehonejcambgaaGreatDoor
open Go.ChangeShapes Go.WideShapes Go.ChangeAt Go.RowKit Go.Deep Bl Th
set_option maxRecDepth 10000

theorem microFields : ∃ fs : Array Field, Tryz.prog.underlying 54 = some (.struct fs) ∧ oneCellFields Tryz.prog fs = true ∧ fs.size = 6 ∧ (fs.toList.map (·.type)) = [3, 3, 3, 52, 4, 3] := ⟨_, Tryz.underlying54, by kernel_rfl, by kernel_rfl, by kernel_rfl⟩
theorem microCells : Tryz.prog.cellsOf 54 = 6 := by kernel_rfl

theorem micro_of {H : Type} {enc : TypeId × Value → H} {W : World} {base : Nat} {sp : Nat → Bool} {held : Bool} {n : Nat} {cs : List Value} {y : DataW H × List MemPlace} (hlen : cs.length = 6) (h : DataW.trod enc Tryz.prog W base sp held n 54 cs = some y) :
    ∃ m : Micro, cs = encM m ∧ m.x < 18446744073709551616 := by
  obtain ⟨fs, hs, hone, hsz, hty⟩ := microFields
  obtain ⟨ys, n', _, _, _, hyl, hf⟩ := DataW.trod_struct hs h
  have hty' : ∀ (j : Nat) (t : TypeId), [3, 3, 3, 52, 4, 3][j]? = some t → ∃ f, fs[j]? = some f ∧ f.type = t := by
    intro j t hj
    rw [← hty, List.getElem?_map, Option.map_eq_some_iff] at hj
    obtain ⟨f, hf1, hf2⟩ := hj
    exact ⟨f, by simpa using hf1, hf2⟩
  have key : ∀ (j : Nat) (t : TypeId), [3, 3, 3, 52, 4, 3][j]? = some t → ∀ (hj : j < cs.length), ∃ y, DataW.trod enc Tryz.prog W base sp held n' t [cs[j]] = some y := by
    intro j t ht hj
    obtain ⟨f, hf1, rfl⟩ := hty' j t ht
    obtain ⟨ho, hk⟩ := hone_of hone j f hf1
    have h1 := hf j f hf1
    rw [ho, hk] at h1
    have hone' : (cs.drop j).take 1 = [cs[j]] := by rw [List.drop_eq_getElem_cons hj]; rfl
    rw [hone'] at h1
    have hjl : j < ys.length := by rw [hyl, hsz]; omega
    exact ⟨ys[j], h1.trans (List.getElem?_eq_getElem hjl)⟩
  obtain ⟨c0, c1, c2, c3, c4, c5, rfl⟩ : ∃ c0 c1 c2 c3 c4 c5, cs = [c0, c1, c2, c3, c4, c5] := by
    match cs, hlen with
    | [c0, c1, c2, c3, c4, c5], _ => exact ⟨_, _, _, _, _, _, rfl⟩
  obtain ⟨y0, k0⟩ := key 0 _ rfl (by simp)
  obtain ⟨y1, k1⟩ := key 1 _ rfl (by simp)
  obtain ⟨y2, k2⟩ := key 2 _ rfl (by simp)
  obtain ⟨y3, k3⟩ := key 3 _ rfl (by simp)
  obtain ⟨y4, k4⟩ := key 4 _ rfl (by simp)
  obtain ⟨y5, k5⟩ := key 5 _ rfl (by simp)
  simp only [List.getElem_cons_zero, List.getElem_cons_succ] at k0 k1 k2 k3 k4 k5
  obtain ⟨a0, e0, -, w0⟩ := DataW.trod_int Tryz.underlying3 k0
  obtain ⟨a1, e1, -, w1⟩ := DataW.trod_int Tryz.underlying3 k1
  obtain ⟨a2, e2, -, w2⟩ := DataW.trod_int Tryz.underlying3 k2
  obtain ⟨a3, e3, -, w3⟩ := DataW.trod_int Tryz.underlying52 k3
  obtain ⟨a4, e4, -⟩ := DataW.trod_bool Tryz.underlying4 k4
  obtain ⟨a5, e5, -, w5⟩ := DataW.trod_int Tryz.underlying3 k5
  simp only [List.cons.injEq, and_true] at e0 e1 e2 e3 e4 e5
  subst e0 e1 e2 e3 e4 e5
  have b3 := bounds_u64 w3
  obtain ⟨x, rfl⟩ := Int.eq_ofNat_of_zero_le b3.1
  exact ⟨⟨a0, a1, a2, x, a4, a5⟩, rfl, by simp only; omega⟩

theorem came_micros {H : Type} {enc : TypeId × Value → H} {W : World} {r : Reach} {b0 base : Nat} {sp : Nat → Bool} {held : Bool} {v : Value} {d : DataW H} {ps : List MemPlace}
    (hval : Value.okWide Tryz.prog W r b0 22 v) (hd : DataW.Trod enc Tryz.prog W base sp held 22 v d ps) : ∃ l : List Micro, ∀ wr Q, Prg W wr v Q l := by
  obtain ⟨a0, len0, cap0, rfl⟩ := okWide_slice Tryz.underlying22 hval
  obtain ⟨fuel, hf⟩ := hd
  rcases DataW.trod_slice Tryz.underlying22 hf with ⟨h0, _⟩ | ⟨a, len, cap, elems, rest, n, _, hcs, hx, hb, hl, hm, hlen, hel, _⟩
  · simp [Value.cells] at h0
    obtain ⟨rfl, rfl, rfl⟩ := h0
    exact ⟨[], fun wr Q => ⟨⟨none, 0, rfl, fun h => absurd rfl h⟩, Nat.zero_le _, fun m hm => by cases hm⟩⟩
  · simp [Value.cells] at hcs
    obtain ⟨rfl, rfl, rfl⟩ := hcs
    have key : ∀ i, i < len0 → ∃ m : Micro, (∀ j, j < 6 → W.cell? ((a.add (i * 6)).add j) = (encM m)[j]?) ∧ m.x < 18446744073709551616 := by
      intro i hi
      have h1 := hel i hi
      rw [microCells, List.getElem?_eq_getElem (by omega), Option.bind_eq_some_iff] at h1
      obtain ⟨cs', hcs', hy⟩ := h1
      obtain ⟨_, hcl, hat⟩ := World.cells?_some hcs'
      obtain ⟨m, rfl, hmx⟩ := micro_of hcl hy
      exact ⟨m, fun j hj => hat j hj, hmx⟩
    let g : Fin len0 → Micro := fun i => Classical.choose (key i i.2)
    have hg : ∀ i : Fin len0, (∀ j, j < 6 → W.cell? ((a.add (i.1 * 6)).add j) = (encM (g i))[j]?) ∧ (g i).x < 18446744073709551616 := fun i => Classical.choose_spec (key i i.2)
    refine ⟨List.ofFn g, fun wr Q => ⟨⟨some a, cap0, by simp, fun hn => ?_⟩, by simp; omega, fun m hm' => ?_⟩⟩
    · have hpos : 0 < len0 := by
        rcases Nat.eq_zero_or_pos len0 with e | e
        · subst e; simp at hn
        · exact e
      have hsp : a.spot = none := by
        have h0 := (hg ⟨0, hpos⟩).1 0 (by omega)
        simp only [Nat.zero_mul, Addr.add, if_true] at h0
        have h1 : W.cell? a = some (.int .i64 (g ⟨0, hpos⟩).kind) := h0
        cases hs : a.spot with
        | none => rfl
        | some s =>
          unfold World.cell? at h1
          split at h1
          · simp [hs] at h1
          · cases h1
      obtain ⟨blk, off, spot⟩ := a
      simp only at hsp
      subst hsp
      have had : ∀ i j, ((⟨blk, off, none⟩ : Addr).add (i * 6)).add j = ⟨blk, off + i * 6 + j, none⟩ := by
        intro i j
        unfold Addr.add
        split <;> split <;> simp_all
      refine ⟨blk, off, rfl, fun k m hk j hj => .inr ?_⟩
      rw [List.getElem?_ofFn] at hk
      split at hk
      · rename_i hi
        cases hk
        have h1 := (hg ⟨k, hi⟩).1 j hj
        rw [had] at h1
        refine ⟨?_, h1⟩
        have h2 : ∃ x, (encM (g ⟨k, hi⟩))[j]? = some x := ⟨_, List.getElem?_eq_getElem (by simpa [encM] using hj)⟩
        obtain ⟨x, hx2⟩ := h2
        exact World.block_lt_of_cell? W ⟨blk, off + k * 6 + j, none⟩ (h1.trans hx2)
      · cases hk
    · rw [List.mem_ofFn] at hm'
      obtain ⟨i, rfl⟩ := hm'
      exact (hg i).2
end Go.Proofs.YtfehonejcambgaaGreatDoor
