/- A slice argument of slices of numbers to add. -/
import Derived.Test.YtdipidiahekpkaaGreatDoorBodyC
import Derived.ProofKit
import Derived.OpenShut
import Derived.Deep.Slices
import Derived.Deep.Fields
namespace Go.Proofs.YtdipidiahekpkaaGreatDoor
open Go.ChangeShapes Go.WideShapes Go.ChangeAt Go.RowKit Go.Deep Bl Th
set_option maxRecDepth 10000

theorem addFields : ∃ fs : Array Field, Tryz.prog.underlying 32 = some (.struct fs) ∧ oneCellFields Tryz.prog fs = true ∧ fs.size = 2 ∧ (fs.toList.map (·.type)) = [3, 3] := ⟨_, Tryz.underlying32, by kernel_rfl, by kernel_rfl, by kernel_rfl⟩
theorem addCells : Tryz.prog.cellsOf 32 = 2 := by kernel_rfl

theorem add_of {H : Type} {enc : TypeId × Value → H} {W : World} {base : Nat} {sp : Nat → Bool} {held : Bool} {n : Nat} {cs : List Value} {y : DataW H × List MemPlace} (hlen : cs.length = 2) (h : DataW.trod enc Tryz.prog W base sp held n 32 cs = some y) :
    ∃ m : Int × Int, cs = encA m := by
  obtain ⟨fs, hs, hone, hsz, hty⟩ := addFields
  obtain ⟨ys, n', _, _, _, hyl, hf⟩ := DataW.trod_struct hs h
  have hty' : ∀ (j : Nat) (t : TypeId), [3, 3][j]? = some t → ∃ f, fs[j]? = some f ∧ f.type = t := by
    intro j t hj
    rw [← hty, List.getElem?_map, Option.map_eq_some_iff] at hj
    obtain ⟨f, hf1, hf2⟩ := hj
    exact ⟨f, by simpa using hf1, hf2⟩
  have key : ∀ (j : Nat) (t : TypeId), [3, 3][j]? = some t → ∀ (hj : j < cs.length), ∃ y, DataW.trod enc Tryz.prog W base sp held n' t [cs[j]] = some y := by
    intro j t ht hj
    obtain ⟨f, hf1, rfl⟩ := hty' j t ht
    obtain ⟨ho, hk⟩ := hone_of hone j f hf1
    have h1 := hf j f hf1
    rw [ho, hk] at h1
    have hone' : (cs.drop j).take 1 = [cs[j]] := by rw [List.drop_eq_getElem_cons hj]; rfl
    rw [hone'] at h1
    have hjl : j < ys.length := by rw [hyl, hsz]; omega
    exact ⟨ys[j], h1.trans (List.getElem?_eq_getElem hjl)⟩
  obtain ⟨c0, c1, rfl⟩ : ∃ c0 c1, cs = [c0, c1] := by
    match cs, hlen with
    | [c0, c1], _ => exact ⟨_, _, rfl⟩
  obtain ⟨y0, k0⟩ := key 0 _ rfl (by simp)
  obtain ⟨y1, k1⟩ := key 1 _ rfl (by simp)
  simp only [List.getElem_cons_zero, List.getElem_cons_succ] at k0 k1
  obtain ⟨a0, e0, -, w0⟩ := DataW.trod_int Tryz.underlying3 k0
  obtain ⟨a1, e1, -, w1⟩ := DataW.trod_int Tryz.underlying3 k1
  simp only [List.cons.injEq, and_true] at e0 e1
  subst e0 e1
  exact ⟨(a0, a1), rfl⟩

/-- A slice of numbers to add lies in W. -/
def AddsAt (W : World) (v : Value) (l : List (Int × Int)) : Prop := (∃ p cap, v = .slice p l.length cap) ∧ l.length ≤ maxLen ∧ ∀ wr Q, l.length ≤ 1000 → AddsIn W wr v Q l
theorem adds_of {H : Type} {enc : TypeId × Value → H} {W : World} {base : Nat} {sp : Nat → Bool} {held : Bool} {n : Nat} {cs : List Value} {y : DataW H × List MemPlace}
    (h : DataW.trod enc Tryz.prog W base sp held n 30 cs = some y) : ∃ v l, cs = [v] ∧ AddsAt W v l := by
  rcases DataW.trod_slice Tryz.underlying30 h with ⟨h0, _⟩ | ⟨a, len, cap, elems, rest, n, _, hcs, hx, hb, hl, hm, hlen, hel, _⟩
  · exact ⟨_, [], h0, ⟨none, 0, rfl⟩, Nat.zero_le _, fun wr Q _ => ⟨⟨none, 0, rfl, fun h => absurd rfl h⟩, Nat.zero_le _⟩⟩
  · subst hcs
    have key : ∀ i, i < len → ∃ m : Int × Int, ∀ j, j < 2 → W.cell? ((a.add (i * 2)).add j) = (encA m)[j]? := by
      intro i hi
      have h1 := hel i hi
      rw [addCells, List.getElem?_eq_getElem (by omega), Option.bind_eq_some_iff] at h1
      obtain ⟨cs', hcs', hy⟩ := h1
      obtain ⟨_, hcl, hat⟩ := World.cells?_some hcs'
      obtain ⟨m, rfl⟩ := add_of hcl hy
      exact ⟨m, fun j hj => hat j hj⟩
    let g : Fin len → (Int × Int) := fun i => Classical.choose (key i i.2)
    have hg : ∀ i : Fin len, ∀ j, j < 2 → W.cell? ((a.add (i.1 * 2)).add j) = (encA (g i))[j]? := fun i => Classical.choose_spec (key i i.2)
    refine ⟨_, List.ofFn g, rfl, ⟨some a, cap, by simp⟩, by simp; omega, fun wr Q hle => ⟨⟨some a, cap, by simp, fun hn => ?_⟩, hle⟩⟩
    · have hpos : 0 < len := by
        rcases Nat.eq_zero_or_pos len with e | e
        · subst e; simp at hn
        · exact e
      have hsp : a.spot = none := by
        have h0 := hg ⟨0, hpos⟩ 0 (by omega)
        simp only [Nat.zero_mul, Addr.add, if_true] at h0
        have h1 : W.cell? a = some (.int .i64 (g ⟨0, hpos⟩).1) := h0
        cases hs : a.spot with
        | none => rfl
        | some s =>
          unfold World.cell? at h1
          split at h1
          · simp [hs] at h1
          · cases h1
      obtain ⟨blk, off, spot⟩ := a
      simp only at hsp
      subst hsp
      have had : ∀ i j, ((⟨blk, off, none⟩ : Addr).add (i * 2)).add j = ⟨blk, off + i * 2 + j, none⟩ := by
        intro i j
        unfold Addr.add
        split <;> split <;> simp_all
      refine ⟨blk, off, rfl, fun k m hk j hj => .inr ?_⟩
      rw [List.getElem?_ofFn] at hk
      split at hk
      · rename_i hi
        cases hk
        have h1 := hg ⟨k, hi⟩ j hj
        rw [had] at h1
        refine ⟨?_, h1⟩
        have h2 : ∃ x, (encA (g ⟨k, hi⟩))[j]? = some x := ⟨_, List.getElem?_eq_getElem (by simpa [encA] using hj)⟩
        obtain ⟨x, hx2⟩ := h2
        exact World.block_lt_of_cell? W ⟨blk, off + k * 2 + j, none⟩ (h1.trans hx2)
      · cases hk
theorem came_adds {H : Type} {enc : TypeId × Value → H} {W : World} {base : Nat} {sp : Nat → Bool} {held : Bool} {v : Value} {d : DataW H} {ps : List MemPlace} {r : Reach} {b0 : Nat}
    (hval : Value.okWide Tryz.prog W r b0 30 v) (hd : DataW.Trod enc Tryz.prog W base sp held 30 v d ps) : ∃ l : List (Int × Int), AddsAt W v l := by
  obtain ⟨a0, len0, cap0, rfl⟩ := okWide_slice Tryz.underlying30 hval
  obtain ⟨fuel, hf⟩ := hd
  obtain ⟨v, l, hcs, h⟩ := adds_of hf
  have hv : Value.slice a0 len0 cap0 = v := by
    simp only [Value.cells] at hcs
    exact (List.cons.inj hcs).1
  exact ⟨l, hv ▸ h⟩
/-- A slice of slices of numbers to add lies in W. -/
def AddssAt (W : World) (v : Value) (L : List (List (Int × Int))) : Prop := ∃ p cap, v = .slice p L.length cap ∧ L.length ≤ maxLen ∧ (L ≠ [] → ∃ g o, p = some ⟨g, o, none⟩ ∧ ∀ (k : Nat) l, L[k]? = some l → ∃ vk, W.cell? ⟨g, o + k, none⟩ = some vk ∧ AddsAt W vk l)
theorem addsCells : Tryz.prog.cellsOf 30 = 1 := by kernel_rfl
theorem came_addss {H : Type} {enc : TypeId × Value → H} {W : World} {base : Nat} {sp : Nat → Bool} {held : Bool} {v : Value} {d : DataW H} {ps : List MemPlace} {r : Reach} {b0 : Nat}
    (hval : Value.okWide Tryz.prog W r b0 22 v) (hd : DataW.Trod enc Tryz.prog W base sp held 22 v d ps) : ∃ L : List (List (Int × Int)), AddssAt W v L := by
  obtain ⟨a0, len0, cap0, rfl⟩ := okWide_slice Tryz.underlying22 hval
  obtain ⟨fuel, hf⟩ := hd
  rcases DataW.trod_slice Tryz.underlying22 hf with ⟨h0, _⟩ | ⟨a, len, cap, elems, rest, n, _, hcs, hx, hb, hl, hm, hlen, hel, _⟩
  · simp [Value.cells] at h0
    obtain ⟨rfl, rfl, rfl⟩ := h0
    exact ⟨[], none, 0, rfl, Nat.zero_le _, fun h => absurd rfl h⟩
  · simp [Value.cells] at hcs
    obtain ⟨rfl, rfl, rfl⟩ := hcs
    have key : ∀ i, i < len0 → ∃ (l : List (Int × Int)) (vk : Value), W.cell? (a.add i) = some vk ∧ AddsAt W vk l := by
      intro i hi
      have h1 := hel i hi
      rw [addsCells, List.getElem?_eq_getElem (by omega), Option.bind_eq_some_iff] at h1
      obtain ⟨cs', hcs', hy⟩ := h1
      obtain ⟨_, hcl, hat⟩ := World.cells?_some hcs'
      obtain ⟨vk, l, rfl, h⟩ := adds_of hy
      have h2 := hat 0 (by omega)
      refine ⟨l, vk, ?_, h⟩
      simpa [Addr.add] using h2
    let g : Fin len0 → List (Int × Int) := fun i => Classical.choose (key i i.2)
    have hg : ∀ i : Fin len0, ∃ vk, W.cell? (a.add i.1) = some vk ∧ AddsAt W vk (g i) := fun i => Classical.choose_spec (key i i.2)
    refine ⟨List.ofFn g, some a, cap0, by simp, by simp; omega, fun hn => ?_⟩
    have hpos : 0 < len0 := by
      rcases Nat.eq_zero_or_pos len0 with e | e
      · subst e; simp at hn
      · exact e
    have hsp : a.spot = none := by
      obtain ⟨vk, h0, ⟨⟨p, c, hv⟩, _⟩⟩ := hg ⟨0, hpos⟩
      simp only [Addr.add, if_true] at h0
      subst hv
      cases hs : a.spot with
      | none => rfl
      | some s =>
        unfold World.cell? at h0
        split at h0
        · simp [hs] at h0
        · cases h0
    obtain ⟨blk, off, spot⟩ := a
    simp only at hsp
    subst hsp
    have had : ∀ i, (⟨blk, off, none⟩ : Addr).add i = ⟨blk, off + i, none⟩ := by
      intro i
      unfold Addr.add
      split <;> simp_all
    refine ⟨blk, off, rfl, fun k l hk => ?_⟩
    rw [List.getElem?_ofFn] at hk
    split at hk
    · rename_i hi
      cases hk
      obtain ⟨vk, h1, h2⟩ := hg ⟨k, hi⟩
      rw [had] at h1
      exact ⟨vk, h1, h2⟩
    · cases hk
end Go.Proofs.YtdipidiahekpkaaGreatDoor
