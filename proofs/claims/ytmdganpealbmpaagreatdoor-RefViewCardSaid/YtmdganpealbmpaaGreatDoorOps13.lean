/- A slice argument of operations, and one of such slices. -/
import Derived.Test.YtmdganpealbmpaaGreatDoorBody13a
import Derived.ProofKit
import Derived.OpenShut
import Derived.Deep.Slices
import Derived.Deep.Fields
namespace Go.Proofs.YtmdganpealbmpaaGreatDoor
open Go.ChangeShapes Go.WideShapes Go.ChangeAt Go.RowKit Go.Deep Bl Th
set_option maxRecDepth 10000

theorem opFields : ∃ fs : Array Field, Tryz.prog.underlying 82 = some (.struct fs) ∧ oneCellFields Tryz.prog fs = true ∧ fs.size = 3 ∧ (fs.toList.map (·.type)) = [3, 3, 41] := ⟨_, Tryz.underlying82, by kernel_rfl, by kernel_rfl, by kernel_rfl⟩
theorem opCells : Tryz.prog.cellsOf 82 = 3 := by kernel_rfl

theorem op_of {H : Type} {enc : TypeId × Value → H} {W : World} {base : Nat} {sp : Nat → Bool} {held : Bool} {n : Nat} {cs : List Value} {y : DataW H × List MemPlace} (hlen : cs.length = 3) (h : DataW.trod enc Tryz.prog W base sp held n 82 cs = some y) :
    ∃ m : Op13, cs = encO m ∧ m.x < 18446744073709551616 := by
  obtain ⟨fs, hs, hone, hsz, hty⟩ := opFields
  obtain ⟨ys, n', _, _, _, hyl, hf⟩ := DataW.trod_struct hs h
  have hty' : ∀ (j : Nat) (t : TypeId), [3, 3, 41][j]? = some t → ∃ f, fs[j]? = some f ∧ f.type = t := by
    intro j t hj
    rw [← hty, List.getElem?_map, Option.map_eq_some_iff] at hj
    obtain ⟨f, hf1, hf2⟩ := hj
    exact ⟨f, by simpa using hf1, hf2⟩
  have key : ∀ (j : Nat) (t : TypeId), [3, 3, 41][j]? = some t → ∀ (hj : j < cs.length), ∃ y, DataW.trod enc Tryz.prog W base sp held n' t [cs[j]] = some y := by
    intro j t ht hj
    obtain ⟨f, hf1, rfl⟩ := hty' j t ht
    obtain ⟨ho, hk⟩ := hone_of hone j f hf1
    have h1 := hf j f hf1
    rw [ho, hk] at h1
    have hone' : (cs.drop j).take 1 = [cs[j]] := by rw [List.drop_eq_getElem_cons hj]; rfl
    rw [hone'] at h1
    have hjl : j < ys.length := by rw [hyl, hsz]; omega
    exact ⟨ys[j], h1.trans (List.getElem?_eq_getElem hjl)⟩
  obtain ⟨c0, c1, c2, rfl⟩ : ∃ c0 c1 c2, cs = [c0, c1, c2] := by
    match cs, hlen with
    | [c0, c1, c2], _ => exact ⟨_, _, _, rfl⟩
  obtain ⟨y0, k0⟩ := key 0 _ rfl (by simp)
  obtain ⟨y1, k1⟩ := key 1 _ rfl (by simp)
  obtain ⟨y2, k2⟩ := key 2 _ rfl (by simp)
  simp only [List.getElem_cons_zero, List.getElem_cons_succ] at k0 k1 k2
  obtain ⟨a0, e0, -, w0⟩ := DataW.trod_int Tryz.underlying3 k0
  obtain ⟨a1, e1, -, w1⟩ := DataW.trod_int Tryz.underlying3 k1
  obtain ⟨a2, e2, -, w2⟩ := DataW.trod_int Tryz.underlying41 k2
  simp only [List.cons.injEq, and_true] at e0 e1 e2
  subst e0 e1 e2
  have b2 := bounds_u64 w2
  obtain ⟨x, rfl⟩ := Int.eq_ofNat_of_zero_le b2.1
  exact ⟨⟨a0, a1, x⟩, rfl, by simp only; omega⟩

/-- A slice of operations lies in W. -/
def OpsAt (W : World) (v : Value) (l : List Op13) : Prop := (∃ p cap, v = .slice p l.length cap) ∧ l.length ≤ maxLen ∧ ∀ wr Q, l.length ≤ 1000 → OpsIn W wr v Q l
theorem ops_of {H : Type} {enc : TypeId × Value → H} {W : World} {base : Nat} {sp : Nat → Bool} {held : Bool} {n : Nat} {cs : List Value} {y : DataW H × List MemPlace}
    (h : DataW.trod enc Tryz.prog W base sp held n 35 cs = some y) : ∃ v l, cs = [v] ∧ OpsAt W v l := by
  rcases DataW.trod_slice Tryz.underlying35 h with ⟨h0, _⟩ | ⟨a, len, cap, elems, rest, n, _, hcs, hx, hb, hl, hm, hlen, hel, _⟩
  · exact ⟨_, [], h0, ⟨none, 0, rfl⟩, Nat.zero_le _, fun wr Q _ => ⟨⟨none, 0, rfl, fun h => absurd rfl h⟩, Nat.zero_le _, fun m hm => by cases hm⟩⟩
  · subst hcs
    have key : ∀ i, i < len → ∃ m : Op13, (∀ j, j < 3 → W.cell? ((a.add (i * 3)).add j) = (encO m)[j]?) ∧ m.x < 18446744073709551616 := by
      intro i hi
      have h1 := hel i hi
      rw [opCells, List.getElem?_eq_getElem (by omega), Option.bind_eq_some_iff] at h1
      obtain ⟨cs', hcs', hy⟩ := h1
      obtain ⟨_, hcl, hat⟩ := World.cells?_some hcs'
      obtain ⟨m, rfl, hmx⟩ := op_of hcl hy
      exact ⟨m, fun j hj => hat j hj, hmx⟩
    let g : Fin len → Op13 := fun i => Classical.choose (key i i.2)
    have hg : ∀ i : Fin len, (∀ j, j < 3 → W.cell? ((a.add (i.1 * 3)).add j) = (encO (g i))[j]?) ∧ (g i).x < 18446744073709551616 := fun i => Classical.choose_spec (key i i.2)
    refine ⟨_, List.ofFn g, rfl, ⟨some a, cap, by simp⟩, by simp; omega, fun wr Q hle => ⟨⟨some a, cap, by simp, fun hn => ?_⟩, hle, fun m hm' => ?_⟩⟩
    · have hpos : 0 < len := by
        rcases Nat.eq_zero_or_pos len with e | e
        · subst e; simp at hn
        · exact e
      have hsp : a.spot = none := by
        have h0 := (hg ⟨0, hpos⟩).1 0 (by omega)
        simp only [Nat.zero_mul, Addr.add, if_true] at h0
        have h1 : W.cell? a = some (.int .i64 (g ⟨0, hpos⟩).kind) := h0
        cases hs : a.spot with
        | none => rfl
        | some s =>
          unfold World.cell? at h1
          split at h1
          · simp [hs] at h1
          · cases h1
      obtain ⟨blk, off, spot⟩ := a
      simp only at hsp
      subst hsp
      have had : ∀ i j, ((⟨blk, off, none⟩ : Addr).add (i * 3)).add j = ⟨blk, off + i * 3 + j, none⟩ := by
        intro i j
        unfold Addr.add
        split <;> split <;> simp_all
      refine ⟨blk, off, rfl, fun k m hk j hj => .inr ?_⟩
      rw [List.getElem?_ofFn] at hk
      split at hk
      · rename_i hi
        cases hk
        have h1 := (hg ⟨k, hi⟩).1 j hj
        rw [had] at h1
        refine ⟨?_, h1⟩
        have h2 : ∃ x, (encO (g ⟨k, hi⟩))[j]? = some x := ⟨_, List.getElem?_eq_getElem (by simpa [encO] using hj)⟩
        obtain ⟨x, hx2⟩ := h2
        exact World.block_lt_of_cell? W ⟨blk, off + k * 3 + j, none⟩ (h1.trans hx2)
      · cases hk
    · rw [List.mem_ofFn] at hm'
      obtain ⟨i, rfl⟩ := hm'
      exact (hg i).2
theorem came_ops {H : Type} {enc : TypeId × Value → H} {W : World} {base : Nat} {sp : Nat → Bool} {held : Bool} {v : Value} {d : DataW H} {ps : List MemPlace} {r : Reach} {b0 : Nat}
    (hval : Value.okWide Tryz.prog W r b0 35 v) (hd : DataW.Trod enc Tryz.prog W base sp held 35 v d ps) : ∃ l : List Op13, OpsAt W v l := by
  obtain ⟨a0, len0, cap0, rfl⟩ := okWide_slice Tryz.underlying35 hval
  obtain ⟨fuel, hf⟩ := hd
  obtain ⟨v, l, hcs, h⟩ := ops_of hf
  have hv : Value.slice a0 len0 cap0 = v := by
    simp only [Value.cells] at hcs
    exact (List.cons.inj hcs).1
  exact ⟨l, hv ▸ h⟩
/-- A slice of slices of operations lies in W. -/
def OpssAt (W : World) (v : Value) (L : List (List Op13)) : Prop := ∃ p cap, v = .slice p L.length cap ∧ L.length ≤ maxLen ∧ (L ≠ [] → ∃ g o, p = some ⟨g, o, none⟩ ∧ ∀ (k : Nat) l, L[k]? = some l → ∃ vk, W.cell? ⟨g, o + k, none⟩ = some vk ∧ OpsAt W vk l)
theorem opsCells : Tryz.prog.cellsOf 35 = 1 := by kernel_rfl
theorem came_opss {H : Type} {enc : TypeId × Value → H} {W : World} {base : Nat} {sp : Nat → Bool} {held : Bool} {v : Value} {d : DataW H} {ps : List MemPlace} {r : Reach} {b0 : Nat}
    (hval : Value.okWide Tryz.prog W r b0 22 v) (hd : DataW.Trod enc Tryz.prog W base sp held 22 v d ps) : ∃ L : List (List Op13), OpssAt W v L := by
  obtain ⟨a0, len0, cap0, rfl⟩ := okWide_slice Tryz.underlying22 hval
  obtain ⟨fuel, hf⟩ := hd
  rcases DataW.trod_slice Tryz.underlying22 hf with ⟨h0, _⟩ | ⟨a, len, cap, elems, rest, n, _, hcs, hx, hb, hl, hm, hlen, hel, _⟩
  · simp [Value.cells] at h0
    obtain ⟨rfl, rfl, rfl⟩ := h0
    exact ⟨[], none, 0, rfl, Nat.zero_le _, fun h => absurd rfl h⟩
  · simp [Value.cells] at hcs
    obtain ⟨rfl, rfl, rfl⟩ := hcs
    have key : ∀ i, i < len0 → ∃ (l : List Op13) (vk : Value), W.cell? (a.add i) = some vk ∧ OpsAt W vk l := by
      intro i hi
      have h1 := hel i hi
      rw [opsCells, List.getElem?_eq_getElem (by omega), Option.bind_eq_some_iff] at h1
      obtain ⟨cs', hcs', hy⟩ := h1
      obtain ⟨_, hcl, hat⟩ := World.cells?_some hcs'
      obtain ⟨vk, l, rfl, h⟩ := ops_of hy
      have h2 := hat 0 (by omega)
      refine ⟨l, vk, ?_, h⟩
      simpa [Addr.add] using h2
    let g : Fin len0 → List Op13 := fun i => Classical.choose (key i i.2)
    have hg : ∀ i : Fin len0, ∃ vk, W.cell? (a.add i.1) = some vk ∧ OpsAt W vk (g i) := fun i => Classical.choose_spec (key i i.2)
    refine ⟨List.ofFn g, some a, cap0, by simp, by simp; omega, fun hn => ?_⟩
    have hpos : 0 < len0 := by
      rcases Nat.eq_zero_or_pos len0 with e | e
      · subst e; simp at hn
      · exact e
    have hsp : a.spot = none := by
      obtain ⟨vk, h0, ⟨⟨p, c, hv⟩, _⟩⟩ := hg ⟨0, hpos⟩
      simp only [Addr.add, if_true] at h0
      subst hv
      cases hs : a.spot with
      | none => rfl
      | some s =>
        unfold World.cell? at h0
        split at h0
        · simp [hs] at h0
        · cases h0
    obtain ⟨blk, off, spot⟩ := a
    simp only at hsp
    subst hsp
    have had : ∀ i, (⟨blk, off, none⟩ : Addr).add i = ⟨blk, off + i, none⟩ := by
      intro i
      unfold Addr.add
      split <;> simp_all
    refine ⟨blk, off, rfl, fun k l hk => ?_⟩
    rw [List.getElem?_ofFn] at hk
    split at hk
    · rename_i hi
      cases hk
      obtain ⟨vk, h1, h2⟩ := hg ⟨k, hi⟩
      rw [had] at h1
      exact ⟨vk, h1, h2⟩
    · cases hk
end Go.Proofs.YtmdganpealbmpaaGreatDoor
