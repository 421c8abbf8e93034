/- TqAlone: ActsArg, TqAlone. -/
import Derived.Test.YtkpdacfiglpgeaaGreatDoorTqCln
import Derived.ProofKit
import Derived.OpenShut
import Derived.Deep.Slices
import Derived.Deep.Fields
import Derived.Test.YtkpdacfiglpgeaaGreatDoorTqModel
import Derived.Test.YtkpdacfiglpgeaaGreatDoorTqAlive

/- A slice argument of slices of calls of queues. -/
namespace Go.Proofs.YtkpdacfiglpgeaaGreatDoor
open Go.ChangeShapes Go.WideShapes Go.ChangeAt Go.RowKit Go.Deep Bl Th
set_option maxRecDepth 10000

theorem actFields : ∃ fs : Array Field, Tryz.prog.underlying 92 = some (.struct fs) ∧ oneCellFields Tryz.prog fs = true ∧ fs.size = 3 ∧ (fs.toList.map (·.type)) = [3, 25, 4] := ⟨_, Tryz.underlying92, by kernel_rfl, by kernel_rfl, by kernel_rfl⟩
theorem actCells : Tryz.prog.cellsOf 92 = 3 := by kernel_rfl

theorem act_of {H : Type} {enc : TypeId × Value → H} {W : World} {base : Nat} {sp : Nat → Bool} {held : Bool} {n : Nat} {cs : List Value} {y : DataW H × List MemPlace} (hlen : cs.length = 3) (h : DataW.trod enc Tryz.prog W base sp held n 92 cs = some y) :
    ∃ m : ActQ, cs = encAct m ∧ m.x < 18446744073709551616 := by
  obtain ⟨fs, hs, hone, hsz, hty⟩ := actFields
  obtain ⟨ys, n', _, _, _, hyl, hf⟩ := DataW.trod_struct hs h
  have hty' : ∀ (j : Nat) (t : TypeId), [3, 25, 4][j]? = some t → ∃ f, fs[j]? = some f ∧ f.type = t := by
    intro j t hj
    rw [← hty, List.getElem?_map, Option.map_eq_some_iff] at hj
    obtain ⟨f, hf1, hf2⟩ := hj
    exact ⟨f, by simpa using hf1, hf2⟩
  have key : ∀ (j : Nat) (t : TypeId), [3, 25, 4][j]? = some t → ∀ (hj : j < cs.length), ∃ y, DataW.trod enc Tryz.prog W base sp held n' t [cs[j]] = some y := by
    intro j t ht hj
    obtain ⟨f, hf1, rfl⟩ := hty' j t ht
    obtain ⟨ho, hk⟩ := hone_of hone j f hf1
    have h1 := hf j f hf1
    rw [ho, hk] at h1
    have hone' : (cs.drop j).take 1 = [cs[j]] := by rw [List.drop_eq_getElem_cons hj]; rfl
    rw [hone'] at h1
    have hjl : j < ys.length := by rw [hyl, hsz]; omega
    exact ⟨ys[j], h1.trans (List.getElem?_eq_getElem hjl)⟩
  obtain ⟨c0, c1, c2, rfl⟩ : ∃ c0 c1 c2, cs = [c0, c1, c2] := by
    match cs, hlen with
    | [c0, c1, c2], _ => exact ⟨_, _, _, rfl⟩
  obtain ⟨y0, k0⟩ := key 0 _ rfl (by simp)
  obtain ⟨y1, k1⟩ := key 1 _ rfl (by simp)
  obtain ⟨y2, k2⟩ := key 2 _ rfl (by simp)
  simp only [List.getElem_cons_zero, List.getElem_cons_succ] at k0 k1 k2
  obtain ⟨a0, e0, -, w0⟩ := DataW.trod_int Tryz.underlying3 k0
  obtain ⟨a1, e1, -, w1⟩ := DataW.trod_int Tryz.underlying25 k1
  obtain ⟨a2, e2, -⟩ := DataW.trod_bool Tryz.underlying4 k2
  simp only [List.cons.injEq, and_true] at e0 e1 e2
  subst e0 e1 e2
  have hb := bounds_u64 w1
  obtain ⟨n1, rfl⟩ := Int.eq_ofNat_of_zero_le hb.1
  exact ⟨⟨a0, n1, a2⟩, rfl, by have := hb.2; simp only; omega⟩

/-- A slice of calls lies in W. -/
def ActsAt (W : World) (v : Value) (l : List (ActQ)) : Prop := (∃ p cap, v = .slice p l.length cap) ∧ l.length ≤ maxLen ∧ ∀ wr Q, l.length ≤ 1000 → ActsIn W wr v Q l
theorem acts_of {H : Type} {enc : TypeId × Value → H} {W : World} {base : Nat} {sp : Nat → Bool} {held : Bool} {n : Nat} {cs : List Value} {y : DataW H × List MemPlace}
    (h : DataW.trod enc Tryz.prog W base sp held n 34 cs = some y) : ∃ v l, cs = [v] ∧ ActsAt W v l := by
  rcases DataW.trod_slice Tryz.underlying34 h with ⟨h0, _⟩ | ⟨a, len, cap, elems, rest, n, _, hcs, hx, hb, hl, hm, hlen, hel, _⟩
  · exact ⟨_, [], h0, ⟨none, 0, rfl⟩, Nat.zero_le _, fun wr Q _ => ⟨⟨none, 0, rfl, fun h => absurd rfl h⟩, Nat.zero_le _⟩⟩
  · subst hcs
    have key : ∀ i, i < len → ∃ m : ActQ, m.x < 18446744073709551616 ∧ ∀ j, j < 3 → W.cell? ((a.add (i * 3)).add j) = (encAct m)[j]? := by
      intro i hi
      have h1 := hel i hi
      rw [actCells, List.getElem?_eq_getElem (by omega), Option.bind_eq_some_iff] at h1
      obtain ⟨cs', hcs', hy⟩ := h1
      obtain ⟨_, hcl, hat⟩ := World.cells?_some hcs'
      obtain ⟨m, rfl, hm⟩ := act_of hcl hy
      exact ⟨m, hm, fun j hj => hat j hj⟩
    let g : Fin len → (ActQ) := fun i => Classical.choose (key i i.2)
    have hg : ∀ i : Fin len, (g i).x < 18446744073709551616 ∧ ∀ j, j < 3 → W.cell? ((a.add (i.1 * 3)).add j) = (encAct (g i))[j]? := fun i => Classical.choose_spec (key i i.2)
    refine ⟨_, List.ofFn g, rfl, ⟨some a, cap, by simp⟩, by simp; omega, fun wr Q hle => ⟨⟨some a, cap, by simp, fun hn => ?_⟩, hle⟩⟩
    · have hpos : 0 < len := by
        rcases Nat.eq_zero_or_pos len with e | e
        · subst e; simp at hn
        · exact e
      have hsp : a.spot = none := by
        have h0 := (hg ⟨0, hpos⟩).2 0 (by omega)
        simp only [Nat.zero_mul, Addr.add, if_true] at h0
        have h1 : W.cell? a = some (.int .i64 (g ⟨0, hpos⟩).kind) := h0
        cases hs : a.spot with
        | none => rfl
        | some s =>
          unfold World.cell? at h1
          split at h1
          · simp [hs] at h1
          · cases h1
      obtain ⟨blk, off, spot⟩ := a
      simp only at hsp
      subst hsp
      have had : ∀ i j, ((⟨blk, off, none⟩ : Addr).add (i * 3)).add j = ⟨blk, off + i * 3 + j, none⟩ := by
        intro i j
        unfold Addr.add
        split <;> split <;> simp_all
      refine ⟨blk, off, rfl, fun k m hk => ?_⟩
      rw [List.getElem?_ofFn] at hk
      split at hk
      · rename_i hi
        cases hk
        refine ⟨(hg ⟨k, hi⟩).1, fun j hj => .inr ?_⟩
        have h1 := (hg ⟨k, hi⟩).2 j hj
        rw [had] at h1
        refine ⟨?_, h1⟩
        have h2 : ∃ x, (encAct (g ⟨k, hi⟩))[j]? = some x := ⟨_, List.getElem?_eq_getElem (by simpa [encAct] using hj)⟩
        obtain ⟨x, hx2⟩ := h2
        exact World.block_lt_of_cell? W ⟨blk, off + k * 3 + j, none⟩ (h1.trans hx2)
      · cases hk
theorem came_acts {H : Type} {enc : TypeId × Value → H} {W : World} {base : Nat} {sp : Nat → Bool} {held : Bool} {v : Value} {d : DataW H} {ps : List MemPlace} {r : Reach} {b0 : Nat}
    (hval : Value.okWide Tryz.prog W r b0 34 v) (hd : DataW.Trod enc Tryz.prog W base sp held 34 v d ps) : ∃ l : List (ActQ), ActsAt W v l := by
  obtain ⟨a0, len0, cap0, rfl⟩ := okWide_slice Tryz.underlying34 hval
  obtain ⟨fuel, hf⟩ := hd
  obtain ⟨v, l, hcs, h⟩ := acts_of hf
  have hv : Value.slice a0 len0 cap0 = v := by
    simp only [Value.cells] at hcs
    exact (List.cons.inj hcs).1
  exact ⟨l, hv ▸ h⟩
/-- A slice of slices of calls lies in W. -/
def ActssAt (W : World) (v : Value) (L : List (List (ActQ))) : Prop := ∃ p cap, v = .slice p L.length cap ∧ L.length ≤ maxLen ∧ (L ≠ [] → ∃ g o, p = some ⟨g, o, none⟩ ∧ ∀ (k : Nat) l, L[k]? = some l → ∃ vk, W.cell? ⟨g, o + k, none⟩ = some vk ∧ ActsAt W vk l)
theorem actsCells : Tryz.prog.cellsOf 34 = 1 := by kernel_rfl
theorem came_actss {H : Type} {enc : TypeId × Value → H} {W : World} {base : Nat} {sp : Nat → Bool} {held : Bool} {v : Value} {d : DataW H} {ps : List MemPlace} {r : Reach} {b0 : Nat}
    (hval : Value.okWide Tryz.prog W r b0 22 v) (hd : DataW.Trod enc Tryz.prog W base sp held 22 v d ps) : ∃ L : List (List (ActQ)), ActssAt W v L := by
  obtain ⟨a0, len0, cap0, rfl⟩ := okWide_slice Tryz.underlying22 hval
  obtain ⟨fuel, hf⟩ := hd
  rcases DataW.trod_slice Tryz.underlying22 hf with ⟨h0, _⟩ | ⟨a, len, cap, elems, rest, n, _, hcs, hx, hb, hl, hm, hlen, hel, _⟩
  · simp [Value.cells] at h0
    obtain ⟨rfl, rfl, rfl⟩ := h0
    exact ⟨[], none, 0, rfl, Nat.zero_le _, fun h => absurd rfl h⟩
  · simp [Value.cells] at hcs
    obtain ⟨rfl, rfl, rfl⟩ := hcs
    have key : ∀ i, i < len0 → ∃ (l : List (ActQ)) (vk : Value), W.cell? (a.add i) = some vk ∧ ActsAt W vk l := by
      intro i hi
      have h1 := hel i hi
      rw [actsCells, List.getElem?_eq_getElem (by omega), Option.bind_eq_some_iff] at h1
      obtain ⟨cs', hcs', hy⟩ := h1
      obtain ⟨_, hcl, hat⟩ := World.cells?_some hcs'
      obtain ⟨vk, l, rfl, h⟩ := acts_of hy
      have h2 := hat 0 (by omega)
      refine ⟨l, vk, ?_, h⟩
      simpa [Addr.add] using h2
    let g : Fin len0 → List (ActQ) := fun i => Classical.choose (key i i.2)
    have hg : ∀ i : Fin len0, ∃ vk, W.cell? (a.add i.1) = some vk ∧ ActsAt W vk (g i) := fun i => Classical.choose_spec (key i i.2)
    refine ⟨List.ofFn g, some a, cap0, by simp, by simp; omega, fun hn => ?_⟩
    have hpos : 0 < len0 := by
      rcases Nat.eq_zero_or_pos len0 with e | e
      · subst e; simp at hn
      · exact e
    have hsp : a.spot = none := by
      obtain ⟨vk, h0, ⟨⟨p, c, hv⟩, _⟩⟩ := hg ⟨0, hpos⟩
      simp only [Addr.add, if_true] at h0
      subst hv
      cases hs : a.spot with
      | none => rfl
      | some s =>
        unfold World.cell? at h0
        split at h0
        · simp [hs] at h0
        · cases h0
    obtain ⟨blk, off, spot⟩ := a
    simp only at hsp
    subst hsp
    have had : ∀ i, (⟨blk, off, none⟩ : Addr).add i = ⟨blk, off + i, none⟩ := by
      intro i
      unfold Addr.add
      split <;> simp_all
    refine ⟨blk, off, rfl, fun k l hk => ?_⟩
    rw [List.getElem?_ofFn] at hk
    split at hk
    · rename_i hi
      cases hk
      obtain ⟨vk, h1, h2⟩ := hg ⟨k, hi⟩
      rw [had] at h1
      exact ⟨vk, h1, h2⟩
    · cases hk
end Go.Proofs.YtkpdacfiglpgeaaGreatDoor

/- Layer 29's laws: transactions of two queues, one behind the other. -/
namespace Go.Proofs.YtkpdacfiglpgeaaGreatDoor
open Go.RowKit Bl Th
open Lib (intOf)
set_option maxRecDepth 10000

theorem mod5 (a : Int) : (a.tmod 5 + 5).tmod 5 = a % 5 := by
  have h1 : -5 < a.tmod 5 := Int.lt_tmod_of_pos a (by omega)
  rw [Int.tmod_eq_emod_of_nonneg (by omega), Int.tmod_def]
  rw [show a - 5 * a.tdiv 5 + 5 = a + 5 * (1 - a.tdiv 5) by rw [Int.mul_sub]; omega]
  exact Int.add_mul_emod_self_left _ _ _
theorem places_ok (a : Int) (w : World) : Calls Tryz.prog 7 #[.int .i64 a] w fun e w' => e = .returned (.int .i64 (1 + a % 5)) ∧ w = w' := by
  have b1 : -5 < a.tmod 5 := Int.lt_tmod_of_pos a (by omega)
  have b2 : a.tmod 5 < 5 := Int.tmod_lt_of_pos a (by omega)
  have b3 : 0 ≤ a % 5 := Int.emod_nonneg _ (by omega)
  have b4 : a % 5 < 5 := Int.emod_lt_of_pos _ (by omega)
  have w1 : IntKind.i64.wrap (a.tmod 5) = a.tmod 5 := IntWalk.i64_in _ (by omega)
  have w2 : IntKind.i64.wrap (a.tmod 5 + 5) = a.tmod 5 + 5 := IntWalk.i64_in _ (by omega)
  have w3 : (a.tmod 5 + 5).tmod 5 = a % 5 := mod5 a
  have w4 : IntKind.i64.wrap (a % 5) = a % 5 := IntWalk.i64_in _ (by omega)
  have w5 : IntKind.i64.wrap (1 + a % 5) = 1 + a % 5 := IntWalk.i64_in _ (by omega)
  obtain ⟨r, hr⟩ : ∃ r, a % 5 = r := ⟨_, rfl⟩
  rw [hr] at w3 w4 w5 ⊢
  clear hr b3 b4
  go_enter Tryz.func7, Tryz.ntmps7
  go_wp2
  go_ret
  exact ⟨rfl, rfl⟩
/-- The lists never have more than there are places. -/
theorem mdl1_lens {pl : Bool → Nat} {a : ActQ} {q q' : Bool → List Nat} {x : List Nat} (h : mdl1 pl a q = some (x, q')) (hq : ∀ j, (q j).length ≤ pl j) : ∀ j, (q' j).length ≤ pl j := by
  have up : ∀ (k : Bool) (l : List Nat), l.length ≤ pl k → ∀ j, (updB q k l j).length ≤ pl j := fun k l hl j => by
    unfold updB
    split
    · rename_i e; rw [e]; exact hl
    · exact hq j
  have tl : ∀ (k : Bool) (y : Nat) (t : List Nat), q k = y :: t → t.length ≤ pl k := fun k y t e => by
    have := hq k
    rw [e, List.length_cons] at this
    omega
  unfold mdl1 at h
  split at h
  · cases h; exact hq
  split at h
  · split at h
    · cases h
    · rename_i hf
      cases h
      refine up _ _ ?_
      have := hq a.other
      rw [List.length_append, List.length_singleton]
      omega
  split at h
  · split at h
    · cases h
    · cases h; exact hq
  split at h
  · split at h
    · cases h
    · rename_i e; cases h; exact up _ _ (tl _ _ _ e)
  split at h
  · split at h
    · cases h; exact hq
    · rename_i e; cases h; exact up _ _ (tl _ _ _ e)
  split at h
  · cases h; exact hq
  split at h
  · cases h; exact up _ _ (Nat.zero_le _)
  split at h
  · split at h
    · cases h
    · rename_i e
      split at h
      · cases h
      · rename_i hf
        cases h
        intro j
        unfold updB
        split
        · rename_i ej
          rw [ej]
          have := hq (!a.other)
          rw [List.length_append, List.length_singleton]
          omega
        · split
          · rename_i ej; rw [ej]; exact tl _ _ _ e
          · exact hq j
  split at h
  · split at h
    · rename_i e; cases h; exact up _ _ (tl _ _ _ e)
    · split at h
      · cases h
      · rename_i e; cases h; exact up _ _ (tl _ _ _ e)
  · cases h; exact hq
theorem mdl_lens {pl : Bool → Nat} : ∀ (l : List ActQ) (told : List Nat) (q : Bool → List Nat), (∀ j, (q j).length ≤ pl j) → ∀ j, ((mdl pl l told q).2.1 j).length ≤ pl j
  | [], _, q, hq => hq
  | a :: l, told, q, hq => by
    unfold mdl
    cases h : mdl1 pl a q with
    | none => exact hq
    | some r => exact mdl_lens l _ _ (mdl1_lens (x := r.1) (q' := r.2) h hq)
theorem cost5 (l : List ActQ) (hl : l.length ≤ 10) : (l.map (costA 5)).sum ≤ 1500 := by
  have : ∀ l : List ActQ, (l.map (costA 5)).sum ≤ 30 * l.length := fun l => by
    induction l with
    | nil => simp
    | cons a l ih =>
      have : costA 5 a ≤ 30 := by unfold costA; split <;> omega
      simp only [List.map_cons, List.sum_cons, List.length_cons]
      omega
  have := this l
  omega
theorem sc2 {w : World} {b a o : Nat} {u v x : Value} (h : ¬ a = b) (e : w.cell? ⟨a, o, none⟩ = some x) : ((w.setCell ⟨b, 0, none⟩ u).setCell ⟨b, 1, none⟩ v).cell? ⟨a, o, none⟩ = some x :=
  (World.cell?_of_block (a := ⟨a, o, none⟩) ((Below.heap_setCell _ ⟨b, 1, none⟩ v a h).trans (Below.heap_setCell w ⟨b, 0, none⟩ u a h))).trans e
theorem sca {w : World} {a o : Nat} {x : Value} {ob : Obj} (h : a < w.heap.size) (e : w.cell? ⟨a, o, none⟩ = some x) : (w.alloc ob).cell? ⟨a, o, none⟩ = some x :=
  (World.cell?_of_block (a := ⟨a, o, none⟩) (Below.heap_alloc w ob a h)).trans e
theorem own_ne {w : World} {B n sz : Nat} {e t : TypeId} {v : Value} {xs cs : List Value} {b : Nat} (h : w.ownsRow B e sz v n xs) (hc : Cells w b cs t) (hne : ¬ t = e) : v.ownBlock ≠ some b := by
  intro hb
  rcases h.2 with ⟨rfl, -⟩ | ⟨g, cap, cur, rfl, -, hg, -⟩
  · cases hb
  · obtain rfl : g = b := Option.some.inj hb
    unfold Cells at hc
    rw [hg] at hc
    simp only [Option.some.injEq, Obj.cells.injEq] at hc
    exact hne hc.2.1.symm
/-- What lies behind the call of model. -/
structure NextAt (vq : Bool → Value) (W wr : World) (b13 : Nat) (vt : Value) (told : List Nat) (vn : Bool → Value) (qn : Bool → List Nat) (u v : Value) (w5 : World) : Prop where
  cn : Cells w5 b13 [u, v] 33
  row : w5.ownsRow wr.heap.size 25 1 vt told.length (encU told)
  rows : ∀ j, w5.ownsRow W.heap.size 25 1 (vn j) (qn j).length (encU (qn j))
  below : Below wr.heap.size wr w5
  new : wr.heap.size ≤ b13
  apart : ∀ j, (vn j).ownBlock ≠ some b13
  apartT : vt.ownBlock ≠ some b13
  src : ∀ j, vn j = vq j ∨ ∀ b, (vn j).ownBlock = some b → wr.heap.size ≤ b
theorem next_at {vq : Bool → Value} {W wr w' : World} {b13 : Nat} {vt : Value} {told : List Nat} {vn : Bool → Value} {qn : Bool → List Nat} {x y : Value} (u v : Value) (hcn : Cells w' b13 [x, y] 33) (hrow : w'.ownsRow wr.heap.size 25 1 vt told.length (encU told)) (hrows : ∀ j, w'.ownsRow W.heap.size 25 1 (vn j) (qn j).length (encU (qn j))) (hb : Below wr.heap.size wr w') (hn : wr.heap.size ≤ b13) (hs : ∀ j, vn j = vq j ∨ ∀ b, (vn j).ownBlock = some b → wr.heap.size ≤ b) :
    NextAt vq W wr b13 vt told vn qn u v ((w'.setCell ⟨b13, 0, none⟩ u).setCell ⟨b13, 1, none⟩ v) := by
  have k := ((Kept.refl (fun b => b = b13) w').setCell (p := ⟨b13, 0, none⟩) (fun _ => rfl) u).setCell (p := ⟨b13, 1, none⟩) (fun _ => rfl) v
  have a1 := fun j => own_ne (hrows j) hcn (by decide)
  have a2 := own_ne hrow hcn (by decide)
  exact ⟨(hcn.set 0 u).set 1 v, ownsRow_kept hrow k (fun b hb e => a2 (by rw [hb, e])), fun j => ownsRow_kept (hrows j) k (fun b hb e => a1 j (by rw [hb, e])), hb.trans (k.below hb.size fun b h1 e => by omega), hn, a1, a2, hs⟩
/-- What model's answer lays. -/
def ModelOut (vq : Bool → Value) (W wr wx : World) (r : List Nat × (Bool → List Nat) × Bool) (e : Ending) (w' : World) : Prop :=
  ∃ (tp : Option Addr) (tc : Nat) (p0 : Option Addr) (n0 c0 : Nat) (p1 : Option Addr) (n1 c1 : Nat) (vn : Bool → Value) (qn : Bool → List Nat), e = .returned (.tuple #[.slice tp r.1.length tc, .agg #[.slice p0 n0 c0, .slice p1 n1 c1], .bool r.2.2]) ∧ vn false = .slice p0 n0 c0 ∧ vn true = .slice p1 n1 c1 ∧
    w'.ownsRow wr.heap.size 25 1 (.slice tp r.1.length tc) r.1.length (encU r.1) ∧ (∀ j, w'.ownsRow W.heap.size 25 1 (vn j) (qn j).length (encU (qn j))) ∧ (r.2.2 = true → qn = r.2.1) ∧ Below wr.heap.size wr w' ∧ Below wx.heap.size wx w' ∧ ∀ j, vn j = vq j ∨ ∀ b, (vn j).ownBlock = some b → wr.heap.size ≤ b
theorem ModelPost.out {vq : Bool → Value} {W wr wx w' : World} {r : List Nat × (Bool → List Nat) × Bool} {e : Ending} (h : ModelPost vq W wx r e w') (hx : Below wr.heap.size wr wx) : ModelOut vq W wr wx r e w' := by
  obtain ⟨tv, vn, qn, rfl, hrow, hrows, hqn, hbm, hsrc⟩ := h
  obtain ⟨tp, tc, rfl⟩ := ownsRow_shape hrow
  obtain ⟨p0, n0, c0, h0⟩ := own_shape3 (hrows false)
  obtain ⟨p1, n1, c1, h1⟩ := own_shape3 (hrows true)
  exact ⟨tp, tc, p0, n0, c0, p1, n1, c1, vn, qn, by rw [h0, h1], h0, h1, own_lower hrow hx.size, hrows, hqn, hx.trans (hbm.mono hx.size), hbm, fun j => (hsrc j).imp_right fun h b hb => Nat.le_trans hx.size (h b hb)⟩
theorem next_new {vq : Bool → Value} {W wr w' : World} {vt : Value} {told : List Nat} {vn : Bool → Value} {qn : Bool → List Nat} (u v : Value) (hrow : w'.ownsRow wr.heap.size 25 1 vt told.length (encU told)) (hrows : ∀ j, w'.ownsRow W.heap.size 25 1 (vn j) (qn j).length (encU (qn j))) (hb : Below wr.heap.size wr w') (hs : ∀ j, vn j = vq j ∨ ∀ b, (vn j).ownBlock = some b → wr.heap.size ≤ b) :
    NextAt vq W wr w'.heap.size vt told vn qn u v (w'.alloc (.cells #[u, v] 33)) := by
  have hcn := Cells.new w' [u, v] 33
  have hr2 := hrow.alloc (.cells #[u, v] 33)
  have hr3 := fun j => (hrows j).alloc (.cells #[u, v] 33)
  exact ⟨hcn, hr2, hr3, hb.alloc hb.size _, hb.size, fun j => own_ne (hr3 j) hcn (by decide), own_ne hr2 hcn (by decide), hs⟩
theorem own_held {R : List Nat} {w w' : World} {B n sz : Nat} {e : TypeId} {v : Value} {xs : List Value} (h : w.ownsRow B e sz v n xs) (k : HeldBy R w w') (hv : ∀ b, v.ownBlock = some b → b ∈ R) : w'.ownsRow B e sz v n xs := by
  refine ⟨h.1, ?_⟩
  rcases h.2 with a | ⟨g, cap, cur, rfl, a, hg, b⟩
  · exact .inl a
  · exact .inr ⟨g, cap, cur, rfl, a, (k.2 g (hv g rfl)).trans hg, b⟩
theorem SomeAt.held {w w' : World} {v : Value} {x R : List Nat} (h : SomeAt w v x) (k : HeldBy R w w') (hv : ∀ b, v.ownBlock = some b → b ∈ R) : SomeAt w' v x := by
  obtain ⟨p, c, rfl, h⟩ := h
  refine ⟨p, c, rfl, fun hn => ?_⟩
  obtain ⟨g, rfl, hc⟩ := h hn
  exact ⟨g, rfl, hc.heldBy k (hv g rfl)⟩
theorem mdl1_told {pl : Bool → Nat} {a : ActQ} {q q' : Bool → List Nat} {x : List Nat} (h : mdl1 pl a q = some (x, q')) (hq : ∀ j, (q j).length ≤ 5) : x.length ≤ 5 := by
  unfold mdl1 at h
  repeat' split at h
  all_goals first
    | (cases h; done)
    | (cases h; simp; done)
    | (cases h; exact hq _)
theorem mdl_told {pl : Bool → Nat} (hp : ∀ j, pl j ≤ 5) : ∀ (l : List ActQ) (told : List Nat) (q : Bool → List Nat), (∀ j, (q j).length ≤ pl j) → (mdl pl l told q).1.length ≤ told.length + 5 * l.length
  | [], _, q, hq => Nat.le_add_right _ _
  | a :: l, told, q, hq => by
    unfold mdl
    cases h : mdl1 pl a q with
    | none => exact Nat.le_add_right _ _
    | some r =>
      have h1 := mdl1_told (x := r.1) (q' := r.2) h (fun j => Nat.le_trans (hq j) (hp j))
      have := mdl_told hp l (told ++ r.1) r.2 (mdl1_lens (x := r.1) (q' := r.2) h hq)
      simp only [List.length_append, List.length_cons] at this ⊢
      omega
/-- What is held behind model. -/
theorem next_qp {vq : Bool → Value} {W wr w5 : World} {R : List Nat} {pa pb g0 cap0 g1 cap1 K clk b13 qb rb : Nat} {pl : Bool → Nat} {q : Bool → List Nat} {S : BS} {vt : Value} {told : List Nat} {vn : Bool → Value} {qn : Bool → List Nat} {u v : Value} (hq : QP W R pa pb g0 cap0 g1 cap1 pl K clk q S wr) (hn : NextAt vq W wr b13 vt told vn qn u v w5) (hv : ∀ j b, (vq j).ownBlock = some b → b ∈ R ∧ b ≠ qb ∧ b ≠ rb) (hqb : qb < wr.heap.size) (hrb : rb < wr.heap.size) :
    ∃ N, QP W (N ++ R) pa pb g0 cap0 g1 cap1 pl K clk q S w5 ∧ b13 ∈ N ∧ (∀ b, vt.ownBlock = some b → b ∈ N) ∧ ∀ j b, (vn j).ownBlock = some b → b ∈ N ++ R ∧ b ≠ qb ∧ b ≠ rb := by
  obtain ⟨X, hX⟩ : ∃ X, (vn false).ownBlock.toList ++ (vn true).ownBlock.toList = X := ⟨_, rfl⟩
  refine ⟨b13 :: (vt.ownBlock.toList ++ X.filter fun b => decide (wr.heap.size ≤ b)), hq.came hn.below _ ?_, by simp, fun b hb => by simp [hb], fun j b hb => ?_⟩
  · intro b hb
    simp only [List.mem_cons, List.mem_append, Option.mem_toList, List.mem_filter, decide_eq_true_eq] at hb
    rcases hb with rfl | hb | ⟨hb, hb'⟩
    · exact ⟨hn.new, hn.cn.lt⟩
    · have := hn.row.lt b hb
      omega
    · rw [← hX] at hb
      simp only [List.mem_append, Option.mem_toList] at hb
      rcases hb with hb | hb
      · exact ⟨hb', ((hn.rows false).lt b hb).2⟩
      · exact ⟨hb', ((hn.rows true).lt b hb).2⟩
  · rcases hn.src j with e | e
    · rw [e] at hb
      obtain ⟨h1, h2⟩ := hv j b hb
      exact ⟨List.mem_append_right _ h1, h2⟩
    · have h1 := e b hb
      refine ⟨List.mem_append_left _ (List.mem_cons_of_mem _ (List.mem_append_right _ ?_)), by omega, by omega⟩
      simp only [List.mem_filter, decide_eq_true_eq]
      refine ⟨?_, h1⟩
      rw [← hX]
      cases j <;> simp [hb]
theorem QP.setq {W w : World} {R : List Nat} {pa pb g0 cap0 g1 cap1 K clk qb : Nat} {pl : Bool → Nat} {q : Bool → List Nat} {S : BS} (h : QP W R pa pb g0 cap0 g1 cap1 pl K clk q S w) (hq : qb ∈ R) (h0 : g0 ≠ qb) (h1 : g1 ≠ qb) (hW : W.heap.size ≤ qb) (u v : Value) : QP W R pa pb g0 cap0 g1 cap1 pl K clk q S ((w.setCell ⟨qb, 0, none⟩ u).setCell ⟨qb, 1, none⟩ v) := by
  have k := ((Kept.refl (fun b => b = qb) w).setCell (p := ⟨qb, 0, none⟩) (fun _ => rfl) u).setCell (p := ⟨qb, 1, none⟩) (fun _ => rfl) v
  have k2 : Below W.heap.size w ((w.setCell ⟨qb, 0, none⟩ u).setCell ⟨qb, 1, none⟩ v) := k.below h.held.below.size fun b h1 e => by omega
  have hsz : ((w.setCell ⟨qb, 0, none⟩ u).setCell ⟨qb, 1, none⟩ v).heap.size = w.heap.size := by simp
  refine ⟨h.held.step ?_ (h.held.below.trans k2) fun b hb => ⟨.inl hb, by rw [hsz]; exact h.held.held b hb⟩, h.i0, h.i1, fun k x hk => sc2 h0 (h.a0 k x hk), fun k x hk => sc2 h1 (h.a1 k x hk), h.play⟩
  exact ((Kept.refl (fun b => b ∈ R) w).setCell (p := ⟨qb, 0, none⟩) (fun _ => hq) u).setCell (p := ⟨qb, 1, none⟩) (fun _ => hq) v
/-- What lies in memory at each transaction's head. -/
structure AloneI (W : World) (pb qb rb g0 cap0 g1 cap1 : Nat) (pl : Bool → Nat) (K : Nat) (q : Bool → List Nat) (vq : Bool → Value) (wr : World) : Prop where
  qp : ∃ R pa clk S K', K' ≤ K ∧ QP W R pa pb g0 cap0 g1 cap1 pl K' clk q S wr ∧ qb ∈ R ∧ rb ∈ R ∧ ∀ j b, (vq j).ownBlock = some b → b ∈ R ∧ b ≠ qb ∧ b ≠ rb
  cq : Cells wr qb [vq false, vq true] 33
  cr : Cells wr rb (ringV (ringQ pl false) g0 (pl false) cap0 ++ ringV (ringQ pl true) g1 (pl true) cap1) 29
  rows : ∀ j, wr.ownsRow W.heap.size 25 1 (vq j) (q j).length (encU (q j))
  lens : ∀ j, (q j).length ≤ pl j
  ne : qb ≠ rb
  old : W.heap.size ≤ qb ∧ W.heap.size ≤ rb
  gq : g0 ≠ qb ∧ g1 ≠ qb
def AloneJ (W : World) (pb qb rb g0 cap0 g1 cap1 : Nat) (pl : Bool → Nat) (n : Nat) (iv : Value) (wr : World) : Prop :=
  ∃ k q vq, k ≤ n ∧ iv = .int .i64 (k : Int) ∧ AloneI W pb qb rb g0 cap0 g1 cap1 pl (11 * k) q vq wr
theorem alone_stay {W wr w6 : World} {pa pb qb rb g0 cap0 g1 cap1 K K6 K' clk : Nat} {pl : Bool → Nat} {q : Bool → List Nat} {vq : Bool → Value} {S : BS} {R R6 : List Nat} (hi : AloneI W pb qb rb g0 cap0 g1 cap1 pl K q vq wr) (hqR : qb ∈ R) (hrR : rb ∈ R) (hvR : ∀ j b, (vq j).ownBlock = some b → b ∈ R ∧ b ≠ qb ∧ b ≠ rb) (hR6 : ∀ b ∈ R, b ∈ R6) (hk6 : HeldBy R wr w6) (h6 : QP W R6 pa pb g0 cap0 g1 cap1 pl K6 clk q S w6) (hK : K6 ≤ K') (m : Nat) :
    AloneI W pb qb rb g0 cap0 g1 cap1 pl K' q vq (w6.drewN m) := by
  have B : Below w6.heap.size w6 (w6.drewN m) := below_drewN (Below.refl _ _) _
  have hk : HeldBy R wr (w6.drewN m) := hk6.trans (HeldBy.of_below B fun b hb => h6.held.held b (hR6 b hb))
  exact ⟨⟨_, pa, clk, S, K6, hK, h6.came B [] (by simp), hR6 _ hqR, hR6 _ hrR, fun j b hb => by obtain ⟨x, y⟩ := hvR j b hb; exact ⟨hR6 _ x, y⟩⟩, hi.cq.heldBy hk hqR, hi.cr.heldBy hk hrR, fun j => own_held (hi.rows j) hk (fun b hb => (hvR j b hb).1), hi.lens, hi.ne, hi.old, hi.gq⟩
theorem alone_turn {W wr w6 : World} {pa pb qb rb g0 cap0 g1 cap1 K K6 K' clk : Nat} {pl : Bool → Nat} {q qn : Bool → List Nat} {vq vn : Bool → Value} {S : BS} {R R6 : List Nat} (hi : AloneI W pb qb rb g0 cap0 g1 cap1 pl K q vq wr) (hqR : qb ∈ R) (hrR : rb ∈ R) (hR6 : ∀ b ∈ R, b ∈ R6) (hk6 : HeldBy R wr w6) (h6 : QP W R6 pa pb g0 cap0 g1 cap1 pl K6 clk qn S w6) (hK : K6 ≤ K')
    (hvn : ∀ j b, (vn j).ownBlock = some b → b ∈ R6 ∧ b ≠ qb ∧ b ≠ rb) (hrows : ∀ j, w6.ownsRow W.heap.size 25 1 (vn j) (qn j).length (encU (qn j))) (hlens : ∀ j, (qn j).length ≤ pl j) (m : Nat) {u v : Value} (hu : vn false = u) (hv : vn true = v) :
    AloneI W pb qb rb g0 cap0 g1 cap1 pl K' qn vn (((w6.drewN m).setCell ⟨qb, 0, none⟩ u).setCell ⟨qb, 1, none⟩ v) := by
  subst hu
  subst hv
  have B : Below w6.heap.size w6 (w6.drewN m) := below_drewN (Below.refl _ _) _
  have hk : HeldBy R wr (w6.drewN m) := hk6.trans (HeldBy.of_below B fun b hb => h6.held.held b (hR6 b hb))
  have h7 := h6.came B [] (by simp)
  have k := ((Kept.refl (fun b => b = qb) (w6.drewN m)).setCell (p := ⟨qb, 0, none⟩) (fun _ => rfl) (vn false)).setCell (p := ⟨qb, 1, none⟩) (fun _ => rfl) (vn true)
  have hcr := hi.cr.heldBy hk hrR
  refine ⟨⟨_, pa, clk, S, K6, hK, h7.setq (hR6 _ hqR) hi.gq.1 hi.gq.2 hi.old.1 _ _, hR6 _ hqR, hR6 _ hrR, hvn⟩, ((hi.cq.heldBy hk hqR).set 0 _).set 1 _, hcr.kept k (fun e => hi.ne e.symm), fun j => ownsRow_kept (own_held (hrows j) (HeldBy.of_below (R := R6) B h6.held.held) (fun b hb => (hvn j b hb).1)) k (fun b hb e => (hvn j b hb).2.1 e), hlens, hi.ne, hi.old, hi.gq⟩
set_option maxHeartbeats 16000000 in
theorem tqueueAlone_ok {L : List (List ActQ)} {v : Value} (a0 a1 : Int) {W : World} (hl : ActssAt W v L) (hT : Handle W) : Calls Tryz.prog 3 #[.int .i64 a0, .int .i64 a1, v] W fun e w' => e = .returned (.bool true) ∧ Below W.heap.size W w' := by
  obtain ⟨lp, lcap, rfl, hlm, hlc⟩ := hl
  obtain ⟨m0, hm0, hm04⟩ : ∃ m : Nat, a0 % 5 = (m : Int) ∧ m < 5 := ⟨(a0 % 5).toNat, by omega, by omega⟩
  obtain ⟨m1, hm1, hm14⟩ : ∃ m : Nat, a1 % 5 = (m : Int) ∧ m < 5 := ⟨(a1 % 5).toNat, by omega, by omega⟩
  have hP0 := places_ok a0 W
  have hP1 := places_ok a1 W
  rw [hm0] at hP0
  rw [hm1] at hP1
  have hSC := sceneQ_ok hT (n := 1 + m0) (m := 1 + m1) (by omega) (by omega) (by omega)
  rw [show ((1 + m0 : Nat) : Int) = 1 + (m0 : Int) by omega, show ((1 + m1 : Nat) : Int) = 1 + (m1 : Int) by omega] at hSC
  have HP0 := Lib.hid hP0; have HP1 := Lib.hid hP1; have HSC := Lib.hid hSC; have HT := Lib.hid hT; have HLC := Lib.hid hlc
  clear hm0 hm1 hP0 hP1 hSC hT hlc hlm
  go_enter Tryz.func3, Tryz.ntmps3
  go_wp2_with (first
    | (go_at_call 7; refine HP0.out.mono ?_; rintro e w' ⟨rfl, rfl⟩)
    | (go_at_call 7; refine HP1.out.mono ?_; rintro e w' ⟨rfl, rfl⟩))
  refine HSC.out.mono ?_
  rintro e w1 ⟨pa, pb, g0, cap0, g1, cap1, S, rfl, hh, ha0, ha1, hp⟩
  have hp0 : QP W [g0, g1] pa pb g0 cap0 g1 cap1 (plOf (1 + m0) (1 + m1)) 0 0 (fun _ => []) S w1 := ⟨hh, by simp, by simp, ha0, ha1, hp⟩
  obtain ⟨rb, hrb⟩ : ∃ rb, w1.heap.size = rb := ⟨_, rfl⟩
  have B2 := (Below.refl w1.heap.size w1).alloc (Nat.le_refl _) (.cells #[.int .u64 ((ringQ (plOf (1 + m0) (1 + m1)) false).ins : Int), .int .u64 ((ringQ (plOf (1 + m0) (1 + m1)) false).outs : Int), .slice (some ⟨g0, 0, none⟩) (1 + m0) cap0, .int .u64 ((ringQ (plOf (1 + m0) (1 + m1)) true).ins : Int), .int .u64 ((ringQ (plOf (1 + m0) (1 + m1)) true).outs : Int), .slice (some ⟨g1, 0, none⟩) (1 + m1) cap1] 29)
  have C2 := Cells.new w1 (ringV (ringQ (plOf (1 + m0) (1 + m1)) false) g0 (1 + m0) cap0 ++ ringV (ringQ (plOf (1 + m0) (1 + m1)) true) g1 (1 + m1) cap1) 29
  obtain ⟨w2, hw2⟩ : ∃ w2, w1.alloc (.cells #[.int .u64 ((ringQ (plOf (1 + m0) (1 + m1)) false).ins : Int), .int .u64 ((ringQ (plOf (1 + m0) (1 + m1)) false).outs : Int), .slice (some ⟨g0, 0, none⟩) (1 + m0) cap0, .int .u64 ((ringQ (plOf (1 + m0) (1 + m1)) true).ins : Int), .int .u64 ((ringQ (plOf (1 + m0) (1 + m1)) true).outs : Int), .slice (some ⟨g1, 0, none⟩) (1 + m1) cap1] 29) = w2 := ⟨_, rfl⟩
  have C2' : Cells w2 rb (ringV (ringQ (plOf (1 + m0) (1 + m1)) false) g0 (1 + m0) cap0 ++ ringV (ringQ (plOf (1 + m0) (1 + m1)) true) g1 (1 + m1) cap1) 29 := by rw [← hw2, ← hrb]; exact C2
  rw [hw2] at B2
  have hp2 := hp0.came B2 [rb] (by have := C2'.lt; simp; omega)
  have HW2 := Lib.hid hw2; have HRB := Lib.hid hrb
  have HP2 := Lib.hid hp2; have HCR := Lib.hid C2'
  have hrW : W.heap.size ≤ rb := by rw [← hrb]; exact hh.below.size
  clear hh ha0 ha1 hp hp0 HSC B2 C2 C2' hw2 hrb hp2 HP0 HP1
  unfold ringsV
  by_cases h6 : L.length ≤ 6
  · have g6 : ¬ (6 : Int) < (L.length : Int) := by omega
    have g6n : ¬ 6 < L.length := by omega
    go_upto_region 5 with (fail)
    rw [HW2.out, HRB.out]
    have B3 := (Below.refl w2.heap.size w2).alloc (Nat.le_refl _) (.cells #[.slice none 0 0, .slice none 0 0] 33)
    have C3 := Cells.new w2 [.slice none 0 0, .slice none 0 0] 33
    obtain ⟨qb, hqb⟩ : ∃ qb, w2.heap.size = qb := ⟨_, rfl⟩
    obtain ⟨w3, hw3⟩ : ∃ w3, w2.alloc (.cells #[.slice none 0 0, .slice none 0 0] 33) = w3 := ⟨_, rfl⟩
    have hrl : rb < w2.heap.size := HCR.out.lt
    have C3' : Cells w3 qb [.slice none 0 0, .slice none 0 0] 33 := by rw [← hw3, ← hqb]; exact C3
    rw [hw3] at B3
    have hp3 := HP2.out.came B3 [qb] (by have := C3'.lt; simp; omega)
    have HI := Lib.hid (show AloneJ W pb qb rb g0 cap0 g1 cap1 (plOf (1 + m0) (1 + m1)) L.length (.int .i64 0) w3 from
      ⟨0, fun _ => [], fun _ => .slice none 0 0, Nat.zero_le _, rfl, ⟨⟨_, _, _, _, 0, Nat.le_refl _, hp3, by simp, by simp, fun j b hb => by cases hb⟩, C3', HCR.out.heldBy (HeldBy.of_below (R := [rb]) B3 (by simp; omega)) (by simp), fun j => ⟨rfl, .inl ⟨rfl, rfl⟩⟩, fun j => Nat.zero_le _, by omega, ⟨by omega, hrW⟩, by have h0 := HP2.out.held.held g0 HP2.out.i0; have h1 := HP2.out.held.held g1 HP2.out.i1; omega⟩⟩)
    have HW3 := Lib.hid hw3; have HQB := Lib.hid hqb
    have HB := Lib.hid HP2.out.held.below
    clear B3 C3 C3' hqb hw3 hp3 HP2 HCR HW2 HRB
    go_wp2
    rw [HW3.out, HQB.out]
    go_loopw [43] (AloneJ W pb qb rb g0 cap0 g1 cap1 (plOf (1 + m0) (1 + m1)) L.length) (fun i _ => L.length - (intOf i).toNat)
    case atStart => exact HI.out
    case round =>
      clear HI HW3 HQB
      obtain ⟨k, q, vq, hk, rfl, hi⟩ := hrel
      by_cases hlt : k < L.length
      · have hlt' : (k : Int) < (L.length : Int) := by omega
        obtain ⟨l, hkl⟩ : ∃ l, L[k]? = some l := ⟨L[k], List.getElem?_eq_getElem hlt⟩
        obtain ⟨g, o, rfl, hcell⟩ := HLC.out (fun e => by rw [e] at hlt; cases hlt)
        obtain ⟨vk, hvk, ⟨ap, acap, rfl⟩, hlm, hin⟩ := hcell k l hkl
        have hgW : g < W.heap.size := World.block_lt_of_cell? W ⟨g, o + k, none⟩ hvk
        obtain ⟨R, pa', clk, S', K', hK, hqp, hqR, hrR, hvR⟩ := hi.qp
        have hvr : wr.cell? ⟨g, o + k, none⟩ = some (.slice ap l.length acap) := (World.cell?_of_block (a := ⟨g, o + k, none⟩) (hqp.held.below.block g hgW)).trans hvk
        have HI := Lib.hid hi; have HIN := Lib.hid hin; have HQP := Lib.hid hqp; have HVR := Lib.hid hvR
        have HVK := Lib.hid hvk
        clear hi hin hqp hvR hcell hvk
        by_cases h10 : l.length ≤ 10
        · have g10 : ¬ (10 : Int) < (l.length : Int) := by omega
          have g10n : ¬ 10 < l.length := by omega
          go_upto_region 11 with (fail)
          have c0 := HI.out.cq.cell 0
          have c1 := HI.out.cq.cell 1
          simp only [List.getElem?_cons_zero, List.getElem?_cons_succ] at c0 c1
          obtain ⟨v0, hv0⟩ : ∃ v0, vq false = v0 := ⟨_, rfl⟩
          obtain ⟨v1, hv1⟩ : ∃ v1, vq true = v1 := ⟨_, rfl⟩
          obtain ⟨x0, y0, n0, e0⟩ : ∃ x y n, v0 = .slice x n y := by
            obtain ⟨x, y, h⟩ := ownsRow_shape (HI.out.rows false)
            exact ⟨x, y, _, hv0.symm.trans h⟩
          obtain ⟨x1, y1, n1, e1⟩ : ∃ x y n, v1 = .slice x n y := by
            obtain ⟨x, y, h⟩ := ownsRow_shape (HI.out.rows true)
            exact ⟨x, y, _, hv1.symm.trans h⟩
          subst e0
          subst e1
          rw [hv0] at c0
          rw [hv1] at c1
          have hMD : ∀ wx : World, Below wr.heap.size wr wx → Calls Tryz.prog 10 #[.agg #[.slice x0 n0 y0, .slice x1 n1 y1], .agg #[.int .i64 (1 + (m0 : Int)), .int .i64 (1 + (m1 : Int))], .slice ap l.length acap] wx (ModelOut vq W wr wx (mdl (plOf (1 + m0) (1 + m1)) l [] q)) := fun wx hx => by
            have h := model_ok (W := W) (w := wx) (vq := vq) (q := q) (pl := plOf (1 + m0) (1 + m1)) (l := l) (lp := ap) (len := l.length) (lcap := acap) (HQP.out.held.below.trans (hx.mono HQP.out.held.below.size)) (fun j => ownsRow_kept (HI.out.rows j) (Kept.of_below hx) (fun b hb => by have := ((HI.out.rows j).lt b hb).2; omega)) (fun j => by cases j <;> simp [plOf] <;> omega) HI.out.lens (HIN.out wx [] (by omega)) rfl h10
            rw [hv0, hv1, show ((plOf (1 + m0) (1 + m1) false : Nat) : Int) = 1 + (m0 : Int) by simp [plOf], show ((plOf (1 + m0) (1 + m1) true : Nat) : Int) = 1 + (m1 : Int) by simp [plOf]] at h
            exact h.mono fun e w' hp => hp.out hx
          obtain ⟨rs, hrs⟩ : ∃ rs, mdl (plOf (1 + m0) (1 + m1)) l [] q = rs := ⟨_, rfl⟩
          rw [hrs] at hMD
          have HRS := Lib.hid hrs
          have HXB := Lib.hid (show Below wr.heap.size wr wr.drew from ⟨rfl, rfl, rfl, Nat.le_refl _, fun _ _ => rfl⟩)
          have HXA := Lib.hid (HXB.out.alloc (Nat.le_refl _) (.cells #[.slice none 0 0, .slice none 0 0] 33))
          have hqn1 : ¬ qb = wr.heap.size := by have := HI.out.cq.lt; omega
          have hgn1 : ¬ g = wr.heap.size := by have := HQP.out.held.below.size; omega
          have HMD := Lib.hid hMD; have HV0 := Lib.hid hv0; have HV1 := Lib.hid hv1
          have hql : qb < wr.heap.size := HI.out.cq.lt
          have hgl : g < wr.heap.size := Nat.lt_of_lt_of_le hgW HQP.out.held.below.size
          clear hMD hv0 hv1
          go_upto_region 11 with (fail)
          go_region_held3 (fun wx => wx.cell? ⟨qb, 0, none⟩ = some (.slice x0 n0 y0) ∧ wx.cell? ⟨qb, 1, none⟩ = some (.slice x1 n1 y1) ∧ wx.cell? ⟨g, o + k, none⟩ = some (.slice ap l.length acap))
            (first | exact ⟨c0, c1, hvr⟩ | exact ⟨z0, z1, z2⟩ | exact ⟨sca hqw z0, sca hqw z1, sca hgw z2⟩ | exact ⟨sc2 hqn1 z0, sc2 hqn1 z1, sc2 hgn1 z2⟩ | exact ⟨sc2 (Nat.ne_of_lt hqw) (sca hqw z0), sc2 (Nat.ne_of_lt hqw) (sca hqw z1), sc2 (Nat.ne_of_lt hgw) (sca hgw z2)⟩ | go_keep)
            (first
              | (go_at_call 10; refine (HMD.out (wr.drew.alloc (.cells #[.slice none 0 0, .slice none 0 0] 33)) HXA.out).mono ?_; rintro e w' ⟨tp, tc, p0, n0', c0', p1, n1', c1', vn, qn, rfl, hn0, hn1, hrow, hrows, hqn, hbm, hbx, hsrc⟩; have hcn : Cells w' wr.heap.size [.slice none 0 0, .slice none 0 0] 33 := (Cells.new wr.drew [.slice none 0 0, .slice none 0 0] 33).heldBy (R := [wr.heap.size]) (HeldBy.of_below hbx (by simp)) (by simp); obtain ⟨y0, y1, u0, u1⟩ := (show w'.cell? ⟨wr.heap.size, 0, none⟩ = some (.slice none 0 0) ∧ w'.cell? ⟨wr.heap.size, 1, none⟩ = some (.slice none 0 0) ∧ w'.frozen? ⟨wr.heap.size, 0, none⟩ = false ∧ w'.frozen? ⟨wr.heap.size, 1, none⟩ = false from ⟨hcn.cell 0, hcn.cell 1, hcn.free 0, hcn.free 1⟩); have HCN := Lib.hid hcn; clear hbx hcn; have z0 := (World.cell?_of_block (a := ⟨qb, 0, none⟩) (hbm.block qb hql)).trans c0; have z1 := (World.cell?_of_block (a := ⟨qb, 1, none⟩) (hbm.block qb hql)).trans c1; have z2 := (World.cell?_of_block (a := ⟨g, o + k, none⟩) (hbm.block g hgl)).trans hvr; have hqw : qb < w'.heap.size := Nat.lt_of_lt_of_le hql hbm.size; have hgw : g < w'.heap.size := Nat.lt_of_lt_of_le hgl hbm.size; have HN0 := Lib.hid hn0; have HN1 := Lib.hid hn1; have HROW := Lib.hid hrow; have HROWS := Lib.hid hrows; have HQN := Lib.hid hqn; have HBM := Lib.hid hbm; have HSRC := Lib.hid hsrc; clear hsrc hn0 hn1 hrow hrows hqn hbm)
              | (go_at_call 10; refine (HMD.out wr.drew HXB.out).mono ?_; rintro e w' ⟨tp, tc, p0, n0', c0', p1, n1', c1', vn, qn, rfl, hn0, hn1, hrow, hrows, hqn, hbm, hbx, hsrc⟩; clear hbx; have z0 := (World.cell?_of_block (a := ⟨qb, 0, none⟩) (hbm.block qb hql)).trans c0; have z1 := (World.cell?_of_block (a := ⟨qb, 1, none⟩) (hbm.block qb hql)).trans c1; have z2 := (World.cell?_of_block (a := ⟨g, o + k, none⟩) (hbm.block g hgl)).trans hvr; have hqw : qb < w'.heap.size := Nat.lt_of_lt_of_le hql hbm.size; have hgw : g < w'.heap.size := Nat.lt_of_lt_of_le hgl hbm.size; have HN0 := Lib.hid hn0; have HN1 := Lib.hid hn1; have HROW := Lib.hid hrow; have HROWS := Lib.hid hrows; have HQN := Lib.hid hqn; have HBM := Lib.hid hbm; have HSRC := Lib.hid hsrc; clear hsrc hn0 hn1 hrow hrows hqn hbm))
          · have hnx := next_new (vq := vq) (.slice p0 n0' c0') (.slice p1 n1' c1') HROW.out HROWS.out HBM.out HSRC.out
            obtain ⟨b13, hb13⟩ : ∃ b, w'.heap.size = b := ⟨_, rfl⟩
            obtain ⟨w5, hw5⟩ : ∃ w5, w'.alloc (.cells #[.slice p0 n0' c0', .slice p1 n1' c1'] 33) = w5 := ⟨_, rfl⟩
            rw [hw5, hb13] at hnx ⊢
            have HNX := Lib.hid hnx
            have HN0' := Lib.hid HN0.out; have HN1' := Lib.hid HN1.out
            clear hnx hb13 hw5 HROW HROWS HBM HSRC z0 z1 z2 hqw hgw
            cases hok : rs.snd.snd with
            | true =>
              obtain ⟨NB, hq5, hb13, hvt, hvn⟩ := next_qp HQP.out HNX.out HVR.out hql HI.out.cr.lt
              have hcr5 : Cells w5 rb (ringV (ringQ (plOf (1 + m0) (1 + m1)) false) g0 (1 + m0) cap0 ++ ringV (ringQ (plOf (1 + m0) (1 + m1)) true) g1 (1 + m1) cap1) 29 := HI.out.cr.heldBy (HeldBy.of_below (R := [rb]) HNX.out.below (by have := HI.out.cr.lt; simp; omega)) (by simp)
              obtain ⟨⟨r0, r1, r2, r3, r4, r5⟩, -⟩ := six6 hcr5
              have r6 : w5.cell? ⟨g, o + k, none⟩ = some (.slice ap l.length acap) := (World.cell?_of_block (a := ⟨g, o + k, none⟩) (HNX.out.below.block g hgl)).trans hvr
              have hk5 : HeldBy R wr w5 := HeldBy.of_below HNX.out.below HQP.out.held.held
              have hrun := run_next HT.out (hq5.came (w' := w5.drew) ⟨rfl, rfl, rfl, Nat.le_refl _, fun _ _ => rfl⟩ [] (by simp)) (M := 5) (HIN.out w5.drew [] (by omega)) (by simp) (fun j => by cases j <;> simp [plOf] <;> omega) (by omega) (by omega) (cost5 l h10) (told := rs.1) (q' := rs.2.1) (ok := true) (HRS.out.trans (by rw [← hok]))
              simp only [if_true] at hrun
              have HRUN := Lib.hid hrun
              have HQ5 := Lib.hid hq5; have HCR5 := Lib.hid hcr5; have HK5 := Lib.hid hk5; have HVN := Lib.hid hvn; have HVT := Lib.hid hvt; have HB13 := Lib.hid hb13
              clear hrun hq5 hcr5 hk5 hvn hvt hb13
              go_upto_region 12 with (fail)
              go_region_held3 (fun wx => wx.cell? ⟨rb, 0, none⟩ = some (.int .u64 ((ringQ (plOf (1 + m0) (1 + m1)) false).ins : Int)) ∧ wx.cell? ⟨rb, 1, none⟩ = some (.int .u64 ((ringQ (plOf (1 + m0) (1 + m1)) false).outs : Int)) ∧ wx.cell? ⟨rb, 2, none⟩ = some (.slice (some ⟨g0, 0, none⟩) (1 + m0) cap0) ∧ wx.cell? ⟨rb, 3, none⟩ = some (.int .u64 ((ringQ (plOf (1 + m0) (1 + m1)) true).ins : Int)) ∧ wx.cell? ⟨rb, 4, none⟩ = some (.int .u64 ((ringQ (plOf (1 + m0) (1 + m1)) true).outs : Int)) ∧ wx.cell? ⟨rb, 5, none⟩ = some (.slice (some ⟨g1, 0, none⟩) (1 + m1) cap1) ∧ wx.cell? ⟨g, o + k, none⟩ = some (.slice ap l.length acap))
                (first | exact ⟨r0, r1, r2, r3, r4, r5, r6⟩ | exact ⟨z0, z1, z2, z3, z4, z5, z6⟩ | go_keep)
                (first
                  | (go_at_call 11; refine HRUN.out.mono ?_; rintro e w6 ⟨clk6, lv6, S6, rfl, hqp6, hk6, hs6, lp6, lc6, rfl⟩; clear HRUN; have hkq6 : HeldBy R w5 w6 := hk6.less (fun b hb => by simp [hb]); have hkr6 := HK5.out.trans hkq6; obtain ⟨⟨z0, z1, z2, z3, z4, z5⟩, -⟩ := six6 (HCR5.out.heldBy hkq6 hrR); have z6 : w6.cell? ⟨g, o + k, none⟩ = some (.slice ap l.length acap) := (World.cell?_of_block (a := ⟨g, o + k, none⟩) (hqp6.held.below.block g hgW)).trans HVK.out; have HQ6 := Lib.hid hqp6; have HK6 := Lib.hid hk6; have HS6 := Lib.hid hs6; have HKR6 := Lib.hid hkr6; clear hqp6 hk6 hs6 hkr6 hkq6))
              have hk6' : HeldBy (NB ++ R) w5 w6 := HK6.out.less (fun b hb => hb)
              have HSW := Lib.hid ((SomeAt.row HNX.out.row).held hk6' (fun b hb => List.mem_append_left _ (HVT.out b hb)))
              have hln : rs.1.length ≤ 200000 := by
                have h := mdl_told (pl := plOf (1 + m0) (1 + m1)) (fun j => by cases j <;> simp [plOf] <;> omega) l [] q HI.out.lens
                rw [HRS.out] at h
                simp only [List.length_nil] at h
                omega
              have HLN := Lib.hid hln
              have HC13 := Lib.hid (HNX.out.cn.heldBy hk6' (List.mem_append_left _ HB13.out))
              have hcq := HI.out.cq.heldBy HKR6.out hqR
              rw [HV0.out, HV1.out] at hcq
              obtain ⟨q0, q1, f0, f1⟩ := (show w6.cell? ⟨qb, 0, none⟩ = some (.slice x0 n0 y0) ∧ w6.cell? ⟨qb, 1, none⟩ = some (.slice x1 n1 y1) ∧ w6.frozen? ⟨qb, 0, none⟩ = false ∧ w6.frozen? ⟨qb, 1, none⟩ = false from ⟨hcq.cell 0, hcq.cell 1, hcq.free 0, hcq.free 1⟩)
              obtain ⟨d0, d1⟩ := (show w6.cell? ⟨b13, 0, none⟩ = some (.slice p0 n0' c0') ∧ w6.cell? ⟨b13, 1, none⟩ = some (.slice p1 n1' c1') from ⟨HC13.out.cell 0, HC13.out.cell 1⟩)
              have HNEW := Lib.hid (fun m => alone_turn (K' := 11 * (k + 1)) (vn := vn) (qn := rs.2.1) HI.out hqR hrR (fun b hb => by simp [hb]) HKR6.out HQ6.out (by omega) (fun j b hb => by obtain ⟨x, y⟩ := HVN.out j b hb; exact ⟨by simp only [List.nil_append]; exact List.mem_append_right _ x, y⟩) (fun j => by have := own_held (HNX.out.rows j) hk6' (fun b hb => (HVN.out j b hb).1); rw [HQN.out hok] at this; exact this) (fun j => by have := mdl_lens l [] q HI.out.lens j; rw [HRS.out] at this; exact this) m HN0'.out HN1'.out)
              clear hk6' hln HQ6 HK6 HKR6 HNX HQ5 HCR5 HK5 HVN HVT HB13 z0 z1 z2 z3 z4 z5 z6 HQP HVR HVK hcq
              go_wp2_with (go_at_call 12; refine (sameQ_ok (l := rs.1) HS6.out HSW.out HLN.out).mono ?_; rintro e w7 ⟨rfl, m, rfl⟩)
              go_roundw
              case rel => exact ⟨k + 1, rs.2.1, vn, by omega, by go_num, HNEW.out _⟩
              case measure => simp [intOf]; omega
            | false =>
              obtain ⟨NB, hq5, hb13, hvt, hvn⟩ := next_qp HQP.out HNX.out HVR.out hql HI.out.cr.lt
              have hcr5 : Cells w5 rb (ringV (ringQ (plOf (1 + m0) (1 + m1)) false) g0 (1 + m0) cap0 ++ ringV (ringQ (plOf (1 + m0) (1 + m1)) true) g1 (1 + m1) cap1) 29 := HI.out.cr.heldBy (HeldBy.of_below (R := [rb]) HNX.out.below (by have := HI.out.cr.lt; simp; omega)) (by simp)
              obtain ⟨⟨r0, r1, r2, r3, r4, r5⟩, -⟩ := six6 hcr5
              have r6 : w5.cell? ⟨g, o + k, none⟩ = some (.slice ap l.length acap) := (World.cell?_of_block (a := ⟨g, o + k, none⟩) (HNX.out.below.block g hgl)).trans hvr
              have hk5 : HeldBy R wr w5 := HeldBy.of_below HNX.out.below HQP.out.held.held
              have hrun := run_next HT.out (hq5.came (w' := w5.drew) ⟨rfl, rfl, rfl, Nat.le_refl _, fun _ _ => rfl⟩ [] (by simp)) (M := 5) (HIN.out w5.drew [] (by omega)) (by simp) (fun j => by cases j <;> simp [plOf] <;> omega) (by omega) (by omega) (cost5 l h10) (told := rs.1) (q' := rs.2.1) (ok := false) (HRS.out.trans (by rw [← hok]))
              simp only [Bool.false_eq_true, if_false] at hrun
              have HRUN := Lib.hid hrun
              have HQ5 := Lib.hid hq5; have HCR5 := Lib.hid hcr5; have HK5 := Lib.hid hk5; have HVN := Lib.hid hvn; have HVT := Lib.hid hvt; have HB13 := Lib.hid hb13
              clear hrun hq5 hcr5 hk5 hvn hvt hb13
              go_upto_region 12 with (fail)
              go_region_held3 (fun wx => wx.cell? ⟨rb, 0, none⟩ = some (.int .u64 ((ringQ (plOf (1 + m0) (1 + m1)) false).ins : Int)) ∧ wx.cell? ⟨rb, 1, none⟩ = some (.int .u64 ((ringQ (plOf (1 + m0) (1 + m1)) false).outs : Int)) ∧ wx.cell? ⟨rb, 2, none⟩ = some (.slice (some ⟨g0, 0, none⟩) (1 + m0) cap0) ∧ wx.cell? ⟨rb, 3, none⟩ = some (.int .u64 ((ringQ (plOf (1 + m0) (1 + m1)) true).ins : Int)) ∧ wx.cell? ⟨rb, 4, none⟩ = some (.int .u64 ((ringQ (plOf (1 + m0) (1 + m1)) true).outs : Int)) ∧ wx.cell? ⟨rb, 5, none⟩ = some (.slice (some ⟨g1, 0, none⟩) (1 + m1) cap1) ∧ wx.cell? ⟨g, o + k, none⟩ = some (.slice ap l.length acap))
                (first | exact ⟨r0, r1, r2, r3, r4, r5, r6⟩ | exact ⟨z0, z1, z2, z3, z4, z5, z6⟩ | go_keep)
                (first
                  | (go_at_call 11; refine HRUN.out.mono ?_; rintro e w6 ⟨clk6, lv6, S6, rfl, hqp6, hk6, hs6, lp6, lc6, rfl⟩; clear HRUN; have hkq6 : HeldBy R w5 w6 := hk6.less (fun b hb => by simp [hb]); have hkr6 := HK5.out.trans hkq6; obtain ⟨⟨z0, z1, z2, z3, z4, z5⟩, -⟩ := six6 (HCR5.out.heldBy hkq6 hrR); have z6 : w6.cell? ⟨g, o + k, none⟩ = some (.slice ap l.length acap) := (World.cell?_of_block (a := ⟨g, o + k, none⟩) (hqp6.held.below.block g hgW)).trans HVK.out; have HQ6 := Lib.hid hqp6; have HK6 := Lib.hid hk6; have HS6 := Lib.hid hs6; have HKR6 := Lib.hid hkr6; clear hqp6 hk6 hs6 hkr6 hkq6))
              have hk6' : HeldBy (NB ++ R) w5 w6 := HK6.out.less (fun b hb => hb)
              have HSW := Lib.hid ((SomeAt.row HNX.out.row).held hk6' (fun b hb => List.mem_append_left _ (HVT.out b hb)))
              have hln : rs.1.length ≤ 200000 := by
                have h := mdl_told (pl := plOf (1 + m0) (1 + m1)) (fun j => by cases j <;> simp [plOf] <;> omega) l [] q HI.out.lens
                rw [HRS.out] at h
                simp only [List.length_nil] at h
                omega
              have HLN := Lib.hid hln
              have HSTAY := Lib.hid (fun m => alone_stay (K' := 11 * (k + 1)) HI.out hqR hrR HVR.out (R6 := (Value.slice lp6 rs.fst.length lc6).ownBlock.toList ++ ([] ++ (NB ++ R))) (fun b hb => by simp [hb]) HKR6.out HQ6.out (by omega) m)
              clear hk6' hln HQ6 HK6 HKR6 HNX HQ5 HCR5 HK5 HVN HVT HB13 z0 z1 z2 z3 z4 z5 z6 HQP HVR HVK
              go_wp2_with (go_at_call 12; refine (sameQ_ok (l := rs.1) HS6.out HSW.out HLN.out).mono ?_; rintro e w7 ⟨rfl, m, rfl⟩)
              go_roundw
              case rel => exact ⟨k + 1, q, vq, by omega, by go_num, HSTAY.out _⟩
              case measure => simp [intOf]; omega
          · have hnx := next_at (vq := vq) (.slice p0 n0' c0') (.slice p1 n1' c1') HCN.out HROW.out HROWS.out HBM.out (Nat.le_refl _) HSRC.out
            obtain ⟨b13, hb13⟩ : ∃ b, wr.heap.size = b := ⟨_, rfl⟩
            obtain ⟨w5, hw5⟩ : ∃ w5, (w'.setCell ⟨wr.heap.size, 0, none⟩ (.slice p0 n0' c0')).setCell ⟨wr.heap.size, 1, none⟩ (.slice p1 n1' c1') = w5 := ⟨_, rfl⟩
            have hnx' : NextAt vq W wr b13 (.slice tp rs.1.length tc) rs.1 vn qn (.slice p0 n0' c0') (.slice p1 n1' c1') w5 := by
              rw [hw5] at hnx
              rw [← hb13]
              exact hnx
            have HNX := Lib.hid hnx'
            rw [hw5]
            rw [hb13]
            have HN0' := Lib.hid HN0.out; have HN1' := Lib.hid HN1.out
            clear hnx hnx' hw5 HROW HROWS HBM HSRC HCN z0 z1 z2 hqw hgw y0 y1 u0 u1
            cases hok : rs.snd.snd with
            | true =>
              obtain ⟨NB, hq5, hb13, hvt, hvn⟩ := next_qp HQP.out HNX.out HVR.out hql HI.out.cr.lt
              have hcr5 : Cells w5 rb (ringV (ringQ (plOf (1 + m0) (1 + m1)) false) g0 (1 + m0) cap0 ++ ringV (ringQ (plOf (1 + m0) (1 + m1)) true) g1 (1 + m1) cap1) 29 := HI.out.cr.heldBy (HeldBy.of_below (R := [rb]) HNX.out.below (by have := HI.out.cr.lt; simp; omega)) (by simp)
              obtain ⟨⟨r0, r1, r2, r3, r4, r5⟩, -⟩ := six6 hcr5
              have r6 : w5.cell? ⟨g, o + k, none⟩ = some (.slice ap l.length acap) := (World.cell?_of_block (a := ⟨g, o + k, none⟩) (HNX.out.below.block g hgl)).trans hvr
              have hk5 : HeldBy R wr w5 := HeldBy.of_below HNX.out.below HQP.out.held.held
              have hrun := run_next HT.out (hq5.came (w' := w5.drew) ⟨rfl, rfl, rfl, Nat.le_refl _, fun _ _ => rfl⟩ [] (by simp)) (M := 5) (HIN.out w5.drew [] (by omega)) (by simp) (fun j => by cases j <;> simp [plOf] <;> omega) (by omega) (by omega) (cost5 l h10) (told := rs.1) (q' := rs.2.1) (ok := true) (HRS.out.trans (by rw [← hok]))
              simp only [if_true] at hrun
              have HRUN := Lib.hid hrun
              have HQ5 := Lib.hid hq5; have HCR5 := Lib.hid hcr5; have HK5 := Lib.hid hk5; have HVN := Lib.hid hvn; have HVT := Lib.hid hvt; have HB13 := Lib.hid hb13
              clear hrun hq5 hcr5 hk5 hvn hvt hb13
              go_upto_region 12 with (fail)
              go_region_held3 (fun wx => wx.cell? ⟨rb, 0, none⟩ = some (.int .u64 ((ringQ (plOf (1 + m0) (1 + m1)) false).ins : Int)) ∧ wx.cell? ⟨rb, 1, none⟩ = some (.int .u64 ((ringQ (plOf (1 + m0) (1 + m1)) false).outs : Int)) ∧ wx.cell? ⟨rb, 2, none⟩ = some (.slice (some ⟨g0, 0, none⟩) (1 + m0) cap0) ∧ wx.cell? ⟨rb, 3, none⟩ = some (.int .u64 ((ringQ (plOf (1 + m0) (1 + m1)) true).ins : Int)) ∧ wx.cell? ⟨rb, 4, none⟩ = some (.int .u64 ((ringQ (plOf (1 + m0) (1 + m1)) true).outs : Int)) ∧ wx.cell? ⟨rb, 5, none⟩ = some (.slice (some ⟨g1, 0, none⟩) (1 + m1) cap1) ∧ wx.cell? ⟨g, o + k, none⟩ = some (.slice ap l.length acap))
                (first | exact ⟨r0, r1, r2, r3, r4, r5, r6⟩ | exact ⟨z0, z1, z2, z3, z4, z5, z6⟩ | go_keep)
                (first
                  | (go_at_call 11; refine HRUN.out.mono ?_; rintro e w6 ⟨clk6, lv6, S6, rfl, hqp6, hk6, hs6, lp6, lc6, rfl⟩; clear HRUN; have hkq6 : HeldBy R w5 w6 := hk6.less (fun b hb => by simp [hb]); have hkr6 := HK5.out.trans hkq6; obtain ⟨⟨z0, z1, z2, z3, z4, z5⟩, -⟩ := six6 (HCR5.out.heldBy hkq6 hrR); have z6 : w6.cell? ⟨g, o + k, none⟩ = some (.slice ap l.length acap) := (World.cell?_of_block (a := ⟨g, o + k, none⟩) (hqp6.held.below.block g hgW)).trans HVK.out; have HQ6 := Lib.hid hqp6; have HK6 := Lib.hid hk6; have HS6 := Lib.hid hs6; have HKR6 := Lib.hid hkr6; clear hqp6 hk6 hs6 hkr6 hkq6))
              have hk6' : HeldBy (NB ++ R) w5 w6 := HK6.out.less (fun b hb => hb)
              have HSW := Lib.hid ((SomeAt.row HNX.out.row).held hk6' (fun b hb => List.mem_append_left _ (HVT.out b hb)))
              have hln : rs.1.length ≤ 200000 := by
                have h := mdl_told (pl := plOf (1 + m0) (1 + m1)) (fun j => by cases j <;> simp [plOf] <;> omega) l [] q HI.out.lens
                rw [HRS.out] at h
                simp only [List.length_nil] at h
                omega
              have HLN := Lib.hid hln
              have HC13 := Lib.hid (HNX.out.cn.heldBy hk6' (List.mem_append_left _ HB13.out))
              have hcq := HI.out.cq.heldBy HKR6.out hqR
              rw [HV0.out, HV1.out] at hcq
              obtain ⟨q0, q1, f0, f1⟩ := (show w6.cell? ⟨qb, 0, none⟩ = some (.slice x0 n0 y0) ∧ w6.cell? ⟨qb, 1, none⟩ = some (.slice x1 n1 y1) ∧ w6.frozen? ⟨qb, 0, none⟩ = false ∧ w6.frozen? ⟨qb, 1, none⟩ = false from ⟨hcq.cell 0, hcq.cell 1, hcq.free 0, hcq.free 1⟩)
              obtain ⟨d0, d1⟩ := (show w6.cell? ⟨b13, 0, none⟩ = some (.slice p0 n0' c0') ∧ w6.cell? ⟨b13, 1, none⟩ = some (.slice p1 n1' c1') from ⟨HC13.out.cell 0, HC13.out.cell 1⟩)
              have HNEW := Lib.hid (fun m => alone_turn (K' := 11 * (k + 1)) (vn := vn) (qn := rs.2.1) HI.out hqR hrR (fun b hb => by simp [hb]) HKR6.out HQ6.out (by omega) (fun j b hb => by obtain ⟨x, y⟩ := HVN.out j b hb; exact ⟨by simp only [List.nil_append]; exact List.mem_append_right _ x, y⟩) (fun j => by have := own_held (HNX.out.rows j) hk6' (fun b hb => (HVN.out j b hb).1); rw [HQN.out hok] at this; exact this) (fun j => by have := mdl_lens l [] q HI.out.lens j; rw [HRS.out] at this; exact this) m HN0'.out HN1'.out)
              clear hk6' hln HQ6 HK6 HKR6 HNX HQ5 HCR5 HK5 HVN HVT HB13 z0 z1 z2 z3 z4 z5 z6 HQP HVR HVK hcq
              go_wp2_with (go_at_call 12; refine (sameQ_ok (l := rs.1) HS6.out HSW.out HLN.out).mono ?_; rintro e w7 ⟨rfl, m, rfl⟩)
              go_roundw
              case rel => exact ⟨k + 1, rs.2.1, vn, by omega, by go_num, HNEW.out _⟩
              case measure => simp [intOf]; omega
            | false =>
              obtain ⟨NB, hq5, hb13, hvt, hvn⟩ := next_qp HQP.out HNX.out HVR.out hql HI.out.cr.lt
              have hcr5 : Cells w5 rb (ringV (ringQ (plOf (1 + m0) (1 + m1)) false) g0 (1 + m0) cap0 ++ ringV (ringQ (plOf (1 + m0) (1 + m1)) true) g1 (1 + m1) cap1) 29 := HI.out.cr.heldBy (HeldBy.of_below (R := [rb]) HNX.out.below (by have := HI.out.cr.lt; simp; omega)) (by simp)
              obtain ⟨⟨r0, r1, r2, r3, r4, r5⟩, -⟩ := six6 hcr5
              have r6 : w5.cell? ⟨g, o + k, none⟩ = some (.slice ap l.length acap) := (World.cell?_of_block (a := ⟨g, o + k, none⟩) (HNX.out.below.block g hgl)).trans hvr
              have hk5 : HeldBy R wr w5 := HeldBy.of_below HNX.out.below HQP.out.held.held
              have hrun := run_next HT.out (hq5.came (w' := w5.drew) ⟨rfl, rfl, rfl, Nat.le_refl _, fun _ _ => rfl⟩ [] (by simp)) (M := 5) (HIN.out w5.drew [] (by omega)) (by simp) (fun j => by cases j <;> simp [plOf] <;> omega) (by omega) (by omega) (cost5 l h10) (told := rs.1) (q' := rs.2.1) (ok := false) (HRS.out.trans (by rw [← hok]))
              simp only [Bool.false_eq_true, if_false] at hrun
              have HRUN := Lib.hid hrun
              have HQ5 := Lib.hid hq5; have HCR5 := Lib.hid hcr5; have HK5 := Lib.hid hk5; have HVN := Lib.hid hvn; have HVT := Lib.hid hvt; have HB13 := Lib.hid hb13
              clear hrun hq5 hcr5 hk5 hvn hvt hb13
              go_upto_region 12 with (fail)
              go_region_held3 (fun wx => wx.cell? ⟨rb, 0, none⟩ = some (.int .u64 ((ringQ (plOf (1 + m0) (1 + m1)) false).ins : Int)) ∧ wx.cell? ⟨rb, 1, none⟩ = some (.int .u64 ((ringQ (plOf (1 + m0) (1 + m1)) false).outs : Int)) ∧ wx.cell? ⟨rb, 2, none⟩ = some (.slice (some ⟨g0, 0, none⟩) (1 + m0) cap0) ∧ wx.cell? ⟨rb, 3, none⟩ = some (.int .u64 ((ringQ (plOf (1 + m0) (1 + m1)) true).ins : Int)) ∧ wx.cell? ⟨rb, 4, none⟩ = some (.int .u64 ((ringQ (plOf (1 + m0) (1 + m1)) true).outs : Int)) ∧ wx.cell? ⟨rb, 5, none⟩ = some (.slice (some ⟨g1, 0, none⟩) (1 + m1) cap1) ∧ wx.cell? ⟨g, o + k, none⟩ = some (.slice ap l.length acap))
                (first | exact ⟨r0, r1, r2, r3, r4, r5, r6⟩ | exact ⟨z0, z1, z2, z3, z4, z5, z6⟩ | go_keep)
                (first
                  | (go_at_call 11; refine HRUN.out.mono ?_; rintro e w6 ⟨clk6, lv6, S6, rfl, hqp6, hk6, hs6, lp6, lc6, rfl⟩; clear HRUN; have hkq6 : HeldBy R w5 w6 := hk6.less (fun b hb => by simp [hb]); have hkr6 := HK5.out.trans hkq6; obtain ⟨⟨z0, z1, z2, z3, z4, z5⟩, -⟩ := six6 (HCR5.out.heldBy hkq6 hrR); have z6 : w6.cell? ⟨g, o + k, none⟩ = some (.slice ap l.length acap) := (World.cell?_of_block (a := ⟨g, o + k, none⟩) (hqp6.held.below.block g hgW)).trans HVK.out; have HQ6 := Lib.hid hqp6; have HK6 := Lib.hid hk6; have HS6 := Lib.hid hs6; have HKR6 := Lib.hid hkr6; clear hqp6 hk6 hs6 hkr6 hkq6))
              have hk6' : HeldBy (NB ++ R) w5 w6 := HK6.out.less (fun b hb => hb)
              have HSW := Lib.hid ((SomeAt.row HNX.out.row).held hk6' (fun b hb => List.mem_append_left _ (HVT.out b hb)))
              have hln : rs.1.length ≤ 200000 := by
                have h := mdl_told (pl := plOf (1 + m0) (1 + m1)) (fun j => by cases j <;> simp [plOf] <;> omega) l [] q HI.out.lens
                rw [HRS.out] at h
                simp only [List.length_nil] at h
                omega
              have HLN := Lib.hid hln
              have HSTAY := Lib.hid (fun m => alone_stay (K' := 11 * (k + 1)) HI.out hqR hrR HVR.out (R6 := (Value.slice lp6 rs.fst.length lc6).ownBlock.toList ++ ([] ++ (NB ++ R))) (fun b hb => by simp [hb]) HKR6.out HQ6.out (by omega) m)
              clear hk6' hln HQ6 HK6 HKR6 HNX HQ5 HCR5 HK5 HVN HVT HB13 z0 z1 z2 z3 z4 z5 z6 HQP HVR HVK
              go_wp2_with (go_at_call 12; refine (sameQ_ok (l := rs.1) HS6.out HSW.out HLN.out).mono ?_; rintro e w7 ⟨rfl, m, rfl⟩)
              go_roundw
              case rel => exact ⟨k + 1, q, vq, by omega, by go_num, HSTAY.out _⟩
              case measure => simp [intOf]; omega
        · have g10 : (10 : Int) < (l.length : Int) := by omega
          have g10n : 10 < l.length := by omega
          have HH := Lib.hid (HQP.out.held.handle HT.out)
          go_wp2_with (first
            | (go_at_call 9; refine (alive29_ok _ HH.out).mono ?_; rintro e w' ⟨rfl, hb'⟩; have HBE := Lib.hid (HQP.out.held.below.trans (hb'.mono HQP.out.held.below.size)); clear hb'))
          go_ret
          exact ⟨rfl, HBE.out⟩
      · obtain rfl : k = L.length := by omega
        have hlt' : ¬ ((L.length : Int) < (L.length : Int)) := by omega
        obtain ⟨R, pa', clk, S', K', hK, hqp, hqR, hrR, hvR⟩ := hi.qp
        have HQP := Lib.hid hqp
        have HH := Lib.hid (hqp.held.handle HT.out)
        clear hi hqp hvR
        go_wp2_with (first
          | (go_at_call 9; refine (alive29_ok _ HH.out).mono ?_; rintro e w' ⟨rfl, hb'⟩; have HBE := Lib.hid (HQP.out.held.below.trans (hb'.mono HQP.out.held.below.size)); clear hb'))
        go_ret
        exact ⟨rfl, HBE.out⟩
  · have g6 : (6 : Int) < (L.length : Int) := by omega
    have g6n : 6 < L.length := by omega
    go_upto_region 4 with (fail)
    rw [HW2.out, HRB.out]
    have HH := Lib.hid (HP2.out.held.handle HT.out)
    go_wp2_with (first
      | (go_at_call 9; refine (alive29_ok _ HH.out).mono ?_; rintro e w' ⟨rfl, hb'⟩; have HBE := Lib.hid (HP2.out.held.below.trans (hb'.mono HP2.out.held.below.size)); clear hb'))
    go_ret
    exact ⟨rfl, HBE.out⟩
end Go.Proofs.YtkpdacfiglpgeaaGreatDoor
