/- A slice of one-cell elements that lies anywhere in a block of the call's own: nil, resliced from either end, appended to. No program stands here. -/
import Derived.Test.YtfehonejcambgaaDoorHeap
import Derived.Deep.AppendLies
import Derived.Laws.OwnMore
namespace Go.Proofs.YtfehonejcambgaaDoor
open Go.RowKit

/-- The slice v has the elements xs, in a block that nobody else has. -/
def Row (w : World) (base : Nat) (e : TypeId) (v : Value) (xs : List Value) : Prop :=
  (v = .slice none 0 0 ∧ xs = []) ∨
   ∃ g o cap cur, v = .slice (some ⟨g, o, none⟩) xs.length cap ∧ base ≤ g ∧ w.heap[g]? = some (.cells cur e (0, 0)) ∧ xs.length ≤ cap ∧ cap ≤ maxLen ∧ o + cap ≤ cur.size ∧ (cur.toList.drop o).take xs.length = xs

theorem Row.nil (w : World) (base : Nat) (e : TypeId) : Row w base e (.slice none 0 0) [] := .inl ⟨rfl, rfl⟩
theorem Row.shape {w : World} {base : Nat} {e : TypeId} {v : Value} {xs : List Value} (h : Row w base e v xs) : ∃ p cap, v = .slice p xs.length cap := by
  rcases h with ⟨rfl, rfl⟩ | ⟨g, o, cap, cur, rfl, _⟩
  · exact ⟨_, _, rfl⟩
  · exact ⟨_, _, rfl⟩
theorem Row.lt {w : World} {base : Nat} {e : TypeId} {v : Value} {xs : List Value} (h : Row w base e v xs) : ∀ k, v.ownBlock = some k → base ≤ k ∧ k < w.heap.size := by
  intro k hk
  rcases h with ⟨rfl, _⟩ | ⟨g, o, cap, cur, rfl, hb, hg, _⟩
  · simp [Value.ownBlock] at hk
  · simp [Value.ownBlock] at hk
    subst hk
    exact ⟨hb, (Array.getElem?_eq_some_iff.1 hg).1⟩
theorem Row.same {w w' : World} {base : Nat} {e : TypeId} {v : Value} {xs : List Value} (h : Row w base e v xs) (hk : ∀ k, v.ownBlock = some k → w'.heap[k]? = w.heap[k]?) : Row w' base e v xs := by
  rcases h with hn | ⟨g, o, cap, cur, rfl, hb, hg, rest⟩
  · exact .inl hn
  · exact .inr ⟨g, o, cap, cur, rfl, hb, (hk g (by simp [Value.ownBlock])).trans hg, rest⟩
/-- Its cells. -/
theorem Row.cells {w : World} {base : Nat} {e : TypeId} {v : Value} {xs : List Value} (h : Row w base e v xs) (hp : 0 < xs.length) :
    ∃ g o cap, v = .slice (some ⟨g, o, none⟩) xs.length cap ∧ xs.length ≤ cap ∧ cap ≤ maxLen ∧ ∀ i, i < xs.length → w.cell? ⟨g, o + i, none⟩ = xs[i]? ∧ w.frozen? ⟨g, o + i, none⟩ = false := by
  rcases h with ⟨_, rfl⟩ | ⟨g, o, cap, cur, rfl, hb, hg, hnc, hcm, hcs, htake⟩
  · simp at hp
  · refine ⟨g, o, cap, rfl, hnc, hcm, fun i hi => ⟨?_, ?_⟩⟩
    · rw [cell_of_row w g (o + i) cur e (0, 0) hg]
      have : xs[i]? = ((cur.toList.drop o).take xs.length)[i]? := by rw [htake]
      rw [this, List.getElem?_take, if_pos hi, List.getElem?_drop]
      simp
    · simp [World.frozen?, hg]
/-- Without its first element. -/
theorem Row.tail {w : World} {base : Nat} {e : TypeId} {g o n cap : Nat} {x : Value} {xs : List Value} (h : Row w base e (.slice (some ⟨g, o, none⟩) n cap) (x :: xs)) :
    Row w base e (.slice (some ⟨g, o + 1, none⟩) (n - 1) (cap - 1)) xs ∧ (cap = 1 → Row w base e (.slice (some ⟨g, o, none⟩) (n - 1) (cap - 1)) xs) := by
  rcases h with ⟨h, _⟩ | ⟨g', o', cap', cur, hv, hb, hg, hnc, hcm, hcs, htake⟩
  · cases h
  · simp only [Value.slice.injEq, Option.some.injEq, Addr.mk.injEq, and_true] at hv
    obtain ⟨⟨rfl, rfl⟩, rfl, rfl⟩ := hv
    simp only [List.length_cons] at hnc htake ⊢
    refine ⟨.inr ⟨g, o + 1, cap - 1, cur, rfl, hb, hg, by omega, by omega, by omega, ?_⟩, fun h1 => ?_⟩
    · have h2 : cur.toList.drop o = x :: cur.toList.drop (o + 1) := by
        cases hd : cur.toList.drop o with
        | nil => rw [hd] at htake; simp at htake
        | cons y ys =>
          rw [hd] at htake
          simp only [List.take_succ_cons, List.cons.injEq] at htake
          rw [← List.drop_drop, hd, htake.1]; rfl
      rw [h2] at htake
      simpa using htake
    · subst h1
      have hx : xs = [] := List.eq_nil_of_length_eq_zero (by omega)
      subst hx
      exact .inr ⟨g, o, 0, cur, rfl, hb, hg, by simp, by simp, by omega, by simp⟩
/-- Without its last element. -/
theorem Row.init {w : World} {base : Nat} {e : TypeId} {g o n cap : Nat} {x : Value} {xs : List Value} (h : Row w base e (.slice (some ⟨g, o, none⟩) n cap) (xs ++ [x])) :
    Row w base e (.slice (some ⟨g, o, none⟩) (n - 1) cap) xs := by
  rcases h with ⟨h, _⟩ | ⟨g', o', cap', cur, hv, hb, hg, hnc, hcm, hcs, htake⟩
  · cases h
  · simp only [Value.slice.injEq, Option.some.injEq, Addr.mk.injEq, and_true] at hv
    obtain ⟨⟨rfl, rfl⟩, rfl, rfl⟩ := hv
    simp only [List.length_append, List.length_cons, List.length_nil] at hnc htake ⊢
    refine .inr ⟨g, o, cap, cur, rfl, hb, hg, by omega, hcm, hcs, ?_⟩
    have := congrArg (List.take xs.length) htake
    rw [List.take_take] at this
    simpa using this

section
variable {P : Program} (w : World)
theorem run_append_room_off (t ty e : TypeId) (i : TypeInfo) (ht : P.underlying t = some (.slice e)) (hi : P.info? e = some i) (hsize : i.size = 1)
    (g o sLen sCap : Nat) (cur : Array Value) (hg : w.heap[g]? = some (.cells cur e (0, 0)))
    (a : Addr) (m c : Nat) (news : List Value) (hl : news.length = m) (hnews : ∀ j u, news[j]? = some u → w.cell? (a.add j) = some u) (h1 : ∀ u ∈ news, u.oneCell' = true)
    (hroom : sLen + m ≤ sCap) (hfit : o + sLen + news.length ≤ cur.size) :
    (Builtin.append_ #[t, t] ty #[.slice (some ⟨g, o, none⟩) sLen sCap, .slice (some a) m c]).run P w =
      .ok (.slice (some ⟨g, o, none⟩) (sLen + m) sCap) (w.setRow g (cur.toList.take (o + sLen) ++ news ++ cur.toList.drop (o + sLen + news.length)).toArray) := by
  have hf := run_firstCells_some (P := P) w i.size m a m c news (by rw [hsize, hl]; omega) hnews
  have hst := run_storeCells_at P g (o + sLen) e news 0 cur w hg (by simpa using hfit) h1
  simp only [Nat.add_zero] at hst
  have ha : (⟨g, o, none⟩ : Addr).add sLen = ⟨g, o + sLen, none⟩ := by unfold Addr.add; split <;> simp_all
  rw [hsize] at hf
  simp [Builtin.append_, run_underlying ht, sizeOf, typeInfo, hi, Builtin.lenOf, hroom, hf, hsize, ha, hst]

theorem run_append_row (base : Nat) (t ty e : TypeId) (i : TypeInfo) (z : Value) (bytes : Nat) (ht : P.underlying t = some (.slice e)) (hi : P.info? e = some i) (hz : i.zero = some z)
    (hsize : i.size = 1) (hby : i.bytes = bytes) (hzs : z.cells.size = 1)
    (v : Value) (xs : List Value) (hown : Row w base e v xs)
    (a : Addr) (c : Nat) (u : Value) (hnews : w.cell? a = some u) (h1 : u.oneCell' = true)
    (h63 : xs.length + 1 ≤ maxLen) (hbytes : (xs.length + 1) * bytes ≤ 140737488355328) (hbase : base ≤ w.heap.size) :
    ∃ g o cap w', (Builtin.append_ #[t, t] ty #[v, .slice (some a) 1 c]).run P w = .ok (.slice (some ⟨g, o, none⟩) (xs.length + 1) cap) w' ∧ Row w' base e (.slice (some ⟨g, o, none⟩) (xs.length + 1) cap) (xs ++ [u]) ∧ w.grownBy w' v.ownBlock ∧ (v.ownBlock = some g ∨ g = w.heap.size) ∧ g < w'.heap.size := by
  subst hby
  have hsmall : xs.length + 1 ≤ 9223372036854775807 := by simp only [maxLen] at h63; omega
  have hn' : ∀ j u', [u][j]? = some u' → w.cell? (a.add j) = some u' := by
    intro j u' hj
    cases j with
    | zero =>
      simp only [List.getElem?_cons_zero, Option.some.injEq] at hj
      subst hj
      have : a.add 0 = a := by unfold Addr.add; split <;> simp_all
      rw [this]; exact hnews
    | succ j => simp at hj
  have grown : ∀ (old : Nat), old < xs.length + 1 → ∀ (row : Option Nat),
      Row (w.drew.alloc (.cells (xs.toArray ++ [u].toArray ++ Builtin.zeroCells z.cells (grownCap w (xs.length + 1) old e - (xs.length + 1))) e)) base e
        (.slice (some ⟨w.heap.size, 0, none⟩) (xs.length + 1) (grownCap w (xs.length + 1) old e)) (xs ++ [u]) ∧
      w.grownBy (w.drew.alloc (.cells (xs.toArray ++ [u].toArray ++ Builtin.zeroCells z.cells (grownCap w (xs.length + 1) old e - (xs.length + 1))) e)) row := by
    intro old ho row
    have hge := grownCap_ge w (xs.length + 1) old e
    have hcm : grownCap w (xs.length + 1) old e ≤ maxLen := grownCap_le_maxLen w (xs.length + 1) old e h63
    refine ⟨.inr ⟨w.heap.size, 0, _, _, by simp, hbase, heap_alloc_new w.drew _, by simpa using hge, hcm, ?_, ?_⟩, ⟨rfl, rfl, rfl, by simp, fun k hk _ => Below.heap_alloc w.drew _ k hk⟩⟩
    · simp only [Array.size_append, List.size_toArray, size_zeroCells, hzs, List.length_cons, List.length_nil]
      omega
    · simp only [Array.toList_append, List.append_assoc, List.drop_zero]
      rw [← List.append_assoc]
      exact List.take_left
  rcases hown with ⟨rfl, rfl⟩ | ⟨g, o, cap, cur, rfl, hbg, hg, hnc, hcm, hcs, htake⟩
  · have hr := run_append_nil (P := P) w t ty e i z ht hi hz a 1 c [u] (by simp [hsize]) hn' (by omega) (by omega) (by simp only [List.length_nil, Nat.zero_add, Nat.one_mul] at hbytes; omega)
    have hgr := grown 0 (by omega) (Value.ownBlock (.slice none 0 0))
    simp only [Nat.zero_add, List.nil_append, Array.empty_append, List.length_nil] at hgr ⊢
    exact ⟨_, _, _, _, hr, hgr.1, hgr.2, .inr rfl, by simp⟩
  · by_cases hroom : xs.length + 1 ≤ cap
    · have hr := run_append_room_off (P := P) w t ty e i ht hi hsize g o xs.length cap cur hg a 1 c [u] rfl hn' (by simpa using h1) hroom (by simp; omega)
      refine ⟨_, _, _, _, hr, .inr ⟨g, o, cap, _, by simp, hbg, setRow_heap w g cur _ e _ hg, by simpa using hroom, hcm, ?_, ?_⟩, ⟨rfl, rfl, rfl, by simp, fun k _ hk => setRow_other w g k _ (fun e => hk (by simp [Value.ownBlock, e]))⟩, .inl rfl, ?_⟩
      · simp only [List.size_toArray, List.length_append, List.length_take, List.length_drop, Array.length_toList, List.length_cons, List.length_nil]
        omega
      · have hlo : o ≤ cur.toList.length := by simp; omega
        have e1 : cur.toList.take (o + xs.length) = cur.toList.take o ++ xs := by
          rw [List.take_add, htake]
        have e2 : (cur.toList.take o).length = o := by rw [List.length_take]; omega
        rw [e1, List.append_assoc, List.append_assoc, List.drop_append_of_le_length (by omega), List.drop_of_length_le (by omega), List.nil_append, ← List.append_assoc]
        exact List.take_left
      · have := (Array.getElem?_eq_some_iff.1 hg).1
        simpa using this
    · have hr := run_append_grow (P := P) w t ty e i z ht hi hz ⟨g, o, none⟩ xs.length cap xs (by rw [hsize]; omega) (fun j u' hj => by
        have hlt : j < xs.length := (List.getElem?_eq_some_iff.1 hj).1
        have ha : (⟨g, o, none⟩ : Addr).add j = ⟨g, o + j, none⟩ := by unfold Addr.add; split <;> simp_all
        have hq : ((cur.toList.drop o).take xs.length)[j]? = some u' := by rw [htake]; exact hj
        rw [List.getElem?_take, if_pos hlt, List.getElem?_drop] at hq
        rw [ha, cell_of_row w g (o + j) cur e (0, 0) hg, ← hq]
        simp) a 1 c [u] (by simp [hsize]) hn' (by omega) (by omega) (growslice_fits (by omega) hbytes)
      have hgr := grown cap (by omega) (Value.ownBlock (.slice (some ⟨g, o, none⟩) xs.length cap))
      exact ⟨_, _, _, _, hr, hgr.1, hgr.2, .inr rfl, by simp⟩

theorem wpList_append_row {ops : Array Oper} {rest : List Oper} {o : Oper} {a : Act} {Q : Exit → Act → World → Prop} (hgd : o.guard = none) (s x : Operand) (t : TypeId)
    (ho : o.op = .call { callee := .builtin .append, args := #[s, x], argTypes := #[t, t] })
    (base : Nat) (e : TypeId) (i : TypeInfo) (z : Value) (bytes : Nat) (ht : P.underlying t = some (.slice e)) (hi : P.info? e = some i) (hz : i.zero = some z)
    (hsize : i.size = 1) (hby : i.bytes = bytes) (hzs : z.cells.size = 1)
    (v : Value) (xs : List Value) (hs : a.eval s = v) (hown : Row w base e v xs)
    (ad : Addr) (c : Nat) (u : Value) (hx : a.eval x = .slice (some ad) 1 c) (hnews : w.cell? ad = some u) (h1 : u.oneCell' = true)
    (h63 : xs.length + 1 ≤ maxLen) (hbytes : (xs.length + 1) * bytes ≤ 140737488355328) (hbase : base ≤ w.heap.size)
    (h : ∀ g o' cap w', Row w' base e (.slice (some ⟨g, o', none⟩) (xs.length + 1) cap) (xs ++ [u]) → w.grownBy w' v.ownBlock → (v.ownBlock = some g ∨ g = w.heap.size) → g < w'.heap.size → wpList P ops Q rest (a.put o.dst (.slice (some ⟨g, o', none⟩) (xs.length + 1) cap)) w') :
    wpList P ops Q (o :: rest) a w := by
  refine wpList_plain hgd fun K hK => ?_
  obtain ⟨g, o', cap, w', hr, h2, h3, h4, h5⟩ := run_append_row (P := P) w base t o.type e i z bytes ht hi hz hsize hby hzs v xs hown ad c u hnews h1 h63 hbytes hbase
  unfold Oper.wp execOp
  simp only [ho, resolve, invoke, builtin, Sem.run_bind, Sem.run_pure, Result.andThen_ok, List.map_toArray, List.map_cons, List.map_nil, hs, hx, hr]
  exact hK _ _ (h g o' cap w' h2 h3 h4 h5)
end
end Go.Proofs.YtfehonejcambgaaDoor
