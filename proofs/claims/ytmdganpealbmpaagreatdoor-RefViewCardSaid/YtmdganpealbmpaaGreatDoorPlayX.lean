/- RefOrder, RefView: several transactions that go on in any order, in memory. -/
import Derived.Test.YtmdganpealbmpaaGreatDoorBegO13
import Derived.Test.YtmdganpealbmpaaGreatDoorIlvEnd2
namespace Go.Proofs.YtmdganpealbmpaaGreatDoor
open Go.RowKit Bl Th
set_option maxRecDepth 10000

def It.stat (t : It) : List Nat := [t.b, t.b + 1, t.b + 2, t.b + 3, t.b + 4]
def stats (its : List It) : List Nat := its.flatMap It.stat
/-- The blocks that no step changes, but for those of the times. -/
def fixR (X : List Nat) (pp g : Nat) (bv ev tv ov : Value) (its : List It) : List Nat := X ++ (pp :: g :: (bv.ownBlock.toList ++ (ev.ownBlock.toList ++ (tv.ownBlock.toList ++ (ov.ownBlock.toList ++ stats its)))))
def encN (l : List Nat) : List Value := l.map fun x : Nat => .int .i64 (x : Int)
structure PlayX (W : World) (X : List Nat) (pa pb pp g : Nat) (cells : List Nat) (L : List (List Op13)) (lv bv ev tv ov : Value) (its : List It) (sn : Nat → Pass) (Bs : List (List Nat)) (y : Th.Sys) (w : World) : Prop where
  held : Held W (fixR X pp g bv ev tv ov its ++ Bs.flatten) pa pb y.S w
  nd : (fixR X pp g bv ev tv ov its).Nodup
  bs : ∀ (k : Nat) B, Bs[k]? = some B → ∀ b ∈ B, b ∉ fixR X pp g bv ev tv ov its
  bb : ∀ (k j : Nat) B C, k ≠ j → Bs[k]? = some B → Bs[j]? = some C → ∀ b ∈ B, b ∉ C
  new : W.heap.size ≤ pp
  main : Cells w pp [.pointer (some ⟨pb, 0, none⟩), .int .u64 1, .slice (some ⟨g, 0, none⟩) cells.length cells.length, tv, ov, lv, bv, ev, .int .i64 (y.now : Int)] 45
  arr : Cells w g (cells.map fun x : Nat => .int .u64 (x : Int)) 41
  ts : w.ownsRow W.heap.size 58 1 tv its.length (thrV its)
  outs : w.ownsRow W.heap.size 39 1 ov its.length (outV its)
  begs : w.ownsRow W.heap.size 3 1 bv its.length (encN y.beg)
  fins : w.ownsRow W.heap.size 3 1 ev its.length (encN y.fin)
  lens : its.length = L.length ∧ y.ts.length = L.length ∧ Bs.length = L.length
  item : ∀ (k : Nat) t, its[k]? = some t → ∃ s B, y.ts[k]? = some s ∧ Bs[k]? = some B ∧ Thr W pb t.pt t.fv (outS W (sn k) t.po) s B w ∧ Shared W (t.b + 1) (t.b + 3) t.b (t.b + 2) (t.b + 4) t.po g (.slice t.q (L.getD k []).length t.c) [] (L.getD k []) 1 cells ((k + 1 : Nat) : Int) w
section
variable {W : World} {X : List Nat} {pa pb pp g : Nat} {cells : List Nat} {L : List (List Op13)} {lv bv ev tv ov : Value} {its : List It} {sn : Nat → Pass} {Bs : List (List Nat)} {y : Th.Sys} {w w' : World}
theorem mem_stats {k : Nat} {t : It} (h : its[k]? = some t) {b : Nat} (hb : b ∈ t.stat) : b ∈ stats its := List.mem_flatMap.2 ⟨t, List.mem_of_getElem? h, hb⟩
theorem mem_flatten' {k : Nat} {B : List Nat} (h : Bs[k]? = some B) {b : Nat} (hb : b ∈ B) : b ∈ Bs.flatten := List.mem_flatten.2 ⟨B, List.mem_of_getElem? h, hb⟩
/-- What is kept when some blocks change that are none of its own. -/
theorem PlayX.keep {X' : List Nat} {S' : BS} (h : PlayX W X pa pb pp g cells L lv bv ev tv ov its sn Bs y w) (hh : Held W (fixR X' pp g bv ev tv ov its ++ Bs.flatten) pa pb S' w') (hn : (fixR X' pp g bv ev tv ov its).Nodup) (hb : ∀ (k : Nat) B, Bs[k]? = some B → ∀ b ∈ B, b ∉ fixR X' pp g bv ev tv ov its) (k : HeldBy (fixR [] pp g bv ev tv ov its ++ Bs.flatten) w w') : PlayX W X' pa pb pp g cells L lv bv ev tv ov its sn Bs { y with S := S' } w' := by
  refine ⟨hh, hn, hb, h.bb, h.new, h.main.heldBy k (by simp [fixR]), h.arr.heldBy k (by simp [fixR]), ownsRow_heldBy h.ts k (fun b hb => by simp [fixR, hb]), ownsRow_heldBy h.outs k (fun b hb => by simp [fixR, hb]), ownsRow_heldBy h.begs k (fun b hb => by simp [fixR, hb]), ownsRow_heldBy h.fins k (fun b hb => by simp [fixR, hb]), h.lens, fun i t ht => ?_⟩
  obtain ⟨s, B, h1, h2, h3, h4⟩ := h.item i t ht
  refine ⟨s, B, h1, h2, h3.heldBy k (fun b hb => List.mem_append_right _ (mem_flatten' h2 hb)), h4.heldBy k (fun b hb => ?_)⟩
  have hs : ∀ b ∈ t.stat, b ∈ fixR [] pp g bv ev tv ov its ++ Bs.flatten := fun b hb => by
    have := mem_stats ht hb
    simp [fixR, this]
  simp only [shOf, List.append_nil, List.mem_cons, List.not_mem_nil, or_false] at hb
  rcases hb with q | q | q | q | q | q
  · exact hs b (by simp [It.stat, q])
  · exact hs b (by simp [It.stat, q])
  · exact hs b (by simp [It.stat, q])
  · exact hs b (by simp [It.stat, q])
  · exact hs b (by simp [It.stat, q])
  · rw [q]; simp [fixR]
theorem PlayX.held0 (h : PlayX W X pa pb pp g cells L lv bv ev tv ov its sn Bs y w) : ∀ b ∈ fixR [] pp g bv ev tv ov its ++ Bs.flatten, b < w.heap.size := fun b hb => h.held.held b (by
  simp only [fixR, List.nil_append, List.mem_append, List.mem_cons] at hb ⊢
  rcases hb with q | q
  · exact .inl (.inr q)
  · exact .inr q)
theorem PlayX.under (h : PlayX W X pa pb pp g cells L lv bv ev tv ov its sn Bs y w) (k : Below w.heap.size w w') : PlayX W X pa pb pp g cells L lv bv ev tv ov its sn Bs y w' :=
  h.keep (h.held.came k [] (by simp)) h.nd h.bs (HeldBy.of_below k h.held0)
/-- New blocks beside it. -/
theorem PlayX.came (h : PlayX W X pa pb pp g cells L lv bv ev tv ov its sn Bs y w) (k : Below w.heap.size w w') (N : List Nat) (hN : ∀ b ∈ N, w.heap.size ≤ b ∧ b < w'.heap.size) (hn : N.Nodup) : PlayX W (N ++ X) pa pb pp g cells L lv bv ev tv ov its sn Bs y w' := by
  have e : fixR (N ++ X) pp g bv ev tv ov its = N ++ fixR X pp g bv ev tv ov its := by simp [fixR]
  refine h.keep ?_ ?_ ?_ (HeldBy.of_below k h.held0)
  · rw [e, List.append_assoc]
    exact h.held.came k N hN
  · rw [e]
    refine List.nodup_append.2 ⟨hn, h.nd, fun a ha b hb e' => ?_⟩
    have h1 := (hN a ha).1
    have h2 := h.held.held b (List.mem_append_left _ hb)
    omega
  · intro i B hB b hb hm
    rw [e] at hm
    rcases List.mem_append.1 hm with q | q
    · have h1 := (hN b q).1
      have h2 := h.held.held b (List.mem_append_right _ (mem_flatten' hB hb))
      omega
    · exact h.bs i B hB b hb q
/-- Less beside it. -/
theorem PlayX.sub {X' : List Nat} (h : PlayX W X pa pb pp g cells L lv bv ev tv ov its sn Bs y w) (hs : X'.Sublist X) : PlayX W X' pa pb pp g cells L lv bv ev tv ov its sn Bs y w := by
  have hs' : (fixR X' pp g bv ev tv ov its).Sublist (fixR X pp g bv ev tv ov its) := List.Sublist.append_right hs _
  exact h.keep (h.held.less fun b hb => by
    rcases List.mem_append.1 hb with q | q
    · exact List.mem_append_left _ (hs'.subset q)
    · exact List.mem_append_right _ q) (h.nd.sublist hs') (fun k B hB b hb hm => h.bs k B hB b hb (hs'.subset hm)) (HeldBy.refl _ _)
theorem PlayX.gWp (h : PlayX W X pa pb pp g cells L lv bv ev tv ov its sn Bs y w) {x : Nat} (hx : x ∈ fixR X pp g bv ev tv ov its) {o : Nat} {v : Value} (hW : W.heap.size ≤ x) : Held W (fixR X pp g bv ev tv ov its ++ Bs.flatten) pa pb y.S (w.setCell ⟨x, o, none⟩ v) := by
  have k : Kept (fun b => b = x) w (w.setCell ⟨x, o, none⟩ v) := (Kept.refl (fun b => b = x) w).setCell (p := ⟨x, o, none⟩) (fun _ => rfl) v
  refine h.held.step (k.mono fun b _ e => by rw [e]; exact List.mem_append_left _ hx) (h.held.below.trans (k.below h.held.below.size fun b h1 e => by omega)) fun b hb => ⟨.inl hb, ?_⟩
  have := h.held.held b hb
  simpa using this
theorem fixR_parts (h : (fixR X pp g bv ev tv ov its).Nodup) : (pp ≠ g ∧ pp ∉ bv.ownBlock.toList ∧ pp ∉ ev.ownBlock.toList ∧ pp ∉ tv.ownBlock.toList ∧ pp ∉ ov.ownBlock.toList ∧ pp ∉ stats its) ∧ (∀ b ∈ bv.ownBlock.toList, b ≠ g ∧ b ∉ ev.ownBlock.toList ∧ b ∉ tv.ownBlock.toList ∧ b ∉ ov.ownBlock.toList ∧ b ∉ stats its) ∧ (∀ b ∈ ev.ownBlock.toList, b ≠ g ∧ b ∉ bv.ownBlock.toList ∧ b ∉ tv.ownBlock.toList ∧ b ∉ ov.ownBlock.toList ∧ b ∉ stats its) := by
  unfold fixR at h
  rw [List.nodup_append] at h
  obtain ⟨-, h, -⟩ := h
  rw [List.nodup_cons, List.nodup_cons] at h
  obtain ⟨p1, g1, h⟩ := h
  rw [List.nodup_append] at h
  obtain ⟨-, h, b1⟩ := h
  rw [List.nodup_append] at h
  obtain ⟨-, h, e1⟩ := h
  simp only [List.mem_cons, List.mem_append, not_or] at p1 g1 b1 e1
  obtain ⟨p1, p2, p3, p4, p5, p6⟩ := p1
  obtain ⟨g1, g2, g3, g4, g5⟩ := g1
  refine ⟨⟨p1, p2, p3, p4, p5, p6⟩, fun b hb => ⟨fun e => g1 (e ▸ hb), fun q => b1 b hb b (.inl q) rfl, fun q => b1 b hb b (.inr (.inl q)) rfl, fun q => b1 b hb b (.inr (.inr (.inl q))) rfl, fun q => b1 b hb b (.inr (.inr (.inr q))) rfl⟩, fun b hb => ⟨fun e => g2 (e ▸ hb), fun q => b1 b q b (.inl hb) rfl, fun q => e1 b hb b (.inl q) rfl, fun q => e1 b hb b (.inr (.inl q)) rfl, fun q => e1 b hb b (.inr (.inr q)) rfl⟩⟩
/-- A store into a block of its own that is none of the threads'. -/
theorem PlayX.items (h : PlayX W X pa pb pp g cells L lv bv ev tv ov its sn Bs y w) {x : Nat} (hx : x ∈ fixR X pp g bv ev tv ov its) (hg : x ≠ g) (hs : x ∉ stats its) {o : Nat} {v : Value} : ∀ (k : Nat) t, its[k]? = some t → ∃ s B, y.ts[k]? = some s ∧ Bs[k]? = some B ∧ Thr W pb t.pt t.fv (outS W (sn k) t.po) s B (w.setCell ⟨x, o, none⟩ v) ∧ Shared W (t.b + 1) (t.b + 3) t.b (t.b + 2) (t.b + 4) t.po g (.slice t.q (L.getD k []).length t.c) [] (L.getD k []) 1 cells ((k + 1 : Nat) : Int) (w.setCell ⟨x, o, none⟩ v) := by
  intro k t ht
  obtain ⟨s, B, h1, h2, h3, h4⟩ := h.item k t ht
  have kk : ∀ R : List Nat, (∀ b ∈ R, b ≠ x) → HeldBy R w (w.setCell ⟨x, o, none⟩ v) := fun R hR => ⟨by simp, fun b hb => Below.heap_setCell w ⟨x, o, none⟩ v b (hR b hb)⟩
  refine ⟨s, B, h1, h2, h3.heldBy (kk B fun b hb e => h.bs k B h2 b hb (e ▸ hx)) (fun _ hb => hb), h4.heldBy (R := shOf (t.b + 1) (t.b + 3) t.b (t.b + 2) (t.b + 4) g []) (kk _ fun b hb e => ?_) (fun _ hb => hb)⟩
  subst e
  simp only [shOf, List.append_nil, List.mem_cons, List.not_mem_nil, or_false] at hb
  have hm : ∀ b ∈ t.stat, b ∈ stats its := fun b hb => mem_stats ht hb
  rcases hb with q | q | q | q | q | q
  · exact hs (hm b (by simp [It.stat, q]))
  · exact hs (hm b (by simp [It.stat, q]))
  · exact hs (hm b (by simp [It.stat, q]))
  · exact hs (hm b (by simp [It.stat, q]))
  · exact hs (hm b (by simp [It.stat, q]))
  · exact hg q
theorem row_other {base n : Nat} {e : TypeId} {v : Value} {xs : List Value} {x o : Nat} {u : Value} (h : w.ownsRow base e 1 v n xs) (hx : x ∉ v.ownBlock.toList) : (w.setCell ⟨x, o, none⟩ u).ownsRow base e 1 v n xs :=
  ownsRow_kept h ((Kept.refl (fun b => b = x) w).setCell (p := ⟨x, o, none⟩) (fun _ => rfl) u) (fun b hb e => hx (by rw [← e, hb]; simp))
/-- A row's cell is set. -/
theorem row_set {base n : Nat} {e : TypeId} {xs : List Value} {x cap k : Nat} {u : Value} (h : w.ownsRow base e 1 (.slice (some ⟨x, 0, none⟩) n cap) n xs) : (w.setCell ⟨x, k, none⟩ u).ownsRow base e 1 (.slice (some ⟨x, 0, none⟩) n cap) n (xs.set k u) := by
  refine ⟨by simpa using h.1, ?_⟩
  rcases h.2 with ⟨q, -⟩ | ⟨g', cap', cur, q, h1, h2, h3, h4, h5, h6⟩
  · cases q
  · simp only [Value.slice.injEq, Option.some.injEq, Addr.mk.injEq] at q
    obtain ⟨⟨rfl, -⟩, -, rfl⟩ := q
    have hc : Cells w x cur.toList e := by unfold Cells; rw [h2]
    have hs := hc.set k u
    refine .inr ⟨x, cap, (cur.toList.set k u).toArray, rfl, h1, by unfold Cells at hs; rw [hs], h3, h4, by simpa using h5, ?_⟩
    rw [← h6]
    simp only [Nat.mul_one]
    rw [List.take_set]
/-- The time goes on. -/
theorem PlayX.tick (h : PlayX W X pa pb pp g cells L lv bv ev tv ov its sn Bs y w) : PlayX W X pa pb pp g cells L lv bv ev tv ov its sn Bs { y with now := y.now + 1 } (w.setCell ⟨pp, 8, none⟩ (.int .i64 ((y.now + 1 : Nat) : Int))) := by
  obtain ⟨⟨p1, p2, p3, p4, p5, p6⟩, -, -⟩ := fixR_parts h.nd
  have hx : pp ∈ fixR X pp g bv ev tv ov its := by simp [fixR]
  refine ⟨h.gWp hx h.new, h.nd, h.bs, h.bb, h.new, ?_, h.arr.set_other (fun e => p1 e.symm) _, row_other h.ts p4, row_other h.outs p5, row_other h.begs p2, row_other h.fins p3, h.lens, h.items hx p1 p6⟩
  exact h.main.set 8 _
theorem encN_set (l : List Nat) (k x : Nat) : (encN l).set k (.int .i64 (x : Int)) = encN (l.set k x) := by unfold encN; rw [List.map_set]
/-- When a round began. -/
theorem PlayX.begin {k x cap m : Nat} {xb : Nat} (h : PlayX W X pa pb pp g cells L lv (.slice (some ⟨xb, 0, none⟩) m cap) ev tv ov its sn Bs y w) (hm : m = its.length) : PlayX W X pa pb pp g cells L lv (.slice (some ⟨xb, 0, none⟩) m cap) ev tv ov its sn Bs { y with beg := y.beg.set k x } (w.setCell ⟨xb, k, none⟩ (.int .i64 (x : Int))) := by
  subst hm
  obtain ⟨⟨p1, p2, p3, p4, p5, p6⟩, hb, -⟩ := fixR_parts h.nd
  obtain ⟨b1, b2, b3, b4, b5⟩ := hb xb (by simp [Value.ownBlock])
  have hx : xb ∈ fixR X pp g (.slice (some ⟨xb, 0, none⟩) its.length cap) ev tv ov its := by simp [fixR, Value.ownBlock]
  have hW : W.heap.size ≤ xb := (h.begs.lt xb rfl).1
  refine ⟨h.gWp hx hW, h.nd, h.bs, h.bb, h.new, h.main.set_other (fun e => p2 (by simp only at e; rw [e]; simp [Value.ownBlock])) _, h.arr.set_other (fun e => b1 e.symm) _, row_other h.ts b3, row_other h.outs b4, ?_, row_other h.fins b2, h.lens, h.items hx b1 b5⟩
  have := row_set (k := k) (u := .int .i64 (x : Int)) h.begs
  rw [encN_set] at this
  exact this
/-- When one ended. -/
theorem PlayX.ended {k x cap m : Nat} {xb : Nat} (h : PlayX W X pa pb pp g cells L lv bv (.slice (some ⟨xb, 0, none⟩) m cap) tv ov its sn Bs y w) (hm : m = its.length) : PlayX W X pa pb pp g cells L lv bv (.slice (some ⟨xb, 0, none⟩) m cap) tv ov its sn Bs { y with fin := y.fin.set k x } (w.setCell ⟨xb, k, none⟩ (.int .i64 (x : Int))) := by
  subst hm
  obtain ⟨⟨p1, p2, p3, p4, p5, p6⟩, -, hb⟩ := fixR_parts h.nd
  obtain ⟨b1, b2, b3, b4, b5⟩ := hb xb (by simp [Value.ownBlock])
  have hx : xb ∈ fixR X pp g bv (.slice (some ⟨xb, 0, none⟩) its.length cap) tv ov its := by simp [fixR, Value.ownBlock]
  have hW : W.heap.size ≤ xb := (h.fins.lt xb rfl).1
  refine ⟨h.gWp hx hW, h.nd, h.bs, h.bb, h.new, h.main.set_other (fun e => p3 (by simp only at e; rw [e]; simp [Value.ownBlock])) _, h.arr.set_other (fun e => b1 e.symm) _, row_other h.ts b3, row_other h.outs b4, row_other h.begs b2, ?_, h.lens, h.items hx b1 b5⟩
  have := row_set (k := k) (u := .int .i64 (x : Int)) h.fins
  rw [encN_set] at this
  exact this
theorem mem_set {k : Nat} {B' : List Nat} {b : Nat} (hb : b ∈ (Bs.set k B').flatten) : b ∈ B' ∨ ∃ j C, j ≠ k ∧ Bs[j]? = some C ∧ b ∈ C := by
  obtain ⟨C, hC, hb⟩ := List.mem_flatten.1 hb
  obtain ⟨j, hj, e⟩ := List.getElem_of_mem hC
  rw [List.getElem_set] at e
  by_cases q : k = j
  · rw [if_pos q] at e; exact .inl (e ▸ hb)
  · rw [if_neg q] at e
    exact .inr ⟨j, C, fun z => q z.symm, by rw [← e]; exact List.getElem?_eq_getElem (by simpa using hj), hb⟩
theorem mem_set_of {k j : Nat} {B' C : List Nat} {b : Nat} (hj : j ≠ k) (hC : Bs[j]? = some C) (hb : b ∈ C) : b ∈ (Bs.set k B').flatten :=
  List.mem_flatten.2 ⟨C, List.mem_of_getElem? (i := j) (by rw [List.getElem?_set_ne (fun e => hj e.symm)]; exact hC), hb⟩
/-- One goes on. -/
theorem PlayX.tstep {k : Nat} {t : It} {s : TS Out13} (hT : Handle W) (h : PlayX W X pa pb pp g cells L lv bv ev tv ov its sn Bs y w) (ht : its[k]? = some t) (hs : y.ts[k]? = some s) (hd : s.done = false) (hst : s.steps < 4000000000) (hn1 : 1 ≤ cells.length) (hn3 : cells.length ≤ 3) (hcells : ∀ x ∈ cells, x < 18446744073709551616) :
    Calls Tryz.prog 25 #[.pointer (some ⟨t.pt, 0, none⟩)] w fun e w' => ∃ v B', e = .returned v ∧ PlayX W X pa pb pp g cells L lv bv ev tv ov its sn (Bs.set k B') { y with ts := y.ts.set k (Th.step (prog13 (L.getD k []) cells k) s y.S).2.1, S := (Th.step (prog13 (L.getD k []) cells k) s y.S).2.2 } w' ∧ Thr W pb t.pt t.fv (outS W (sn k) t.po) (Th.step (prog13 (L.getD k []) cells k) s y.S).2.1 B' w' := by
  obtain ⟨s', B, h1, h2, h3, h4⟩ := h.item k t ht
  obtain rfl : s' = s := by rw [hs] at h1; exact (Option.some.inj h1).symm
  obtain ⟨R, hR⟩ : ∃ R, fixR X pp g bv ev tv ov its ++ (Bs.set k []).flatten = R := ⟨_, rfl⟩
  have hkB : k < Bs.length := (List.getElem?_eq_some_iff.1 h2).1
  have hkT : k < y.ts.length := (List.getElem?_eq_some_iff.1 hs).1
  have hsub : ∀ b ∈ B ++ R, b ∈ fixR X pp g bv ev tv ov its ++ Bs.flatten := fun b hb => by
    rw [← hR] at hb
    rcases List.mem_append.1 hb with q | q
    · exact List.mem_append_right _ (mem_flatten' h2 q)
    · rcases List.mem_append.1 q with q | q
      · exact List.mem_append_left _ q
      · rcases mem_set q with q | ⟨j, C, -, hC, q⟩
        · cases q
        · exact List.mem_append_right _ (mem_flatten' hC q)
  have hBR : ∀ b ∈ B, b ∉ R := fun b hb hm => by
    rw [← hR] at hm
    rcases List.mem_append.1 hm with q | q
    · exact h.bs k B h2 b hb q
    · rcases mem_set q with q | ⟨j, C, hj, hC, q⟩
      · cases q
      · exact h.bb k j B C (fun e => hj e.symm) h2 hC b hb q
  refine (tstep_open (R := R) (body13_bodyS (sn k) (pa := pa) (bc := t.b + 1) (bo := t.b + 3) (bl := t.b) (bs := t.b + 2) (bt := t.b + 4) (Qo := []) (g := g) (lp := t.q) (lcap := t.c) (l := L.getD k []) (clock := 1) (cells := cells) (owner := ((k + 1 : Nat) : Int)) hT hn1 (by omega) (by omega) hcells) h3 (h.held.less hsub) hBR ?_ h4 hd hst).mono ?_
  · intro b hb
    rw [← hR]
    have hm : ∀ b ∈ t.stat, b ∈ stats its := fun b hb => mem_stats ht hb
    simp only [shOf, List.append_nil, List.mem_cons, List.not_mem_nil, or_false] at hb
    have hst' : ∀ b ∈ t.stat, b ∈ fixR X pp g bv ev tv ov its ++ (Bs.set k []).flatten := fun b hb => by simp [fixR, hm b hb]
    rcases hb with q | q | q | q | q | q
    · exact hst' b (by simp [It.stat, q])
    · exact hst' b (by simp [It.stat, q])
    · exact hst' b (by simp [It.stat, q])
    · exact hst' b (by simp [It.stat, q])
    · exact hst' b (by simp [It.stat, q])
    · rw [q]; simp [fixR]
  · rintro e w' ⟨v, E, B', rfl, he, ht', hh', hk', hE, hB'⟩
    refine ⟨v, B', rfl, ?_, ht'⟩
    have hkR : HeldBy (fixR X pp g bv ev tv ov its) w w' := hk'.less fun b hb => by rw [← hR]; exact List.mem_append_left _ hb
    refine ⟨hh'.less fun b hb => ?_, h.nd, fun j C hC b hb => ?_, fun i j C D hij hC hD b hb => ?_, h.new, h.main.heldBy hkR (by simp [fixR]), h.arr.heldBy hkR (by simp [fixR]), ownsRow_heldBy h.ts hkR (fun b hb => by simp [fixR, hb]), ownsRow_heldBy h.outs hkR (fun b hb => by simp [fixR, hb]), ownsRow_heldBy h.begs hkR (fun b hb => by simp [fixR, hb]), ownsRow_heldBy h.fins hkR (fun b hb => by simp [fixR, hb]), ⟨h.lens.1, by simpa using h.lens.2.1, by simpa using h.lens.2.2⟩, fun j t2 ht2 => ?_⟩
    · rw [← hR]
      rcases List.mem_append.1 hb with q | q
      · exact List.mem_append_right _ (List.mem_append_left _ q)
      · rcases mem_set q with q | ⟨j, C, hj, hC, q⟩
        · exact List.mem_append_left _ q
        · exact List.mem_append_right _ (List.mem_append_right _ (mem_set_of hj hC q))
    · by_cases e : j = k
      · subst e
        rw [List.getElem?_set_self hkB] at hC
        obtain rfl := Option.some.inj hC
        exact fun hm => hB' b hb (by rw [← hR]; exact List.mem_append_left _ hm)
      · rw [List.getElem?_set_ne (fun q => e q.symm)] at hC
        exact h.bs j C hC b hb
    · have key : ∀ (j : Nat) D, j ≠ k → Bs[j]? = some D → ∀ b ∈ B', b ∉ D := fun j D hj hD b hb hm => hB' b hb (by rw [← hR]; exact List.mem_append_right _ (mem_set_of hj hD hm))
      by_cases e : i = k
      · subst e
        rw [List.getElem?_set_self hkB] at hC
        obtain rfl := Option.some.inj hC
        rw [List.getElem?_set_ne hij] at hD
        exact key j D (fun q => hij q.symm) hD b hb
      · rw [List.getElem?_set_ne (fun q => e q.symm)] at hC
        by_cases e2 : j = k
        · subst e2
          rw [List.getElem?_set_self hkB] at hD
          obtain rfl := Option.some.inj hD
          exact fun hm => key i C e hC b hm hb
        · rw [List.getElem?_set_ne (fun q => e2 q.symm)] at hD
          exact h.bb i j C D hij hC hD b hb
    · by_cases e : j = k
      · subst e
        obtain rfl : t2 = t := by rw [ht] at ht2; exact (Option.some.inj ht2).symm
        refine ⟨_, B', List.getElem?_set_self hkT, List.getElem?_set_self hkB, ht', h4.heldBy (R := fixR X pp g bv ev tv ov its) hkR fun b hb => ?_⟩
        have hm : ∀ b ∈ t2.stat, b ∈ stats its := fun b hb => mem_stats ht hb
        have hst' : ∀ b ∈ t2.stat, b ∈ fixR X pp g bv ev tv ov its := fun b hb => by simp [fixR, hm b hb]
        simp only [shOf, List.append_nil, List.mem_cons, List.not_mem_nil, or_false] at hb
        rcases hb with q | q | q | q | q | q
        · exact hst' b (by simp [It.stat, q])
        · exact hst' b (by simp [It.stat, q])
        · exact hst' b (by simp [It.stat, q])
        · exact hst' b (by simp [It.stat, q])
        · exact hst' b (by simp [It.stat, q])
        · rw [q]; simp [fixR]
      · obtain ⟨s2, C, a1, a2, a3, a4⟩ := h.item j t2 ht2
        refine ⟨s2, C, by rw [List.getElem?_set_ne (fun q => e q.symm)]; exact a1, by rw [List.getElem?_set_ne (fun q => e q.symm)]; exact a2, a3.heldBy (R := C) (hk'.less fun b hb => by rw [← hR]; exact List.mem_append_right _ (mem_set_of e a2 hb)) (fun _ hb => hb), a4.heldBy (R := fixR X pp g bv ev tv ov its) hkR fun b hb => ?_⟩
        have hm : ∀ b ∈ t2.stat, b ∈ stats its := fun b hb => mem_stats ht2 hb
        have hst' : ∀ b ∈ t2.stat, b ∈ fixR X pp g bv ev tv ov its := fun b hb => by simp [fixR, hm b hb]
        simp only [shOf, List.append_nil, List.mem_cons, List.not_mem_nil, or_false] at hb
        rcases hb with q | q | q | q | q | q
        · exact hst' b (by simp [It.stat, q])
        · exact hst' b (by simp [It.stat, q])
        · exact hst' b (by simp [It.stat, q])
        · exact hst' b (by simp [It.stat, q])
        · exact hst' b (by simp [It.stat, q])
        · rw [q]; simp [fixR]
end
end Go.Proofs.YtmdganpealbmpaaGreatDoor
