/- Layer 13's laws: several transactions as threads, in memory. -/
import Derived.Test.YtmdganpealbmpaaGreatDoorDoB13
import Derived.Test.YtmdganpealbmpaaGreatDoorOps13
import Derived.Test.YtmdganpealbmpaaGreatDoorAlive13
namespace Go.Proofs.YtmdganpealbmpaaGreatDoor
open Go.RowKit Bl Th
set_option maxRecDepth 10000

/-- One of them: the places of its thread, of what comes of it, of what its body reads. -/
structure It where
  pt : Nat
  po : Nat
  b : Nat
  q : Option Addr
  c : Nat
def It.blocks (t : It) : List Nat := [t.pt, t.po, t.b, t.b + 1, t.b + 2, t.b + 3, t.b + 4]
def It.caps (t : It) : Array Value := #[.pointer (some ⟨t.b + 1, 0, none⟩), .pointer (some ⟨t.b + 3, 0, none⟩), .pointer (some ⟨t.b, 0, none⟩), .pointer (some ⟨t.b + 2, 0, none⟩), .pointer (some ⟨t.b + 4, 0, none⟩)]
def It.fv (t : It) : Value := .func (.func 59) #[] t.caps
structure ItAt (W : World) (pb g : Nat) (cells : List Nat) (l : List Op13) (own : Nat) (t : It) (w : World) : Prop where
  thr : Thr W pb t.pt t.fv (outAux W t.po) (Th.start ⟨[], false, false, 0⟩) [t.pt, t.po] w
  sh : Shared W (t.b + 1) (t.b + 3) t.b (t.b + 2) (t.b + 4) t.po g (.slice t.q l.length t.c) [] l 1 cells (own : Int) w
theorem ItAt.heldBy {W : World} {pb g : Nat} {cells : List Nat} {l : List Op13} {own : Nat} {t : It} {w w' : World} {R : List Nat} (h : ItAt W pb g cells l own t w) (k : HeldBy R w w') (hs : ∀ b ∈ t.blocks, b ∈ R) (hg : g ∈ R) : ItAt W pb g cells l own t w' := by
  refine ⟨h.thr.heldBy k fun b hb => hs b ?_, h.sh.heldBy k fun b hb => ?_⟩
  · simp only [It.blocks, List.mem_cons, List.not_mem_nil, or_false] at hb ⊢
    rcases hb with q | q <;> simp [q]
  · simp only [shOf, List.append_nil, List.mem_cons, List.not_mem_nil, or_false] at hb
    rcases hb with q | q | q | q | q | q
    · exact hs b (by simp [It.blocks, q])
    · exact hs b (by simp [It.blocks, q])
    · exact hs b (by simp [It.blocks, q])
    · exact hs b (by simp [It.blocks, q])
    · exact hs b (by simp [It.blocks, q])
    · exact q ▸ hg
def flat (its : List It) : List Nat := its.flatMap It.blocks
def thrV (its : List It) : List Value := its.map fun t => .pointer (some ⟨t.pt, 0, none⟩)
def outV (its : List It) : List Value := its.map fun t => .pointer (some ⟨t.po, 0, none⟩)
/-- The blocks of all that is held. -/
def playR (X : List Nat) (pp g : Nat) (tv ov : Value) (its : List It) : List Nat := X ++ (pp :: g :: (tv.ownBlock.toList ++ (ov.ownBlock.toList ++ flat its)))
/-- Some transactions, those from k0 on not begun. -/
structure PlayAt (W : World) (X : List Nat) (pa pb pp g : Nat) (cells : List Nat) (L : List (List Op13)) (lv bv ev tv ov : Value) (its : List It) (k0 : Nat) (S : BS) (w : World) : Prop where
  held : Held W (playR X pp g tv ov (its.drop k0)) pa pb S w
  nd : (playR X pp g tv ov (its.drop k0)).Nodup
  new : W.heap.size ≤ pp
  main : Cells w pp [.pointer (some ⟨pb, 0, none⟩), .int .u64 1, .slice (some ⟨g, 0, none⟩) cells.length cells.length, tv, ov, lv, bv, ev, .int .i64 0] 45
  arr : Cells w g (cells.map fun x : Nat => .int .u64 (x : Int)) 41
  ts : w.ownsRow W.heap.size 58 1 tv its.length (thrV its)
  outs : w.ownsRow W.heap.size 39 1 ov its.length (outV its)
  item : ∀ k t, k0 ≤ k → its[k]? = some t → ∃ l, L[k]? = some l ∧ ItAt W pb g cells l (k + 1) t w
section
variable {W : World} {X : List Nat} {pa pb pp g : Nat} {cells : List Nat} {L : List (List Op13)} {lv bv ev tv ov : Value} {its : List It} {k0 : Nat} {S : BS} {w : World}
theorem mem_flat {k : Nat} {t : It} (h : its[k]? = some t) {b : Nat} (hb : b ∈ t.blocks) (hk : k0 ≤ k) : b ∈ flat (its.drop k0) := by
  refine List.mem_flatMap.2 ⟨t, ?_, hb⟩
  refine List.mem_of_getElem? (i := k - k0) ?_
  rw [List.getElem?_drop]
  rw [show k0 + (k - k0) = k by omega]
  exact h
theorem PlayAt.keep {X' : List Nat} {S' : BS} {w' : World} (h : PlayAt W X pa pb pp g cells L lv bv ev tv ov its k0 S w) (hh : Held W (playR X' pp g tv ov (its.drop k0)) pa pb S' w') (hn : (playR X' pp g tv ov (its.drop k0)).Nodup) (k : HeldBy (playR [] pp g tv ov (its.drop k0)) w w') : PlayAt W X' pa pb pp g cells L lv bv ev tv ov its k0 S' w' := by
  refine ⟨hh, hn, h.new, h.main.heldBy k (by simp [playR]), h.arr.heldBy k (by simp [playR]), ownsRow_heldBy h.ts k (fun b hb => by simp [playR, hb]), ownsRow_heldBy h.outs k (fun b hb => by simp [playR, hb]), fun i t hi ht => ?_⟩
  obtain ⟨l, h1, h2⟩ := h.item i t hi ht
  exact ⟨l, h1, h2.heldBy k (fun b hb => by simp only [playR, List.nil_append, List.mem_cons, List.mem_append]; exact .inr (.inr (.inr (.inr (mem_flat ht hb hi))))) (by simp [playR])⟩
/-- Less beside it. -/
theorem PlayAt.sub {X' : List Nat} (h : PlayAt W X pa pb pp g cells L lv bv ev tv ov its k0 S w) (hs : X'.Sublist X) : PlayAt W X' pa pb pp g cells L lv bv ev tv ov its k0 S w := by
  have hs' : (playR X' pp g tv ov (its.drop k0)).Sublist (playR X pp g tv ov (its.drop k0)) := List.Sublist.append_right hs _
  exact h.keep (h.held.less fun b hb => hs'.subset hb) (h.nd.sublist hs') (HeldBy.refl _ _)
/-- New blocks beside it. -/
theorem PlayAt.came {w' : World} (h : PlayAt W X pa pb pp g cells L lv bv ev tv ov its k0 S w) (k : Below w.heap.size w w') (N : List Nat) (hN : ∀ b ∈ N, w.heap.size ≤ b ∧ b < w'.heap.size) (hn : N.Nodup) : PlayAt W (N ++ X) pa pb pp g cells L lv bv ev tv ov its k0 S w' := by
  have e : playR (N ++ X) pp g tv ov (its.drop k0) = N ++ playR X pp g tv ov (its.drop k0) := by simp [playR]
  refine h.keep ?_ ?_ (HeldBy.of_below k fun b hb => h.held.held b (List.mem_append_right X hb))
  · rw [e]
    exact h.held.came k N hN
  · rw [e]
    refine List.nodup_append.2 ⟨hn, h.nd, fun a ha b hb e' => ?_⟩
    have h1 := (hN a ha).1
    have h2 := h.held.held b hb
    omega
theorem PlayAt.under {w' : World} (h : PlayAt W X pa pb pp g cells L lv bv ev tv ov its k0 S w) (k : Below w.heap.size w w') : PlayAt W X pa pb pp g cells L lv bv ev tv ov its k0 S w' := h.came k [] (by simp) List.nodup_nil
theorem own_nodup (v : Value) : v.ownBlock.toList.Nodup := by cases v.ownBlock <;> simp
/-- One more. -/
theorem PlayAt.add {t : It} {l : List Op13} {tv' ov' : Value} {w' : World} (h : PlayAt W t.blocks pa pb pp g cells L lv bv ev tv ov its 0 S w) (hi : ItAt W pb g cells l (its.length + 1) t w) (hl : L[its.length]? = some l)
    (k : Kept (fun b => b = pp ∨ b ∈ tv.ownBlock.toList ∨ b ∈ ov.ownBlock.toList) w w')
    (hm : Cells w' pp [.pointer (some ⟨pb, 0, none⟩), .int .u64 1, .slice (some ⟨g, 0, none⟩) cells.length cells.length, tv', ov', lv, bv, ev, .int .i64 0] 45)
    (h1 : w'.ownsRow W.heap.size 58 1 tv' (its.length + 1) (thrV its ++ [.pointer (some ⟨t.pt, 0, none⟩)])) (h2 : w'.ownsRow W.heap.size 39 1 ov' (its.length + 1) (outV its ++ [.pointer (some ⟨t.po, 0, none⟩)]))
    (n1 : ∀ b ∈ tv'.ownBlock.toList, b ∈ tv.ownBlock.toList ∨ w.heap.size ≤ b) (n2 : ∀ b ∈ ov'.ownBlock.toList, b ∈ ov.ownBlock.toList ∨ w.heap.size ≤ b) (ap : ∀ b ∈ tv'.ownBlock.toList, b ∉ ov'.ownBlock.toList) :
    PlayAt W [] pa pb pp g cells L lv bv ev tv' ov' (its ++ [t]) 0 S w' := by
  have hnd := h.nd
  have hlt := h.held.held
  simp only [playR, List.drop_zero, List.nodup_append, List.nodup_cons, List.mem_cons, List.mem_append, not_or] at hnd
  simp only [playR, List.drop_zero, List.mem_cons, List.mem_append] at hlt
  obtain ⟨d0, ⟨⟨p1, p2, p3, p4⟩, ⟨g1, g2, g3⟩, d1, ⟨d2, d3, d23⟩, d4⟩, d5⟩ := hnd
  have htv : ∀ b ∈ tv.ownBlock.toList, W.heap.size ≤ b := fun b hb => (h.ts.lt b (by simpa using hb)).1
  have hov : ∀ b ∈ ov.ownBlock.toList, W.heap.size ≤ b := fun b hb => (h.outs.lt b (by simpa using hb)).1
  have htv' : ∀ b ∈ tv'.ownBlock.toList, b < w'.heap.size := fun b hb => (h1.lt b (by simpa using hb)).2
  have hov' : ∀ b ∈ ov'.ownBlock.toList, b < w'.heap.size := fun b hb => (h2.lt b (by simpa using hb)).2
  have hz := k.size
  have hWz := h.held.below.size
  have fl : flat (its ++ [t]) = flat its ++ t.blocks := by simp [flat]
  have hB : HeldBy (g :: (flat its ++ t.blocks)) w w' := ⟨k.size, fun b hb => k.block b (hlt b (by
      rcases List.mem_cons.1 hb with q | q
      · simp [q]
      · rcases List.mem_append.1 q with q | q <;> simp [q])) (by
    rcases List.mem_cons.1 hb with q | q
    · subst q
      rintro (q | q | q)
      · exact p1 q.symm
      · exact g1 q
      · exact g2 q
    · rcases List.mem_append.1 q with q | q
      · rintro (e | e | e)
        · exact p4 (e ▸ q)
        · exact d4 b e b (.inr q) rfl
        · exact d23 b e b q rfl
      · rintro (e | e | e)
        · exact d5 b q b (.inl e) rfl
        · exact d5 b q b (.inr (.inr (.inl e))) rfl
        · exact d5 b q b (.inr (.inr (.inr (.inl e)))) rfl)⟩
  have hlt' : ∀ b ∈ playR [] pp g tv' ov' (its ++ [t]), (b ∈ playR t.blocks pp g tv ov its ∨ w.heap.size ≤ b) ∧ b < w'.heap.size := by
    intro b hb
    simp only [playR, fl, List.nil_append, List.mem_cons, List.mem_append] at hb ⊢
    rcases hb with q | q | q | q | q | q
    · exact ⟨.inl (.inr (.inl q)), Nat.lt_of_lt_of_le (hlt b (.inr (.inl q))) hz⟩
    · exact ⟨.inl (.inr (.inr (.inl q))), Nat.lt_of_lt_of_le (hlt b (.inr (.inr (.inl q)))) hz⟩
    · refine ⟨?_, htv' b q⟩
      rcases n1 b q with e | e
      · exact .inl (.inr (.inr (.inr (.inl e))))
      · exact .inr e
    · refine ⟨?_, hov' b q⟩
      rcases n2 b q with e | e
      · exact .inl (.inr (.inr (.inr (.inr (.inl e)))))
      · exact .inr e
    · exact ⟨.inl (.inr (.inr (.inr (.inr (.inr q))))), Nat.lt_of_lt_of_le (hlt b (.inr (.inr (.inr (.inr (.inr q)))))) hz⟩
    · exact ⟨.inl (.inl q), Nat.lt_of_lt_of_le (hlt b (.inl q)) hz⟩
  refine ⟨?_, ?_, h.new, hm, h.arr.heldBy hB (by simp), ?_, ?_, fun i t' _ ht => ?_⟩
  · have hh := h.held
    rw [List.drop_zero] at hh ⊢
    refine hh.step (k.mono fun b _ hb => ?_) (h.held.below.trans (k.below hWz fun b hb e => ?_)) hlt'
    · rcases hb with q | q | q <;> simp [playR, q]
    · rcases e with e | e | e
      · have := h.new; omega
      · have := htv b e; omega
      · have := hov b e; omega
  · rw [List.drop_zero]
    simp only [playR, fl, List.nil_append, List.nodup_append, List.nodup_cons, List.mem_cons, List.mem_append, not_or]
    have hp := hlt pp (.inr (.inl rfl))
    have hg := hlt g (.inr (.inr (.inl rfl)))
    have hpt : pp ∉ t.blocks := fun hm => d5 pp hm pp (.inl rfl) rfl
    have hgt : g ∉ t.blocks := fun hm => d5 g hm g (.inr (.inl rfl)) rfl
    refine ⟨⟨p1, fun q => ?_, fun q => ?_, p4, hpt⟩, ⟨fun q => ?_, fun q => ?_, g3, hgt⟩, own_nodup _, ⟨own_nodup _, ⟨d3, d0, fun a ha b hb e => ?_⟩, fun a ha b hb e => ?_⟩, fun a ha b hb e => ?_⟩
    · rcases n1 pp q with e | e
      · exact p2 e
      · omega
    · rcases n2 pp q with e | e
      · exact p3 e
      · omega
    · rcases n1 g q with e | e
      · exact g1 e
      · omega
    · rcases n2 g q with e | e
      · exact g2 e
      · omega
    · exact d5 b hb a (.inr (.inr (.inr (.inr ha)))) e.symm
    · subst e
      rcases n2 a ha with e | e
      · rcases hb with q | q
        · exact d23 a e a q rfl
        · exact d5 a q a (.inr (.inr (.inr (.inl e)))) rfl
      · rcases hb with q | q
        · have := hlt a (.inr (.inr (.inr (.inr (.inr q))))); omega
        · have := hlt a (.inl q); omega
    · subst e
      rcases hb with q | q
      · exact ap a ha q
      · rcases n1 a ha with e | e
        · rcases q with q | q
          · exact d4 a e a (.inr q) rfl
          · exact d5 a q a (.inr (.inr (.inl e))) rfl
        · rcases q with q | q
          · have := hlt a (.inr (.inr (.inr (.inr (.inr q))))); omega
          · have := hlt a (.inl q); omega
  · simpa [thrV] using h1
  · simpa [outV] using h2
  · rcases Nat.lt_or_ge i its.length with q | q
    · rw [List.getElem?_append_left q] at ht
      obtain ⟨l', e1, e2⟩ := h.item i t' (Nat.zero_le _) ht
      refine ⟨l', e1, e2.heldBy hB (fun b hb => ?_) (by simp)⟩
      have := mem_flat (k0 := 0) ht hb (Nat.zero_le _)
      rw [List.drop_zero] at this
      simp [this]
    · rw [List.getElem?_append_right q] at ht
      obtain ⟨q0, rfl⟩ : i = its.length ∧ t = t' := by
        rcases Nat.eq_zero_or_pos (i - its.length) with e | e
        · rw [e] at ht
          exact ⟨by omega, by simpa using ht⟩
        · obtain ⟨j, hj⟩ : ∃ j, i - its.length = j + 1 := ⟨i - its.length - 1, by omega⟩
          rw [hj] at ht
          simp at ht
      subst q0
      exact ⟨l, hl, hi.heldBy hB (fun b hb => by simp [hb]) (by simp)⟩
/-- The next one runs. -/
theorem PlayAt.run {S' : BS} {f : Out13 → Out13} {l : List Op13} {t : It} (hT : Handle W) (h : PlayAt W X pa pb pp g cells L lv bv ev tv ov its k0 S w) (ht : its[k0]? = some t) (hl : L[k0]? = some l) (hn1 : 1 ≤ cells.length) (hn3 : cells.length ≤ 3) (hcells : ∀ x ∈ cells, x < 18446744073709551616) (hgo : Goes (bodyT l 1 cells ((k0 + 1 : Nat) : Int)) S (0, f) S' 420) :
    Calls Tryz.prog 26 #[.pointer (some ⟨t.pt, 0, none⟩), .int .i64 2000] w fun e w' => ∃ (s' : Out13) (Lg : List Ntry) (nn : Nat) (B' : List Nat), e = .returned .nilIface ∧ PlayAt W X pa pb pp g cells L lv bv ev tv ov its (k0 + 1) S' w' ∧ Thr W pb t.pt t.fv (outAux W t.po) ⟨Lg, 0, nn, true, 0, f s'⟩ B' w' ∧ HeldBy X w w' := by
  obtain ⟨l', e1, hi⟩ := h.item k0 t (Nat.le_refl _) ht
  obtain rfl : l' = l := by rw [hl] at e1; exact (Option.some.inj e1).symm
  have hd : its.drop k0 = t :: its.drop (k0 + 1) := by
    have hk := (List.getElem?_eq_some_iff.1 ht).1
    rw [List.drop_eq_getElem_cons hk]
    rw [List.getElem?_eq_getElem hk] at ht
    rw [Option.some.inj ht]
  obtain ⟨s', Lg, nn, erun⟩ := goes_run hgo (by omega) 2000 (by omega) (by omega) ⟨[], false, false, 0⟩
  have fl : flat (t :: its.drop (k0 + 1)) = t.blocks ++ flat (its.drop (k0 + 1)) := by simp [flat]
  have hh := h.held
  have hnd := h.nd
  rw [hd] at hh hnd
  obtain ⟨R, hR⟩ : ∃ R, [t.b, t.b + 1, t.b + 2, t.b + 3, t.b + 4] ++ playR X pp g tv ov (its.drop (k0 + 1)) = R := ⟨_, rfl⟩
  have hRm : ∀ b ∈ R, b ∈ playR X pp g tv ov (t :: its.drop (k0 + 1)) := by
    intro b hb
    rw [← hR] at hb
    simp only [playR, fl, It.blocks, List.mem_append, List.mem_cons, List.not_mem_nil, or_false] at hb ⊢
    rcases hb with (q | q | q | q | q) | q | q | q | q | q | q <;> simp [q]
  have hBR : ∀ b ∈ [t.pt, t.po], b ∉ R := by
    intro b hb hm
    have hnd1 : t.blocks.Nodup ∧ ∀ a ∈ playR X pp g tv ov (its.drop (k0 + 1)), a ∉ t.blocks := by
      simp only [playR, fl, List.nodup_append, List.nodup_cons, List.mem_cons, List.mem_append, not_or] at hnd ⊢
      obtain ⟨-, ⟨⟨-, p2, p3, p4, -⟩, ⟨g1, g2, g3, -⟩, -, ⟨-, ⟨d0, -, d7⟩, d23⟩, d4⟩, d5⟩ := hnd
      refine ⟨d0, fun a ha ht => ?_⟩
      rcases ha with q | q | q | q | q | q
      · exact d5 a q a (.inr (.inr (.inr (.inr (.inl ht))))) rfl
      · subst q; exact p4 ht
      · subst q; exact g3 ht
      · exact d4 a q a (.inr (.inl ht)) rfl
      · exact d23 a q a (.inl ht) rfl
      · exact d7 a ht a q rfl
    obtain ⟨m1, m2⟩ := hnd1
    rw [← hR] at hm
    rcases List.mem_append.1 hm with q | q
    · simp only [It.blocks, List.nodup_cons, List.mem_cons, List.not_mem_nil, or_false, not_or] at m1
      simp only [List.mem_cons, List.not_mem_nil, or_false] at hb q
      omega
    · refine m2 b q ?_
      simp only [It.blocks, List.mem_cons, List.not_mem_nil, or_false] at hb ⊢
      rcases hb with q | q <;> simp [q]
  refine (trun_ok (R := R) (S := S) (body13_body (pa := pa) (bc := t.b + 1) (bo := t.b + 3) (bl := t.b) (bs := t.b + 2) (bt := t.b + 4) (Qo := []) (g := g) (lp := t.q) (lcap := t.c) (l := l') (clock := 1) (cells := cells) (owner := ((k0 + 1 : Nat) : Int)) hT hn1 (by omega) (by omega) hcells) hi.thr (hh.less fun b hb => ?_) hBR ?_ hi.sh 2000 (by show 0 + 2000 ≤ 3000000000; omega)).mono ?_
  · rcases List.mem_append.1 hb with q | q
    · simp only [playR, fl, It.blocks, List.mem_append, List.mem_cons, List.not_mem_nil, or_false] at q ⊢
      rcases q with q | q <;> simp [q]
    · exact hRm b q
  · intro b hb
    rw [← hR]
    simp only [shOf, playR, List.mem_append, List.mem_cons, List.not_mem_nil, or_false] at hb ⊢
    rcases hb with q | q | q | q | q | q <;> simp [q]
  · have erun' : Th.run (treeBody fun _ => bodyT l' 1 cells ((k0 + 1 : Nat) : Int)) 2000 ((Th.start (⟨[], false, false, 0⟩ : Out13)).err, Th.start ⟨[], false, false, 0⟩, S) = (0, ⟨Lg, 0, nn, true, 0, f s'⟩, S') := erun
    rw [erun']
    rintro e w' ⟨v, E, B', rfl, he, ht', hh', hk', -, -⟩
    simp only at he ht' hh'
    obtain ⟨rfl, rfl⟩ := he.isNil rfl
    refine ⟨s', Lg, nn, B', rfl, ?_, ht', hk'.less fun b hb => by rw [← hR]; exact List.mem_append_right _ (List.mem_append_left _ hb)⟩
    have hkR : HeldBy (playR X pp g tv ov (its.drop (k0 + 1))) w w' := hk'.less fun b hb => by rw [← hR]; exact List.mem_append_right _ hb
    have sub : (playR X pp g tv ov (its.drop (k0 + 1))).Sublist (playR X pp g tv ov (its.drop k0)) := by
      rw [hd]
      simp only [playR, fl]
      refine List.Sublist.append_left (List.Sublist.cons_cons _ (List.Sublist.cons_cons _ (List.Sublist.append_left (List.Sublist.append_left ?_ _) _))) _
      exact List.sublist_append_right _ _
    refine ⟨hh'.less fun b hb => List.mem_append_right _ (by rw [← hR]; exact List.mem_append_right _ hb), h.nd.sublist sub, h.new, h.main.heldBy hkR (by simp [playR]), h.arr.heldBy hkR (by simp [playR]), ownsRow_heldBy h.ts hkR (fun b hb => by simp [playR, hb]), ownsRow_heldBy h.outs hkR (fun b hb => by simp [playR, hb]), fun i t' hi' ht'' => ?_⟩
    obtain ⟨l2, h1, h2⟩ := h.item i t' (by omega) ht''
    exact ⟨l2, h1, h2.heldBy hkR (fun b hb => by simp only [playR, List.mem_cons, List.mem_append]; exact .inr (.inr (.inr (.inr (.inr (mem_flat ht'' hb hi')))))) (by simp [playR])⟩
end
end Go.Proofs.YtmdganpealbmpaaGreatDoor
