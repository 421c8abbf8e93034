/- RefOrder, RefView: begins, with what it lays for the times. -/
import Derived.Test.YtmdganpealbmpaaGreatDoorBegins13
namespace Go.Proofs.YtmdganpealbmpaaGreatDoor
open Go.RowKit Bl Th
set_option maxRecDepth 10000

section
variable {W : World} {X : List Nat} {pa pb pp g : Nat} {cells : List Nat} {L : List (List Op13)} {lv bv ev tv ov : Value} {its : List It} {S : BS} {w : World}
/-- One more; what is beside it stays. -/
theorem PlayAt.addX {t : It} {l : List Op13} {tv' ov' : Value} {w' : World} (h : PlayAt W (t.blocks ++ X) pa pb pp g cells L lv bv ev tv ov its 0 S w) (hi : ItAt W pb g cells l (its.length + 1) t w) (hl : L[its.length]? = some l)
    (k : Kept (fun b => b = pp ∨ b ∈ tv.ownBlock.toList ∨ b ∈ ov.ownBlock.toList) w w')
    (hm : Cells w' pp [.pointer (some ⟨pb, 0, none⟩), .int .u64 1, .slice (some ⟨g, 0, none⟩) cells.length cells.length, tv', ov', lv, bv, ev, .int .i64 0] 45)
    (h1 : w'.ownsRow W.heap.size 58 1 tv' (its.length + 1) (thrV its ++ [.pointer (some ⟨t.pt, 0, none⟩)])) (h2 : w'.ownsRow W.heap.size 39 1 ov' (its.length + 1) (outV its ++ [.pointer (some ⟨t.po, 0, none⟩)]))
    (n1 : ∀ b ∈ tv'.ownBlock.toList, b ∈ tv.ownBlock.toList ∨ w.heap.size ≤ b) (n2 : ∀ b ∈ ov'.ownBlock.toList, b ∈ ov.ownBlock.toList ∨ w.heap.size ≤ b) (ap : ∀ b ∈ tv'.ownBlock.toList, b ∉ ov'.ownBlock.toList) :
    PlayAt W X pa pb pp g cells L lv bv ev tv' ov' (its ++ [t]) 0 S w' ∧ HeldBy X w w' := by
  have r := (h.sub (X' := t.blocks) (List.sublist_append_left _ _)).add hi hl k hm h1 h2 n1 n2 ap
  have hnd := h.nd
  have hlt := h.held.held
  have hz := k.size
  have hWz := h.held.below.size
  have fl : flat (its ++ [t]) = flat its ++ t.blocks := by simp [flat]
  have hXn : X.Nodup ∧ ∀ b ∈ X, b ∉ playR t.blocks pp g tv ov its := by
    simp only [playR, List.drop_zero, List.append_assoc] at hnd
    rw [List.nodup_append] at hnd
    obtain ⟨n0, n1', n2'⟩ := hnd
    rw [List.nodup_append] at n1'
    obtain ⟨m0, m1, m2⟩ := n1'
    refine ⟨m0, fun b hb hm => ?_⟩
    simp only [playR, List.mem_append] at hm
    rcases hm with q | q
    · exact n2' b q b (List.mem_append_left _ hb) rfl
    · exact m2 b hb b (by simpa using q) rfl
  have hXl : ∀ b ∈ X, b < w.heap.size := fun b hb => hlt b (by simp [playR, hb])
  have hXd : ∀ b ∈ X, b ∉ playR [] pp g tv' ov' (its ++ [t]) := fun b hb hm => by
    have hl0 := hXl b hb
    have hd := hXn.2 b hb
    simp only [playR, fl, List.nil_append, List.mem_cons, List.mem_append, not_or] at hm hd
    rcases hm with q | q | q | q | q | q
    · exact hd.2.1 q
    · exact hd.2.2.1 q
    · rcases n1 b q with e | e
      · exact hd.2.2.2.1 e
      · omega
    · rcases n2 b q with e | e
      · exact hd.2.2.2.2.1 e
      · omega
    · exact hd.2.2.2.2.2 q
    · exact hd.1 q
  have hHX : HeldBy X w w' := ⟨k.size, fun b hb => k.block b (hXl b hb) (fun e => by
    have hd := hXn.2 b hb
    simp only [playR, List.mem_cons, List.mem_append, not_or] at hd
    rcases e with e | e | e
    · exact hd.2.1 e
    · exact hd.2.2.2.1 e
    · exact hd.2.2.2.2.1 e)⟩
  have htv : ∀ b ∈ tv.ownBlock.toList, W.heap.size ≤ b := fun b hb => (h.ts.lt b (by simpa using hb)).1
  have hov : ∀ b ∈ ov.ownBlock.toList, W.heap.size ≤ b := fun b hb => (h.outs.lt b (by simpa using hb)).1
  refine ⟨⟨?_, ?_, r.new, r.main, r.arr, r.ts, r.outs, r.item⟩, hHX⟩
  · have hr := r.held.held
    rw [List.drop_zero] at hr ⊢
    have hh := h.held
    rw [List.drop_zero] at hh
    refine hh.step (k.mono fun b _ hb => ?_) r.held.below fun b hb => ?_
    · rcases hb with q | q | q <;> simp [playR, q]
    · have e : playR X pp g tv' ov' (its ++ [t]) = X ++ playR [] pp g tv' ov' (its ++ [t]) := by simp [playR]
      rw [e] at hb
      rcases List.mem_append.1 hb with q | q
      · exact ⟨.inl (by simp [playR, q]), Nat.lt_of_lt_of_le (hXl b q) hz⟩
      · refine ⟨?_, hr b q⟩
        simp only [playR, fl, List.nil_append, List.mem_cons, List.mem_append] at q ⊢
        rcases q with q | q | q | q | q | q
        · simp [q]
        · simp [q]
        · rcases n1 b q with e | e
          · simp [e]
          · exact .inr e
        · rcases n2 b q with e | e
          · simp [e]
          · exact .inr e
        · simp [q]
        · simp [q]
  · have e : playR X pp g tv' ov' ((its ++ [t]).drop 0) = X ++ playR [] pp g tv' ov' ((its ++ [t]).drop 0) := by simp [playR]
    rw [e, List.nodup_append]
    refine ⟨hXn.1, r.nd, fun a ha b hb e => ?_⟩
    subst e
    rw [List.drop_zero] at hb
    exact hXd a ha hb
theorem PlayAt.initX {w1 w5 : World} (hh : Held W [g] pa pb S w1) (ha : Cells w1 g (cells.map fun x : Nat => .int .u64 (x : Int)) 41) (hb : Below w1.heap.size w1 w5) (h1 : w1.heap.size ≤ pp) (h2 : pp < w5.heap.size)
    (hm : Cells w5 pp [.pointer (some ⟨pb, 0, none⟩), .int .u64 1, .slice (some ⟨g, 0, none⟩) cells.length cells.length, .slice none 0 0, .slice none 0 0, lv, bv, ev, .int .i64 0] 45) (hX : ∀ b ∈ X, w1.heap.size ≤ b ∧ b < w5.heap.size ∧ b ≠ pp) (hn : X.Nodup) :
    PlayAt W X pa pb pp g cells L lv bv ev (.slice none 0 0) (.slice none 0 0) [] 0 S w5 := by
  have hg := ha.lt
  have hh' := hh.came hb (X ++ [pp]) (by
    intro b hb
    rcases List.mem_append.1 hb with q | q
    · exact ⟨(hX b q).1, (hX b q).2.1⟩
    · simp at q; omega)
  refine ⟨by simpa [playR, flat, Value.ownBlock] using hh', ?_, Nat.le_trans hh.below.size h1, hm, ha.heldBy (HeldBy.of_below hb hh.held) (by simp), World.ownsRow_nil _ _ _ _, World.ownsRow_nil _ _ _ _, fun k t _ h => by simp at h⟩
  simp only [playR, flat, Value.ownBlock, List.drop_nil, List.flatMap_nil, Option.toList_none, List.nil_append]
  rw [List.nodup_append]
  refine ⟨hn, by simp; omega, fun a ha b hb e => ?_⟩
  subst e
  obtain ⟨q1, q2, q3⟩ := hX a ha
  simp only [List.mem_cons, List.not_mem_nil, or_false] at hb
  omega
end
/-- What holds at each round's head. -/
def BegJX (W w5 : World) (X : List Nat) (pa pb pp g n : Nat) (L : List (List Op13)) (lv bv ev : Value) (i : Value) (wr : World) : Prop :=
  ∃ (k : Nat) (its : List It) (tv ov : Value), k ≤ L.length ∧ i = .int .i64 (k : Int) ∧ its.length = k ∧ PlayAt W X pa pb pp g (sceneCells n) L lv bv ev tv ov its 0 (sceneS n) wr ∧ HeldBy X w5 wr
def zeroRow (W : World) (len : Nat) (v : Value) (w : World) : Prop := w.ownsRow W.heap.size 3 1 v len (List.replicate len (.int .i64 0))
theorem zero_row {W w : World} {b len : Nat} (hW : W.heap.size ≤ b) (h4 : len ≤ 4) (h : Cells w b (Array.replicate len (Value.int .i64 0)).toList 3) : zeroRow W len (.slice (some ⟨b, 0, none⟩) len len) w := by
  refine ⟨by simp, .inr ⟨b, len, (Array.replicate len (Value.int .i64 0)), rfl, hW, ?_, Nat.le_refl _, by unfold maxLen; omega, by simp, by simp⟩⟩
  have := h
  unfold Cells at this
  rw [this]
set_option maxHeartbeats 8000000 in
theorem begins13x_ok {W : World} (hT : Handle W) {v : Value} {L : List (List Op13)} (h : OpssAt W v L) (hf : fewB L = true) {n : Nat} (h1 : 1 ≤ n) (h3 : n ≤ 3) :
    Calls Tryz.prog 9 #[v, .int .i64 (n : Int)] W fun e w' => ∃ pa pb pp g lv bv ev tv ov its, e = .returned (.pointer (some ⟨pp, 0, none⟩)) ∧ PlayAt W (bv.ownBlock.toList ++ ev.ownBlock.toList) pa pb pp g (sceneCells n) L lv bv ev tv ov its 0 (sceneS n) w' ∧ its.length = L.length ∧ zeroRow W L.length bv w' ∧ zeroRow W L.length ev w' := by
  obtain ⟨hall, hl1, hl4⟩ := few_all hf
  obtain ⟨i1, hi1, zi1, si1, bi1⟩ := info_parts (show (Tryz.prog.info? 58).map (fun i => (i.zero, i.size, i.bytes)) = some (some (.pointer none), 1, 8) by kernel_rfl)
  obtain ⟨i2, hi2, zi2, si2, bi2⟩ := info_parts (show (Tryz.prog.info? 39).map (fun i => (i.zero, i.size, i.bytes)) = some (some (.pointer none), 1, 8) by kernel_rfl)
  obtain ⟨p, cap, hv, hm, hp⟩ := id h
  subst hv
  obtain ⟨g0, o0, rfl, -⟩ := hp (fun e => by simp [e] at hl1)
  obtain ⟨len, hlen⟩ : ∃ len, L.length = len := ⟨_, rfl⟩
  rw [hlen] at h hl1 hl4 ⊢
  have hmk := run_makeI hl1 hl4
  have gl : decide (0 ≤ (len : Int)) = true := by simp
  have HT := Lib.hid hT; have H := Lib.hid h; have HALL := Lib.hid hall; have HLN := Lib.hid hlen
  have H3 := Lib.hid (show n ≤ 3 from h3)
  clear hall hm hp hf h hlen hT
  go_enter Tryz.func9, Tryz.ntmps9
  go_wp2_with fail
  refine (scene_ok HT.out (n := n) h1 (by omega) W rfl).mono ?_
  rintro e w1 ⟨pa, pb, gc, rfl, hh, hc, -⟩
  have HI := Lib.hid (fun (bv ev : Value) (X : List Nat) (hX : ∀ b ∈ X, b = w1.heap.size ∨ b = w1.heap.size + 1) (hnd : X.Nodup) => (show PlayAt W X pa pb (w1.heap.size + 1 + 1) gc (sceneCells n) L (.slice (some ⟨g0, o0, none⟩) len cap) bv ev (.slice none 0 0) (.slice none 0 0) [] 0 (sceneS n) (((w1.alloc (.cells (Array.replicate len (.int .i64 0)) 3)).alloc (.cells (Array.replicate len (.int .i64 0)) 3)).alloc (.cells #[.pointer (some ⟨pb, 0, none⟩), .int .u64 1, .slice (some ⟨gc, 0, none⟩) n n, .slice none 0 0, .slice none 0 0, .slice (some ⟨g0, o0, none⟩) len cap, bv, ev, .int .i64 0] 45)).drew from by
    refine PlayAt.initX hh hc (((((Below.refl w1.heap.size w1).alloc (Nat.le_refl _) _).alloc (by simp) _).alloc (by simp; omega) _).drew) (by omega) (by simp) ?_ (fun b hb => by have := hX b hb; simp; omega) hnd
    rw [len_scene]
    have := Cells.new ((w1.alloc (.cells (Array.replicate len (.int .i64 0)) 3)).alloc (.cells (Array.replicate len (.int .i64 0)) 3)) [.pointer (some ⟨pb, 0, none⟩), .int .u64 1, .slice (some ⟨gc, 0, none⟩) n n, .slice none 0 0, .slice none 0 0, .slice (some ⟨g0, o0, none⟩) len cap, bv, ev, .int .i64 0] 45
    simp only [World.size_alloc] at this
    exact this.drew))
  have HZR := Lib.hid (fun (o : Obj) => (show zeroRow W len (.slice (some ⟨w1.heap.size, 0, none⟩) len len) (((w1.alloc (.cells (Array.replicate len (.int .i64 0)) 3)).alloc (.cells (Array.replicate len (.int .i64 0)) 3)).alloc o).drew ∧ zeroRow W len (.slice (some ⟨w1.heap.size + 1, 0, none⟩) len len) (((w1.alloc (.cells (Array.replicate len (.int .i64 0)) 3)).alloc (.cells (Array.replicate len (.int .i64 0)) 3)).alloc o).drew from by
    have c1 := (((Cells.new w1 (Array.replicate len (Value.int .i64 0)).toList 3).alloc (.cells (Array.replicate len (.int .i64 0)) 3)).alloc o).drew
    have c2 := ((Cells.new (w1.alloc (.cells (Array.replicate len (.int .i64 0)) 3)) (Array.replicate len (Value.int .i64 0)).toList 3).alloc o).drew
    simp only [World.size_alloc, Array.toArray_toList] at c1 c2
    have := hh.below.size
    exact ⟨zero_row this hl4 c1, zero_row (by omega) hl4 c2⟩))
  clear hh hc
  go_wp2_with fail
  go_region_held3 (fun _ => True) (first | with_reducible exact trivial | trivial) (fail)
  all_goals
    first
      | (have HP := HI.out (.slice (some ⟨w1.heap.size, 0, none⟩) len len) (.slice (some ⟨w1.heap.size + 1, 0, none⟩) len len) [w1.heap.size, w1.heap.size + 1] (by simp) (by simp)
         have HZ := HZR.out (.cells #[.pointer (some ⟨pb, 0, none⟩), .int .u64 1, .slice (some ⟨gc, 0, none⟩) n n, .slice none 0 0, .slice none 0 0, .slice (some ⟨g0, o0, none⟩) len cap, .slice (some ⟨w1.heap.size, 0, none⟩) len len, .slice (some ⟨w1.heap.size + 1, 0, none⟩) len len, .int .i64 0] 45)
         obtain ⟨w5, hw5⟩ : ∃ w5, ((((w1.alloc (.cells (Array.replicate len (.int .i64 0)) 3)).alloc (.cells (Array.replicate len (.int .i64 0)) 3)).alloc (.cells #[.pointer (some ⟨pb, 0, none⟩), .int .u64 1, .slice (some ⟨gc, 0, none⟩) n n, .slice none 0 0, .slice none 0 0, .slice (some ⟨g0, o0, none⟩) len cap, .slice (some ⟨w1.heap.size, 0, none⟩) len len, .slice (some ⟨w1.heap.size + 1, 0, none⟩) len len, .int .i64 0] 45)).drew) = w5 := ⟨_, rfl⟩
         rw [hw5] at HP HZ ⊢)
      | (have HP := HI.out (.slice (some ⟨w1.heap.size + 1, 0, none⟩) len len) (.slice (some ⟨w1.heap.size, 0, none⟩) len len) [w1.heap.size + 1, w1.heap.size] (by simp) (by simp)
         have HZ := And.symm (HZR.out (.cells #[.pointer (some ⟨pb, 0, none⟩), .int .u64 1, .slice (some ⟨gc, 0, none⟩) n n, .slice none 0 0, .slice none 0 0, .slice (some ⟨g0, o0, none⟩) len cap, .slice (some ⟨w1.heap.size + 1, 0, none⟩) len len, .slice (some ⟨w1.heap.size, 0, none⟩) len len, .int .i64 0] 45))
         obtain ⟨w5, hw5⟩ : ∃ w5, ((((w1.alloc (.cells (Array.replicate len (.int .i64 0)) 3)).alloc (.cells (Array.replicate len (.int .i64 0)) 3)).alloc (.cells #[.pointer (some ⟨pb, 0, none⟩), .int .u64 1, .slice (some ⟨gc, 0, none⟩) n n, .slice none 0 0, .slice none 0 0, .slice (some ⟨g0, o0, none⟩) len cap, .slice (some ⟨w1.heap.size + 1, 0, none⟩) len len, .slice (some ⟨w1.heap.size, 0, none⟩) len len, .int .i64 0] 45)).drew) = w5 := ⟨_, rfl⟩
         rw [hw5] at HP HZ ⊢)
    obtain ⟨pp, hpp⟩ : ∃ pp, w1.heap.size + 1 + 1 = pp := ⟨_, rfl⟩
    rw [hpp] at HP ⊢
    obtain ⟨bv, ev, HJ, HZB, HZE⟩ : ∃ bv ev, BegJX W w5 (bv.ownBlock.toList ++ ev.ownBlock.toList) pa pb pp gc n L (.slice (some ⟨g0, o0, none⟩) len cap) bv ev (.int .i64 0) w5 ∧ zeroRow W len bv w5 ∧ zeroRow W len ev w5 := ⟨_, _, ⟨0, [], _, _, Nat.zero_le _, rfl, rfl, HP, HeldBy.refl _ _⟩, HZ.1, HZ.2⟩
    obtain ⟨X, hXe⟩ : ∃ X, bv.ownBlock.toList ++ ev.ownBlock.toList = X := ⟨_, rfl⟩
    rw [hXe] at HJ
    have HXE := Lib.hid hXe
    have HJ := Lib.hid HJ
    have HZB := Lib.hid HZB; have HZE := Lib.hid HZE
    clear hw5 hpp HP HZ hXe HZR
    go_wp2
    go_loopw [35] (BegJX W w5 X pa pb pp gc n L (.slice (some ⟨g0, o0, none⟩) len cap) bv ev) (fun i _ => len - (intOf i).toNat)
    case atStart => exact HJ.out
    case round =>
      clear HJ
      obtain ⟨k, its, tv, ov, hk, rfl, hik, hp, hhx⟩ := hrel
      have HHX := Lib.hid hhx; clear hhx
      rw [HLN.out] at hk
      by_cases hlt : k < len
      · have hlt' : (k : Int) < (len : Int) := by omega
        obtain ⟨x, hx⟩ : ∃ x, L[k]? = some x := ⟨L[k]'(by rw [HLN.out]; exact hlt), List.getElem?_eq_getElem _⟩
        obtain ⟨g', o', q, c, he, hcell, hops⟩ := opss_at (p := some ⟨g0, o0, none⟩) (m := len) (cap := cap) H.out hp.held.below hx
        obtain ⟨rfl, rfl⟩ : g0 = g' ∧ o0 = o' := by simpa using he
        have hx10 := HALL.out x (List.mem_of_getElem? hx)
        have g1 : IntKind.i64.wrap ((k : Int) + 1) = ((k + 1 : Nat) : Int) := by rw [IntWalk.i64_in _ (by omega)]; rfl
        have hW := hp.held.below.size
        obtain ⟨po, hpo⟩ : ∃ po, wr.heap.size = po := ⟨_, rfl⟩
        have B2 := (Below.refl wr.heap.size wr).alloc (Nat.le_refl _) (.cells #[.slice none 0 0, .bool false, .bool false, .int .i64 0] 38)
        have c1 := Cells.new wr [.slice none 0 0, .bool false, .bool false, .int .i64 0] 38
        obtain ⟨w2, hw2⟩ : ∃ w2, wr.alloc (.cells #[.slice none 0 0, .bool false, .bool false, .int .i64 0] 38) = w2 := ⟨_, rfl⟩
        have hz2 : w2.heap.size = po + 1 := by rw [← hw2, ← hpo]; simp
        have B2 : Below po wr w2 := by rw [← hpo, ← hw2]; exact B2
        have c1 : Cells w2 po [.slice none 0 0, .bool false, .bool false, .int .i64 0] 38 := by rw [← hpo, ← hw2]; exact c1
        have h2 := hp.held.came (by rw [hpo]; exact B2) [po] (by simp; omega)
        have a2 := hp.arr.heldBy (HeldBy.of_below (by rw [hpo]; exact B2) hp.held.held) (by simp [playR])
        obtain ⟨S1, S2, S3⟩ := body_set (po := po) (cells := sceneCells n) (clock := 1) (Qo := []) ((k + 1 : Nat) : Int) h2 (by simp [playR]) (by simp) a2 (hops.2.2 w2 [] (by omega))
        rw [len_scene] at S1 S2 S3
        have hq : (outAux W po).at' ⟨[], false, false, 0⟩ [po] (bodyW w2 (.slice q x.length c) 1 gc n ((k + 1 : Nat) : Int) po) :=
          ⟨.slice none 0 0, rfl, by simp [Value.ownBlock], by rw [← hpo]; exact hW, c1.heldBy (R := [po]) (HeldBy.of_below S1 (by simp; omega)) (by simp), World.ownsRow_nil _ _ _ _⟩
        have HN := Lib.hid (tnew_new S2 (outAux W po) _ hq (by simp) 59 #[.pointer (some ⟨w2.heap.size + 1, 0, none⟩), .pointer (some ⟨w2.heap.size + 3, 0, none⟩), .pointer (some ⟨w2.heap.size, 0, none⟩), .pointer (some ⟨w2.heap.size + 2, 0, none⟩), .pointer (some ⟨w2.heap.size + 4, 0, none⟩)])
        have HP := Lib.hid hp; have HS1 := Lib.hid S1; have HS2 := Lib.hid S2; have HS3 := Lib.hid S3; have HB2 := Lib.hid B2; have HX := Lib.hid hx; have HPO := Lib.hid hpo; have HZ2 := Lib.hid hz2; have HIK := Lib.hid hik
        have HWZ := Lib.hid hW
        clear hp S1 S2 S3 hq B2 c1 h2 a2 hx hops hx10 he hz2 hW hik
        go_wp2_with fail
        clear hw2 hpo
        refine (body13_ok _ _ _ 1 gc n _ po w2).mono ?_
        rintro e w3 ⟨fv, rfl, rfl, hw3⟩
        obtain rfl : w3 = bodyW w2 (.slice q x.length c) 1 gc n ((k + 1 : Nat) : Int) po := hw3
        go_wp2_with fail
        refine HN.out.mono ?_
        rintro e w4 ⟨pt, rfl, ht, hh4, hb4, hpt⟩
        have ht := ht
        have hs3 := HS3.out.heldBy (HeldBy.of_below hb4 HS2.out.held) (by simp [shOf, playR])
        have hsz : (bodyW w2 (.slice q x.length c) 1 gc n ((k + 1 : Nat) : Int) po).heap.size = po + 6 := by simp [bodyW, HZ2.out]
        have hz4 := hb4.size
        have hpl := hh4.held pt (List.mem_cons_self ..)
        rw [hsz] at hz4 hpt
        rw [HZ2.out] at ht hs3
        have hB4 : Below po wr w4 := HB2.out.trans ((HS1.out.mono (by rw [HZ2.out]; omega)).trans (hb4.mono (by rw [hsz]; omega)))
        obtain ⟨t, hte⟩ : ∃ t : It, (⟨pt, po, po + 1, q, c⟩ : It) = t := ⟨_, rfl⟩
        have hit : ItAt W pb gc (sceneCells n) x (its.length + 1) t w4 := by
          rw [HIK.out, ← hte]
          exact ⟨ht, hs3⟩
        have hh4x : HeldBy X w5 w4 := HHX.out.trans (HeldBy.of_below (by rw [HPO.out]; exact hB4) fun b hb => HP.out.held.held b (by simp [playR, hb]))
        have hp4 : PlayAt W (t.blocks ++ X) pa pb pp gc (sceneCells n) L (.slice (some ⟨g0, o0, none⟩) len cap) bv ev tv ov its 0 (sceneS n) w4 := by
          have := HP.out.came (w' := w4) (by rw [HPO.out]; exact hB4) t.blocks (by rw [HPO.out, ← hte]; intro b hb; simp [It.blocks] at hb; omega) (by rw [← hte]; simp [It.blocks]; omega)
          exact this
        obtain ⟨q1, q2, q3⟩ := hp4.apart
        have HP1 := Lib.hid q1; have HP2 := Lib.hid q2
        have HM := Lib.hid hp4.main
        have T0 := Two.start (by have := hp4.ts; rwa [HIK.out] at this) (by have := hp4.outs; rwa [HIK.out] at this) q3
        have HADD := Lib.hid (fun (tv' ov' : Value) (wx : World) (T : Two W.heap.size w4 tv ov tv' ov' (k + 1) (k + 1) (thrV its ++ [.pointer (some ⟨pt, 0, none⟩)]) (outV its ++ [.pointer (some ⟨po, 0, none⟩)]) wx) => (show PlayAt W X pa pb pp gc (sceneCells n) L (.slice (some ⟨g0, o0, none⟩) len cap) bv ev tv' ov' (its ++ [t]) 0 (sceneS n) ((wx.setCell ⟨pp, 3, none⟩ tv').setCell ⟨pp, 4, none⟩ ov') ∧ HeldBy X w5 ((wx.setCell ⟨pp, 3, none⟩ tv').setCell ⟨pp, 4, none⟩ ov') from by
          obtain ⟨s1, s2, s3, s4⟩ := T.set HM.out HP1.out HP2.out
          have hx := HX.out
          rw [← HIK.out] at s3 s4 hx
          obtain ⟨r1, r2⟩ := hp4.addX hit hx s1 s2 (by rw [← hte]; exact s3) (by rw [← hte]; exact s4) T.n1 T.n2 T.ap
          exact ⟨r1, hh4x.trans r2⟩))
        have HIL := Lib.hid (show (its ++ [t]).length = k + 1 by rw [List.length_append, HIK.out]; rfl)
        have HWZ4 := Lib.hid hp4.held.below.size
        have HS : w4.drew.cell? ⟨pp, 3, none⟩ = some tv ∧ w4.drew.cell? ⟨pp, 4, none⟩ = some ov := ⟨hp4.main.cell 3, hp4.main.cell 4⟩
        clear hh4x hp4 hit hs3 ht hB4 hsz hz4 hpl hpt hh4 hb4 q1 q2 q3 HS1 HS2 HS3 HN HB2 HX hte HP
        go_wp2_with fail
        -- GENBEG
        refine wp_region_k (S := fun w => w.cell? ⟨pp, 3, none⟩ = some tv ∧ w.cell? ⟨pp, 4, none⟩ = some ov) (D := fun i => i == 1 || i == 9 || i == 10 || i == 11 || i == 13 || Nat.ble 16 i) (by kernel_rfl) ?_
        refine wpAnyK_pure (i := 1) (v := .pointer (some ⟨pp, 0, none⟩)) rfl rfl (by kernel_rfl) (by kernel_rfl) (by kernel_rfl) (fun _ _ _ h => h) (Or.inl ⟨by rfl, fun w _ => by go_simp⟩) ?_
        simp only [Act.put, List.getElem_toArray, List.getElem_cons_succ, List.getElem_cons_zero, List.setIfInBounds_toArray, List.set_cons_zero, List.set_cons_succ]
        refine wpAnyK_pure (i := 9) (v := .pointer (some ⟨pp, 0, none⟩)) rfl rfl (by kernel_rfl) (by kernel_rfl) (by kernel_rfl) (fun _ _ _ h => h) (Or.inl ⟨by rfl, fun w _ => by go_simp⟩) ?_
        simp only [Act.put, List.getElem_toArray, List.getElem_cons_succ, List.getElem_cons_zero, List.setIfInBounds_toArray, List.set_cons_zero, List.set_cons_succ]
        refine wpAnyK_pure (i := 10) (v := .pointer (some ⟨pp, 0, none⟩)) rfl rfl (by kernel_rfl) (by kernel_rfl) (by kernel_rfl) (fun _ _ _ h => h) (Or.inl ⟨by rfl, fun w _ => by go_simp⟩) ?_
        simp only [Act.put, List.getElem_toArray, List.getElem_cons_succ, List.getElem_cons_zero, List.setIfInBounds_toArray, List.set_cons_zero, List.set_cons_succ]
        refine wpAnyK_pure (i := 11) (v := .pointer (some ⟨pp, 4, none⟩)) rfl rfl (by kernel_rfl) (by kernel_rfl) (by kernel_rfl) (fun _ _ _ h => h) (Or.inl ⟨by rfl, fun w _ => by go_simp⟩) ?_
        simp only [Act.put, List.getElem_toArray, List.getElem_cons_succ, List.getElem_cons_zero, List.setIfInBounds_toArray, List.set_cons_zero, List.set_cons_succ]
        refine wpAnyK_pure (i := 13) (v := .pointer (some ⟨po, 0, none⟩)) rfl rfl (by kernel_rfl) (by kernel_rfl) (by kernel_rfl) (fun _ _ _ h => h) (Or.inl ⟨by rfl, fun w _ => by go_simp⟩) ?_
        simp only [Act.put, List.getElem_toArray, List.getElem_cons_succ, List.getElem_cons_zero, List.setIfInBounds_toArray, List.set_cons_zero, List.set_cons_succ]
        refine wpAnyK_take (i := 0) (v := .pointer (some ⟨pp, 0, none⟩)) rfl (by kernel_rfl) (by kernel_rfl) (by kernel_rfl) (by kernel_rfl) (fun _ _ _ h => h) (Or.inl ⟨by rfl, fun w hS => by obtain ⟨hS1, hS2⟩ := hS; go_simp⟩) HS ?_
        simp only [Act.put, List.getElem_toArray, List.getElem_cons_zero, List.setIfInBounds_toArray, List.set_cons_zero, List.set_cons_succ]
        refine wpAnyK_take (i := 2) (v := .pointer (some ⟨pp, 0, none⟩)) rfl (by kernel_rfl) (by kernel_rfl) (by kernel_rfl) (by kernel_rfl) (fun _ _ _ h => h) (Or.inl ⟨by rfl, fun w hS => by obtain ⟨hS1, hS2⟩ := hS; go_simp⟩) HS ?_
        simp only [Act.put, List.getElem_toArray, List.getElem_cons_succ, List.getElem_cons_zero, List.setIfInBounds_toArray, List.set_cons_zero, List.set_cons_succ]
        refine wpAnyK_take (i := 3) (v := .pointer (some ⟨pp, 0, none⟩)) rfl (by kernel_rfl) (by kernel_rfl) (by kernel_rfl) (by kernel_rfl) (fun _ _ _ h => h) (Or.inl ⟨by rfl, fun w hS => by obtain ⟨hS1, hS2⟩ := hS; go_simp⟩) HS ?_
        simp only [Act.put, List.getElem_toArray, List.getElem_cons_succ, List.getElem_cons_zero, List.setIfInBounds_toArray, List.set_cons_zero, List.set_cons_succ]
        refine wpAnyK_take (i := 4) (v := .pointer (some ⟨pp, 3, none⟩)) rfl (by kernel_rfl) (by kernel_rfl) (by kernel_rfl) (by kernel_rfl) (fun _ _ _ h => h) (Or.inl ⟨by rfl, fun w hS => by obtain ⟨hS1, hS2⟩ := hS; go_simp⟩) HS ?_
        simp only [Act.put, List.getElem_toArray, List.getElem_cons_succ, List.getElem_cons_zero, List.setIfInBounds_toArray, List.set_cons_zero, List.set_cons_succ]
        refine wpAnyK_take (i := 5) (v := tv) rfl (by kernel_rfl) (by kernel_rfl) (by kernel_rfl) (by kernel_rfl) (fun _ _ _ h => h) (Or.inl ⟨by rfl, fun w hS => by obtain ⟨hS1, hS2⟩ := hS; go_simp⟩) HS ?_
        simp only [Act.put, List.getElem_toArray, List.getElem_cons_succ, List.getElem_cons_zero, List.setIfInBounds_toArray, List.set_cons_zero, List.set_cons_succ]
        refine wpAnyK_take (i := 6) (v := .pointer (some ⟨pt, 0, none⟩)) rfl (by kernel_rfl) (by kernel_rfl) (by kernel_rfl) (by kernel_rfl) (fun _ _ _ h => h) (Or.inl ⟨by rfl, fun w hS => by obtain ⟨hS1, hS2⟩ := hS; go_simp⟩) HS ?_
        simp only [Act.put, List.getElem_toArray, List.getElem_cons_succ, List.getElem_cons_zero, List.setIfInBounds_toArray, List.set_cons_zero, List.set_cons_succ]
        refine wpAnyK_take (i := 12) (v := ov) rfl (by kernel_rfl) (by kernel_rfl) (by kernel_rfl) (by kernel_rfl) (fun _ _ _ h => h) (Or.inl ⟨by rfl, fun w hS => by obtain ⟨hS1, hS2⟩ := hS; go_simp⟩) HS ?_
        simp only [Act.put, List.getElem_toArray, List.getElem_cons_succ, List.getElem_cons_zero, List.setIfInBounds_toArray, List.set_cons_zero, List.set_cons_succ]
        refine wpAnyK_all (rs := [7, 14]) (by kernel_rfl) (by simp) ?_
        refine List.forall_mem_cons.2 ⟨?_, List.forall_mem_cons.2 ⟨?_, fun _ h => absurd h (by simp)⟩⟩
        · refine wpOp_go rfl ?_
          go_simp
          have N1 := Cells.new (w4.drew) [.pointer (some ⟨pt, 0, none⟩)] 58
          have T1 := T0.alloc (.cells #[.pointer (some ⟨pt, 0, none⟩)] 58)
          refine ⟨fun _ => T1.cells2 HM.out HP1.out HP2.out, ?_⟩
          refine wpAnyK_all (rs := [8, 14]) (by kernel_rfl) (by simp) ?_
          refine List.forall_mem_cons.2 ⟨?_, List.forall_mem_cons.2 ⟨?_, fun _ h => absurd h (by simp)⟩⟩
          · refine wpOp_go rfl ?_
            refine step_append_lies _ (by rfl) _ _ _ (by rfl) W.heap.size 58 i1 (.pointer none) 1 8 Tryz.underlying42 hi1 zi1 si1 bi1 rfl (by omega) tv k (thrV its) (by rfl) T1.ts ⟨w4.heap.size, 0, none⟩ 1 1 [.pointer (some ⟨pt, 0, none⟩)] (by rfl) (by rfl) (news1 N1) (by intro u hu; simp at hu; subst hu; rfl) (by omega) (by unfold maxLen; omega) (by omega) (Nat.le_trans HWZ4.out T1.kept.size) _ rfl ?_
            intro g1 c1 w1 ho1 hg1 hb1 hl1
            have T2 := T1.app1 ho1 hg1 hb1
            refine ⟨fun _ => T2.cells2 HM.out HP1.out HP2.out, ?_⟩
            simp only [Act.put, List.getElem_toArray, List.getElem_cons_succ, List.getElem_cons_zero, List.setIfInBounds_toArray, List.set_cons_zero, List.set_cons_succ]
            refine wpAnyK_all (rs := [14]) (by kernel_rfl) (by simp) ?_
            refine List.forall_mem_cons.2 ⟨?_, fun _ h => absurd h (by simp)⟩
            refine wpOp_go rfl ?_
            go_simp
            have N2 := Cells.new (w1) [.pointer (some ⟨po, 0, none⟩)] 39
            replace N1 := N1.alloc (.cells #[.pointer (some ⟨po, 0, none⟩)] 39)
            have T3 := T2.alloc (.cells #[.pointer (some ⟨po, 0, none⟩)] 39)
            refine ⟨fun _ => T3.cells2 HM.out HP1.out HP2.out, ?_⟩
            refine wpAnyK_all (rs := [15]) (by kernel_rfl) (by simp) ?_
            refine List.forall_mem_cons.2 ⟨?_, fun _ h => absurd h (by simp)⟩
            refine wpOp_go rfl ?_
            refine step_append_lies _ (by rfl) _ _ _ (by rfl) W.heap.size 39 i2 (.pointer none) 1 8 Tryz.underlying43 hi2 zi2 si2 bi2 rfl (by omega) ov k (outV its) (by rfl) T3.os ⟨w1.heap.size, 0, none⟩ 1 1 [.pointer (some ⟨po, 0, none⟩)] (by rfl) (by rfl) (news1 N2) (by intro u hu; simp at hu; subst hu; rfl) (by omega) (by unfold maxLen; omega) (by omega) (Nat.le_trans HWZ4.out T3.kept.size) _ rfl ?_
            intro g2 c2 w2 ho2 hg2 hb2 hl2
            have T4 := T3.app2 ho2 hg2 hb2
            refine ⟨fun _ => T4.cells2 HM.out HP1.out HP2.out, ?_⟩
            simp only [Act.put, List.getElem_toArray, List.getElem_cons_succ, List.getElem_cons_zero, List.setIfInBounds_toArray, List.set_cons_zero, List.set_cons_succ]
            obtain ⟨f3, f4⟩ := T4.cells2 HM.out HP1.out HP2.out
            obtain ⟨e3, e4⟩ := T4.frees HM.out HP1.out HP2.out
            have HF := Lib.hid (HADD.out _ _ _ T4)
            refine wpAnyK_pure (i := 16) (v := .pointer (some ⟨pp, 0, none⟩)) rfl rfl (by kernel_rfl) (by kernel_rfl) (by kernel_rfl) (fun _ _ _ h => h) (Or.inl ⟨by rfl, fun w _ => by go_simp⟩) ?_
            simp only [Act.put, List.getElem_toArray, List.getElem_cons_succ, List.getElem_cons_zero, List.setIfInBounds_toArray, List.set_cons_zero, List.set_cons_succ]
            refine wpAnyK_pure (i := 17) (v := .pointer (some ⟨pp, 3, none⟩)) rfl rfl (by kernel_rfl) (by kernel_rfl) (by kernel_rfl) (fun _ _ _ h => h) (Or.inl ⟨by rfl, fun w _ => by go_simp⟩) ?_
            simp only [Act.put, List.getElem_toArray, List.getElem_cons_succ, List.getElem_cons_zero, List.setIfInBounds_toArray, List.set_cons_zero, List.set_cons_succ]
            refine wpAnyK_all (rs := [18]) (by kernel_rfl) (by simp) ?_
            refine List.forall_mem_cons.2 ⟨?_, fun _ h => absurd h (by simp)⟩
            refine wpOp_go rfl ?_
            go_simp
            refine wpAnyK_pure (i := 19) (v := .pointer (some ⟨pp, 0, none⟩)) rfl rfl (by kernel_rfl) (by kernel_rfl) (by kernel_rfl) (fun _ _ _ h => h) (Or.inl ⟨by rfl, fun w _ => by go_simp⟩) ?_
            simp only [Act.put, List.getElem_toArray, List.getElem_cons_succ, List.getElem_cons_zero, List.setIfInBounds_toArray, List.set_cons_zero, List.set_cons_succ]
            refine wpAnyK_pure (i := 20) (v := .pointer (some ⟨pp, 4, none⟩)) rfl rfl (by kernel_rfl) (by kernel_rfl) (by kernel_rfl) (fun _ _ _ h => h) (Or.inl ⟨by rfl, fun w _ => by go_simp⟩) ?_
            simp only [Act.put, List.getElem_toArray, List.getElem_cons_succ, List.getElem_cons_zero, List.setIfInBounds_toArray, List.set_cons_zero, List.set_cons_succ]
            refine wpAnyK_all (rs := [21]) (by kernel_rfl) (by simp) ?_
            refine List.forall_mem_cons.2 ⟨?_, fun _ h => absurd h (by simp)⟩
            refine wpOp_go rfl ?_
            go_simp
            refine wpAnyK_done (by kernel_rfl) ?_ _
            go_wp2
            go_roundw
            case rel => exact ⟨k + 1, _, _, _, by rw [HLN.out]; omega, by go_num, HIL.out, HF.out⟩
            case measure => simp [intOf]; omega
          · refine wpOp_go rfl ?_
            go_simp
            have N2 := Cells.new ((w4.drew).alloc (.cells #[.pointer (some ⟨pt, 0, none⟩)] 58)) [.pointer (some ⟨po, 0, none⟩)] 39
            rw [World.size_alloc] at N2
            replace N1 := N1.alloc (.cells #[.pointer (some ⟨po, 0, none⟩)] 39)
            have T2 := T1.alloc (.cells #[.pointer (some ⟨po, 0, none⟩)] 39)
            refine ⟨fun _ => T2.cells2 HM.out HP1.out HP2.out, ?_⟩
            refine wpAnyK_all (rs := [8]) (by kernel_rfl) (by simp) ?_
            refine List.forall_mem_cons.2 ⟨?_, fun _ h => absurd h (by simp)⟩
            refine wpOp_go rfl ?_
            refine step_append_lies _ (by rfl) _ _ _ (by rfl) W.heap.size 58 i1 (.pointer none) 1 8 Tryz.underlying42 hi1 zi1 si1 bi1 rfl (by omega) tv k (thrV its) (by rfl) T2.ts ⟨w4.heap.size, 0, none⟩ 1 1 [.pointer (some ⟨pt, 0, none⟩)] (by rfl) (by rfl) (news1 N1) (by intro u hu; simp at hu; subst hu; rfl) (by omega) (by unfold maxLen; omega) (by omega) (Nat.le_trans HWZ4.out T2.kept.size) _ rfl ?_
            intro g1 c1 w1 ho1 hg1 hb1 hl1
            replace N2 := N2.kept (Kept.of_grown hg1) (fun e => absurd (T0.ts.lt _ e.symm).2 (Nat.not_lt.2 (by first | exact Nat.le_refl _ | exact Nat.le_succ _)))
            have T3 := T2.app1 ho1 hg1 hb1
            refine ⟨fun _ => T3.cells2 HM.out HP1.out HP2.out, ?_⟩
            simp only [Act.put, List.getElem_toArray, List.getElem_cons_succ, List.getElem_cons_zero, List.setIfInBounds_toArray, List.set_cons_zero, List.set_cons_succ]
            refine wpAnyK_all (rs := [15]) (by kernel_rfl) (by simp) ?_
            refine List.forall_mem_cons.2 ⟨?_, fun _ h => absurd h (by simp)⟩
            refine wpOp_go rfl ?_
            refine step_append_lies _ (by rfl) _ _ _ (by rfl) W.heap.size 39 i2 (.pointer none) 1 8 Tryz.underlying43 hi2 zi2 si2 bi2 rfl (by omega) ov k (outV its) (by rfl) T3.os ⟨w4.heap.size + 1, 0, none⟩ 1 1 [.pointer (some ⟨po, 0, none⟩)] (by rfl) (by rfl) (news1 N2) (by intro u hu; simp at hu; subst hu; rfl) (by omega) (by unfold maxLen; omega) (by omega) (Nat.le_trans HWZ4.out T3.kept.size) _ rfl ?_
            intro g2 c2 w2 ho2 hg2 hb2 hl2
            have T4 := T3.app2 ho2 hg2 hb2
            refine ⟨fun _ => T4.cells2 HM.out HP1.out HP2.out, ?_⟩
            simp only [Act.put, List.getElem_toArray, List.getElem_cons_succ, List.getElem_cons_zero, List.setIfInBounds_toArray, List.set_cons_zero, List.set_cons_succ]
            obtain ⟨f3, f4⟩ := T4.cells2 HM.out HP1.out HP2.out
            obtain ⟨e3, e4⟩ := T4.frees HM.out HP1.out HP2.out
            have HF := Lib.hid (HADD.out _ _ _ T4)
            refine wpAnyK_pure (i := 16) (v := .pointer (some ⟨pp, 0, none⟩)) rfl rfl (by kernel_rfl) (by kernel_rfl) (by kernel_rfl) (fun _ _ _ h => h) (Or.inl ⟨by rfl, fun w _ => by go_simp⟩) ?_
            simp only [Act.put, List.getElem_toArray, List.getElem_cons_succ, List.getElem_cons_zero, List.setIfInBounds_toArray, List.set_cons_zero, List.set_cons_succ]
            refine wpAnyK_pure (i := 17) (v := .pointer (some ⟨pp, 3, none⟩)) rfl rfl (by kernel_rfl) (by kernel_rfl) (by kernel_rfl) (fun _ _ _ h => h) (Or.inl ⟨by rfl, fun w _ => by go_simp⟩) ?_
            simp only [Act.put, List.getElem_toArray, List.getElem_cons_succ, List.getElem_cons_zero, List.setIfInBounds_toArray, List.set_cons_zero, List.set_cons_succ]
            refine wpAnyK_all (rs := [18]) (by kernel_rfl) (by simp) ?_
            refine List.forall_mem_cons.2 ⟨?_, fun _ h => absurd h (by simp)⟩
            refine wpOp_go rfl ?_
            go_simp
            refine wpAnyK_pure (i := 19) (v := .pointer (some ⟨pp, 0, none⟩)) rfl rfl (by kernel_rfl) (by kernel_rfl) (by kernel_rfl) (fun _ _ _ h => h) (Or.inl ⟨by rfl, fun w _ => by go_simp⟩) ?_
            simp only [Act.put, List.getElem_toArray, List.getElem_cons_succ, List.getElem_cons_zero, List.setIfInBounds_toArray, List.set_cons_zero, List.set_cons_succ]
            refine wpAnyK_pure (i := 20) (v := .pointer (some ⟨pp, 4, none⟩)) rfl rfl (by kernel_rfl) (by kernel_rfl) (by kernel_rfl) (fun _ _ _ h => h) (Or.inl ⟨by rfl, fun w _ => by go_simp⟩) ?_
            simp only [Act.put, List.getElem_toArray, List.getElem_cons_succ, List.getElem_cons_zero, List.setIfInBounds_toArray, List.set_cons_zero, List.set_cons_succ]
            refine wpAnyK_all (rs := [21]) (by kernel_rfl) (by simp) ?_
            refine List.forall_mem_cons.2 ⟨?_, fun _ h => absurd h (by simp)⟩
            refine wpOp_go rfl ?_
            go_simp
            refine wpAnyK_done (by kernel_rfl) ?_ _
            go_wp2
            go_roundw
            case rel => exact ⟨k + 1, _, _, _, by rw [HLN.out]; omega, by go_num, HIL.out, HF.out⟩
            case measure => simp [intOf]; omega
        · refine wpOp_go rfl ?_
          go_simp
          have N2 := Cells.new (w4.drew) [.pointer (some ⟨po, 0, none⟩)] 39
          have T1 := T0.alloc (.cells #[.pointer (some ⟨po, 0, none⟩)] 39)
          refine ⟨fun _ => T1.cells2 HM.out HP1.out HP2.out, ?_⟩
          refine wpAnyK_all (rs := [7]) (by kernel_rfl) (by simp) ?_
          refine List.forall_mem_cons.2 ⟨?_, fun _ h => absurd h (by simp)⟩
          refine wpOp_go rfl ?_
          go_simp
          have N1 := Cells.new ((w4.drew).alloc (.cells #[.pointer (some ⟨po, 0, none⟩)] 39)) [.pointer (some ⟨pt, 0, none⟩)] 58
          rw [World.size_alloc] at N1
          replace N2 := N2.alloc (.cells #[.pointer (some ⟨pt, 0, none⟩)] 58)
          have T2 := T1.alloc (.cells #[.pointer (some ⟨pt, 0, none⟩)] 58)
          refine ⟨fun _ => T2.cells2 HM.out HP1.out HP2.out, ?_⟩
          refine wpAnyK_all (rs := [8]) (by kernel_rfl) (by simp) ?_
          refine List.forall_mem_cons.2 ⟨?_, fun _ h => absurd h (by simp)⟩
          refine wpOp_go rfl ?_
          refine step_append_lies _ (by rfl) _ _ _ (by rfl) W.heap.size 58 i1 (.pointer none) 1 8 Tryz.underlying42 hi1 zi1 si1 bi1 rfl (by omega) tv k (thrV its) (by rfl) T2.ts ⟨w4.heap.size + 1, 0, none⟩ 1 1 [.pointer (some ⟨pt, 0, none⟩)] (by rfl) (by rfl) (news1 N1) (by intro u hu; simp at hu; subst hu; rfl) (by omega) (by unfold maxLen; omega) (by omega) (Nat.le_trans HWZ4.out T2.kept.size) _ rfl ?_
          intro g1 c1 w1 ho1 hg1 hb1 hl1
          replace N2 := N2.kept (Kept.of_grown hg1) (fun e => absurd (T0.ts.lt _ e.symm).2 (Nat.not_lt.2 (by first | exact Nat.le_refl _ | exact Nat.le_succ _)))
          have T3 := T2.app1 ho1 hg1 hb1
          refine ⟨fun _ => T3.cells2 HM.out HP1.out HP2.out, ?_⟩
          simp only [Act.put, List.getElem_toArray, List.getElem_cons_succ, List.getElem_cons_zero, List.setIfInBounds_toArray, List.set_cons_zero, List.set_cons_succ]
          refine wpAnyK_all (rs := [15]) (by kernel_rfl) (by simp) ?_
          refine List.forall_mem_cons.2 ⟨?_, fun _ h => absurd h (by simp)⟩
          refine wpOp_go rfl ?_
          refine step_append_lies _ (by rfl) _ _ _ (by rfl) W.heap.size 39 i2 (.pointer none) 1 8 Tryz.underlying43 hi2 zi2 si2 bi2 rfl (by omega) ov k (outV its) (by rfl) T3.os ⟨w4.heap.size, 0, none⟩ 1 1 [.pointer (some ⟨po, 0, none⟩)] (by rfl) (by rfl) (news1 N2) (by intro u hu; simp at hu; subst hu; rfl) (by omega) (by unfold maxLen; omega) (by omega) (Nat.le_trans HWZ4.out T3.kept.size) _ rfl ?_
          intro g2 c2 w2 ho2 hg2 hb2 hl2
          have T4 := T3.app2 ho2 hg2 hb2
          refine ⟨fun _ => T4.cells2 HM.out HP1.out HP2.out, ?_⟩
          simp only [Act.put, List.getElem_toArray, List.getElem_cons_succ, List.getElem_cons_zero, List.setIfInBounds_toArray, List.set_cons_zero, List.set_cons_succ]
          obtain ⟨f3, f4⟩ := T4.cells2 HM.out HP1.out HP2.out
          obtain ⟨e3, e4⟩ := T4.frees HM.out HP1.out HP2.out
          have HF := Lib.hid (HADD.out _ _ _ T4)
          refine wpAnyK_pure (i := 16) (v := .pointer (some ⟨pp, 0, none⟩)) rfl rfl (by kernel_rfl) (by kernel_rfl) (by kernel_rfl) (fun _ _ _ h => h) (Or.inl ⟨by rfl, fun w _ => by go_simp⟩) ?_
          simp only [Act.put, List.getElem_toArray, List.getElem_cons_succ, List.getElem_cons_zero, List.setIfInBounds_toArray, List.set_cons_zero, List.set_cons_succ]
          refine wpAnyK_pure (i := 17) (v := .pointer (some ⟨pp, 3, none⟩)) rfl rfl (by kernel_rfl) (by kernel_rfl) (by kernel_rfl) (fun _ _ _ h => h) (Or.inl ⟨by rfl, fun w _ => by go_simp⟩) ?_
          simp only [Act.put, List.getElem_toArray, List.getElem_cons_succ, List.getElem_cons_zero, List.setIfInBounds_toArray, List.set_cons_zero, List.set_cons_succ]
          refine wpAnyK_all (rs := [18]) (by kernel_rfl) (by simp) ?_
          refine List.forall_mem_cons.2 ⟨?_, fun _ h => absurd h (by simp)⟩
          refine wpOp_go rfl ?_
          go_simp
          refine wpAnyK_pure (i := 19) (v := .pointer (some ⟨pp, 0, none⟩)) rfl rfl (by kernel_rfl) (by kernel_rfl) (by kernel_rfl) (fun _ _ _ h => h) (Or.inl ⟨by rfl, fun w _ => by go_simp⟩) ?_
          simp only [Act.put, List.getElem_toArray, List.getElem_cons_succ, List.getElem_cons_zero, List.setIfInBounds_toArray, List.set_cons_zero, List.set_cons_succ]
          refine wpAnyK_pure (i := 20) (v := .pointer (some ⟨pp, 4, none⟩)) rfl rfl (by kernel_rfl) (by kernel_rfl) (by kernel_rfl) (fun _ _ _ h => h) (Or.inl ⟨by rfl, fun w _ => by go_simp⟩) ?_
          simp only [Act.put, List.getElem_toArray, List.getElem_cons_succ, List.getElem_cons_zero, List.setIfInBounds_toArray, List.set_cons_zero, List.set_cons_succ]
          refine wpAnyK_all (rs := [21]) (by kernel_rfl) (by simp) ?_
          refine List.forall_mem_cons.2 ⟨?_, fun _ h => absurd h (by simp)⟩
          refine wpOp_go rfl ?_
          go_simp
          refine wpAnyK_done (by kernel_rfl) ?_ _
          go_wp2
          go_roundw
          case rel => exact ⟨k + 1, _, _, _, by rw [HLN.out]; omega, by go_num, HIL.out, HF.out⟩
          case measure => simp [intOf]; omega
        -- GENEND
      · obtain rfl : k = len := by omega
        have g3 : decide ((k : Int) < (k : Int)) = false := by simp
        have HP := Lib.hid hp; have HIK := Lib.hid hik
        clear hp hik
        go_wp2
        go_ret
        exact ⟨pa, pb, pp, gc, _, bv, ev, tv, ov, its, rfl, by rw [HXE.out]; exact HP.out, HIK.out, ownsRow_heldBy HZB.out HHX.out (fun b hb => by rw [← HXE.out]; simp [hb]), ownsRow_heldBy HZE.out HHX.out (fun b hb => by rw [← HXE.out]; simp [hb])⟩
end Go.Proofs.YtmdganpealbmpaaGreatDoor
