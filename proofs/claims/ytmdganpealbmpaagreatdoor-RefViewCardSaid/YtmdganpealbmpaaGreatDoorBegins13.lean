/- Begins13: AnyK, Begins13. -/
import Derived.OrdersHeld
import Derived.Deep.RegionHeld3
import Derived.Test.YtmdganpealbmpaaGreatDoorPlay13
import Derived.Deep.AppendLies

/- A region that draws its order, in which some operations come late: what is loaded ahead of them need hold only till then. No program stands here. -/
namespace Go.Proofs.YtmdganpealbmpaaGreatDoor
open Go

section
variable {P : Program} {ops : Array Oper} {Q : Exit → Act → World → Prop} {md : Region.Mode} {S : World → Prop} {D : Nat → Bool}

/-- Whatever order is picked from here on, and S holds behind every operation that is not late. -/
def wpAnyK (P : Program) (md : Region.Mode) (ops : Array Oper) (Q : Exit → Act → World → Prop) (S : World → Prop) (D : Nat → Bool) : Nat → Array Bool → Act → World → Prop
  | 0, listed, a, w => Region.ready md ops listed = [] ∧ Q .normal a w
  | fuel + 1, listed, a, w =>
    (Region.ready md ops listed = [] → Q .normal a w) ∧
    ∀ i ∈ Region.ready md ops listed, wpOp P ops Q i (fun a' w' => (D i = false → S w') ∧ wpAnyK P md ops Q S D fuel (listed.setIfInBounds i true) a' w') a w
theorem wpAny_of_k : ∀ (fuel : Nat) (listed : Array Bool) (a : Act) (w : World), wpAnyK P md ops Q S D fuel listed a w → wpAny P md ops Q fuel listed a w
  | 0, _, _, _, h => h
  | fuel + 1, _, _, _, h => ⟨h.1, fun i hi => wpOp_mono (fun a' w' h' => wpAny_of_k fuel _ a' w' h'.2) (h.2 i hi)⟩
/-- Every late operation that has not come up waits for number i. -/
def lateWait (md : Region.Mode) (ops : Array Oper) (D : Nat → Bool) (listed : Array Bool) (i : Nat) : Bool :=
  (List.range ops.size).all fun j => !D j || listed.getD j true || ((ops[j]?).map (·.after.any fun e => Region.binds md e && e.on == i)).getD true
theorem lateWait_spec {i : Nat} {listed : Array Bool} (h : lateWait md ops D listed i = true) : ∀ (j : Nat) oj, ops[j]? = some oj → D j = true → listed.getD j true = false → ∃ e ∈ oj.after, Region.binds md e = true ∧ e.on = i := by
  intro j oj hj hD hl
  have hlt : j < ops.size := by
    rcases Nat.lt_or_ge j ops.size with q | q
    · exact q
    · rw [Array.getElem?_eq_none q] at hj; cases hj
  have h1 := List.all_eq_true.1 h j (List.mem_range.2 hlt)
  rw [hj, hD, hl] at h1
  simp only [Bool.not_true, Bool.false_or, Option.map_some, Option.getD_some] at h1
  obtain ⟨e, he, hq⟩ := Array.any_eq_true'.1 h1
  simp only [Bool.and_eq_true, beq_iff_eq] at hq
  exact ⟨e, he, hq⟩
theorem wpAnyK_first {S0 : World → Prop} {i : Nat} {oi : Oper} {v : Value} (hi : ops[i]? = some oi) (hsel : ∀ (j : Nat) (o : Oper) cs b, ops[j]? = some o → o.op ≠ .select cs b)
    (hQ : ∀ c a w, Q (.panic c) (a.put oi.dst v) w → Q (.panic c) a w) :
    ∀ (fuel : Nat) (listed : Array Bool) (a : Act) (w : World),
      (∀ j oj, ops[j]? = some oj → j ≠ i → listed.getD j true = false → (∀ e ∈ oj.after, Region.binds md e = true → e.on ≠ i) → oi.apart ops oj = true) →
      (∀ (j : Nat) oj w', ops[j]? = some oj → listed.getD j true = false → (∀ e ∈ oj.after, Region.binds md e = true → e.on ≠ i) → (D j = false → S w') → S0 w' ∧ (D i = false → S w')) →
      i ∈ Region.ready md ops listed → YieldsIf P ops S0 oi v a → S0 w → (D i = false → S w) →
      wpAnyK P md ops Q S D fuel (listed.setIfInBounds i true) (a.put oi.dst v) w → wpAnyK P md ops Q S D (fuel + 1) listed a w := by
  intro fuel
  induction fuel with
  | zero =>
    intro listed a w _ _ hr hy hS hSi H
    refine ⟨fun h => (by rw [h] at hr; cases hr), fun j hj => ?_⟩
    by_cases hji : j = i
    · subst hji; exact hy.wpOp hi hS ⟨hSi, H⟩
    · have := ready_mono hj hji
      rw [H.1] at this
      cases this
  | succ fuel ih =>
    intro listed a w hfree hlate hr hy hS hSi H
    refine ⟨fun h => (by rw [h] at hr; cases hr), fun j hj => ?_⟩
    by_cases hji : j = i
    · subst hji; exact hy.wpOp hi hS ⟨hSi, H⟩
    · have h1 := H.2 j (ready_mono hj hji)
      obtain ⟨hjun, oj, hoj, hall⟩ := mem_ready.1 hj
      have hnot : ∀ e ∈ oj.after, Region.binds md e = true → e.on ≠ i := fun e he hb heq => by
        have h1 := hall e he hb
        have h0 := (mem_ready.1 hr).1
        rw [heq] at h1
        rcases Nat.lt_or_ge i listed.size with h' | h'
        · simp [h'] at h0 h1; rw [h0] at h1; cases h1
        · simp [Array.getElem?_eq_none h'] at h1
      have h2 := wpOp_putIf hoj (hfree j oj hoj hji hjun hnot) (fun cs b => hsel i oi cs b hi) (fun cs b => hsel j oj cs b hoj) hQ hy h1
      have grow : ∀ k : Nat, (listed.setIfInBounds j true).getD k true = false → listed.getD k true = false := fun k hun => by
        by_cases hjk : j = k
        · subst hjk; exact hjun
        · rw [getD_set_ne true hjk] at hun; exact hun
      refine wpOp_mono (fun a' w' h3 => ⟨h3.2.1, ?_⟩) h2
      obtain ⟨s1, s2⟩ := hlate j oj w' hoj hjun hnot h3.2.1
      refine ih (listed.setIfInBounds j true) a' w' (fun k ok hk hki hun hno => hfree k ok hk hki (grow k hun) hno) (fun k ok w'' hk hun hno hs => hlate k ok w'' hk (grow k hun) hno hs) (ready_mono hr (Ne.symm hji)) h3.1 s1 s2 ?_
      rw [Array.setIfInBounds_comm _ _ hji]
      exact h3.2.2
/-- Take number i first: it yields v in every world that meets S, and what comes late waits for it. -/
theorem wpAnyK_take {i : Nat} {oi : Oper} {v : Value} {fuel : Nat} {listed : Array Bool} {a : Act} {w : World} (hi : ops[i]? = some oi)
    (hs : Region.noSelect ops = true) (hf : Region.free md ops listed i = true) (hr : (Region.ready md ops listed).contains i = true) (hl : lateWait md ops D listed i = true)
    (hQ : ∀ c a w, Q (.panic c) (a.put oi.dst v) w → Q (.panic c) a w) (hy : YieldsIf P ops S oi v a) (hS : S w)
    (h : wpAnyK P md ops Q S D fuel (listed.setIfInBounds i true) (a.put oi.dst v) w) : wpAnyK P md ops Q S D (fuel + 1) listed a w :=
  wpAnyK_first (S0 := S) hi (Region.noSelect_spec hs) hQ fuel listed a w (Region.free_spec hi hf) (fun j oj w' hj hun hno hw => by
    have : S w' := by
      cases e : D j with
      | false => exact hw e
      | true =>
        obtain ⟨x, hx, hb, hon⟩ := lateWait_spec hl j oj hj e hun
        exact absurd hon (hno x hx hb)
    exact ⟨this, fun _ => this⟩) (by simpa using hr) hy hS (fun _ => hS) h
/-- Take number i first, that is late: it yields v in every world. -/
theorem wpAnyK_pure {i : Nat} {oi : Oper} {v : Value} {fuel : Nat} {listed : Array Bool} {a : Act} {w : World} (hi : ops[i]? = some oi) (hD : D i = true)
    (hs : Region.noSelect ops = true) (hf : Region.free md ops listed i = true) (hr : (Region.ready md ops listed).contains i = true)
    (hQ : ∀ c a w, Q (.panic c) (a.put oi.dst v) w → Q (.panic c) a w) (hy : YieldsIf P ops (fun _ => True) oi v a)
    (h : wpAnyK P md ops Q S D fuel (listed.setIfInBounds i true) (a.put oi.dst v) w) : wpAnyK P md ops Q S D (fuel + 1) listed a w :=
  wpAnyK_first (S0 := fun _ => True) hi (Region.noSelect_spec hs) hQ fuel listed a w (Region.free_spec hi hf) (fun _ _ _ _ _ _ _ => ⟨trivial, fun q => by rw [hD] at q; cases q⟩) (by simpa using hr) hy trivial (fun q => by rw [hD] at q; cases q) h
/-- Whichever of those that may come up comes up. -/
theorem wpAnyK_all {rs : List Nat} {fuel : Nat} {listed : Array Bool} {a : Act} {w : World} (hr : Region.ready md ops listed = rs) (hne : rs ≠ [])
    (h : ∀ i ∈ rs, wpOp P ops Q i (fun a' w' => (D i = false → S w') ∧ wpAnyK P md ops Q S D fuel (listed.setIfInBounds i true) a' w') a w) : wpAnyK P md ops Q S D (fuel + 1) listed a w :=
  ⟨fun h0 => absurd (hr ▸ h0) hne, hr ▸ h⟩
/-- One of those. -/
theorem wpOp_go {i : Nat} {o : Oper} {a : Act} {w : World} {K : Act → World → Prop} (ho : ops[i]? = some o) (h : if Region.wanted o (yielded ops a.tmps) = true then Oper.wp P o a w K Q else K (a.put o.dst undef) w) : wpOp P ops Q i K a w := by
  unfold wpOp
  rw [ho]
  simp only
  split at h
  · rename_i q
    rw [if_pos q]
    exact .inl h
  · rename_i q
    rw [if_neg q]
    exact h
theorem wpAnyK_done {listed : Array Bool} {a : Act} {w : World} (hr : Region.ready md ops listed = []) (h : Q .normal a w) :
    ∀ fuel, wpAnyK P md ops Q S D fuel listed a w
  | 0 => ⟨hr, h⟩
  | _ + 1 => ⟨fun _ => h, by rw [hr]; simp⟩
/-- The beginning. -/
theorem wp_region_k {id : Nat} {a : Act} {w : World} (hm : P.follows .mixedOrders = true)
    (h : wpAnyK P .any ops Q S D ops.size (Array.replicate ops.size false) a w.drew) : (Code.region id ops true).wp P Q a w :=
  wp_region_any hm (wpAny_of_k _ _ _ _ h)
end
end Go.Proofs.YtmdganpealbmpaaGreatDoor

/- RefAlone: few, begins. -/
namespace Go.Proofs.YtmdganpealbmpaaGreatDoor
open Go.RowKit Bl Th
set_option maxRecDepth 10000

theorem opss_at {W w : World} {p : Option Addr} {m cap : Nat} {L : List (List Op13)} (h : OpssAt W (.slice p m cap) L) (hb : Below W.heap.size W w) {k : Nat} {l : List Op13} (hk : L[k]? = some l) :
    ∃ g o q c, p = some ⟨g, o, none⟩ ∧ w.cell? ⟨g, o + k, none⟩ = some (.slice q l.length c) ∧ OpsAt W (.slice q l.length c) l := by
  obtain ⟨p', cap', hv, -, hp⟩ := h
  simp only [Value.slice.injEq] at hv
  obtain ⟨rfl, -, rfl⟩ := hv
  obtain ⟨g, o, hg, hc⟩ := hp (fun e => by simp [e] at hk)
  obtain ⟨vk, h1, h2⟩ := hc k l hk
  obtain ⟨⟨q, c, hv⟩, -⟩ := id h2
  subst hv
  exact ⟨g, o, q, c, hg, (hb.cell (p := ⟨g, o + k, none⟩) (World.block_lt_of_cell? W _ h1)).trans h1, h2⟩
def fewB (L : List (List Op13)) : Bool := L.all (fun l => decide (l.length ≤ 10)) && (decide (1 ≤ L.length) && decide (L.length ≤ 4))
set_option maxHeartbeats 1000000 in
theorem few13_ok {W : World} {v : Value} {L : List (List Op13)} (h : OpssAt W v L) : Calls Tryz.prog 7 #[v] W fun e w' => e = .returned (.bool (fewB L)) ∧ W = w' := by
  obtain ⟨p, cap, hv, hm, -⟩ := id h
  subst hv
  obtain ⟨len, hlen⟩ : ∃ len, L.length = len := ⟨_, rfl⟩
  rw [hlen] at h hm ⊢
  unfold maxLen at hm
  have HL := Lib.hid hlen; have H := Lib.hid h
  clear hlen h
  go_enter Tryz.func7, Tryz.ntmps7
  go_wp2
  go_loopw [6] (fun i wr => ∃ k : Nat, k ≤ len ∧ i = .int .i64 (k : Int) ∧ (L.take k).all (fun l => decide (l.length ≤ 10)) = true ∧ wr = W) (fun i _ => len - (intOf i).toNat)
  case atStart => exact ⟨0, Nat.zero_le _, rfl, rfl, rfl⟩
  case round =>
    obtain ⟨k, hk, rfl, ha, rfl⟩ := hrel
    by_cases hlt : k < len
    · have hlt' : (k : Int) < (len : Int) := by omega
      obtain ⟨l, hx⟩ : ∃ l, L[k]? = some l := ⟨L[k]'(by rw [HL.out]; exact hlt), List.getElem?_eq_getElem _⟩
      obtain ⟨g, o, q, c, rfl, hcell, hops⟩ := opss_at H.out (Below.refl _ _) hx
      have hll : l.length ≤ maxLen := hops.2.1
      obtain ⟨ll, hle⟩ : ∃ ll, l.length = ll := ⟨_, rfl⟩
      have HX := Lib.hid hx; have HLE := Lib.hid hle; have HA := Lib.hid ha
      rw [hle] at hcell
      clear hx hle ha hops hll
      by_cases h10 : ll ≤ 10
      · have g1 : decide (10 < (ll : Int)) = false := by simp; omega
        have HR := Lib.hid (show (L.take (k + 1)).all (fun l => decide (l.length ≤ 10)) = true by
          rw [List.take_add_one, HX.out, List.all_append, HA.out]
          simp [HLE.out, h10])
        go_wp2
        go_roundw
        case rel => exact ⟨k + 1, by omega, by go_num, HR.out, trivial⟩
        case measure => simp [intOf]; omega
      · have g1 : decide (10 < (ll : Int)) = true := by simp; omega
        have HR := Lib.hid (show fewB L = false by
          unfold fewB
          have : L.all (fun l => decide (l.length ≤ 10)) = false := by
            rw [List.all_eq_false]
            exact ⟨l, List.mem_of_getElem? HX.out, by simp [HLE.out]; omega⟩
          rw [this]
          rfl)
        go_wp2
        go_ret
        exact ⟨by rw [HR.out]; rfl, rfl⟩
    · obtain rfl : k = len := by omega
      have g3 : decide ((k : Int) < (k : Int)) = false := by simp
      have HR := Lib.hid (show fewB L = (decide (1 ≤ k) && decide (k ≤ 4)) by
        rw [← HL.out, List.take_length] at ha
        unfold fewB
        rw [ha, HL.out]
        rfl)
      clear ha
      by_cases h1 : 1 ≤ k
      · have g4 : decide (1 ≤ (k : Int)) = true := by simp; omega
        by_cases h2 : k ≤ 4
        · have g5 : decide ((k : Int) ≤ 4) = true := by simp; omega
          go_wp2
          go_ret
          exact ⟨by rw [HR.out]; simp [h1, h2], rfl⟩
        · have g5 : decide ((k : Int) ≤ 4) = false := by simp; omega
          go_wp2
          go_ret
          exact ⟨by rw [HR.out]; simp [h2], rfl⟩
      · have g4 : decide (1 ≤ (k : Int)) = false := by simp; omega
        go_wp2
        go_ret
        exact ⟨by rw [HR.out]; simp [h1], rfl⟩

/-! Two rows that grow, one beside the other. -/
structure Two (base : Nat) (w : World) (tv ov tv' ov' : Value) (m1 m2 : Nat) (xs ys : List Value) (wr : World) : Prop where
  kept : Kept (fun b => b ∈ tv.ownBlock.toList ∨ b ∈ ov.ownBlock.toList) w wr
  ts : wr.ownsRow base 58 1 tv' m1 xs
  os : wr.ownsRow base 39 1 ov' m2 ys
  n1 : ∀ b ∈ tv'.ownBlock.toList, b ∈ tv.ownBlock.toList ∨ w.heap.size ≤ b
  n2 : ∀ b ∈ ov'.ownBlock.toList, b ∈ ov.ownBlock.toList ∨ w.heap.size ≤ b
  ap : ∀ b ∈ tv'.ownBlock.toList, b ∉ ov'.ownBlock.toList
section
variable {base : Nat} {w wr w' : World} {tv ov tv' ov' : Value} {m1 m2 : Nat} {xs ys : List Value}
theorem Two.start (h1 : w.ownsRow base 58 1 tv m1 xs) (h2 : w.ownsRow base 39 1 ov m2 ys) (ap : ∀ b ∈ tv.ownBlock.toList, b ∉ ov.ownBlock.toList) : Two base w tv ov tv ov m1 m2 xs ys w.drew :=
  ⟨(Kept.refl _ _).drew, h1, h2, fun _ h => .inl h, fun _ h => .inl h, ap⟩
theorem Two.alloc (h : Two base w tv ov tv' ov' m1 m2 xs ys wr) (o : Obj) : Two base w tv ov tv' ov' m1 m2 xs ys (wr.alloc o) := ⟨h.kept.alloc o, h.ts.alloc o, h.os.alloc o, h.n1, h.n2, h.ap⟩
theorem Two.app1 (h : Two base w tv ov tv' ov' m1 m2 xs ys wr) {g n c : Nat} {xs' : List Value} (ho : w'.ownsRow base 58 1 (.slice (some ⟨g, 0, none⟩) n c) n xs') (hg : wr.grownBy w' tv'.ownBlock) (hb : tv'.ownBlock = some g ∨ g = wr.heap.size) : Two base w tv ov (.slice (some ⟨g, 0, none⟩) n c) ov' n m2 xs' ys w' := by
  have hz := h.kept.size
  refine ⟨h.kept.then (Kept.of_grown hg) fun i hi e => ?_, ho, h.os.kept hg ?_, fun b hb' => ?_, h.n2, fun b hb' hm => ?_⟩
  · rcases h.n1 i (by rw [← e]; simp) with q | q
    · exact .inl q
    · omega
  · cases ho' : ov'.ownBlock with
    | none => exact .inl rfl
    | some b => exact .inr fun e => h.ap b (by rw [← e]; simp) (by rw [ho']; simp)
  · obtain rfl : b = g := by simpa [Value.ownBlock] using hb'
    rcases hb with q | q
    · exact h.n1 b (by rw [q]; simp)
    · right; omega
  · obtain rfl : b = g := by simpa [Value.ownBlock] using hb'
    rcases hb with q | q
    · exact h.ap b (by rw [q]; simp) hm
    · have := (h.os.lt b (by simpa using hm)).2
      omega
theorem Two.app2 (h : Two base w tv ov tv' ov' m1 m2 xs ys wr) {g n c : Nat} {ys' : List Value} (ho : w'.ownsRow base 39 1 (.slice (some ⟨g, 0, none⟩) n c) n ys') (hg : wr.grownBy w' ov'.ownBlock) (hb : ov'.ownBlock = some g ∨ g = wr.heap.size) : Two base w tv ov tv' (.slice (some ⟨g, 0, none⟩) n c) m1 n xs ys' w' := by
  have hz := h.kept.size
  refine ⟨h.kept.then (Kept.of_grown hg) fun i hi e => ?_, h.ts.kept hg ?_, ho, h.n1, fun b hb' => ?_, fun b hb' hm => ?_⟩
  · rcases h.n2 i (by rw [← e]; simp) with q | q
    · exact .inr q
    · omega
  · cases ho' : tv'.ownBlock with
    | none => exact .inl rfl
    | some b => exact .inr fun e => h.ap b (by rw [ho']; simp) (by rw [← e]; simp)
  · obtain rfl : b = g := by simpa [Value.ownBlock] using hb'
    rcases hb with q | q
    · exact h.n2 b (by rw [q]; simp)
    · right; omega
  · obtain rfl : b = g := by simpa [Value.ownBlock] using hm
    rcases hb with q | q
    · exact h.ap b hb' (by rw [q]; simp)
    · have := (h.ts.lt b (by simpa using hb')).2
      omega
theorem Two.main (h : Two base w tv ov tv' ov' m1 m2 xs ys wr) {pp : Nat} {cs : List Value} {t : TypeId} (hm : Cells w pp cs t) (p1 : pp ∉ tv.ownBlock.toList) (p2 : pp ∉ ov.ownBlock.toList) : Cells wr pp cs t :=
  hm.kept h.kept (fun q => q.elim p1 p2)
variable {pp : Nat} {x0 x1 x2 x5 x6 x7 x8 : Value} {t : TypeId}
theorem Two.cells2 (h : Two base w tv ov tv' ov' m1 m2 xs ys wr) (hm : Cells w pp [x0, x1, x2, tv, ov, x5, x6, x7, x8] t) (p1 : pp ∉ tv.ownBlock.toList) (p2 : pp ∉ ov.ownBlock.toList) : wr.cell? ⟨pp, 3, none⟩ = some tv ∧ wr.cell? ⟨pp, 4, none⟩ = some ov :=
  ⟨(h.main hm p1 p2).cell 3, (h.main hm p1 p2).cell 4⟩
theorem Two.frees (h : Two base w tv ov tv' ov' m1 m2 xs ys wr) (hm : Cells w pp [x0, x1, x2, tv, ov, x5, x6, x7, x8] t) (p1 : pp ∉ tv.ownBlock.toList) (p2 : pp ∉ ov.ownBlock.toList) : wr.frozen? ⟨pp, 3, none⟩ = false ∧ wr.frozen? ⟨pp, 4, none⟩ = false :=
  ⟨(h.main hm p1 p2).free 3, (h.main hm p1 p2).free 4⟩
theorem Two.set (h : Two base w tv ov tv' ov' m1 m2 xs ys wr) (hm : Cells w pp [x0, x1, x2, tv, ov, x5, x6, x7, x8] t) (p1 : pp ∉ tv.ownBlock.toList) (p2 : pp ∉ ov.ownBlock.toList) :
    Kept (fun b => b = pp ∨ b ∈ tv.ownBlock.toList ∨ b ∈ ov.ownBlock.toList) w ((wr.setCell ⟨pp, 3, none⟩ tv').setCell ⟨pp, 4, none⟩ ov') ∧ Cells ((wr.setCell ⟨pp, 3, none⟩ tv').setCell ⟨pp, 4, none⟩ ov') pp [x0, x1, x2, tv', ov', x5, x6, x7, x8] t ∧
    ((wr.setCell ⟨pp, 3, none⟩ tv').setCell ⟨pp, 4, none⟩ ov').ownsRow base 58 1 tv' m1 xs ∧ ((wr.setCell ⟨pp, 3, none⟩ tv').setCell ⟨pp, 4, none⟩ ov').ownsRow base 39 1 ov' m2 ys := by
  have hlt := hm.lt
  have k : Kept (fun b => b = pp) wr ((wr.setCell ⟨pp, 3, none⟩ tv').setCell ⟨pp, 4, none⟩ ov') := ((Kept.refl (fun b => b = pp) wr).setCell (p := ⟨pp, 3, none⟩) (fun _ => rfl) tv').setCell (p := ⟨pp, 4, none⟩) (fun _ => rfl) ov'
  refine ⟨(h.kept.mono fun b _ q => .inr q).then k fun i _ e => .inl e, ((h.main hm p1 p2).set 3 tv').set 4 ov', ownsRow_kept h.ts k fun b hb e => ?_, ownsRow_kept h.os k fun b hb e => ?_⟩
  · subst e
    rcases h.n1 b (by rw [hb]; simp) with q | q
    · exact p1 q
    · omega
  · subst e
    rcases h.n2 b (by rw [hb]; simp) with q | q
    · exact p2 q
    · omega
end
theorem news1 {w : World} {b : Nat} {x : Value} {t : TypeId} (h : Cells w b [x] t) : ∀ j u, [x][j]? = some u → w.cell? ((⟨b, 0, none⟩ : Addr).add j) = some u := by
  intro j u hj
  have h1 := h.cell j
  rw [hj] at h1
  rw [← h1]
  congr 1
  unfold Addr.add
  split <;> simp_all
theorem run_makeI {n : Nat} (h1 : 1 ≤ n) (h4 : n ≤ 4) (w : World) : (Instr.makeSlice 23 (.int .i64 (n : Int)) (.int .i64 (n : Int))).run Tryz.prog w = .ok (.slice (some ⟨w.heap.size, 0, none⟩) n n) (w.alloc (.cells (Array.replicate n (.int .i64 0)) 3)) := by
  rcases (by omega : n = 1 ∨ n = 2 ∨ n = 3 ∨ n = 4) with rfl | rfl | rfl | rfl
  all_goals kernel_rfl
theorem few_all {L : List (List Op13)} (h : fewB L = true) : (∀ l ∈ L, l.length ≤ 10) ∧ 1 ≤ L.length ∧ L.length ≤ 4 := by
  unfold fewB at h
  simp only [Bool.and_eq_true, List.all_eq_true, decide_eq_true_eq] at h
  exact h
/-- Nothing has come as yet. -/
theorem PlayAt.init {W w1 w5 : World} {pa pb pp g : Nat} {cells : List Nat} {L : List (List Op13)} {lv bv ev : Value} {S : BS} (hh : Held W [g] pa pb S w1) (ha : Cells w1 g (cells.map fun x : Nat => .int .u64 (x : Int)) 41) (hb : Below w1.heap.size w1 w5) (h1 : w1.heap.size ≤ pp) (h2 : pp < w5.heap.size)
    (hm : Cells w5 pp [.pointer (some ⟨pb, 0, none⟩), .int .u64 1, .slice (some ⟨g, 0, none⟩) cells.length cells.length, .slice none 0 0, .slice none 0 0, lv, bv, ev, .int .i64 0] 45) :
    PlayAt W [] pa pb pp g cells L lv bv ev (.slice none 0 0) (.slice none 0 0) [] 0 S w5 := by
  have hg := ha.lt
  refine ⟨hh.came hb [pp] (by simp; omega), ?_, Nat.le_trans hh.below.size h1, hm, ha.heldBy (HeldBy.of_below hb hh.held) (by simp), World.ownsRow_nil _ _ _ _, World.ownsRow_nil _ _ _ _, fun k t _ h => by simp at h⟩
  simp [playR, flat, Value.ownBlock]
  omega
theorem PlayAt.apart {W : World} {X : List Nat} {pa pb pp g : Nat} {cells : List Nat} {L : List (List Op13)} {lv bv ev tv ov : Value} {its : List It} {k0 : Nat} {S : BS} {w : World} (h : PlayAt W X pa pb pp g cells L lv bv ev tv ov its k0 S w) : pp ∉ tv.ownBlock.toList ∧ pp ∉ ov.ownBlock.toList ∧ ∀ b ∈ tv.ownBlock.toList, b ∉ ov.ownBlock.toList := by
  have hnd := h.nd
  simp only [playR, List.nodup_append, List.nodup_cons, List.mem_cons, List.mem_append, not_or] at hnd
  obtain ⟨d0, ⟨⟨p1, p2, p3, p4⟩, ⟨g1, g2, g3⟩, d1, ⟨d2, d3, d23⟩, d4⟩, d5⟩ := hnd
  exact ⟨p2, p3, fun b h1 h2 => d4 b h1 b (.inl h2) rfl⟩
/-- What holds at each round's head. -/
def BegJ (W : World) (pa pb pp g n : Nat) (L : List (List Op13)) (lv bv ev : Value) (i : Value) (wr : World) : Prop :=
  ∃ (k : Nat) (its : List It) (tv ov : Value), k ≤ L.length ∧ i = .int .i64 (k : Int) ∧ its.length = k ∧ PlayAt W [] pa pb pp g (sceneCells n) L lv bv ev tv ov its 0 (sceneS n) wr
theorem len_scene (n : Nat) : (sceneCells n).length = n := by simp [sceneCells]
set_option maxHeartbeats 8000000 in
theorem begins13_ok {W : World} (hT : Handle W) {v : Value} {L : List (List Op13)} (h : OpssAt W v L) (hf : fewB L = true) {n : Nat} (h1 : 1 ≤ n) (h3 : n ≤ 3) :
    Calls Tryz.prog 9 #[v, .int .i64 (n : Int)] W fun e w' => ∃ pa pb pp g lv bv ev tv ov its, e = .returned (.pointer (some ⟨pp, 0, none⟩)) ∧ PlayAt W [] pa pb pp g (sceneCells n) L lv bv ev tv ov its 0 (sceneS n) w' ∧ its.length = L.length := by
  obtain ⟨hall, hl1, hl4⟩ := few_all hf
  obtain ⟨i1, hi1, zi1, si1, bi1⟩ := info_parts (show (Tryz.prog.info? 58).map (fun i => (i.zero, i.size, i.bytes)) = some (some (.pointer none), 1, 8) by kernel_rfl)
  obtain ⟨i2, hi2, zi2, si2, bi2⟩ := info_parts (show (Tryz.prog.info? 39).map (fun i => (i.zero, i.size, i.bytes)) = some (some (.pointer none), 1, 8) by kernel_rfl)
  obtain ⟨p, cap, hv, hm, hp⟩ := id h
  subst hv
  obtain ⟨g0, o0, rfl, -⟩ := hp (fun e => by simp [e] at hl1)
  obtain ⟨len, hlen⟩ : ∃ len, L.length = len := ⟨_, rfl⟩
  rw [hlen] at h hl1 hl4 ⊢
  have hmk := run_makeI hl1 hl4
  have gl : decide (0 ≤ (len : Int)) = true := by simp
  have HT := Lib.hid hT; have H := Lib.hid h; have HALL := Lib.hid hall; have HLN := Lib.hid hlen
  have H3 := Lib.hid (show n ≤ 3 from h3)
  clear hall hm hp hf h hlen hT
  go_enter Tryz.func9, Tryz.ntmps9
  go_wp2_with fail
  refine (scene_ok HT.out (n := n) h1 (by omega) W rfl).mono ?_
  rintro e w1 ⟨pa, pb, gc, rfl, hh, hc, -⟩
  have HI := Lib.hid (fun (bv ev : Value) => (show PlayAt W [] pa pb (w1.heap.size + 1 + 1) gc (sceneCells n) L (.slice (some ⟨g0, o0, none⟩) len cap) bv ev (.slice none 0 0) (.slice none 0 0) [] 0 (sceneS n) (((w1.alloc (.cells (Array.replicate len (.int .i64 0)) 3)).alloc (.cells (Array.replicate len (.int .i64 0)) 3)).alloc (.cells #[.pointer (some ⟨pb, 0, none⟩), .int .u64 1, .slice (some ⟨gc, 0, none⟩) n n, .slice none 0 0, .slice none 0 0, .slice (some ⟨g0, o0, none⟩) len cap, bv, ev, .int .i64 0] 45)).drew from by
    refine PlayAt.init hh hc (((((Below.refl w1.heap.size w1).alloc (Nat.le_refl _) _).alloc (by simp) _).alloc (by simp; omega) _).drew) (by omega) (by simp) ?_
    rw [len_scene]
    have := Cells.new ((w1.alloc (.cells (Array.replicate len (.int .i64 0)) 3)).alloc (.cells (Array.replicate len (.int .i64 0)) 3)) [.pointer (some ⟨pb, 0, none⟩), .int .u64 1, .slice (some ⟨gc, 0, none⟩) n n, .slice none 0 0, .slice none 0 0, .slice (some ⟨g0, o0, none⟩) len cap, bv, ev, .int .i64 0] 45
    simp only [World.size_alloc] at this
    exact this.drew))
  clear hh hc
  go_wp2_with fail
  go_region_held3 (fun _ => True) (first | with_reducible exact trivial | trivial) (fail)
  all_goals
    first
      | (have HP := HI.out (.slice (some ⟨w1.heap.size, 0, none⟩) len len) (.slice (some ⟨w1.heap.size + 1, 0, none⟩) len len)
         obtain ⟨w5, hw5⟩ : ∃ w5, ((((w1.alloc (.cells (Array.replicate len (.int .i64 0)) 3)).alloc (.cells (Array.replicate len (.int .i64 0)) 3)).alloc (.cells #[.pointer (some ⟨pb, 0, none⟩), .int .u64 1, .slice (some ⟨gc, 0, none⟩) n n, .slice none 0 0, .slice none 0 0, .slice (some ⟨g0, o0, none⟩) len cap, .slice (some ⟨w1.heap.size, 0, none⟩) len len, .slice (some ⟨w1.heap.size + 1, 0, none⟩) len len, .int .i64 0] 45)).drew) = w5 := ⟨_, rfl⟩
         rw [hw5] at HP ⊢)
      | (have HP := HI.out (.slice (some ⟨w1.heap.size + 1, 0, none⟩) len len) (.slice (some ⟨w1.heap.size, 0, none⟩) len len)
         obtain ⟨w5, hw5⟩ : ∃ w5, ((((w1.alloc (.cells (Array.replicate len (.int .i64 0)) 3)).alloc (.cells (Array.replicate len (.int .i64 0)) 3)).alloc (.cells #[.pointer (some ⟨pb, 0, none⟩), .int .u64 1, .slice (some ⟨gc, 0, none⟩) n n, .slice none 0 0, .slice none 0 0, .slice (some ⟨g0, o0, none⟩) len cap, .slice (some ⟨w1.heap.size + 1, 0, none⟩) len len, .slice (some ⟨w1.heap.size, 0, none⟩) len len, .int .i64 0] 45)).drew) = w5 := ⟨_, rfl⟩
         rw [hw5] at HP ⊢)
    obtain ⟨pp, hpp⟩ : ∃ pp, w1.heap.size + 1 + 1 = pp := ⟨_, rfl⟩
    rw [hpp] at HP ⊢
    obtain ⟨bv, ev, HJ⟩ : ∃ bv ev, BegJ W pa pb pp gc n L (.slice (some ⟨g0, o0, none⟩) len cap) bv ev (.int .i64 0) w5 := ⟨_, _, 0, [], _, _, Nat.zero_le _, rfl, rfl, HP⟩
    have HJ := Lib.hid HJ
    clear hw5 hpp HP
    go_wp2
    go_loopw [35] (BegJ W pa pb pp gc n L (.slice (some ⟨g0, o0, none⟩) len cap) bv ev) (fun i _ => len - (intOf i).toNat)
    case atStart => exact HJ.out
    case round =>
      clear HJ
      obtain ⟨k, its, tv, ov, hk, rfl, hik, hp⟩ := hrel
      rw [HLN.out] at hk
      by_cases hlt : k < len
      · have hlt' : (k : Int) < (len : Int) := by omega
        obtain ⟨x, hx⟩ : ∃ x, L[k]? = some x := ⟨L[k]'(by rw [HLN.out]; exact hlt), List.getElem?_eq_getElem _⟩
        obtain ⟨g', o', q, c, he, hcell, hops⟩ := opss_at (p := some ⟨g0, o0, none⟩) (m := len) (cap := cap) H.out hp.held.below hx
        obtain ⟨rfl, rfl⟩ : g0 = g' ∧ o0 = o' := by simpa using he
        have hx10 := HALL.out x (List.mem_of_getElem? hx)
        have g1 : IntKind.i64.wrap ((k : Int) + 1) = ((k + 1 : Nat) : Int) := by rw [IntWalk.i64_in _ (by omega)]; rfl
        have hW := hp.held.below.size
        obtain ⟨po, hpo⟩ : ∃ po, wr.heap.size = po := ⟨_, rfl⟩
        have B2 := (Below.refl wr.heap.size wr).alloc (Nat.le_refl _) (.cells #[.slice none 0 0, .bool false, .bool false, .int .i64 0] 38)
        have c1 := Cells.new wr [.slice none 0 0, .bool false, .bool false, .int .i64 0] 38
        obtain ⟨w2, hw2⟩ : ∃ w2, wr.alloc (.cells #[.slice none 0 0, .bool false, .bool false, .int .i64 0] 38) = w2 := ⟨_, rfl⟩
        have hz2 : w2.heap.size = po + 1 := by rw [← hw2, ← hpo]; simp
        have B2 : Below po wr w2 := by rw [← hpo, ← hw2]; exact B2
        have c1 : Cells w2 po [.slice none 0 0, .bool false, .bool false, .int .i64 0] 38 := by rw [← hpo, ← hw2]; exact c1
        have h2 := hp.held.came (by rw [hpo]; exact B2) [po] (by simp; omega)
        have a2 := hp.arr.heldBy (HeldBy.of_below (by rw [hpo]; exact B2) hp.held.held) (by simp [playR])
        obtain ⟨S1, S2, S3⟩ := body_set (po := po) (cells := sceneCells n) (clock := 1) (Qo := []) ((k + 1 : Nat) : Int) h2 (by simp [playR]) (by simp) a2 (hops.2.2 w2 [] (by omega))
        rw [len_scene] at S1 S2 S3
        have hq : (outAux W po).at' ⟨[], false, false, 0⟩ [po] (bodyW w2 (.slice q x.length c) 1 gc n ((k + 1 : Nat) : Int) po) :=
          ⟨.slice none 0 0, rfl, by simp [Value.ownBlock], by rw [← hpo]; exact hW, c1.heldBy (R := [po]) (HeldBy.of_below S1 (by simp; omega)) (by simp), World.ownsRow_nil _ _ _ _⟩
        have HN := Lib.hid (tnew_new S2 (outAux W po) _ hq (by simp) 59 #[.pointer (some ⟨w2.heap.size + 1, 0, none⟩), .pointer (some ⟨w2.heap.size + 3, 0, none⟩), .pointer (some ⟨w2.heap.size, 0, none⟩), .pointer (some ⟨w2.heap.size + 2, 0, none⟩), .pointer (some ⟨w2.heap.size + 4, 0, none⟩)])
        have HP := Lib.hid hp; have HS1 := Lib.hid S1; have HS2 := Lib.hid S2; have HS3 := Lib.hid S3; have HB2 := Lib.hid B2; have HX := Lib.hid hx; have HPO := Lib.hid hpo; have HZ2 := Lib.hid hz2; have HIK := Lib.hid hik
        have HWZ := Lib.hid hW
        clear hp S1 S2 S3 hq B2 c1 h2 a2 hx hops hx10 he hz2 hW hik
        go_wp2_with fail
        clear hw2 hpo
        refine (body13_ok _ _ _ 1 gc n _ po w2).mono ?_
        rintro e w3 ⟨fv, rfl, rfl, hw3⟩
        obtain rfl : w3 = bodyW w2 (.slice q x.length c) 1 gc n ((k + 1 : Nat) : Int) po := hw3
        go_wp2_with fail
        refine HN.out.mono ?_
        rintro e w4 ⟨pt, rfl, ht, hh4, hb4, hpt⟩
        have ht := ht
        have hs3 := HS3.out.heldBy (HeldBy.of_below hb4 HS2.out.held) (by simp [shOf, playR])
        have hsz : (bodyW w2 (.slice q x.length c) 1 gc n ((k + 1 : Nat) : Int) po).heap.size = po + 6 := by simp [bodyW, HZ2.out]
        have hz4 := hb4.size
        have hpl := hh4.held pt (List.mem_cons_self ..)
        rw [hsz] at hz4 hpt
        rw [HZ2.out] at ht hs3
        have hB4 : Below po wr w4 := HB2.out.trans ((HS1.out.mono (by rw [HZ2.out]; omega)).trans (hb4.mono (by rw [hsz]; omega)))
        obtain ⟨t, hte⟩ : ∃ t : It, (⟨pt, po, po + 1, q, c⟩ : It) = t := ⟨_, rfl⟩
        have hit : ItAt W pb gc (sceneCells n) x (its.length + 1) t w4 := by
          rw [HIK.out, ← hte]
          exact ⟨ht, hs3⟩
        have hp4 : PlayAt W t.blocks pa pb pp gc (sceneCells n) L (.slice (some ⟨g0, o0, none⟩) len cap) bv ev tv ov its 0 (sceneS n) w4 := by
          have := HP.out.came (w' := w4) (by rw [HPO.out]; exact hB4) t.blocks (by rw [HPO.out, ← hte]; intro b hb; simp [It.blocks] at hb; omega) (by rw [← hte]; simp [It.blocks]; omega)
          rwa [List.append_nil] at this
        obtain ⟨q1, q2, q3⟩ := hp4.apart
        have HP1 := Lib.hid q1; have HP2 := Lib.hid q2
        have HM := Lib.hid hp4.main
        have T0 := Two.start (by have := hp4.ts; rwa [HIK.out] at this) (by have := hp4.outs; rwa [HIK.out] at this) q3
        have HADD := Lib.hid (fun (tv' ov' : Value) (wx : World) (T : Two W.heap.size w4 tv ov tv' ov' (k + 1) (k + 1) (thrV its ++ [.pointer (some ⟨pt, 0, none⟩)]) (outV its ++ [.pointer (some ⟨po, 0, none⟩)]) wx) => (show PlayAt W [] pa pb pp gc (sceneCells n) L (.slice (some ⟨g0, o0, none⟩) len cap) bv ev tv' ov' (its ++ [t]) 0 (sceneS n) ((wx.setCell ⟨pp, 3, none⟩ tv').setCell ⟨pp, 4, none⟩ ov') from by
          obtain ⟨s1, s2, s3, s4⟩ := T.set HM.out HP1.out HP2.out
          have hx := HX.out
          rw [← HIK.out] at s3 s4 hx
          exact hp4.add hit hx s1 s2 (by rw [← hte]; exact s3) (by rw [← hte]; exact s4) T.n1 T.n2 T.ap))
        have HIL := Lib.hid (show (its ++ [t]).length = k + 1 by rw [List.length_append, HIK.out]; rfl)
        have HWZ4 := Lib.hid hp4.held.below.size
        have HS : w4.drew.cell? ⟨pp, 3, none⟩ = some tv ∧ w4.drew.cell? ⟨pp, 4, none⟩ = some ov := ⟨hp4.main.cell 3, hp4.main.cell 4⟩
        clear hp4 hit hs3 ht hB4 hsz hz4 hpl hpt hh4 hb4 q1 q2 q3 HS1 HS2 HS3 HN HB2 HX hte HP
        go_wp2_with fail
        -- GENBEG
        refine wp_region_k (S := fun w => w.cell? ⟨pp, 3, none⟩ = some tv ∧ w.cell? ⟨pp, 4, none⟩ = some ov) (D := fun i => i == 1 || i == 9 || i == 10 || i == 11 || i == 13 || Nat.ble 16 i) (by kernel_rfl) ?_
        refine wpAnyK_pure (i := 1) (v := .pointer (some ⟨pp, 0, none⟩)) rfl rfl (by kernel_rfl) (by kernel_rfl) (by kernel_rfl) (fun _ _ _ h => h) (Or.inl ⟨by rfl, fun w _ => by go_simp⟩) ?_
        simp only [Act.put, List.getElem_toArray, List.getElem_cons_succ, List.getElem_cons_zero, List.setIfInBounds_toArray, List.set_cons_zero, List.set_cons_succ]
        refine wpAnyK_pure (i := 9) (v := .pointer (some ⟨pp, 0, none⟩)) rfl rfl (by kernel_rfl) (by kernel_rfl) (by kernel_rfl) (fun _ _ _ h => h) (Or.inl ⟨by rfl, fun w _ => by go_simp⟩) ?_
        simp only [Act.put, List.getElem_toArray, List.getElem_cons_succ, List.getElem_cons_zero, List.setIfInBounds_toArray, List.set_cons_zero, List.set_cons_succ]
        refine wpAnyK_pure (i := 10) (v := .pointer (some ⟨pp, 0, none⟩)) rfl rfl (by kernel_rfl) (by kernel_rfl) (by kernel_rfl) (fun _ _ _ h => h) (Or.inl ⟨by rfl, fun w _ => by go_simp⟩) ?_
        simp only [Act.put, List.getElem_toArray, List.getElem_cons_succ, List.getElem_cons_zero, List.setIfInBounds_toArray, List.set_cons_zero, List.set_cons_succ]
        refine wpAnyK_pure (i := 11) (v := .pointer (some ⟨pp, 4, none⟩)) rfl rfl (by kernel_rfl) (by kernel_rfl) (by kernel_rfl) (fun _ _ _ h => h) (Or.inl ⟨by rfl, fun w _ => by go_simp⟩) ?_
        simp only [Act.put, List.getElem_toArray, List.getElem_cons_succ, List.getElem_cons_zero, List.setIfInBounds_toArray, List.set_cons_zero, List.set_cons_succ]
        refine wpAnyK_pure (i := 13) (v := .pointer (some ⟨po, 0, none⟩)) rfl rfl (by kernel_rfl) (by kernel_rfl) (by kernel_rfl) (fun _ _ _ h => h) (Or.inl ⟨by rfl, fun w _ => by go_simp⟩) ?_
        simp only [Act.put, List.getElem_toArray, List.getElem_cons_succ, List.getElem_cons_zero, List.setIfInBounds_toArray, List.set_cons_zero, List.set_cons_succ]
        refine wpAnyK_take (i := 0) (v := .pointer (some ⟨pp, 0, none⟩)) rfl (by kernel_rfl) (by kernel_rfl) (by kernel_rfl) (by kernel_rfl) (fun _ _ _ h => h) (Or.inl ⟨by rfl, fun w hS => by obtain ⟨hS1, hS2⟩ := hS; go_simp⟩) HS ?_
        simp only [Act.put, List.getElem_toArray, List.getElem_cons_zero, List.setIfInBounds_toArray, List.set_cons_zero, List.set_cons_succ]
        refine wpAnyK_take (i := 2) (v := .pointer (some ⟨pp, 0, none⟩)) rfl (by kernel_rfl) (by kernel_rfl) (by kernel_rfl) (by kernel_rfl) (fun _ _ _ h => h) (Or.inl ⟨by rfl, fun w hS => by obtain ⟨hS1, hS2⟩ := hS; go_simp⟩) HS ?_
        simp only [Act.put, List.getElem_toArray, List.getElem_cons_succ, List.getElem_cons_zero, List.setIfInBounds_toArray, List.set_cons_zero, List.set_cons_succ]
        refine wpAnyK_take (i := 3) (v := .pointer (some ⟨pp, 0, none⟩)) rfl (by kernel_rfl) (by kernel_rfl) (by kernel_rfl) (by kernel_rfl) (fun _ _ _ h => h) (Or.inl ⟨by rfl, fun w hS => by obtain ⟨hS1, hS2⟩ := hS; go_simp⟩) HS ?_
        simp only [Act.put, List.getElem_toArray, List.getElem_cons_succ, List.getElem_cons_zero, List.setIfInBounds_toArray, List.set_cons_zero, List.set_cons_succ]
        refine wpAnyK_take (i := 4) (v := .pointer (some ⟨pp, 3, none⟩)) rfl (by kernel_rfl) (by kernel_rfl) (by kernel_rfl) (by kernel_rfl) (fun _ _ _ h => h) (Or.inl ⟨by rfl, fun w hS => by obtain ⟨hS1, hS2⟩ := hS; go_simp⟩) HS ?_
        simp only [Act.put, List.getElem_toArray, List.getElem_cons_succ, List.getElem_cons_zero, List.setIfInBounds_toArray, List.set_cons_zero, List.set_cons_succ]
        refine wpAnyK_take (i := 5) (v := tv) rfl (by kernel_rfl) (by kernel_rfl) (by kernel_rfl) (by kernel_rfl) (fun _ _ _ h => h) (Or.inl ⟨by rfl, fun w hS => by obtain ⟨hS1, hS2⟩ := hS; go_simp⟩) HS ?_
        simp only [Act.put, List.getElem_toArray, List.getElem_cons_succ, List.getElem_cons_zero, List.setIfInBounds_toArray, List.set_cons_zero, List.set_cons_succ]
        refine wpAnyK_take (i := 6) (v := .pointer (some ⟨pt, 0, none⟩)) rfl (by kernel_rfl) (by kernel_rfl) (by kernel_rfl) (by kernel_rfl) (fun _ _ _ h => h) (Or.inl ⟨by rfl, fun w hS => by obtain ⟨hS1, hS2⟩ := hS; go_simp⟩) HS ?_
        simp only [Act.put, List.getElem_toArray, List.getElem_cons_succ, List.getElem_cons_zero, List.setIfInBounds_toArray, List.set_cons_zero, List.set_cons_succ]
        refine wpAnyK_take (i := 12) (v := ov) rfl (by kernel_rfl) (by kernel_rfl) (by kernel_rfl) (by kernel_rfl) (fun _ _ _ h => h) (Or.inl ⟨by rfl, fun w hS => by obtain ⟨hS1, hS2⟩ := hS; go_simp⟩) HS ?_
        simp only [Act.put, List.getElem_toArray, List.getElem_cons_succ, List.getElem_cons_zero, List.setIfInBounds_toArray, List.set_cons_zero, List.set_cons_succ]
        refine wpAnyK_all (rs := [7, 14]) (by kernel_rfl) (by simp) ?_
        refine List.forall_mem_cons.2 ⟨?_, List.forall_mem_cons.2 ⟨?_, fun _ h => absurd h (by simp)⟩⟩
        · refine wpOp_go rfl ?_
          go_simp
          have N1 := Cells.new (w4.drew) [.pointer (some ⟨pt, 0, none⟩)] 58
          have T1 := T0.alloc (.cells #[.pointer (some ⟨pt, 0, none⟩)] 58)
          refine ⟨fun _ => T1.cells2 HM.out HP1.out HP2.out, ?_⟩
          refine wpAnyK_all (rs := [8, 14]) (by kernel_rfl) (by simp) ?_
          refine List.forall_mem_cons.2 ⟨?_, List.forall_mem_cons.2 ⟨?_, fun _ h => absurd h (by simp)⟩⟩
          · refine wpOp_go rfl ?_
            refine step_append_lies _ (by rfl) _ _ _ (by rfl) W.heap.size 58 i1 (.pointer none) 1 8 Tryz.underlying42 hi1 zi1 si1 bi1 rfl (by omega) tv k (thrV its) (by rfl) T1.ts ⟨w4.heap.size, 0, none⟩ 1 1 [.pointer (some ⟨pt, 0, none⟩)] (by rfl) (by rfl) (news1 N1) (by intro u hu; simp at hu; subst hu; rfl) (by omega) (by unfold maxLen; omega) (by omega) (Nat.le_trans HWZ4.out T1.kept.size) _ rfl ?_
            intro g1 c1 w1 ho1 hg1 hb1 hl1
            have T2 := T1.app1 ho1 hg1 hb1
            refine ⟨fun _ => T2.cells2 HM.out HP1.out HP2.out, ?_⟩
            simp only [Act.put, List.getElem_toArray, List.getElem_cons_succ, List.getElem_cons_zero, List.setIfInBounds_toArray, List.set_cons_zero, List.set_cons_succ]
            refine wpAnyK_all (rs := [14]) (by kernel_rfl) (by simp) ?_
            refine List.forall_mem_cons.2 ⟨?_, fun _ h => absurd h (by simp)⟩
            refine wpOp_go rfl ?_
            go_simp
            have N2 := Cells.new (w1) [.pointer (some ⟨po, 0, none⟩)] 39
            replace N1 := N1.alloc (.cells #[.pointer (some ⟨po, 0, none⟩)] 39)
            have T3 := T2.alloc (.cells #[.pointer (some ⟨po, 0, none⟩)] 39)
            refine ⟨fun _ => T3.cells2 HM.out HP1.out HP2.out, ?_⟩
            refine wpAnyK_all (rs := [15]) (by kernel_rfl) (by simp) ?_
            refine List.forall_mem_cons.2 ⟨?_, fun _ h => absurd h (by simp)⟩
            refine wpOp_go rfl ?_
            refine step_append_lies _ (by rfl) _ _ _ (by rfl) W.heap.size 39 i2 (.pointer none) 1 8 Tryz.underlying43 hi2 zi2 si2 bi2 rfl (by omega) ov k (outV its) (by rfl) T3.os ⟨w1.heap.size, 0, none⟩ 1 1 [.pointer (some ⟨po, 0, none⟩)] (by rfl) (by rfl) (news1 N2) (by intro u hu; simp at hu; subst hu; rfl) (by omega) (by unfold maxLen; omega) (by omega) (Nat.le_trans HWZ4.out T3.kept.size) _ rfl ?_
            intro g2 c2 w2 ho2 hg2 hb2 hl2
            have T4 := T3.app2 ho2 hg2 hb2
            refine ⟨fun _ => T4.cells2 HM.out HP1.out HP2.out, ?_⟩
            simp only [Act.put, List.getElem_toArray, List.getElem_cons_succ, List.getElem_cons_zero, List.setIfInBounds_toArray, List.set_cons_zero, List.set_cons_succ]
            obtain ⟨f3, f4⟩ := T4.cells2 HM.out HP1.out HP2.out
            obtain ⟨e3, e4⟩ := T4.frees HM.out HP1.out HP2.out
            have HF := Lib.hid (HADD.out _ _ _ T4)
            refine wpAnyK_pure (i := 16) (v := .pointer (some ⟨pp, 0, none⟩)) rfl rfl (by kernel_rfl) (by kernel_rfl) (by kernel_rfl) (fun _ _ _ h => h) (Or.inl ⟨by rfl, fun w _ => by go_simp⟩) ?_
            simp only [Act.put, List.getElem_toArray, List.getElem_cons_succ, List.getElem_cons_zero, List.setIfInBounds_toArray, List.set_cons_zero, List.set_cons_succ]
            refine wpAnyK_pure (i := 17) (v := .pointer (some ⟨pp, 3, none⟩)) rfl rfl (by kernel_rfl) (by kernel_rfl) (by kernel_rfl) (fun _ _ _ h => h) (Or.inl ⟨by rfl, fun w _ => by go_simp⟩) ?_
            simp only [Act.put, List.getElem_toArray, List.getElem_cons_succ, List.getElem_cons_zero, List.setIfInBounds_toArray, List.set_cons_zero, List.set_cons_succ]
            refine wpAnyK_all (rs := [18]) (by kernel_rfl) (by simp) ?_
            refine List.forall_mem_cons.2 ⟨?_, fun _ h => absurd h (by simp)⟩
            refine wpOp_go rfl ?_
            go_simp
            refine wpAnyK_pure (i := 19) (v := .pointer (some ⟨pp, 0, none⟩)) rfl rfl (by kernel_rfl) (by kernel_rfl) (by kernel_rfl) (fun _ _ _ h => h) (Or.inl ⟨by rfl, fun w _ => by go_simp⟩) ?_
            simp only [Act.put, List.getElem_toArray, List.getElem_cons_succ, List.getElem_cons_zero, List.setIfInBounds_toArray, List.set_cons_zero, List.set_cons_succ]
            refine wpAnyK_pure (i := 20) (v := .pointer (some ⟨pp, 4, none⟩)) rfl rfl (by kernel_rfl) (by kernel_rfl) (by kernel_rfl) (fun _ _ _ h => h) (Or.inl ⟨by rfl, fun w _ => by go_simp⟩) ?_
            simp only [Act.put, List.getElem_toArray, List.getElem_cons_succ, List.getElem_cons_zero, List.setIfInBounds_toArray, List.set_cons_zero, List.set_cons_succ]
            refine wpAnyK_all (rs := [21]) (by kernel_rfl) (by simp) ?_
            refine List.forall_mem_cons.2 ⟨?_, fun _ h => absurd h (by simp)⟩
            refine wpOp_go rfl ?_
            go_simp
            refine wpAnyK_done (by kernel_rfl) ?_ _
            go_wp2
            go_roundw
            case rel => exact ⟨k + 1, _, _, _, by rw [HLN.out]; omega, by go_num, HIL.out, HF.out⟩
            case measure => simp [intOf]; omega
          · refine wpOp_go rfl ?_
            go_simp
            have N2 := Cells.new ((w4.drew).alloc (.cells #[.pointer (some ⟨pt, 0, none⟩)] 58)) [.pointer (some ⟨po, 0, none⟩)] 39
            rw [World.size_alloc] at N2
            replace N1 := N1.alloc (.cells #[.pointer (some ⟨po, 0, none⟩)] 39)
            have T2 := T1.alloc (.cells #[.pointer (some ⟨po, 0, none⟩)] 39)
            refine ⟨fun _ => T2.cells2 HM.out HP1.out HP2.out, ?_⟩
            refine wpAnyK_all (rs := [8]) (by kernel_rfl) (by simp) ?_
            refine List.forall_mem_cons.2 ⟨?_, fun _ h => absurd h (by simp)⟩
            refine wpOp_go rfl ?_
            refine step_append_lies _ (by rfl) _ _ _ (by rfl) W.heap.size 58 i1 (.pointer none) 1 8 Tryz.underlying42 hi1 zi1 si1 bi1 rfl (by omega) tv k (thrV its) (by rfl) T2.ts ⟨w4.heap.size, 0, none⟩ 1 1 [.pointer (some ⟨pt, 0, none⟩)] (by rfl) (by rfl) (news1 N1) (by intro u hu; simp at hu; subst hu; rfl) (by omega) (by unfold maxLen; omega) (by omega) (Nat.le_trans HWZ4.out T2.kept.size) _ rfl ?_
            intro g1 c1 w1 ho1 hg1 hb1 hl1
            replace N2 := N2.kept (Kept.of_grown hg1) (fun e => absurd (T0.ts.lt _ e.symm).2 (Nat.not_lt.2 (by first | exact Nat.le_refl _ | exact Nat.le_succ _)))
            have T3 := T2.app1 ho1 hg1 hb1
            refine ⟨fun _ => T3.cells2 HM.out HP1.out HP2.out, ?_⟩
            simp only [Act.put, List.getElem_toArray, List.getElem_cons_succ, List.getElem_cons_zero, List.setIfInBounds_toArray, List.set_cons_zero, List.set_cons_succ]
            refine wpAnyK_all (rs := [15]) (by kernel_rfl) (by simp) ?_
            refine List.forall_mem_cons.2 ⟨?_, fun _ h => absurd h (by simp)⟩
            refine wpOp_go rfl ?_
            refine step_append_lies _ (by rfl) _ _ _ (by rfl) W.heap.size 39 i2 (.pointer none) 1 8 Tryz.underlying43 hi2 zi2 si2 bi2 rfl (by omega) ov k (outV its) (by rfl) T3.os ⟨w4.heap.size + 1, 0, none⟩ 1 1 [.pointer (some ⟨po, 0, none⟩)] (by rfl) (by rfl) (news1 N2) (by intro u hu; simp at hu; subst hu; rfl) (by omega) (by unfold maxLen; omega) (by omega) (Nat.le_trans HWZ4.out T3.kept.size) _ rfl ?_
            intro g2 c2 w2 ho2 hg2 hb2 hl2
            have T4 := T3.app2 ho2 hg2 hb2
            refine ⟨fun _ => T4.cells2 HM.out HP1.out HP2.out, ?_⟩
            simp only [Act.put, List.getElem_toArray, List.getElem_cons_succ, List.getElem_cons_zero, List.setIfInBounds_toArray, List.set_cons_zero, List.set_cons_succ]
            obtain ⟨f3, f4⟩ := T4.cells2 HM.out HP1.out HP2.out
            obtain ⟨e3, e4⟩ := T4.frees HM.out HP1.out HP2.out
            have HF := Lib.hid (HADD.out _ _ _ T4)
            refine wpAnyK_pure (i := 16) (v := .pointer (some ⟨pp, 0, none⟩)) rfl rfl (by kernel_rfl) (by kernel_rfl) (by kernel_rfl) (fun _ _ _ h => h) (Or.inl ⟨by rfl, fun w _ => by go_simp⟩) ?_
            simp only [Act.put, List.getElem_toArray, List.getElem_cons_succ, List.getElem_cons_zero, List.setIfInBounds_toArray, List.set_cons_zero, List.set_cons_succ]
            refine wpAnyK_pure (i := 17) (v := .pointer (some ⟨pp, 3, none⟩)) rfl rfl (by kernel_rfl) (by kernel_rfl) (by kernel_rfl) (fun _ _ _ h => h) (Or.inl ⟨by rfl, fun w _ => by go_simp⟩) ?_
            simp only [Act.put, List.getElem_toArray, List.getElem_cons_succ, List.getElem_cons_zero, List.setIfInBounds_toArray, List.set_cons_zero, List.set_cons_succ]
            refine wpAnyK_all (rs := [18]) (by kernel_rfl) (by simp) ?_
            refine List.forall_mem_cons.2 ⟨?_, fun _ h => absurd h (by simp)⟩
            refine wpOp_go rfl ?_
            go_simp
            refine wpAnyK_pure (i := 19) (v := .pointer (some ⟨pp, 0, none⟩)) rfl rfl (by kernel_rfl) (by kernel_rfl) (by kernel_rfl) (fun _ _ _ h => h) (Or.inl ⟨by rfl, fun w _ => by go_simp⟩) ?_
            simp only [Act.put, List.getElem_toArray, List.getElem_cons_succ, List.getElem_cons_zero, List.setIfInBounds_toArray, List.set_cons_zero, List.set_cons_succ]
            refine wpAnyK_pure (i := 20) (v := .pointer (some ⟨pp, 4, none⟩)) rfl rfl (by kernel_rfl) (by kernel_rfl) (by kernel_rfl) (fun _ _ _ h => h) (Or.inl ⟨by rfl, fun w _ => by go_simp⟩) ?_
            simp only [Act.put, List.getElem_toArray, List.getElem_cons_succ, List.getElem_cons_zero, List.setIfInBounds_toArray, List.set_cons_zero, List.set_cons_succ]
            refine wpAnyK_all (rs := [21]) (by kernel_rfl) (by simp) ?_
            refine List.forall_mem_cons.2 ⟨?_, fun _ h => absurd h (by simp)⟩
            refine wpOp_go rfl ?_
            go_simp
            refine wpAnyK_done (by kernel_rfl) ?_ _
            go_wp2
            go_roundw
            case rel => exact ⟨k + 1, _, _, _, by rw [HLN.out]; omega, by go_num, HIL.out, HF.out⟩
            case measure => simp [intOf]; omega
        · refine wpOp_go rfl ?_
          go_simp
          have N2 := Cells.new (w4.drew) [.pointer (some ⟨po, 0, none⟩)] 39
          have T1 := T0.alloc (.cells #[.pointer (some ⟨po, 0, none⟩)] 39)
          refine ⟨fun _ => T1.cells2 HM.out HP1.out HP2.out, ?_⟩
          refine wpAnyK_all (rs := [7]) (by kernel_rfl) (by simp) ?_
          refine List.forall_mem_cons.2 ⟨?_, fun _ h => absurd h (by simp)⟩
          refine wpOp_go rfl ?_
          go_simp
          have N1 := Cells.new ((w4.drew).alloc (.cells #[.pointer (some ⟨po, 0, none⟩)] 39)) [.pointer (some ⟨pt, 0, none⟩)] 58
          rw [World.size_alloc] at N1
          replace N2 := N2.alloc (.cells #[.pointer (some ⟨pt, 0, none⟩)] 58)
          have T2 := T1.alloc (.cells #[.pointer (some ⟨pt, 0, none⟩)] 58)
          refine ⟨fun _ => T2.cells2 HM.out HP1.out HP2.out, ?_⟩
          refine wpAnyK_all (rs := [8]) (by kernel_rfl) (by simp) ?_
          refine List.forall_mem_cons.2 ⟨?_, fun _ h => absurd h (by simp)⟩
          refine wpOp_go rfl ?_
          refine step_append_lies _ (by rfl) _ _ _ (by rfl) W.heap.size 58 i1 (.pointer none) 1 8 Tryz.underlying42 hi1 zi1 si1 bi1 rfl (by omega) tv k (thrV its) (by rfl) T2.ts ⟨w4.heap.size + 1, 0, none⟩ 1 1 [.pointer (some ⟨pt, 0, none⟩)] (by rfl) (by rfl) (news1 N1) (by intro u hu; simp at hu; subst hu; rfl) (by omega) (by unfold maxLen; omega) (by omega) (Nat.le_trans HWZ4.out T2.kept.size) _ rfl ?_
          intro g1 c1 w1 ho1 hg1 hb1 hl1
          replace N2 := N2.kept (Kept.of_grown hg1) (fun e => absurd (T0.ts.lt _ e.symm).2 (Nat.not_lt.2 (by first | exact Nat.le_refl _ | exact Nat.le_succ _)))
          have T3 := T2.app1 ho1 hg1 hb1
          refine ⟨fun _ => T3.cells2 HM.out HP1.out HP2.out, ?_⟩
          simp only [Act.put, List.getElem_toArray, List.getElem_cons_succ, List.getElem_cons_zero, List.setIfInBounds_toArray, List.set_cons_zero, List.set_cons_succ]
          refine wpAnyK_all (rs := [15]) (by kernel_rfl) (by simp) ?_
          refine List.forall_mem_cons.2 ⟨?_, fun _ h => absurd h (by simp)⟩
          refine wpOp_go rfl ?_
          refine step_append_lies _ (by rfl) _ _ _ (by rfl) W.heap.size 39 i2 (.pointer none) 1 8 Tryz.underlying43 hi2 zi2 si2 bi2 rfl (by omega) ov k (outV its) (by rfl) T3.os ⟨w4.heap.size, 0, none⟩ 1 1 [.pointer (some ⟨po, 0, none⟩)] (by rfl) (by rfl) (news1 N2) (by intro u hu; simp at hu; subst hu; rfl) (by omega) (by unfold maxLen; omega) (by omega) (Nat.le_trans HWZ4.out T3.kept.size) _ rfl ?_
          intro g2 c2 w2 ho2 hg2 hb2 hl2
          have T4 := T3.app2 ho2 hg2 hb2
          refine ⟨fun _ => T4.cells2 HM.out HP1.out HP2.out, ?_⟩
          simp only [Act.put, List.getElem_toArray, List.getElem_cons_succ, List.getElem_cons_zero, List.setIfInBounds_toArray, List.set_cons_zero, List.set_cons_succ]
          obtain ⟨f3, f4⟩ := T4.cells2 HM.out HP1.out HP2.out
          obtain ⟨e3, e4⟩ := T4.frees HM.out HP1.out HP2.out
          have HF := Lib.hid (HADD.out _ _ _ T4)
          refine wpAnyK_pure (i := 16) (v := .pointer (some ⟨pp, 0, none⟩)) rfl rfl (by kernel_rfl) (by kernel_rfl) (by kernel_rfl) (fun _ _ _ h => h) (Or.inl ⟨by rfl, fun w _ => by go_simp⟩) ?_
          simp only [Act.put, List.getElem_toArray, List.getElem_cons_succ, List.getElem_cons_zero, List.setIfInBounds_toArray, List.set_cons_zero, List.set_cons_succ]
          refine wpAnyK_pure (i := 17) (v := .pointer (some ⟨pp, 3, none⟩)) rfl rfl (by kernel_rfl) (by kernel_rfl) (by kernel_rfl) (fun _ _ _ h => h) (Or.inl ⟨by rfl, fun w _ => by go_simp⟩) ?_
          simp only [Act.put, List.getElem_toArray, List.getElem_cons_succ, List.getElem_cons_zero, List.setIfInBounds_toArray, List.set_cons_zero, List.set_cons_succ]
          refine wpAnyK_all (rs := [18]) (by kernel_rfl) (by simp) ?_
          refine List.forall_mem_cons.2 ⟨?_, fun _ h => absurd h (by simp)⟩
          refine wpOp_go rfl ?_
          go_simp
          refine wpAnyK_pure (i := 19) (v := .pointer (some ⟨pp, 0, none⟩)) rfl rfl (by kernel_rfl) (by kernel_rfl) (by kernel_rfl) (fun _ _ _ h => h) (Or.inl ⟨by rfl, fun w _ => by go_simp⟩) ?_
          simp only [Act.put, List.getElem_toArray, List.getElem_cons_succ, List.getElem_cons_zero, List.setIfInBounds_toArray, List.set_cons_zero, List.set_cons_succ]
          refine wpAnyK_pure (i := 20) (v := .pointer (some ⟨pp, 4, none⟩)) rfl rfl (by kernel_rfl) (by kernel_rfl) (by kernel_rfl) (fun _ _ _ h => h) (Or.inl ⟨by rfl, fun w _ => by go_simp⟩) ?_
          simp only [Act.put, List.getElem_toArray, List.getElem_cons_succ, List.getElem_cons_zero, List.setIfInBounds_toArray, List.set_cons_zero, List.set_cons_succ]
          refine wpAnyK_all (rs := [21]) (by kernel_rfl) (by simp) ?_
          refine List.forall_mem_cons.2 ⟨?_, fun _ h => absurd h (by simp)⟩
          refine wpOp_go rfl ?_
          go_simp
          refine wpAnyK_done (by kernel_rfl) ?_ _
          go_wp2
          go_roundw
          case rel => exact ⟨k + 1, _, _, _, by rw [HLN.out]; omega, by go_num, HIL.out, HF.out⟩
          case measure => simp [intOf]; omega
        -- GENEND
      · obtain rfl : k = len := by omega
        have g3 : decide ((k : Int) < (k : Int)) = false := by simp
        have HP := Lib.hid hp; have HIK := Lib.hid hik
        clear hp hik
        go_wp2
        go_ret
        exact ⟨pa, pb, pp, gc, _, bv, ev, tv, ov, its, rfl, HP.out, HIK.out⟩
end Go.Proofs.YtmdganpealbmpaaGreatDoor
