/- ThreadRuns: the walk. -/
import Derived.Test.YtfehonejcambgaaGreatDoorAlive5
import Derived.Test.YtfehonejcambgaaGreatDoorRun
import Derived.Test.YtfehonejcambgaaGreatDoorRunsPlain
import Derived.Test.YtfehonejcambgaaGreatDoorSame
import Derived.Test.YtfehonejcambgaaGreatDoorLive
import Derived.Test.YtfehonejcambgaaGreatDoorCame
namespace Go.Proofs.YtfehonejcambgaaGreatDoor
open Go.RowKit Bl Th
set_option maxRecDepth 100000

theorem Arena.heldBy {R : List Nat} {w w' : World} {pa wb : Nat} {ws : List Nat} (h : Arena w pa wb ws) (k : HeldBy R w w') (h1 : pa ∈ R) (h2 : wb ∈ R) : Arena w' pa wb ws := by
  obtain ⟨c, k', a, o, n, d, hc⟩ := h.hd
  exact ⟨⟨c, k', a, o, n, d, hc.heldBy k h1⟩, h.row.heldBy k h2, h.ne, h.pos, h.few, h.fit⟩
/-- Blocks stay while their heap blocks do. -/
theorem Rep.heldBy {w w' : World} {pb : Nat} {L : Lay} {S : BS} (h : Rep w pb L S) (k : HeldBy (L.all pb) w w') : Rep w' pb L S := by
  refine ⟨h.main.heldBy k (mem_pb _ _), h.arena.heldBy k (mem_pa _ _) (mem_wb _ _), (k _ (mem_bm _ _)).trans h.bmap, (k _ (mem_fm _ _)).trans h.fmap, h.xlen, h.vlen, ?_, ?_, h.apart, h.ok⟩
  · intro i p x hp hx
    exact (h.blks i p x hp hx : Cells _ _ _ _).heldBy k (mem_xs _ _ (List.mem_of_getElem? hx))
  · intro i p v hp hv
    refine ownsRow_heldBy (h.rows i p v hp hv) k fun b hb => own_in_all _ _ (List.mem_filterMap.2 ⟨v, List.mem_of_getElem? hv, hb⟩)
theorem Held.rebase {W W1 : World} {R : List Nat} {pa pb : Nat} {S : BS} {wr : World} (h : Held W1 R pa pb S wr) (hb : Below W.heap.size W W1) : Held W R pa pb S wr := by
  obtain ⟨L, h0, h1, h2⟩ := h.lay
  exact ⟨h.uniq, hb.trans (h.below.mono hb.size), h.held, L, h0, h1, fun b hm => ⟨Nat.le_trans hb.size (h2 b hm).1, (h2 b hm).2⟩⟩

/-- Blocks and a thread that do nothing for a while: all their heap blocks. -/
structure Idle (W : World) (pd pu : Nat) (fv : Value) (A : Aux Unit) (t : TS Unit) (S : BS) (L : Lay) (B : List Nat) (wr : World) : Prop where
  rep : Rep wr pd L S
  uniq : Uniq S
  thr : Thr W pd pu fv A t B wr
  new : ∀ b ∈ L.all pd, W.heap.size ≤ b ∧ b ∉ B
theorem Idle.heldBy {W : World} {pd pu : Nat} {fv : Value} {A : Aux Unit} {t : TS Unit} {S : BS} {L : Lay} {B R : List Nat} {wr w' : World} (h : Idle W pd pu fv A t S L B wr) (k : HeldBy R wr w') (hs : ∀ b ∈ B ++ L.all pd, b ∈ R) : Idle W pd pu fv A t S L B w' :=
  ⟨h.rep.heldBy (k.less fun b hb => hs b (List.mem_append_right _ hb)), h.uniq, h.thr.heldBy k (fun b hb => hs b (List.mem_append_left _ hb)), h.new⟩
/-- The one that was idle goes on, the other one is idle. -/
theorem idle_turn {W : World} {pa pb pd pt pu : Nat} {fv fu : Value} {A A' : Aux Unit} {t u : TS Unit} {S S' : BS} {L : Lay} {B B' : List Nat} {wr : World} (hi : Idle W pd pu fu A' u S' L B' wr) (ht : Thr W pb pt fv A t B wr) (hh : Held W (B ++ (B' ++ L.all pd)) pa pb S wr) (ha : ∀ b ∈ B, b ∉ B' ++ L.all pd) :
    ∃ L0, Idle W pb pt fv A t S L0 B wr ∧ Held W (B' ++ (B ++ L0.all pb)) L.pa pd S' wr ∧ ∀ b ∈ B', b ∉ B ++ L0.all pb := by
  obtain ⟨L0, h0, h1, h2⟩ := hh.lay
  refine ⟨L0, ⟨h1, hh.uniq, ht, fun b hb => ⟨(h2 b hb).1, fun hm => (h2 b hb).2 (List.mem_append_left _ hm)⟩⟩, ⟨hi.uniq, hh.below, ?_, L, rfl, hi.rep, fun b hb => ⟨(hi.new b hb).1, ?_⟩⟩, ?_⟩
  · intro b hb
    rcases List.mem_append.1 hb with e | e
    · exact hh.held b (by simp [e])
    · rcases List.mem_append.1 e with q | q
      · exact hh.held b (by simp [q])
      · exact h1.lt b q
  · intro hm
    rcases List.mem_append.1 hm with e | e
    · exact (hi.new b hb).2 e
    · rcases List.mem_append.1 e with q | q
      · exact ha b q (List.mem_append_right _ hb)
      · exact (h2 b q).2 (by simp [hb])
  · intro b hb hm
    rcases List.mem_append.1 hm with q | q
    · exact ha b q (List.mem_append_left _ hb)
    · exact (h2 b q).2 (by simp [hb])

theorem portions_snoc {σ : Type} (F : Prog σ) : ∀ (l : List Nat) (n : Nat) (q : TS σ × BS), portions F (l ++ [n]) q = (run F n ((portions F l q).1.err, portions F l q)).2
  | [], _, _ => rfl
  | m :: l, n, q => by
    rw [List.cons_append, portions, portions, portions_snoc F l n]

/-- Equal lists in the order of places. -/
theorem asc_eq {S : BS} (ho : Ok S) (hu : Uniq S) {a b : List Nat} (ha : a.Perm (liveRefs S.bl)) (hb : b.Perm (liveRefs S.bl)) (h1 : Asc a) (h2 : Asc b) : a = b := by
  have pw : ∀ {l : List Nat}, Asc l → l.Pairwise (fun x y => x % 4294967296 ≤ y % 4294967296) := fun {l} h =>
    List.pairwise_iff_getElem.2 fun i j hi hj hij => h i j _ _ hij (List.getElem?_eq_getElem hi) (List.getElem?_eq_getElem hj)
  refine List.Perm.eq_of_pairwise ?_ (pw h1) (pw h2) (ha.trans hb.symm)
  intro x y hx hy h3 h4
  obtain ⟨q, hq, hl, rfl⟩ := mem_liveRefs (ha.mem_iff.1 hx)
  obtain ⟨r, hr, hl', rfl⟩ := mem_liveRefs (hb.mem_iff.1 hy)
  obtain ⟨i, hi⟩ := List.getElem?_of_mem hq
  obtain ⟨j, hj⟩ := List.getElem?_of_mem hr
  have e1 := aget_of_get S.bl i q.1 q.2 hu hi
  have e2 := aget_of_get S.bl j r.1 r.2 hu hj
  have f1 := ho.fits _ _ e1
  have f2 := ho.fits _ _ e2
  have := ho.top
  have := ho.len
  unfold refOf at h3 h4 ⊢
  have : q.1 = r.1 := by omega
  rw [this, e2] at e1
  rw [this, Option.some.inj e1]

set_option maxHeartbeats 1000000 in
theorem sameRefs_ok {w : World} {p1 p2 : Option Addr} {c1 c2 : Nat} {l : List Nat} (h1 : ∀ (j : Nat) (r : Nat), l[j]? = some r → ∃ g, p1 = some ⟨g, 0, none⟩ ∧ w.cell? ⟨g, j, none⟩ = some (.int .u64 (r : Int))) (h2 : ∀ (j : Nat) (r : Nat), l[j]? = some r → ∃ g, p2 = some ⟨g, 0, none⟩ ∧ w.cell? ⟨g, j, none⟩ = some (.int .u64 (r : Int))) (hl : l.length ≤ 20000) :
    Calls Tryz.prog 17 #[.slice p1 l.length c1, .slice p2 l.length c2] w fun e w' => e = .returned (.bool true) ∧ Below w.heap.size w w' := by
  have H1 := Lib.hid h1; have H2 := Lib.hid h2
  obtain ⟨len, hlen⟩ : ∃ len, l.length = len := ⟨_, rfl⟩
  rw [hlen] at hl ⊢
  have HLEN := Lib.hid hlen
  clear h1 h2 hlen
  have g0 : ((len : Int) != (len : Int)) = false := by simp
  have g1 : (len != len) = false := by simp
  go_enter Tryz.func17, Tryz.ntmps17
  go_wp2
  go_loopw [5] (fun i wr => ∃ k n : Nat, k ≤ len ∧ i = .int .i64 (k : Int) ∧ wr = w.drewN n) (fun i _ => len - (intOf i).toNat)
  case atStart => exact ⟨0, 0, Nat.zero_le _, rfl, rfl⟩
  case round =>
    obtain ⟨k, n, hk, rfl, rfl⟩ := hrel
    by_cases hlt : k < len
    · have hlt' : (k : Int) < (len : Int) := by omega
      obtain ⟨x, hx⟩ : ∃ x, l[k]? = some x := ⟨l[k]'(by rw [HLEN.out]; exact hlt), List.getElem?_eq_getElem _⟩
      obtain ⟨ga, rfl, a0⟩ := H1.out k x hx
      obtain ⟨gb, rfl, d0⟩ := H2.out k x hx
      have g2 : ((x : Int) != (x : Int)) = false := by simp
      have g3 : (x != x) = false := by simp
      clear hx
      go_wp2
      go_quiet (fail)
      go_wp2
      go_roundw
      case rel => exact ⟨k + 1, _, by omega, by go_num, rfl⟩
      case measure => simp [intOf]; omega
    · have g : decide ((k : Int) < (len : Int)) = false := by simp; omega
      go_wp2
      go_ret
      exact ⟨rfl, below_drewN (Below.refl _ _) _⟩

/-- few, of one program. -/
theorem few_one (b : Nat) (p : Option Addr) (n cap : Nat) (w : World) (hn : n ≤ 20) (hc : w.cell? ⟨b, 0, none⟩ = some (.slice p n cap)) : Calls Tryz.prog 5 #[.slice (some ⟨b, 0, none⟩) 1 1] w fun e w' => e = .returned (.bool true) ∧ w = w' := by
  have g1 : decide ((20 : Int) < (n : Int)) = false := by simp; omega
  go_enter Tryz.func5, Tryz.ntmps5
  go_wp2
  refine wp_loop_rounds 2 ?_
  rw [rounds_succ]
  go_wp2
  rw [rounds_succ]
  go_wp2
  go_ret
  exact ⟨rfl, rfl⟩
theorem few_not (b : Nat) (p : Option Addr) (n cap : Nat) (w : World) (hn : ¬ n ≤ 20) (hm : n ≤ 9223372036854775807) (hc : w.cell? ⟨b, 0, none⟩ = some (.slice p n cap)) : Calls Tryz.prog 5 #[.slice (some ⟨b, 0, none⟩) 1 1] w fun e w' => e = .returned (.bool false) ∧ w = w' := by
  have g1 : decide ((20 : Int) < (n : Int)) = true := by simp; omega
  go_enter Tryz.func5, Tryz.ntmps5
  go_wp2
  refine wp_loop_rounds 1 ?_
  rw [rounds_succ]
  go_wp2
  go_ret
  exact ⟨rfl, rfl⟩
end Go.Proofs.YtfehonejcambgaaGreatDoor
