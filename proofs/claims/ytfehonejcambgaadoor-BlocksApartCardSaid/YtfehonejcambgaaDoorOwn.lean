/- Layer 2 (blocks): blocks that a law made: what each call leaves. -/
import Derived.Test.YtfehonejcambgaaDoorUsed
import Derived.Test.YtfehonejcambgaaDoorAs
namespace Go.Proofs.YtfehonejcambgaaDoor
open Go.RowKit Bl
set_option maxRecDepth 10000

/-- Blocks that were made since W; R: what else was made since then and is held. -/
structure Own (W : World) (R : List Nat) (pb : Nat) (S : BS) (wr : World) : Prop where
  uniq : Uniq S
  below : Below W.heap.size W wr
  held : ∀ b ∈ R, b < wr.heap.size
  lay : ∃ L, Rep wr pb L S ∧ ∀ b ∈ L.all pb, W.heap.size ≤ b ∧ b ∉ R

theorem Own.more {W : World} {R R' : List Nat} {pb : Nat} {S : BS} {wr : World} (h : Own W R pb S wr) (hr : ∀ b ∈ R', b ∈ R) : Own W R' pb S wr := by
  obtain ⟨L, h1, h2⟩ := h.lay
  exact ⟨h.uniq, h.below, fun b hb => h.held b (hr b hb), L, h1, fun b hb => ⟨(h2 b hb).1, fun hm => (h2 b hb).2 (hr b hm)⟩⟩
/-- Something else is made, or what is held changes. -/
theorem Own.step {W : World} {R R' : List Nat} {pb : Nat} {S : BS} {wr w' : World} (h : Own W R pb S wr) (k : Kept (fun b => b ∈ R) wr w') (hb : Below W.heap.size W w') (hr : ∀ b ∈ R', (b ∈ R ∨ wr.heap.size ≤ b) ∧ b < w'.heap.size) : Own W R' pb S w' := by
  obtain ⟨L, h1, h2⟩ := h.lay
  refine ⟨h.uniq, hb, fun b hb => (hr b hb).2, L, h1.kept k fun b hb => (h2 b hb).2, fun b hb => ⟨(h2 b hb).1, fun hm => ?_⟩⟩
  have := h1.lt b hb
  rcases (hr b hm).1 with e | e
  · exact (h2 b hb).2 e
  · omega
theorem Own.below' {W : World} {R : List Nat} {pb : Nat} {S : BS} {wr w' : World} (h : Own W R pb S wr) (k : Below wr.heap.size wr w') : Own W R pb S w' := by
  have hs := h.below.size
  refine h.step ((Kept.of_below k).mono fun b hb he => by omega) (h.below.trans (k.mono hs)) fun b hb => ⟨Or.inl hb, ?_⟩
  have := h.held b hb
  have := k.size
  omega
theorem Own.moved {W : World} {R : List Nat} {pb : Nat} {L L' : Lay} {S S' : BS} {wr w' : World} (h : Own W R pb S wr) (h2 : ∀ b ∈ L.all pb, W.heap.size ≤ b ∧ b ∉ R) (r : Rep w' pb L' S') (m : Moved pb L L' wr w') (hu : Uniq S') : Own W R pb S' w' ∧ ∀ b ∈ R, w'.heap[b]? = wr.heap[b]? := by
  refine ⟨⟨hu, h.below.trans (m.kept.below h.below.size fun k hk hm => ?_), fun b hb => Nat.lt_of_lt_of_le (h.held b hb) m.kept.size, L', r, fun b hb => ?_⟩, fun b hb => m.kept.block b (h.held b hb) fun hm => (h2 b hm).2 hb⟩
  · have := (h2 k hm).1; omega
  · rcases m.new b hb with e | e
    · exact h2 b e
    · refine ⟨Nat.le_trans h.below.size e, fun hm => ?_⟩
      have := h.held b hm
      omega

/-- The blocks stay as they are held. -/
def HeldBy (R : List Nat) (w w' : World) : Prop := ∀ b ∈ R, w'.heap[b]? = w.heap[b]?

theorem uniq_alloc {S S' : BS} {n : Int} {ref : Nat} (h : Uniq S) (ha : alloc S n = .ok (ref, S')) : Uniq S' := by
  unfold alloc at ha
  split at ha
  · split at ha
    · cases ha
    · rename_i p S1 ht
      split at ha
      · cases ha
      · simp only [Except.ok.injEq, Prod.mk.injEq] at ha
        obtain ⟨_, rfl⟩ := ha
        have h1 : Uniq S1 := by
          unfold take at ht
          split at ht
          · simp only [Option.some.injEq, Prod.mk.injEq] at ht
            obtain ⟨_, rfl⟩ := ht
            exact h
          · split at ht
            · cases ht
            · simp only [Option.some.injEq, Prod.mk.injEq] at ht
              obtain ⟨_, rfl⟩ := ht
              exact aput_nodup _ _ _ h
        exact aput_nodup _ _ _ h1
  · cases ha
theorem uniq_free {S S' : BS} {ref : Nat} (h : Uniq S) (hf : free S ref = some S') : Uniq S' := by
  unfold free at hf
  split at hf
  · cases hf
  · simp only [Option.some.injEq] at hf
    subst hf
    exact aput_nodup _ _ _ h

theorem own_alloc {W : World} {R : List Nat} {pb : Nat} {S S' : BS} {wr : World} (h : Own W R pb S wr) {n : Int} {ref : Nat} (ha : alloc S n = .ok (ref, S')) :
    Calls Tryd.prog 27 #[.pointer (some ⟨pb, 0, none⟩), .int .i64 n] wr fun e w' => e = .returned (.tuple #[.int .u64 ref, .nilIface]) ∧ Own W R pb S' w' ∧ HeldBy R wr w' := by
  have hu := uniq_alloc h.uniq ha
  obtain ⟨L, h1, h2⟩ := h.lay
  unfold alloc at ha
  split at ha
  · rename_i hn
    obtain ⟨m, rfl⟩ : ∃ m : Nat, n = m := ⟨n.toNat, by omega⟩
    simp only [Int.toNat_natCast] at ha
    split at ha
    · cases ha
    · rename_i p S1 ht
      split at ha
      · cases ha
      · rename_i b hb
        simp only [Except.ok.injEq, Prod.mk.injEq] at ha
        obtain ⟨rfl, rfl⟩ := ha
        refine (alloc_ok h1 (by omega) (by omega) ht hb).mono ?_
        rintro e w' ⟨L', rfl, r, m⟩
        exact ⟨rfl, h.moved h2 r m hu⟩
  · cases ha
theorem own_free {W : World} {R : List Nat} {pb : Nat} {S S' : BS} {wr : World} (h : Own W R pb S wr) {ref : Nat} (hr : ref < 18446744073709551616) (hf : free S ref = some S') :
    Calls Tryd.prog 28 #[.pointer (some ⟨pb, 0, none⟩), .int .u64 ref] wr fun e w' => e = .returned .nilIface ∧ Own W R pb S' w' ∧ HeldBy R wr w' := by
  have hu := uniq_free h.uniq hf
  obtain ⟨L, h1, h2⟩ := h.lay
  unfold free at hf
  split at hf
  · cases hf
  · rename_i p b hfd
    simp only [Option.some.injEq] at hf
    subst hf
    by_cases hg : b.gen + 1 < 4294967295
    · rw [if_pos hg] at hu ⊢
      refine (bfree_ok h1 ref hr hfd hg).mono ?_
      rintro e w' ⟨L', rfl, r, m⟩
      exact ⟨rfl, h.moved h2 r m hu⟩
    · rw [if_neg hg] at hu ⊢
      refine (bfree_last h1 ref hr hfd hg).mono ?_
      rintro e w' ⟨L', rfl, r, m⟩
      exact ⟨rfl, h.moved h2 r m hu⟩
theorem own_used {W : World} {R : List Nat} {pb : Nat} {S : BS} {wr : World} (h : Own W R pb S wr) :
    Calls Tryd.prog 30 #[.pointer (some ⟨pb, 0, none⟩)] wr fun e w' => e = .returned (.int .i64 (usedBy S.bl : Int)) ∧ Own W R pb S w' ∧ HeldBy R wr w' := by
  obtain ⟨L, h1, h2⟩ := h.lay
  refine (used_ok h1 h.uniq).mono ?_
  rintro e w' ⟨rfl, hb⟩
  exact ⟨rfl, h.below' hb, fun b hm => hb.block b (h.held b hm)⟩
theorem own_stale {W : World} {R : List Nat} {pb : Nat} {S : BS} {wr : World} (h : Own W R pb S wr) {ref : Nat} (hr : ref < 18446744073709551616) (i : Int) {n : Nat} (hw : word S ref i = .error n) :
    Calls Tryd.prog 32 #[.pointer (some ⟨pb, 0, none⟩), .int .u64 ref, .int .i64 i] wr fun e w' => ∃ v, e = .returned (.tuple #[.int .u64 0, v]) ∧ (∃ a, FaultAt w' v a n) ∧ Own W R pb S w' ∧ HeldBy R wr w' := by
  obtain ⟨L, h1, h2⟩ := h.lay
  refine (bload_bad h1 ref hr i hw).mono ?_
  rintro e w' ⟨v, a, rfl, hf, hb⟩
  exact ⟨v, rfl, ⟨a, hf⟩, h.below' hb, fun b hm => hb.block b (h.held b hm)⟩

set_option maxHeartbeats 1000000 in
/-- concordlaw02.On. -/
theorem on_ok (n f : Nat) (h1 : 1 ≤ n) (h2 : n ≤ 16384) (hf : f ≤ n) (w : World) :
    Calls Tryd.prog 8 #[.int .i64 n, .int .i64 f] w fun e w' => ∃ pa pb, e = .returned (.tuple #[.pointer (some ⟨pa, 0, none⟩), .pointer (some ⟨pb, 0, none⟩)]) ∧ Own w [] pb ⟨List.replicate n 0, f, [], []⟩ w' := by
  go_enter Tryd.func8, Tryd.ntmps8
  go_wp2_with fail
  refine (arena_new n h1 h2 w).mono ?_
  rintro e w1 ⟨pa, wb, rfl, har, hpa, hwb, hb1⟩
  have HA := Lib.hid har
  have HB := Lib.hid hb1
  have HBN := Lib.hid (bnew_ok har f (by simpa using hf))
  clear har hb1
  go_wp2_with (go_at_call 14; refine (no_nil _).mono ?_; rintro e w' ⟨rfl, rfl⟩)
  refine HBN.out.mono ?_
  rintro e w2 ⟨pb, L, rfl, hr, hl1, hl2, hl3, hb2⟩
  have HO := Lib.hid (show Own w [] pb ⟨List.replicate n 0, f, [], []⟩ w2 from ⟨List.nodup_nil, HB.out.trans (hb2.mono HB.out.size), by simp, L, hr, fun b hb => ⟨by
    have := HB.out.size
    rcases hl3 b hb with e | e | e <;> omega, by simp⟩⟩)
  clear hr hl1 hl2 hl3 hb2
  go_wp2_with (go_at_call 14; refine (no_nil _).mono ?_; rintro e w' ⟨rfl, rfl⟩)
  go_ret2
  exact ⟨pa, pb, rfl, HO.out⟩
end Go.Proofs.YtfehonejcambgaaDoor
