/- Layers 2 and 5: blocks that a law made, the place of their arena's struct known; each access, whatever comes of it. -/
import Derived.Test.YtmdganpealbmpaaGreatDoorErrs
import Derived.Test.YtmdganpealbmpaaGreatDoorAsNo
import Derived.Test.YtmdganpealbmpaaGreatDoorThreadPlain
namespace Go.Proofs.YtmdganpealbmpaaGreatDoor
open Go.RowKit Bl Th
set_option maxRecDepth 10000

/-- Blocks that were made since W; R: what else is held. -/
structure Held (W : World) (R : List Nat) (pa pb : Nat) (S : BS) (wr : World) : Prop where
  uniq : Uniq S
  below : Below W.heap.size W wr
  held : ∀ b ∈ R, b < wr.heap.size
  lay : ∃ L, L.pa = pa ∧ Rep wr pb L S ∧ ∀ b ∈ L.all pb, W.heap.size ≤ b ∧ b ∉ R

theorem Held.ok {W : World} {R : List Nat} {pa pb : Nat} {S : BS} {wr : World} (h : Held W R pa pb S wr) : Ok S := by
  obtain ⟨L, _, h1, _⟩ := h.lay
  exact h1.ok
theorem Held.less {W : World} {R R' : List Nat} {pa pb : Nat} {S : BS} {wr : World} (h : Held W R pa pb S wr) (hr : ∀ b ∈ R', b ∈ R) : Held W R' pa pb S wr := by
  obtain ⟨L, h0, h1, h2⟩ := h.lay
  exact ⟨h.uniq, h.below, fun b hb => h.held b (hr b hb), L, h0, h1, fun b hb => ⟨(h2 b hb).1, fun hm => (h2 b hb).2 (hr b hm)⟩⟩
/-- Something else is made, or what is held changes. -/
theorem Held.step {W : World} {R R' : List Nat} {pa pb : Nat} {S : BS} {wr w' : World} (h : Held W R pa pb S wr) (k : Kept (fun b => b ∈ R) wr w') (hb : Below W.heap.size W w') (hr : ∀ b ∈ R', (b ∈ R ∨ wr.heap.size ≤ b) ∧ b < w'.heap.size) : Held W R' pa pb S w' := by
  obtain ⟨L, h0, h1, h2⟩ := h.lay
  refine ⟨h.uniq, hb, fun b hb => (hr b hb).2, L, h0, h1.kept k fun b hb => (h2 b hb).2, fun b hb => ⟨(h2 b hb).1, fun hm => ?_⟩⟩
  have := h1.lt b hb
  rcases (hr b hm).1 with e | e
  · exact (h2 b hb).2 e
  · omega
/-- Only new things came: some of them are held now. -/
theorem Held.came {W : World} {R : List Nat} {pa pb : Nat} {S : BS} {wr w' : World} (h : Held W R pa pb S wr) (k : Below wr.heap.size wr w') (N : List Nat) (hN : ∀ b ∈ N, wr.heap.size ≤ b ∧ b < w'.heap.size) : Held W (N ++ R) pa pb S w' := by
  have hs := h.below.size
  refine h.step ((Kept.of_below k).mono fun b hb he => by omega) (h.below.trans (k.mono hs)) fun b hb => ?_
  rcases List.mem_append.1 hb with e | e
  · exact ⟨.inr (hN b e).1, (hN b e).2⟩
  · have := h.held b e
    have := k.size
    exact ⟨.inl e, by omega⟩
theorem Held.below' {W : World} {R : List Nat} {pa pb : Nat} {S : BS} {wr w' : World} (h : Held W R pa pb S wr) (k : Below wr.heap.size wr w') : Held W R pa pb S w' := h.came k [] (by simp)
theorem Held.moved {W : World} {R : List Nat} {pa pb : Nat} {L L' : Lay} {S S' : BS} {wr w' : World} (h : Held W R pa pb S wr) (h0 : L.pa = pa) (h2 : ∀ b ∈ L.all pb, W.heap.size ≤ b ∧ b ∉ R) (r : Rep w' pb L' S') (m : Moved pb L L' wr w') (hu : Uniq S') : Held W R pa pb S' w' ∧ HeldBy R wr w' := by
  refine ⟨⟨hu, h.below.trans (m.kept.below h.below.size fun k hk hm => ?_), fun b hb => Nat.lt_of_lt_of_le (h.held b hb) m.kept.size, L', m.pa.trans h0, r, fun b hb => ?_⟩, ⟨m.kept.size, fun b hb => m.kept.block b (h.held b hb) fun hm => (h2 b hm).2 hb⟩⟩
  · have := (h2 k hm).1; omega
  · rcases m.new b hb with e | e
    · exact h2 b e
    · refine ⟨Nat.le_trans h.below.size e, fun hm => ?_⟩
      have := h.held b hm
      omega
theorem HeldBy.refl (R : List Nat) (w : World) : HeldBy R w w := ⟨Nat.le_refl _, fun _ _ => rfl⟩
theorem HeldBy.trans {R : List Nat} {a b c : World} (h : HeldBy R a b) (k : HeldBy R b c) : HeldBy R a c := ⟨Nat.le_trans h.1 k.1, fun x hx => (k.2 x hx).trans (h.2 x hx)⟩
theorem HeldBy.less {R R' : List Nat} {a b : World} (h : HeldBy R a b) (hr : ∀ x ∈ R', x ∈ R) : HeldBy R' a b := ⟨h.1, fun x hx => h.2 x (hr x hx)⟩
theorem HeldBy.of_below {R : List Nat} {w w' : World} (k : Below w.heap.size w w') (h : ∀ b ∈ R, b < w.heap.size) : HeldBy R w w' := ⟨k.size, fun b hb => k.block b (h b hb)⟩
theorem Cells.heldBy {R : List Nat} {w w' : World} {b : Nat} {cs : List Value} {t : TypeId} (h : Cells w b cs t) (k : HeldBy R w w') (hb : b ∈ R) : Cells w' b cs t := (k.2 b hb).trans h

theorem word_err {S : BS} {ref : Nat} {i : Int} {n : Nat} (h : word S ref i = .error n) : 1 ≤ n ∧ n ≤ 17 := by
  unfold word at h
  split at h
  · obtain rfl := Except.error.inj h; omega
  · split at h
    · cases h
    · obtain rfl := Except.error.inj h; omega
/-- What an access of the blocks leaves: an error v, with its number n. -/
def Did (W : World) (R : List Nat) (pa pb : Nat) (wr : World) (n : Nat) (S' : BS) (v : Value) (w' : World) : Prop :=
  ∃ E, Err0 w' v n E ∧ (∀ b ∈ E, wr.heap.size ≤ b) ∧ Held W (E ++ R) pa pb S' w' ∧ HeldBy R wr w'
theorem did_fault {W : World} {R : List Nat} {pa pb : Nat} {S : BS} {wr w' : World} (h : Held W R pa pb S wr) {v : Value} {a : Int} {n : Nat} (hf : FaultNew wr w' v a n) (hb : Below wr.heap.size wr w') (h1 : 1 ≤ n) (h2 : n ≤ 17) : Did W R pa pb wr n S v w' := by
  obtain ⟨f, rfl, hc, hn⟩ := hf
  have hl := hc.lt
  exact ⟨[f], .fault f a n h1 h2 hc, by simpa using hn, h.came hb [f] (by simpa using ⟨hn, hl⟩), HeldBy.of_below hb h.held⟩
theorem did_ok {W : World} {R : List Nat} {pa pb : Nat} {S' : BS} {wr w' : World} (h : Held W R pa pb S' w') (k : HeldBy R wr w') : Did W R pa pb wr 0 S' .nilIface w' :=
  ⟨[], .none, by simp, h, k⟩
theorem did_no {W : World} {R : List Nat} {pa pb : Nat} {S' : BS} {wr w' : World} (h : Held W R pa pb S' w') (k : HeldBy R wr w') {n : Nat} (h1 : 1 ≤ n) (h2 : n ≤ 17) : Did W R pa pb wr n S' (.iface 99 (.int .i64 (n : Int))) w' :=
  ⟨[], .no n h1 h2, by simp, h, k⟩

theorem uniq_words {S : BS} (h : Uniq S) (ws : List Nat) : Uniq { S with ws := ws } := h
/-- Load, whatever comes of it. -/
theorem held_load {W : World} {R : List Nat} {pa pb : Nat} {S : BS} {wr : World} (h : Held W R pa pb S wr) {ref : Nat} (hr : ref < 18446744073709551616) (i : Int) :
    Calls Tryz.prog 16 #[.pointer (some ⟨pb, 0, none⟩), .int .u64 ref, .int .i64 i] wr fun e w' => ∃ v, e = .returned (.tuple #[.int .u64 ((opLoad ref i S).1.word : Int), v]) ∧ Did W R pa pb wr (opLoad ref i S).1.err (opLoad ref i S).2 v w' := by
  obtain ⟨L, h0, h1, h2⟩ := h.lay
  unfold opLoad
  cases hw : word S ref i with
  | ok k =>
    refine (bload_ok h1 ref hr i hw).mono ?_
    rintro e w' ⟨rfl, r, k⟩
    obtain ⟨a, b⟩ := h.moved h0 h2 r (Moved.same k (two_mem pb L)) h.uniq
    exact ⟨_, rfl, did_ok a b⟩
  | error n =>
    obtain ⟨n1, n2⟩ := word_err hw
    refine (bload_bad h1 ref hr i hw).mono ?_
    rintro e w' ⟨v, a, rfl, hf, hb⟩
    exact ⟨v, rfl, did_fault h hf hb n1 n2⟩
theorem held_store {W : World} {R : List Nat} {pa pb : Nat} {S : BS} {wr : World} (h : Held W R pa pb S wr) {ref : Nat} (hr : ref < 18446744073709551616) (i : Int) {x : Nat} (hx : x < 18446744073709551616) :
    Calls Tryz.prog 114 #[.pointer (some ⟨pb, 0, none⟩), .int .u64 ref, .int .i64 i, .int .u64 x] wr fun e w' => ∃ v, e = .returned v ∧ Did W R pa pb wr (opStore ref i x S).1.err (opStore ref i x S).2 v w' := by
  obtain ⟨L, h0, h1, h2⟩ := h.lay
  unfold opStore
  cases hw : word S ref i with
  | ok k =>
    refine (bstore_ok h1 ref hr i x hx hw).mono ?_
    rintro e w' ⟨rfl, r, k⟩
    obtain ⟨a, b⟩ := h.moved h0 h2 r (Moved.same k (two_mem pb L)) (uniq_words h.uniq _)
    exact ⟨_, rfl, did_ok a b⟩
  | error n =>
    obtain ⟨n1, n2⟩ := word_err hw
    refine (bstore_bad h1 ref hr i x hw).mono ?_
    rintro e w' ⟨v, a, rfl, hf, hb⟩
    exact ⟨v, rfl, did_fault h hf hb n1 n2⟩
theorem held_cas {W : World} {R : List Nat} {pa pb : Nat} {S : BS} {wr : World} (h : Held W R pa pb S wr) {ref : Nat} (hr : ref < 18446744073709551616) (i : Int) (old : Nat) {x : Nat} (hx : x < 18446744073709551616) :
    Calls Tryz.prog 129 #[.pointer (some ⟨pb, 0, none⟩), .int .u64 ref, .int .i64 i, .int .u64 old, .int .u64 x] wr fun e w' => ∃ v, e = .returned (.tuple #[.bool (opCAS ref i old x S).1.done, v]) ∧ Did W R pa pb wr (opCAS ref i old x S).1.err (opCAS ref i old x S).2 v w' := by
  obtain ⟨L, h0, h1, h2⟩ := h.lay
  unfold opCAS
  cases hw : word S ref i with
  | ok k =>
    refine (bcas_ok h1 ref hr i old x hx hw).mono ?_
    rintro e w' ⟨rfl, r, k⟩
    obtain ⟨a, b⟩ := h.moved h0 h2 r (Moved.same k (two_mem pb L)) (uniq_words h.uniq _)
    exact ⟨_, rfl, did_ok a b⟩
  | error n =>
    obtain ⟨n1, n2⟩ := word_err hw
    refine (bcas_bad h1 ref hr i old x hw).mono ?_
    rintro e w' ⟨v, a, rfl, hf, hb⟩
    exact ⟨v, rfl, did_fault h hf hb n1 n2⟩
theorem held_alloc {W : World} {R : List Nat} {pa pb : Nat} {S : BS} {wr : World} (h : Held W R pa pb S wr) (n : Int) :
    Calls Tryz.prog 98 #[.pointer (some ⟨pb, 0, none⟩), .int .i64 n] wr fun e w' => ∃ v, e = .returned (.tuple #[.int .u64 ((opAlloc n S).1.ref : Int), v]) ∧ Did W R pa pb wr (opAlloc n S).1.err (opAlloc n S).2 v w' := by
  obtain ⟨L, h0, h1, h2⟩ := h.lay
  unfold opAlloc
  cases ha : alloc S n with
  | ok q =>
    obtain ⟨ref, S'⟩ := q
    have hu := uniq_alloc h.uniq ha
    unfold alloc at ha
    split at ha
    · rename_i hn
      obtain ⟨m, rfl⟩ : ∃ m : Nat, n = m := ⟨n.toNat, by omega⟩
      simp only [Int.toNat_natCast] at ha
      split at ha
      · cases ha
      · rename_i p S1 ht
        split at ha
        · cases ha
        · rename_i b hb
          simp only [Except.ok.injEq, Prod.mk.injEq] at ha
          obtain ⟨rfl, rfl⟩ := ha
          refine (alloc_ok h1 (by omega) (by omega) ht hb).mono ?_
          rintro e w' ⟨L', rfl, r, m⟩
          obtain ⟨a, b⟩ := h.moved h0 h2 r m hu
          exact ⟨_, rfl, did_ok a b⟩
    · cases ha
  | error k =>
    unfold alloc at ha
    split at ha
    · rename_i hn
      obtain ⟨m, rfl⟩ : ∃ m : Nat, n = m := ⟨n.toNat, by omega⟩
      simp only [Int.toNat_natCast] at ha
      split at ha
      · rename_i ht
        obtain rfl := Except.error.inj ha
        refine (alloc_full h1 (by omega) (by omega) ht).mono ?_
        rintro e w' ⟨rfl, hb⟩
        exact ⟨_, rfl, did_no (n := 4) (h.below' hb) (HeldBy.of_below hb h.held) (by omega) (by omega)⟩
      · rename_i p S1 ht
        split at ha
        · rename_i hb
          obtain ⟨b, hb', _⟩ := take_fits h1.ok ht
          rw [hb] at hb'; cases hb'
        · cases ha
    · rename_i hn
      obtain rfl := Except.error.inj ha
      refine (alloc_arg h1 n hn).mono ?_
      rintro e w' ⟨rfl, rfl⟩
      exact ⟨_, rfl, did_no (n := 2) h (HeldBy.refl _ _) (by omega) (by omega)⟩
set_option maxHeartbeats 1000000 in
/-- concordlaw02.On. -/
theorem on_held (n f : Nat) (h1 : 1 ≤ n) (h2 : n ≤ 16384) (hf : f ≤ n) (w : World) :
    Calls Tryz.prog 40 #[.int .i64 n, .int .i64 f] w fun e w' => ∃ pa pb, e = .returned (.tuple #[.pointer (some ⟨pa, 0, none⟩), .pointer (some ⟨pb, 0, none⟩)]) ∧ Held w [] pa pb ⟨List.replicate n 0, f, [], []⟩ w' := by
  go_enter Tryz.func40, Tryz.ntmps40
  go_wp2_with fail
  refine (arena_new n h1 h2 w).mono ?_
  rintro e w1 ⟨pa, wb, rfl, har, hpa, hwb, hb1⟩
  have HA := Lib.hid har
  have HB := Lib.hid hb1
  have HBN := Lib.hid (bnew_ok har f (by simpa using hf))
  clear har hb1
  go_wp2_with (go_at_call 17; refine (no_nil _).mono ?_; rintro e w' ⟨rfl, rfl⟩)
  refine HBN.out.mono ?_
  rintro e w2 ⟨pb, L, rfl, hr, hl1, hl2, hl3, hb2⟩
  have HO := Lib.hid (show Held w [] pa pb ⟨List.replicate n 0, f, [], []⟩ w2 from ⟨List.nodup_nil, HB.out.trans (hb2.mono HB.out.size), by simp, L, hl1, hr, fun b hb => ⟨by
    have := HB.out.size
    rcases hl3 b hb with e | e | e <;> omega, by simp⟩⟩)
  clear hr hl1 hl2 hl3 hb2
  go_wp2_with (go_at_call 17; refine (no_nil _).mono ?_; rintro e w' ⟨rfl, rfl⟩)
  go_ret2
  exact ⟨pa, pb, rfl, HO.out⟩
end Go.Proofs.YtmdganpealbmpaaGreatDoor
