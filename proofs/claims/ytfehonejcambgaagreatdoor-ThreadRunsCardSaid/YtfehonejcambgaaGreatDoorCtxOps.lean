/- Layer 5 (thread): the accesses of a Ctx, one contract each. -/
import Derived.Test.YtfehonejcambgaaGreatDoorAccess2
namespace Go.Proofs.YtfehonejcambgaaGreatDoor
open Go.RowKit Bl Th
set_option maxRecDepth 10000

theorem ref_lt {S S' : BS} {n : Int} {ref : Nat} (ho : Ok S) (h : alloc S n = .ok (ref, S')) : ref < 18446744073709551616 := by
  unfold alloc at h
  split at h
  · split at h
    · cases h
    · rename_i p S1 ht
      obtain ⟨b, hb, _, hgen, _, _, hws, hp⟩ := take_fits ho ht
      have htop : S1.top ≤ S.ws.length := by
        have := ho.top
        unfold take at ht
        split at ht
        · simp only [Option.some.injEq, Prod.mk.injEq] at ht
          obtain ⟨_, rfl⟩ := ht
          exact this
        · split at ht
          · cases ht
          · simp only [Option.some.injEq, Prod.mk.injEq] at ht
            obtain ⟨_, rfl⟩ := ht
            simp only
            omega
      have := ho.len
      rw [hb] at h
      simp only [Except.ok.injEq, Prod.mk.injEq] at h
      obtain ⟨rfl, _⟩ := h
      unfold refOf
      omega
  · cases h
theorem word_err5 {S : BS} {ref : Nat} {i : Int} {n : Nat} (h : word S ref i = .error n) : n ≤ 5 := by
  unfold word at h
  split at h
  · obtain rfl := Except.error.inj h; omega
  · split at h
    · cases h
    · obtain rfl := Except.error.inj h; omega
theorem alloc_err5 {S : BS} {i : Int} {n : Nat} (h : alloc S i = .error n) : n ≤ 5 := by
  unfold alloc at h
  split at h
  · split at h
    · obtain rfl := Except.error.inj h; omega
    · split at h
      · obtain rfl := Except.error.inj h; omega
      · cases h
  · obtain rfl := Except.error.inj h; omega
theorem fit_load {S : BS} (ho : Ok S) {ref : Nat} (hr : ref < 18446744073709551616) (i : Int) : Fit (opLoad ref i S).1 := by
  unfold opLoad
  cases hw : word S ref i with
  | ok k =>
    refine ⟨hr, ?_, by simp⟩
    simp only
    rw [List.getD_eq_getElem?_getD]
    cases hk : S.ws[k]? with
    | none => simp
    | some y => exact ho.words y (List.mem_of_getElem? hk)
  | error n => exact ⟨hr, by simp, word_err5 hw⟩
theorem fit_store {S : BS} {ref x : Nat} (hr : ref < 18446744073709551616) (hx : x < 18446744073709551616) (i : Int) : Fit (opStore ref i x S).1 := by
  unfold opStore
  cases hw : word S ref i with
  | ok k => exact ⟨hr, hx, by simp⟩
  | error n => exact ⟨hr, hx, word_err5 hw⟩
theorem fit_cas {S : BS} {ref old x : Nat} (hr : ref < 18446744073709551616) (hx : x < 18446744073709551616) (i : Int) : Fit (opCAS ref i old x S).1 := by
  unfold opCAS
  cases hw : word S ref i with
  | ok k => exact ⟨hr, hx, by simp⟩
  | error n => exact ⟨hr, hx, word_err5 hw⟩
theorem fit_alloc {S : BS} (ho : Ok S) (i : Int) : Fit (opAlloc i S).1 := by
  unfold opAlloc
  cases ha : alloc S i with
  | ok q => exact ⟨ref_lt ho ha, by simp, by simp⟩
  | error n => exact ⟨by simp, by simp, alloc_err5 ha⟩
theorem fit_free {S : BS} {ref : Nat} (hr : ref < 18446744073709551616) : Fit (opFree ref S).1 := by
  unfold opFree
  cases free S ref with
  | some q => exact ⟨hr, by simp, by simp⟩
  | none => exact ⟨hr, by simp, by simp⟩

theorem Ctx.ok {W : World} {R : List Nat} {pa pb pc : Nat} {c : CS} {wr : World} (h : Ctx W R pa pb pc c wr) : Ok c.bs := by
  obtain ⟨lv, h⟩ := h
  exact h.held.ok
theorem Ctx.below {W : World} {R : List Nat} {pa pb pc : Nat} {c : CS} {wr : World} (h : Ctx W R pa pb pc c wr) : Below W.heap.size W wr := by
  obtain ⟨lv, h⟩ := h
  exact h.held.below
theorem Ctx.fit {W : World} {R : List Nat} {pa pb pc : Nat} {c : CS} {wr : World} (h : Ctx W R pa pb pc c wr) : ∀ x ∈ c.log, Fit x := by
  obtain ⟨lv, h⟩ := h
  exact h.fit
theorem Ctx.heldR {W : World} {R : List Nat} {pa pb pc : Nat} {c : CS} {wr : World} (h : Ctx W R pa pb pc c wr) : ∀ b ∈ R, b < wr.heap.size := by
  obtain ⟨lv, h⟩ := h
  exact h.heldR
theorem Ctx.cell0 {W : World} {R : List Nat} {pa pb pc : Nat} {c : CS} {wr : World} (h : Ctx W R pa pb pc c wr) : wr.cell? ⟨pc, 0, none⟩ = some (.pointer (some ⟨pb, 0, none⟩)) := by
  obtain ⟨lv, h⟩ := h
  exact h.cells.cell 0
/-- What is held changes, or something new is held. -/
theorem Ctx.step {W : World} {R R' : List Nat} {pa pb pc : Nat} {c : CS} {wr w' : World} (h : Ctx W R pa pb pc c wr) (k : Kept (fun b => b ∈ R) wr w') (hb : Below W.heap.size W w') (hr : ∀ b ∈ R', (b ∈ R ∨ wr.heap.size ≤ b) ∧ b < w'.heap.size) : Ctx W R' pa pb pc c w' := by
  obtain ⟨lv, h⟩ := h
  have hp := h.cells.lt
  have hlt (b : Nat) (hb : b ∈ lv.ownBlock.toList) : b < wr.heap.size := h.held.held b (by simp only [List.mem_cons, List.mem_append]; exact .inr (.inl hb))
  refine ⟨lv, h.cells.kept k (fun e => h.pcR (by simp [e])), ownsRow_kept h.row k (fun b hb' e => h.logR b (by simp [hb']) e), ?_, ?_, ?_, h.new, h.next, h.few, h.fit⟩
  · refine h.held.step (k.mono fun b _ e => by simp [e]) hb fun b hb' => ?_
    simp only [List.mem_cons, List.mem_append] at hb' ⊢
    rcases hb' with rfl | e | e
    · exact ⟨.inl (.inl rfl), Nat.lt_of_lt_of_le hp k.size⟩
    · exact ⟨.inl (.inr (.inl e)), Nat.lt_of_lt_of_le (hlt b e) k.size⟩
    · refine ⟨?_, (hr b e).2⟩
      rcases (hr b e).1 with q | q
      · exact .inl (.inr (.inr q))
      · exact .inr q
  · intro hm
    rcases List.mem_append.1 hm with e | e
    · exact h.pcR (by simp only [List.mem_append]; exact .inl e)
    · rcases (hr pc e).1 with q | q
      · exact h.pcR (by simp [q])
      · omega
  · intro b hb' hm
    rcases (hr b hm).1 with q | q
    · exact h.logR b hb' q
    · have := hlt b hb'; omega
theorem Ctx.came {W : World} {R : List Nat} {pa pb pc : Nat} {c : CS} {wr w' : World} (h : Ctx W R pa pb pc c wr) (k : Below wr.heap.size wr w') (N : List Nat) (hN : ∀ b ∈ N, wr.heap.size ≤ b ∧ b < w'.heap.size) : Ctx W (N ++ R) pa pb pc c w' := by
  have hs := h.below.size
  have hR := h.heldR
  refine h.step ((Kept.of_below k).mono fun b hb e => absurd e (by omega)) (h.below.trans (k.mono hs)) fun b hb => ?_
  rcases List.mem_append.1 hb with e | e
  · exact ⟨.inr (hN b e).1, (hN b e).2⟩
  · exact ⟨.inl e, Nat.lt_of_lt_of_le (hR b e) k.size⟩
theorem Ctx.less {W : World} {R R' : List Nat} {pa pb pc : Nat} {c : CS} {wr : World} (h : Ctx W R pa pb pc c wr) (hr : ∀ b ∈ R', b ∈ R) : Ctx W R' pa pb pc c wr :=
  h.step (Kept.refl _ _) h.below fun b hb => ⟨.inl (hr b hb), h.heldR b (hr b hb)⟩

/-- access, whichever way it goes. -/
theorem access_any {W : World} {R : List Nat} {pa pb pc : Nat} {c : CS} {wr : World} (h : Ctx W R pa pb pc c wr) (f : Nat) (ef : ∀ (args : Array Value) (w : World), (callFunc f args).run Tryz.prog w = .ok (.enter f args) w) (caps : Array Value) (op : BS → Ntry × BS) (hfit : Fit (op c.bs).1)
    (hdo : ∀ (w1 : World) (R' : List Nat), Held W R' pa pb c.bs w1 → HeldBy (pc :: R) wr w1 → (∀ b ∈ pc :: R, b ∈ R') → Calls Tryz.prog f caps w1 (Gave W R' pa pb w1 (op c.bs).1 (op c.bs).2)) :
    Calls Tryz.prog 39 #[.pointer (some ⟨pc, 0, none⟩), .func (.func f) #[] caps] wr (After W R pa pb pc wr (access op c)) := by
  unfold access
  cases hx : c.log[c.next]? with
  | some x => exact access_log h _ hx
  | none =>
    have h1 : c.log.length ≤ c.next := by simpa using hx
    simp only
    by_cases h2 : c.did = true
    · rw [if_pos h2]; exact access_over h _ h1 h2
    · rw [if_neg h2]
      have h2' : c.did = false := by simpa using h2
      by_cases h3 : 6000 ≤ c.log.length
      · rw [if_pos h3]; exact access_full h _ h1 h2' h3
      · rw [if_neg h3]; exact access_new h f ef caps op hfit h1 h2' (by omega) hdo
theorem blank_fit : Fit Th.blank := ⟨by decide, by decide, by decide⟩
/-- The entry that an access tells fits. -/
theorem access_fit {op : BS → Ntry × BS} {c : CS} (h : ∀ x ∈ c.log, Fit x) (ho : Fit (op c.bs).1) : Fit (access op c).2.1 := by
  unfold access
  cases hx : c.log[c.next]? with
  | some x => exact h x (List.mem_of_getElem? hx)
  | none =>
    simp only
    split
    · exact blank_fit
    · split
      · exact blank_fit
      · exact ho

/-- What an access with a result answers. -/
def After2 (W : World) (R : List Nat) (pa pb pc : Nat) (wr : World) (v : Ntry → Value) (r : Nat × Ntry × CS) (e : Ending) (w' : World) : Prop :=
  e = .returned (.tuple #[v r.2.1, errV r.1]) ∧ Ctx W R pa pb pc r.2.2 w' ∧ HeldBy R wr w'
def After1 (W : World) (R : List Nat) (pa pb pc : Nat) (wr : World) (r : Nat × Ntry × CS) (e : Ending) (w' : World) : Prop :=
  e = .returned (errV r.1) ∧ Ctx W R pa pb pc r.2.2 w' ∧ HeldBy R wr w'

theorem ef_load (args : Array Value) (w : World) : (callFunc 40 args).run Tryz.prog w = .ok (.enter 40 args) w := enters_of Tryz.func40 (by kernel_rfl) rfl args w
set_option maxHeartbeats 1000000 in
theorem cload_ok {W : World} {R : List Nat} {pa pb pc : Nat} {c : CS} {wr : World} (h : Ctx W R pa pb pc c wr) (hg : Handle W) {ref : Nat} (hr : ref < 18446744073709551616) (i : Int) :
    Calls Tryz.prog 25 #[(.pointer (some ⟨pc, 0, none⟩)), (.int .u64 (ref : Int)), (.int .i64 i)] wr (After2 W R pa pb pc wr (fun x => (.int .u64 (x.word : Int))) (access (opLoad ref i) c)) := by
  have H := Lib.hid h
  have HG := Lib.hid hg
  have hmf : ∀ (fn : Fn) (first cap : Array Value) (w : World), (Instr.makeFunc fn first cap).run Tryz.prog w = .ok (.func fn first cap) w := fun _ _ _ _ => rfl
  have hB : Below wr.heap.size wr (((wr.alloc (.cells #[(.pointer (some ⟨pc, 0, none⟩))] 59)).alloc (.cells #[(.int .u64 (ref : Int))] 52)).alloc (.cells #[(.int .i64 i)] 3)) := ((((Below.refl _ _).alloc (by simp) _).alloc (by simp) _).alloc (by simp; omega) _)
  have q0 : (((wr.alloc (.cells #[(.pointer (some ⟨pc, 0, none⟩))] 59)).alloc (.cells #[(.int .u64 (ref : Int))] 52)).alloc (.cells #[(.int .i64 i)] 3)).cell? ⟨wr.heap.size, 0, none⟩ = some (.pointer (some ⟨pc, 0, none⟩)) := by
    have h := (((Cells.new wr [(.pointer (some ⟨pc, 0, none⟩))] 59).alloc (.cells #[(.int .u64 (ref : Int))] 52)).alloc (.cells #[(.int .i64 i)] 3)).cell 0
    simpa only [World.size_alloc, List.getElem?_cons_zero] using h
  have q1 : (((wr.alloc (.cells #[(.pointer (some ⟨pc, 0, none⟩))] 59)).alloc (.cells #[(.int .u64 (ref : Int))] 52)).alloc (.cells #[(.int .i64 i)] 3)).cell? ⟨wr.heap.size + 1, 0, none⟩ = some (.int .u64 (ref : Int)) := by
    have h := ((Cells.new (wr.alloc (.cells #[(.pointer (some ⟨pc, 0, none⟩))] 59)) [(.int .u64 (ref : Int))] 52).alloc (.cells #[(.int .i64 i)] 3)).cell 0
    simpa only [World.size_alloc, List.getElem?_cons_zero] using h
  have q2 : (((wr.alloc (.cells #[(.pointer (some ⟨pc, 0, none⟩))] 59)).alloc (.cells #[(.int .u64 (ref : Int))] 52)).alloc (.cells #[(.int .i64 i)] 3)).cell? ⟨wr.heap.size + 1 + 1, 0, none⟩ = some (.int .i64 i) := by
    have h := (Cells.new ((wr.alloc (.cells #[(.pointer (some ⟨pc, 0, none⟩))] 59)).alloc (.cells #[(.int .u64 (ref : Int))] 52)) [(.int .i64 i)] 3).cell 0
    simpa only [World.size_alloc, List.getElem?_cons_zero] using h
  have hctx := h.came hB [wr.heap.size, wr.heap.size + 1, wr.heap.size + 1 + 1] (by simp; try omega)
  have q3 : (((wr.alloc (.cells #[(.pointer (some ⟨pc, 0, none⟩))] 59)).alloc (.cells #[(.int .u64 (ref : Int))] 52)).alloc (.cells #[(.int .i64 i)] 3)).cell? ⟨pc, 0, none⟩ = some (.pointer (some ⟨pb, 0, none⟩)) := hctx.cell0
  have HB := Lib.hid hB
  have HA := Lib.hid (access_any hctx 40 ef_load #[.pointer (some ⟨wr.heap.size, 0, none⟩), .pointer (some ⟨wr.heap.size + 1, 0, none⟩), .pointer (some ⟨wr.heap.size + 1 + 1, 0, none⟩)] (opLoad ref i) (fit_load h.ok hr i) (fun w1 R' hh hby hs => load1_ok hh HG.out hr ((hby.cell (a := ⟨wr.heap.size, 0, none⟩) (by simp)).trans q0) ((hby.cell (a := ⟨pc, 0, none⟩) (by simp)).trans q3) ((hby.cell (a := ⟨wr.heap.size + 1, 0, none⟩) (by simp)).trans q1) ((hby.cell (a := ⟨wr.heap.size + 1 + 1, 0, none⟩) (by simp)).trans q2) (hs _ (by simp)) (hs _ (by simp)) (hs _ (by simp)) (hs _ (by simp))))
  clear h hg hB hctx q0 q1 q2 q3
  go_enter Tryz.func25, Tryz.ntmps25
  go_wp2_with fail
  refine HA.out.mono ?_
  rintro e w4 ⟨he, hc4, hb4⟩
  obtain ⟨r, hr⟩ : ∃ r, access (opLoad ref i) c = r := ⟨_, rfl⟩
  rw [hr] at he hc4
  have HR := Lib.hid hr
  rw [show (encE r.2.1).toArray = #[.int .i64 (r.2.1.kind : Int), .int .u64 (r.2.1.ref : Int), .int .i64 r.2.1.i, .int .u64 (r.2.1.word : Int), .bool r.2.1.done, .int .i64 (r.2.1.err : Int)] from rfl] at he
  subst he
  have HC4 := Lib.hid hc4; have HB4 := Lib.hid hb4
  clear hc4 hb4 hr HA
  go_wp2
  go_ret2
  rw [HR.out]
  have b5 := (Below.refl w4.heap.size w4).alloc (Nat.le_refl _) (.cells #[.int .i64 (r.2.1.kind : Int), .int .u64 (r.2.1.ref : Int), .int .i64 r.2.1.i, .int .u64 (r.2.1.word : Int), .bool r.2.1.done, .int .i64 (r.2.1.err : Int)] 70)
  refine ⟨rfl, (HC4.out.came b5 [] (by simp)).less (fun b hb => by simp [hb]), ?_⟩
  exact HeldBy.trans (HeldBy.of_below HB.out H.out.heldR) (HeldBy.trans (HB4.out.less (fun b hb => by simp [hb])) (HeldBy.of_below b5 (fun b hb => HC4.out.heldR b (by simp [hb]))))
theorem ef_store (args : Array Value) (w : World) : (callFunc 43 args).run Tryz.prog w = .ok (.enter 43 args) w := enters_of Tryz.func43 (by kernel_rfl) rfl args w
set_option maxHeartbeats 1000000 in
theorem cstore_ok {W : World} {R : List Nat} {pa pb pc : Nat} {c : CS} {wr : World} (h : Ctx W R pa pb pc c wr) (hg : Handle W) {ref x : Nat} (hr : ref < 18446744073709551616) (hx : x < 18446744073709551616) (i : Int) :
    Calls Tryz.prog 26 #[(.pointer (some ⟨pc, 0, none⟩)), (.int .u64 (ref : Int)), (.int .i64 i), (.int .u64 (x : Int))] wr (After1 W R pa pb pc wr (access (opStore ref i x) c)) := by
  have H := Lib.hid h
  have HG := Lib.hid hg
  have hmf : ∀ (fn : Fn) (first cap : Array Value) (w : World), (Instr.makeFunc fn first cap).run Tryz.prog w = .ok (.func fn first cap) w := fun _ _ _ _ => rfl
  have hB : Below wr.heap.size wr ((((wr.alloc (.cells #[(.pointer (some ⟨pc, 0, none⟩))] 59)).alloc (.cells #[(.int .u64 (ref : Int))] 52)).alloc (.cells #[(.int .i64 i)] 3)).alloc (.cells #[(.int .u64 (x : Int))] 52)) := (((((Below.refl _ _).alloc (by simp) _).alloc (by simp) _).alloc (by simp; omega) _).alloc (by simp; omega) _)
  have q0 : ((((wr.alloc (.cells #[(.pointer (some ⟨pc, 0, none⟩))] 59)).alloc (.cells #[(.int .u64 (ref : Int))] 52)).alloc (.cells #[(.int .i64 i)] 3)).alloc (.cells #[(.int .u64 (x : Int))] 52)).cell? ⟨wr.heap.size, 0, none⟩ = some (.pointer (some ⟨pc, 0, none⟩)) := by
    have h := ((((Cells.new wr [(.pointer (some ⟨pc, 0, none⟩))] 59).alloc (.cells #[(.int .u64 (ref : Int))] 52)).alloc (.cells #[(.int .i64 i)] 3)).alloc (.cells #[(.int .u64 (x : Int))] 52)).cell 0
    simpa only [World.size_alloc, List.getElem?_cons_zero] using h
  have q1 : ((((wr.alloc (.cells #[(.pointer (some ⟨pc, 0, none⟩))] 59)).alloc (.cells #[(.int .u64 (ref : Int))] 52)).alloc (.cells #[(.int .i64 i)] 3)).alloc (.cells #[(.int .u64 (x : Int))] 52)).cell? ⟨wr.heap.size + 1, 0, none⟩ = some (.int .u64 (ref : Int)) := by
    have h := (((Cells.new (wr.alloc (.cells #[(.pointer (some ⟨pc, 0, none⟩))] 59)) [(.int .u64 (ref : Int))] 52).alloc (.cells #[(.int .i64 i)] 3)).alloc (.cells #[(.int .u64 (x : Int))] 52)).cell 0
    simpa only [World.size_alloc, List.getElem?_cons_zero] using h
  have q2 : ((((wr.alloc (.cells #[(.pointer (some ⟨pc, 0, none⟩))] 59)).alloc (.cells #[(.int .u64 (ref : Int))] 52)).alloc (.cells #[(.int .i64 i)] 3)).alloc (.cells #[(.int .u64 (x : Int))] 52)).cell? ⟨wr.heap.size + 1 + 1, 0, none⟩ = some (.int .i64 i) := by
    have h := ((Cells.new ((wr.alloc (.cells #[(.pointer (some ⟨pc, 0, none⟩))] 59)).alloc (.cells #[(.int .u64 (ref : Int))] 52)) [(.int .i64 i)] 3).alloc (.cells #[(.int .u64 (x : Int))] 52)).cell 0
    simpa only [World.size_alloc, List.getElem?_cons_zero] using h
  have q3 : ((((wr.alloc (.cells #[(.pointer (some ⟨pc, 0, none⟩))] 59)).alloc (.cells #[(.int .u64 (ref : Int))] 52)).alloc (.cells #[(.int .i64 i)] 3)).alloc (.cells #[(.int .u64 (x : Int))] 52)).cell? ⟨wr.heap.size + 1 + 1 + 1, 0, none⟩ = some (.int .u64 (x : Int)) := by
    have h := (Cells.new (((wr.alloc (.cells #[(.pointer (some ⟨pc, 0, none⟩))] 59)).alloc (.cells #[(.int .u64 (ref : Int))] 52)).alloc (.cells #[(.int .i64 i)] 3)) [(.int .u64 (x : Int))] 52).cell 0
    simpa only [World.size_alloc, List.getElem?_cons_zero] using h
  have hctx := h.came hB [wr.heap.size, wr.heap.size + 1, wr.heap.size + 1 + 1, wr.heap.size + 1 + 1 + 1] (by simp; try omega)
  have q4 : ((((wr.alloc (.cells #[(.pointer (some ⟨pc, 0, none⟩))] 59)).alloc (.cells #[(.int .u64 (ref : Int))] 52)).alloc (.cells #[(.int .i64 i)] 3)).alloc (.cells #[(.int .u64 (x : Int))] 52)).cell? ⟨pc, 0, none⟩ = some (.pointer (some ⟨pb, 0, none⟩)) := hctx.cell0
  have HB := Lib.hid hB
  have HA := Lib.hid (access_any hctx 43 ef_store #[.pointer (some ⟨wr.heap.size + 1, 0, none⟩), .pointer (some ⟨wr.heap.size + 1 + 1, 0, none⟩), .pointer (some ⟨wr.heap.size + 1 + 1 + 1, 0, none⟩), .pointer (some ⟨wr.heap.size, 0, none⟩)] (opStore ref i x) (fit_store hr hx i) (fun w1 R' hh hby hs => store1_ok hh HG.out hr hx ((hby.cell (a := ⟨wr.heap.size + 1, 0, none⟩) (by simp)).trans q1) ((hby.cell (a := ⟨wr.heap.size + 1 + 1, 0, none⟩) (by simp)).trans q2) ((hby.cell (a := ⟨wr.heap.size + 1 + 1 + 1, 0, none⟩) (by simp)).trans q3) ((hby.cell (a := ⟨wr.heap.size, 0, none⟩) (by simp)).trans q0) ((hby.cell (a := ⟨pc, 0, none⟩) (by simp)).trans q4) (hs _ (by simp)) (hs _ (by simp)) (hs _ (by simp)) (hs _ (by simp)) (hs _ (by simp))))
  clear h hg hB hctx q0 q1 q2 q3 q4
  go_enter Tryz.func26, Tryz.ntmps26
  go_wp2_with fail
  refine HA.out.mono ?_
  rintro e w4 ⟨he, hc4, hb4⟩
  obtain ⟨r, hr⟩ : ∃ r, access (opStore ref i x) c = r := ⟨_, rfl⟩
  rw [hr] at he hc4
  have HR := Lib.hid hr
  rw [show (encE r.2.1).toArray = #[.int .i64 (r.2.1.kind : Int), .int .u64 (r.2.1.ref : Int), .int .i64 r.2.1.i, .int .u64 (r.2.1.word : Int), .bool r.2.1.done, .int .i64 (r.2.1.err : Int)] from rfl] at he
  subst he
  have HC4 := Lib.hid hc4; have HB4 := Lib.hid hb4
  clear hc4 hb4 hr HA
  go_wp2
  go_ret
  rw [HR.out]
  have b5 := (Below.refl w4.heap.size w4).alloc (Nat.le_refl _) (.cells #[.int .i64 (r.2.1.kind : Int), .int .u64 (r.2.1.ref : Int), .int .i64 r.2.1.i, .int .u64 (r.2.1.word : Int), .bool r.2.1.done, .int .i64 (r.2.1.err : Int)] 70)
  refine ⟨rfl, (HC4.out.came b5 [] (by simp)).less (fun b hb => by simp [hb]), ?_⟩
  exact HeldBy.trans (HeldBy.of_below HB.out H.out.heldR) (HeldBy.trans (HB4.out.less (fun b hb => by simp [hb])) (HeldBy.of_below b5 (fun b hb => HC4.out.heldR b (by simp [hb]))))
theorem ef_cas (args : Array Value) (w : World) : (callFunc 45 args).run Tryz.prog w = .ok (.enter 45 args) w := enters_of Tryz.func45 (by kernel_rfl) rfl args w
set_option maxHeartbeats 1000000 in
theorem ccas_ok {W : World} {R : List Nat} {pa pb pc : Nat} {c : CS} {wr : World} (h : Ctx W R pa pb pc c wr) (hg : Handle W) {ref x : Nat} (hr : ref < 18446744073709551616) (hx : x < 18446744073709551616) (i : Int) (old : Nat) :
    Calls Tryz.prog 27 #[(.pointer (some ⟨pc, 0, none⟩)), (.int .u64 (ref : Int)), (.int .i64 i), (.int .u64 (old : Int)), (.int .u64 (x : Int))] wr (After2 W R pa pb pc wr (fun x => (.bool x.done)) (access (opCAS ref i old x) c)) := by
  have H := Lib.hid h
  have HG := Lib.hid hg
  have hmf : ∀ (fn : Fn) (first cap : Array Value) (w : World), (Instr.makeFunc fn first cap).run Tryz.prog w = .ok (.func fn first cap) w := fun _ _ _ _ => rfl
  have hB : Below wr.heap.size wr (((((wr.alloc (.cells #[(.pointer (some ⟨pc, 0, none⟩))] 59)).alloc (.cells #[(.int .u64 (ref : Int))] 52)).alloc (.cells #[(.int .i64 i)] 3)).alloc (.cells #[(.int .u64 (old : Int))] 52)).alloc (.cells #[(.int .u64 (x : Int))] 52)) := ((((((Below.refl _ _).alloc (by simp) _).alloc (by simp) _).alloc (by simp; omega) _).alloc (by simp; omega) _).alloc (by simp; omega) _)
  have q0 : (((((wr.alloc (.cells #[(.pointer (some ⟨pc, 0, none⟩))] 59)).alloc (.cells #[(.int .u64 (ref : Int))] 52)).alloc (.cells #[(.int .i64 i)] 3)).alloc (.cells #[(.int .u64 (old : Int))] 52)).alloc (.cells #[(.int .u64 (x : Int))] 52)).cell? ⟨wr.heap.size, 0, none⟩ = some (.pointer (some ⟨pc, 0, none⟩)) := by
    have h := (((((Cells.new wr [(.pointer (some ⟨pc, 0, none⟩))] 59).alloc (.cells #[(.int .u64 (ref : Int))] 52)).alloc (.cells #[(.int .i64 i)] 3)).alloc (.cells #[(.int .u64 (old : Int))] 52)).alloc (.cells #[(.int .u64 (x : Int))] 52)).cell 0
    simpa only [World.size_alloc, List.getElem?_cons_zero] using h
  have q1 : (((((wr.alloc (.cells #[(.pointer (some ⟨pc, 0, none⟩))] 59)).alloc (.cells #[(.int .u64 (ref : Int))] 52)).alloc (.cells #[(.int .i64 i)] 3)).alloc (.cells #[(.int .u64 (old : Int))] 52)).alloc (.cells #[(.int .u64 (x : Int))] 52)).cell? ⟨wr.heap.size + 1, 0, none⟩ = some (.int .u64 (ref : Int)) := by
    have h := ((((Cells.new (wr.alloc (.cells #[(.pointer (some ⟨pc, 0, none⟩))] 59)) [(.int .u64 (ref : Int))] 52).alloc (.cells #[(.int .i64 i)] 3)).alloc (.cells #[(.int .u64 (old : Int))] 52)).alloc (.cells #[(.int .u64 (x : Int))] 52)).cell 0
    simpa only [World.size_alloc, List.getElem?_cons_zero] using h
  have q2 : (((((wr.alloc (.cells #[(.pointer (some ⟨pc, 0, none⟩))] 59)).alloc (.cells #[(.int .u64 (ref : Int))] 52)).alloc (.cells #[(.int .i64 i)] 3)).alloc (.cells #[(.int .u64 (old : Int))] 52)).alloc (.cells #[(.int .u64 (x : Int))] 52)).cell? ⟨wr.heap.size + 1 + 1, 0, none⟩ = some (.int .i64 i) := by
    have h := (((Cells.new ((wr.alloc (.cells #[(.pointer (some ⟨pc, 0, none⟩))] 59)).alloc (.cells #[(.int .u64 (ref : Int))] 52)) [(.int .i64 i)] 3).alloc (.cells #[(.int .u64 (old : Int))] 52)).alloc (.cells #[(.int .u64 (x : Int))] 52)).cell 0
    simpa only [World.size_alloc, List.getElem?_cons_zero] using h
  have q3 : (((((wr.alloc (.cells #[(.pointer (some ⟨pc, 0, none⟩))] 59)).alloc (.cells #[(.int .u64 (ref : Int))] 52)).alloc (.cells #[(.int .i64 i)] 3)).alloc (.cells #[(.int .u64 (old : Int))] 52)).alloc (.cells #[(.int .u64 (x : Int))] 52)).cell? ⟨wr.heap.size + 1 + 1 + 1, 0, none⟩ = some (.int .u64 (old : Int)) := by
    have h := ((Cells.new (((wr.alloc (.cells #[(.pointer (some ⟨pc, 0, none⟩))] 59)).alloc (.cells #[(.int .u64 (ref : Int))] 52)).alloc (.cells #[(.int .i64 i)] 3)) [(.int .u64 (old : Int))] 52).alloc (.cells #[(.int .u64 (x : Int))] 52)).cell 0
    simpa only [World.size_alloc, List.getElem?_cons_zero] using h
  have q4 : (((((wr.alloc (.cells #[(.pointer (some ⟨pc, 0, none⟩))] 59)).alloc (.cells #[(.int .u64 (ref : Int))] 52)).alloc (.cells #[(.int .i64 i)] 3)).alloc (.cells #[(.int .u64 (old : Int))] 52)).alloc (.cells #[(.int .u64 (x : Int))] 52)).cell? ⟨wr.heap.size + 1 + 1 + 1 + 1, 0, none⟩ = some (.int .u64 (x : Int)) := by
    have h := (Cells.new ((((wr.alloc (.cells #[(.pointer (some ⟨pc, 0, none⟩))] 59)).alloc (.cells #[(.int .u64 (ref : Int))] 52)).alloc (.cells #[(.int .i64 i)] 3)).alloc (.cells #[(.int .u64 (old : Int))] 52)) [(.int .u64 (x : Int))] 52).cell 0
    simpa only [World.size_alloc, List.getElem?_cons_zero] using h
  have hctx := h.came hB [wr.heap.size, wr.heap.size + 1, wr.heap.size + 1 + 1, wr.heap.size + 1 + 1 + 1, wr.heap.size + 1 + 1 + 1 + 1] (by simp; try omega)
  have q5 : (((((wr.alloc (.cells #[(.pointer (some ⟨pc, 0, none⟩))] 59)).alloc (.cells #[(.int .u64 (ref : Int))] 52)).alloc (.cells #[(.int .i64 i)] 3)).alloc (.cells #[(.int .u64 (old : Int))] 52)).alloc (.cells #[(.int .u64 (x : Int))] 52)).cell? ⟨pc, 0, none⟩ = some (.pointer (some ⟨pb, 0, none⟩)) := hctx.cell0
  have HB := Lib.hid hB
  have HA := Lib.hid (access_any hctx 45 ef_cas #[.pointer (some ⟨wr.heap.size, 0, none⟩), .pointer (some ⟨wr.heap.size + 1, 0, none⟩), .pointer (some ⟨wr.heap.size + 1 + 1, 0, none⟩), .pointer (some ⟨wr.heap.size + 1 + 1 + 1, 0, none⟩), .pointer (some ⟨wr.heap.size + 1 + 1 + 1 + 1, 0, none⟩)] (opCAS ref i old x) (fit_cas hr hx i) (fun w1 R' hh hby hs => cas1_ok hh HG.out hr hx ((hby.cell (a := ⟨wr.heap.size, 0, none⟩) (by simp)).trans q0) ((hby.cell (a := ⟨wr.heap.size + 1, 0, none⟩) (by simp)).trans q1) ((hby.cell (a := ⟨wr.heap.size + 1 + 1, 0, none⟩) (by simp)).trans q2) ((hby.cell (a := ⟨wr.heap.size + 1 + 1 + 1, 0, none⟩) (by simp)).trans q3) ((hby.cell (a := ⟨wr.heap.size + 1 + 1 + 1 + 1, 0, none⟩) (by simp)).trans q4) ((hby.cell (a := ⟨pc, 0, none⟩) (by simp)).trans q5) (hs _ (by simp)) (hs _ (by simp)) (hs _ (by simp)) (hs _ (by simp)) (hs _ (by simp)) (hs _ (by simp))))
  clear h hg hB hctx q0 q1 q2 q3 q4 q5
  go_enter Tryz.func27, Tryz.ntmps27
  go_wp2_with fail
  refine HA.out.mono ?_
  rintro e w4 ⟨he, hc4, hb4⟩
  obtain ⟨r, hr⟩ : ∃ r, access (opCAS ref i old x) c = r := ⟨_, rfl⟩
  rw [hr] at he hc4
  have HR := Lib.hid hr
  rw [show (encE r.2.1).toArray = #[.int .i64 (r.2.1.kind : Int), .int .u64 (r.2.1.ref : Int), .int .i64 r.2.1.i, .int .u64 (r.2.1.word : Int), .bool r.2.1.done, .int .i64 (r.2.1.err : Int)] from rfl] at he
  subst he
  have HC4 := Lib.hid hc4; have HB4 := Lib.hid hb4
  clear hc4 hb4 hr HA
  go_wp2
  go_ret2
  rw [HR.out]
  have b5 := (Below.refl w4.heap.size w4).alloc (Nat.le_refl _) (.cells #[.int .i64 (r.2.1.kind : Int), .int .u64 (r.2.1.ref : Int), .int .i64 r.2.1.i, .int .u64 (r.2.1.word : Int), .bool r.2.1.done, .int .i64 (r.2.1.err : Int)] 70)
  refine ⟨rfl, (HC4.out.came b5 [] (by simp)).less (fun b hb => by simp [hb]), ?_⟩
  exact HeldBy.trans (HeldBy.of_below HB.out H.out.heldR) (HeldBy.trans (HB4.out.less (fun b hb => by simp [hb])) (HeldBy.of_below b5 (fun b hb => HC4.out.heldR b (by simp [hb]))))
theorem ef_alloc (args : Array Value) (w : World) : (callFunc 47 args).run Tryz.prog w = .ok (.enter 47 args) w := enters_of Tryz.func47 (by kernel_rfl) rfl args w
set_option maxHeartbeats 1000000 in
theorem calloc_ok {W : World} {R : List Nat} {pa pb pc : Nat} {c : CS} {wr : World} (h : Ctx W R pa pb pc c wr) (hg : Handle W) (i : Int) :
    Calls Tryz.prog 28 #[(.pointer (some ⟨pc, 0, none⟩)), (.int .i64 i)] wr (After2 W R pa pb pc wr (fun x => (.int .u64 (x.ref : Int))) (access (opAlloc i) c)) := by
  have H := Lib.hid h
  have HG := Lib.hid hg
  have hmf : ∀ (fn : Fn) (first cap : Array Value) (w : World), (Instr.makeFunc fn first cap).run Tryz.prog w = .ok (.func fn first cap) w := fun _ _ _ _ => rfl
  have hB : Below wr.heap.size wr ((wr.alloc (.cells #[(.pointer (some ⟨pc, 0, none⟩))] 59)).alloc (.cells #[(.int .i64 i)] 3)) := (((Below.refl _ _).alloc (by simp) _).alloc (by simp) _)
  have q0 : ((wr.alloc (.cells #[(.pointer (some ⟨pc, 0, none⟩))] 59)).alloc (.cells #[(.int .i64 i)] 3)).cell? ⟨wr.heap.size, 0, none⟩ = some (.pointer (some ⟨pc, 0, none⟩)) := by
    have h := ((Cells.new wr [(.pointer (some ⟨pc, 0, none⟩))] 59).alloc (.cells #[(.int .i64 i)] 3)).cell 0
    simpa only [World.size_alloc, List.getElem?_cons_zero] using h
  have q1 : ((wr.alloc (.cells #[(.pointer (some ⟨pc, 0, none⟩))] 59)).alloc (.cells #[(.int .i64 i)] 3)).cell? ⟨wr.heap.size + 1, 0, none⟩ = some (.int .i64 i) := by
    have h := (Cells.new (wr.alloc (.cells #[(.pointer (some ⟨pc, 0, none⟩))] 59)) [(.int .i64 i)] 3).cell 0
    simpa only [World.size_alloc, List.getElem?_cons_zero] using h
  have hctx := h.came hB [wr.heap.size, wr.heap.size + 1] (by simp; try omega)
  have q2 : ((wr.alloc (.cells #[(.pointer (some ⟨pc, 0, none⟩))] 59)).alloc (.cells #[(.int .i64 i)] 3)).cell? ⟨pc, 0, none⟩ = some (.pointer (some ⟨pb, 0, none⟩)) := hctx.cell0
  have HB := Lib.hid hB
  have HA := Lib.hid (access_any hctx 47 ef_alloc #[.pointer (some ⟨wr.heap.size, 0, none⟩), .pointer (some ⟨wr.heap.size + 1, 0, none⟩)] (opAlloc i) (fit_alloc h.ok i) (fun w1 R' hh hby hs => alloc1_ok hh HG.out  ((hby.cell (a := ⟨wr.heap.size, 0, none⟩) (by simp)).trans q0) ((hby.cell (a := ⟨wr.heap.size + 1, 0, none⟩) (by simp)).trans q1) ((hby.cell (a := ⟨pc, 0, none⟩) (by simp)).trans q2) (hs _ (by simp)) (hs _ (by simp)) (hs _ (by simp))))
  clear h hg hB hctx q0 q1 q2
  go_enter Tryz.func28, Tryz.ntmps28
  go_wp2_with fail
  refine HA.out.mono ?_
  rintro e w4 ⟨he, hc4, hb4⟩
  obtain ⟨r, hr⟩ : ∃ r, access (opAlloc i) c = r := ⟨_, rfl⟩
  rw [hr] at he hc4
  have HR := Lib.hid hr
  rw [show (encE r.2.1).toArray = #[.int .i64 (r.2.1.kind : Int), .int .u64 (r.2.1.ref : Int), .int .i64 r.2.1.i, .int .u64 (r.2.1.word : Int), .bool r.2.1.done, .int .i64 (r.2.1.err : Int)] from rfl] at he
  subst he
  have HC4 := Lib.hid hc4; have HB4 := Lib.hid hb4
  clear hc4 hb4 hr HA
  go_wp2
  go_ret2
  rw [HR.out]
  have b5 := (Below.refl w4.heap.size w4).alloc (Nat.le_refl _) (.cells #[.int .i64 (r.2.1.kind : Int), .int .u64 (r.2.1.ref : Int), .int .i64 r.2.1.i, .int .u64 (r.2.1.word : Int), .bool r.2.1.done, .int .i64 (r.2.1.err : Int)] 70)
  refine ⟨rfl, (HC4.out.came b5 [] (by simp)).less (fun b hb => by simp [hb]), ?_⟩
  exact HeldBy.trans (HeldBy.of_below HB.out H.out.heldR) (HeldBy.trans (HB4.out.less (fun b hb => by simp [hb])) (HeldBy.of_below b5 (fun b hb => HC4.out.heldR b (by simp [hb]))))
theorem ef_free (args : Array Value) (w : World) : (callFunc 49 args).run Tryz.prog w = .ok (.enter 49 args) w := enters_of Tryz.func49 (by kernel_rfl) rfl args w
set_option maxHeartbeats 1000000 in
theorem cfree_ok {W : World} {R : List Nat} {pa pb pc : Nat} {c : CS} {wr : World} (h : Ctx W R pa pb pc c wr) (hg : Handle W) {ref : Nat} (hr : ref < 18446744073709551616) :
    Calls Tryz.prog 29 #[(.pointer (some ⟨pc, 0, none⟩)), (.int .u64 (ref : Int))] wr (After1 W R pa pb pc wr (access (opFree ref) c)) := by
  have H := Lib.hid h
  have HG := Lib.hid hg
  have hmf : ∀ (fn : Fn) (first cap : Array Value) (w : World), (Instr.makeFunc fn first cap).run Tryz.prog w = .ok (.func fn first cap) w := fun _ _ _ _ => rfl
  have hB : Below wr.heap.size wr ((wr.alloc (.cells #[(.pointer (some ⟨pc, 0, none⟩))] 59)).alloc (.cells #[(.int .u64 (ref : Int))] 52)) := (((Below.refl _ _).alloc (by simp) _).alloc (by simp) _)
  have q0 : ((wr.alloc (.cells #[(.pointer (some ⟨pc, 0, none⟩))] 59)).alloc (.cells #[(.int .u64 (ref : Int))] 52)).cell? ⟨wr.heap.size, 0, none⟩ = some (.pointer (some ⟨pc, 0, none⟩)) := by
    have h := ((Cells.new wr [(.pointer (some ⟨pc, 0, none⟩))] 59).alloc (.cells #[(.int .u64 (ref : Int))] 52)).cell 0
    simpa only [World.size_alloc, List.getElem?_cons_zero] using h
  have q1 : ((wr.alloc (.cells #[(.pointer (some ⟨pc, 0, none⟩))] 59)).alloc (.cells #[(.int .u64 (ref : Int))] 52)).cell? ⟨wr.heap.size + 1, 0, none⟩ = some (.int .u64 (ref : Int)) := by
    have h := (Cells.new (wr.alloc (.cells #[(.pointer (some ⟨pc, 0, none⟩))] 59)) [(.int .u64 (ref : Int))] 52).cell 0
    simpa only [World.size_alloc, List.getElem?_cons_zero] using h
  have hctx := h.came hB [wr.heap.size, wr.heap.size + 1] (by simp; try omega)
  have q2 : ((wr.alloc (.cells #[(.pointer (some ⟨pc, 0, none⟩))] 59)).alloc (.cells #[(.int .u64 (ref : Int))] 52)).cell? ⟨pc, 0, none⟩ = some (.pointer (some ⟨pb, 0, none⟩)) := hctx.cell0
  have HB := Lib.hid hB
  have HA := Lib.hid (access_any hctx 49 ef_free #[.pointer (some ⟨wr.heap.size + 1, 0, none⟩), .pointer (some ⟨wr.heap.size, 0, none⟩)] (opFree ref) (fit_free hr) (fun w1 R' hh hby hs => free1_ok hh HG.out hr ((hby.cell (a := ⟨wr.heap.size + 1, 0, none⟩) (by simp)).trans q1) ((hby.cell (a := ⟨wr.heap.size, 0, none⟩) (by simp)).trans q0) ((hby.cell (a := ⟨pc, 0, none⟩) (by simp)).trans q2) (hs _ (by simp)) (hs _ (by simp)) (hs _ (by simp))))
  clear h hg hB hctx q0 q1 q2
  go_enter Tryz.func29, Tryz.ntmps29
  go_wp2_with fail
  refine HA.out.mono ?_
  rintro e w4 ⟨he, hc4, hb4⟩
  obtain ⟨r, hr⟩ : ∃ r, access (opFree ref) c = r := ⟨_, rfl⟩
  rw [hr] at he hc4
  have HR := Lib.hid hr
  rw [show (encE r.2.1).toArray = #[.int .i64 (r.2.1.kind : Int), .int .u64 (r.2.1.ref : Int), .int .i64 r.2.1.i, .int .u64 (r.2.1.word : Int), .bool r.2.1.done, .int .i64 (r.2.1.err : Int)] from rfl] at he
  subst he
  have HC4 := Lib.hid hc4; have HB4 := Lib.hid hb4
  clear hc4 hb4 hr HA
  go_wp2
  go_ret
  rw [HR.out]
  have b5 := (Below.refl w4.heap.size w4).alloc (Nat.le_refl _) (.cells #[.int .i64 (r.2.1.kind : Int), .int .u64 (r.2.1.ref : Int), .int .i64 r.2.1.i, .int .u64 (r.2.1.word : Int), .bool r.2.1.done, .int .i64 (r.2.1.err : Int)] 70)
  refine ⟨rfl, (HC4.out.came b5 [] (by simp)).less (fun b hb => by simp [hb]), ?_⟩
  exact HeldBy.trans (HeldBy.of_below HB.out H.out.heldR) (HeldBy.trans (HB4.out.less (fun b hb => by simp [hb])) (HeldBy.of_below b5 (fun b hb => HC4.out.heldR b (by simp [hb]))))
end Go.Proofs.YtfehonejcambgaaGreatDoor
