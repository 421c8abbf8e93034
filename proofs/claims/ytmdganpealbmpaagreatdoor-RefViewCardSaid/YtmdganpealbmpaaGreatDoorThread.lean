/- Layer 5 (thread): a thread in memory; Step. -/
import Derived.Test.YtmdganpealbmpaaGreatDoorCtxOps
namespace Go.Proofs.YtmdganpealbmpaaGreatDoor
open Go.RowKit Bl Th
set_option maxRecDepth 10000

/-- What a body keeps for itself, in some blocks. -/
structure Aux (σ : Type) where
  at' : σ → List Nat → World → Prop
  loc : ∀ s Q w w', at' s Q w → HeldBy Q w w' → at' s Q w'

/-- What a body answers and leaves. -/
def BodyPost {σ : Type} (W : World) (pa pb pc : Nat) (A : Aux σ) (X Q : List Nat) (wr : World) (r : Nat × CS × σ) (e : Ending) (w' : World) : Prop :=
  ∃ v E Q', e = .returned v ∧ Err w' v r.1 E ∧ A.at' r.2.2 Q' w' ∧ Ctx W (X ++ (E ++ Q')) pa pb pc r.2.1 w' ∧ HeldBy X wr w' ∧ ∀ b ∈ E ++ Q', b ∈ Q ∨ wr.heap.size ≤ b
/-- A function value that does what a body does; Sh: blocks that it only reads, P what is so of them. -/
structure BodyOk {σ : Type} (W : World) (pa pb : Nat) (f : Nat) (caps : Array Value) (A : Aux σ) (F : Prog σ) (Sh : List Nat := []) (P : World → Prop := fun _ => True) : Prop where
  enters : ∀ (args : Array Value) (w : World), (callFunc f args).run Tryz.prog w = .ok (.enter f args) w
  keeps : ∀ w w', HeldBy Sh w w' → P w → P w'
  does : ∀ (s : σ) (X Q : List Nat) (wr : World) (pc : Nat) (c : CS) (round : Nat), P wr → (∀ b ∈ Sh, b ∈ X) → A.at' s Q wr → Ctx W (X ++ Q) pa pb pc c wr → (∀ b ∈ X, b ∉ Q) → round < 40 →
    Calls Tryz.prog f (#[.pointer (some ⟨pc, 0, none⟩), .int .i64 (round : Int)] ++ caps) wr (BodyPost W pa pb pc A X Q wr (F s round c))

/-- The same of one state. -/
structure StepBody {σ : Type} (W : World) (pa pb : Nat) (f : Nat) (caps : Array Value) (A : Aux σ) (F : Prog σ) (Sh : List Nat) (P : World → Prop) (s : σ) (round : Nat) (c : CS) : Prop where
  enters : ∀ (args : Array Value) (w : World), (callFunc f args).run Tryz.prog w = .ok (.enter f args) w
  keeps : ∀ w w', HeldBy Sh w w' → P w → P w'
  does : ∀ (X Q : List Nat) (wr : World) (pc : Nat), P wr → (∀ b ∈ Sh, b ∈ X) → A.at' s Q wr → Ctx W (X ++ Q) pa pb pc c wr → (∀ b ∈ X, b ∉ Q) → round < 40 →
    Calls Tryz.prog f (#[.pointer (some ⟨pc, 0, none⟩), .int .i64 (round : Int)] ++ caps) wr (BodyPost W pa pb pc A X Q wr (F s round c))
theorem BodyOk.one {σ : Type} {W : World} {pa pb f : Nat} {caps : Array Value} {A : Aux σ} {F : Prog σ} {Sh : List Nat} {P : World → Prop} (h : BodyOk W pa pb f caps A F Sh P) (s : σ) (round : Nat) (c : CS) : StepBody W pa pb f caps A F Sh P s round c :=
  ⟨h.enters, h.keeps, fun X Q wr pc hP hS ha hc hx hr => h.does s X Q wr pc c round hP hS ha hc hx hr⟩

/-- A thread lies in memory so. -/
structure ThrLies {σ : Type} (W : World) (pb pt : Nat) (fv : Value) (A : Aux σ) (t : TS σ) (lv ev : Value) (E Q : List Nat) (wr : World) : Prop where
  cells : Cells wr pt [.pointer (some ⟨pb, 0, none⟩), fv, lv, .int .i64 (t.round : Int), .int .i64 (t.steps : Int), .bool t.done, ev] 109
  row : wr.ownsRow W.heap.size 189 6 lv t.log.length (t.log.flatMap encE)
  err : Err wr ev t.err E
  aux : A.at' t.aux Q wr
  ptR : pt ∉ lv.ownBlock.toList ++ (E ++ Q)
  logR : ∀ b ∈ lv.ownBlock.toList, b ∉ E ++ Q
  new : W.heap.size ≤ pt
  round : t.round < 40
  few : t.log.length ≤ 6000
  fit : ∀ x ∈ t.log, Fit x
  open' : t.done = false → t.err = 0
def Thr {σ : Type} (W : World) (pb pt : Nat) (fv : Value) (A : Aux σ) (t : TS σ) (B : List Nat) (wr : World) : Prop :=
  ∃ lv ev E Q, B = pt :: (lv.ownBlock.toList ++ (E ++ Q)) ∧ ThrLies W pb pt fv A t lv ev E Q wr

theorem Thr.heldBy {σ : Type} {W : World} {pb pt : Nat} {fv : Value} {A : Aux σ} {t : TS σ} {B R : List Nat} {w w' : World} (h : Thr W pb pt fv A t B w) (k : HeldBy R w w') (hs : ∀ b ∈ B, b ∈ R) : Thr W pb pt fv A t B w' := by
  obtain ⟨lv, ev, E, Q, rfl, h⟩ := h
  have m (b : Nat) (hb : b ∈ lv.ownBlock.toList ++ (E ++ Q)) : b ∈ R := hs b (List.mem_cons_of_mem _ hb)
  exact ⟨lv, ev, E, Q, rfl, h.cells.heldBy k (hs pt (by simp)), ownsRow_heldBy h.row k (fun b hb => m b (by simp [hb])), h.err.heldBy k (fun b hb => m b (by simp [hb])), A.loc _ _ _ _ h.aux (k.less fun b hb => m b (by simp [hb])), h.ptR, h.logR, h.new, h.round, h.few, h.fit, h.open'⟩

theorem seven {w : World} {b : Nat} {t : TypeId} {a0 a1 a2 a3 a4 a5 a6 : Value} (h : Cells w b [a0, a1, a2, a3, a4, a5, a6] t) :
    w.cell? ⟨b, 0, none⟩ = some a0 ∧ w.cell? ⟨b, 1, none⟩ = some a1 ∧ w.cell? ⟨b, 2, none⟩ = some a2 ∧ w.cell? ⟨b, 3, none⟩ = some a3 ∧ w.cell? ⟨b, 4, none⟩ = some a4 ∧ w.cell? ⟨b, 5, none⟩ = some a5 ∧ w.cell? ⟨b, 6, none⟩ = some a6 ∧
    w.frozen? ⟨b, 0, none⟩ = false ∧ w.frozen? ⟨b, 1, none⟩ = false ∧ w.frozen? ⟨b, 2, none⟩ = false ∧ w.frozen? ⟨b, 3, none⟩ = false ∧ w.frozen? ⟨b, 4, none⟩ = false ∧ w.frozen? ⟨b, 5, none⟩ = false ∧ w.frozen? ⟨b, 6, none⟩ = false :=
  ⟨h.cell 0, h.cell 1, h.cell 2, h.cell 3, h.cell 4, h.cell 5, h.cell 6, h.free 0, h.free 1, h.free 2, h.free 3, h.free 4, h.free 5, h.free 6⟩

set_option maxHeartbeats 400000 in
theorem tdone_nil (w : World) : Calls Tryz.prog 32 #[.pointer none] w fun e w' => e = .returned (.bool true) ∧ w = w' := by
  go_enter Tryz.func32, Tryz.ntmps32
  go_wp2
  go_ret
  exact ⟨rfl, rfl⟩
set_option maxHeartbeats 400000 in
theorem terr_nil (w : World) : Calls Tryz.prog 55 #[.pointer none] w fun e w' => e = .returned .nilIface ∧ w = w' := by
  go_enter Tryz.func55, Tryz.ntmps55
  go_wp2
  go_ret
  exact ⟨rfl, rfl⟩
set_option maxHeartbeats 400000 in
theorem tround_nil (w : World) : Calls Tryz.prog 29 #[.pointer none] w fun e w' => e = .returned (.int .i64 0) ∧ w = w' := by
  go_enter Tryz.func29, Tryz.ntmps29
  go_wp2
  go_ret
  exact ⟨rfl, rfl⟩
set_option maxHeartbeats 400000 in
theorem tsteps_nil (w : World) : Calls Tryz.prog 33 #[.pointer none] w fun e w' => e = .returned (.int .i64 0) ∧ w = w' := by
  go_enter Tryz.func33, Tryz.ntmps33
  go_wp2
  go_ret
  exact ⟨rfl, rfl⟩
set_option maxHeartbeats 400000 in
theorem tstep_nil (w : World) : Calls Tryz.prog 25 #[.pointer none] w fun e w' => e = .returned (errV 1) ∧ w = w' := by
  go_enter Tryz.func25, Tryz.ntmps25
  go_wp2
  go_ret
  exact ⟨rfl, rfl⟩
set_option maxHeartbeats 400000 in
theorem tnew_nil (f : Value) (w : World) : Calls Tryz.prog 20 #[.pointer none, f] w fun e w' => e = .returned (.pointer none) ∧ w = w' := by
  go_enter Tryz.func20, Tryz.ntmps20
  go_wp2
  go_ret
  exact ⟨rfl, rfl⟩
set_option maxHeartbeats 400000 in
theorem tnew_nobody (p : Nat) (w : World) : Calls Tryz.prog 20 #[.pointer (some ⟨p, 0, none⟩), .nilFunc] w fun e w' => e = .returned (.pointer none) ∧ w = w' := by
  have hn : ∀ w, (binOp .eql 69 .nilFunc .nilFunc).run Tryz.prog w = .ok (.bool true) w := fun _ => by kernel_rfl
  go_enter Tryz.func20, Tryz.ntmps20
  go_wp2
  go_ret
  exact ⟨rfl, rfl⟩
set_option maxHeartbeats 400000 in
theorem tdone_ok {σ : Type} {W : World} {pb pt : Nat} {fv : Value} {A : Aux σ} {t : TS σ} {B : List Nat} {w : World} (h : Thr W pb pt fv A t B w) : Calls Tryz.prog 32 #[.pointer (some ⟨pt, 0, none⟩)] w fun e w' => e = .returned (.bool t.done) ∧ w = w' := by
  obtain ⟨lv, ev, E, Q, rfl, h⟩ := h
  obtain ⟨p0, p1, p2, p3, p4, p5, p6, -⟩ := seven h.cells
  clear h
  go_enter Tryz.func32, Tryz.ntmps32
  go_wp2
  go_ret
  exact ⟨rfl, rfl⟩
set_option maxHeartbeats 400000 in
theorem tsteps_ok {σ : Type} {W : World} {pb pt : Nat} {fv : Value} {A : Aux σ} {t : TS σ} {B : List Nat} {w : World} (h : Thr W pb pt fv A t B w) : Calls Tryz.prog 33 #[.pointer (some ⟨pt, 0, none⟩)] w fun e w' => e = .returned (.int .i64 (t.steps : Int)) ∧ w = w' := by
  obtain ⟨lv, ev, E, Q, rfl, h⟩ := h
  obtain ⟨p0, p1, p2, p3, p4, p5, p6, -⟩ := seven h.cells
  clear h
  go_enter Tryz.func33, Tryz.ntmps33
  go_wp2
  go_ret
  exact ⟨rfl, rfl⟩
set_option maxHeartbeats 400000 in
theorem tround_ok {σ : Type} {W : World} {pb pt : Nat} {fv : Value} {A : Aux σ} {t : TS σ} {B : List Nat} {w : World} (h : Thr W pb pt fv A t B w) : Calls Tryz.prog 29 #[.pointer (some ⟨pt, 0, none⟩)] w fun e w' => e = .returned (.int .i64 (t.round : Int)) ∧ w = w' := by
  obtain ⟨lv, ev, E, Q, rfl, h⟩ := h
  obtain ⟨p0, p1, p2, p3, p4, p5, p6, -⟩ := seven h.cells
  clear h
  go_enter Tryz.func29, Tryz.ntmps29
  go_wp2
  go_ret
  exact ⟨rfl, rfl⟩
set_option maxHeartbeats 400000 in
theorem terr_ok {σ : Type} {W : World} {pb pt : Nat} {fv : Value} {A : Aux σ} {t : TS σ} {B : List Nat} {w : World} (h : Thr W pb pt fv A t B w) : Calls Tryz.prog 55 #[.pointer (some ⟨pt, 0, none⟩)] w fun e w' => (∃ ev E, e = .returned ev ∧ Err w ev t.err E ∧ ∀ b ∈ E, b ∈ B) ∧ w = w' := by
  obtain ⟨lv, ev, E, Q, rfl, h⟩ := h
  obtain ⟨p0, p1, p2, p3, p4, p5, p6, -⟩ := seven h.cells
  have HE := Lib.hid (show ∃ ev' E', Ending.returned ev = .returned ev' ∧ Err w ev' t.err E' ∧ ∀ b ∈ E', b ∈ pt :: (lv.ownBlock.toList ++ (E ++ Q)) from ⟨ev, E, rfl, h.err, fun b hb => by simp [hb]⟩)
  clear h
  go_enter Tryz.func55, Tryz.ntmps55
  go_wp2
  go_ret
  exact ⟨HE.out, rfl⟩

/-- New. -/
theorem tnew_ok {σ : Type} {W : World} {R : List Nat} {pa pb : Nat} {S : BS} {wr : World} (h : Held W R pa pb S wr) (A : Aux σ) (s : σ) {Q : List Nat} (hq : A.at' s Q wr) (hQ : ∀ b ∈ Q, b ∈ R) (f : Nat) (caps : Array Value) :
    Calls Tryz.prog 20 #[.pointer (some ⟨pb, 0, none⟩), .func (.func f) #[] caps] wr fun e w' => ∃ pt, e = .returned (.pointer (some ⟨pt, 0, none⟩)) ∧ Thr W pb pt (.func (.func f) #[] caps) A (Th.start s) (pt :: Q) w' ∧ Held W (pt :: R) pa pb S w' ∧ Below wr.heap.size wr w' := by
  have hn : ∀ w, (binOp .eql 69 (.func (.func f) #[] caps) .nilFunc).run Tryz.prog w = .ok (.bool false) w := fun _ => by kernel_rfl
  have hB := (Below.refl wr.heap.size wr).alloc (Nat.le_refl _) (.cells #[.pointer (some ⟨pb, 0, none⟩), .func (.func f) #[] caps, .slice none 0 0, .int .i64 0, .int .i64 0, .bool false, .nilIface] 109)
  have HE := Lib.hid (show ∃ pt, Ending.returned (.pointer (some ⟨wr.heap.size, 0, none⟩)) = .returned (.pointer (some ⟨pt, 0, none⟩)) ∧ Thr W pb pt (.func (.func f) #[] caps) A (Th.start s) (pt :: Q) (wr.alloc (.cells #[.pointer (some ⟨pb, 0, none⟩), .func (.func f) #[] caps, .slice none 0 0, .int .i64 0, .int .i64 0, .bool false, .nilIface] 109)) ∧ Held W (pt :: R) pa pb S (wr.alloc (.cells #[.pointer (some ⟨pb, 0, none⟩), .func (.func f) #[] caps, .slice none 0 0, .int .i64 0, .int .i64 0, .bool false, .nilIface] 109)) ∧ Below wr.heap.size wr (wr.alloc (.cells #[.pointer (some ⟨pb, 0, none⟩), .func (.func f) #[] caps, .slice none 0 0, .int .i64 0, .int .i64 0, .bool false, .nilIface] 109)) from
    ⟨wr.heap.size, rfl, ⟨.slice none 0 0, .nilIface, [], Q, rfl, Cells.new wr _ _, World.ownsRow_nil _ _ _ _, .none, A.loc _ _ _ _ hq (HeldBy.of_below hB (fun b hb => h.held b (hQ b hb))), fun hm => by
      have := h.held _ (hQ _ (by simpa [Value.ownBlock] using hm)); omega, by simp [Value.ownBlock], h.below.size, by simp [Th.start], by simp [Th.start], by simp [Th.start], fun _ => rfl⟩, h.new _, hB⟩)
  clear h hB
  go_enter Tryz.func20, Tryz.ntmps20
  go_wp2
  go_ret
  exact HE.out
set_option maxHeartbeats 400000 in
theorem tend_ok (pt : Nat) (v0 v1 v2 v3 v4 v5 v6 ev : Value) (w : World) (h : Cells w pt [v0, v1, v2, v3, v4, v5, v6] 109) (hk : v5 = .bool false) (hev : ev = .nilIface ∨ ∃ t v, ev = .iface t v) :
    Calls Tryz.prog 54 #[.pointer (some ⟨pt, 0, none⟩), ev] w fun e w' => e = .returned ev ∧ (w.setCell ⟨pt, 5, none⟩ (.bool true)).setCell ⟨pt, 6, none⟩ ev = w' := by
  obtain ⟨p0, p1, p2, p3, p4, p5, p6, f0, f1, f2, f3, f4, f5, f6⟩ := seven h
  subst hk
  clear h
  rcases hev with rfl | ⟨t, v, rfl⟩
  all_goals
    go_enter Tryz.func54, Tryz.ntmps54
    go_wp2
    go_ret
    exact ⟨rfl, rfl⟩
/-- A step of one that is done. -/
theorem tstep_done {σ : Type} {W : World} {pb pt : Nat} {fv : Value} {A : Aux σ} {t : TS σ} {B : List Nat} {w : World} (h : Thr W pb pt fv A t B w) (hd : t.done = true) : Calls Tryz.prog 25 #[.pointer (some ⟨pt, 0, none⟩)] w fun e w' => (∃ ev E, e = .returned ev ∧ Err w ev t.err E ∧ ∀ b ∈ E, b ∈ B) ∧ w = w' := by
  obtain ⟨lv, ev, E, Q, rfl, h⟩ := h
  obtain ⟨p0, p1, p2, p3, p4, p5, p6, -⟩ := seven h.cells
  have HE := Lib.hid (show ∃ ev' E', Ending.returned ev = .returned ev' ∧ Err w ev' t.err E' ∧ ∀ b ∈ E', b ∈ pt :: (lv.ownBlock.toList ++ (E ++ Q)) from ⟨ev, E, rfl, h.err, fun b hb => by simp [hb]⟩)
  rw [hd] at p5
  clear h hd
  go_enter Tryz.func25, Tryz.ntmps25
  go_wp2
  go_ret
  exact ⟨HE.out, rfl⟩
end Go.Proofs.YtmdganpealbmpaaGreatDoor
