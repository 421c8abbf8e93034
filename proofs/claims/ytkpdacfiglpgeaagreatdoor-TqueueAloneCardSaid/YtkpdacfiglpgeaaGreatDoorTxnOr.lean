/- TxnOr: Join, TxnPart, TxnOr. -/
import Derived.Test.YtkpdacfiglpgeaaGreatDoorTxn
import Derived.Test.YtkpdacfiglpgeaaGreatDoorThread
import Derived.Test.YtkpdacfiglpgeaaGreatDoorSets9
import Derived.Test.YtkpdacfiglpgeaaGreatDoorTqPlain

/- errors.Join of an error and none. -/
namespace Go.Proofs.YtkpdacfiglpgeaaGreatDoor
open Go.RowKit Bl Th
set_option maxRecDepth 10000

/-- What Join answers of an error and none. -/
def JoinPost (w : World) (n : Nat) (E : List Nat) (e : Ending) (w' : World) : Prop :=
  ∃ v E', e = .returned v ∧ Err w' v n E' ∧ Below w.heap.size w w' ∧ ∀ b ∈ E', b ∈ E ∨ w.heap.size ≤ b
theorem join_nil {w : World} {g : Nat} (h0 : w.cell? ⟨g, 0, none⟩ = some .nilIface) (h1 : w.cell? ⟨g, 1, none⟩ = some .nilIface) (E : List Nat) :
    Calls Tryz.prog 175 #[.slice (some ⟨g, 0, none⟩) 2 2] w (JoinPost w 0 E) := by
  have HF := Lib.hid (show JoinPost w 0 E (.returned .nilIface) w from ⟨_, [], rfl, .none, Below.refl _ _, by simp⟩)
  go_enter Tryz.func175, Tryz.ntmps175
  go_wp2
  refine wp_loop_rounds 3 ?_
  rw [rounds_succ]
  go_wp2
  rw [rounds_succ]
  go_wp2
  rw [rounds_succ]
  go_wp2
  go_ret
  exact HF.out
theorem errorInfo : (Tryz.prog.info? 67).map (fun i => (i.zero, i.size, i.bytes)) = some (some .nilIface, 1, 16) := by kernel_rfl
theorem join_err {w : World} {g n : Nat} {v : Value} {E : List Nat} (h0 : w.cell? ⟨g, 0, none⟩ = some v) (h1 : w.cell? ⟨g, 1, none⟩ = some .nilIface) (he : Err w v n E) (hn : n ≠ 0) :
    Calls Tryz.prog 175 #[.slice (some ⟨g, 0, none⟩) 2 2] w (JoinPost w n E) := by
  obtain ⟨tt, xx, rfl⟩ := he.iface hn
  have HE := Lib.hid he
  have hg : g < w.heap.size := by
    unfold World.cell? at h0
    rcases Nat.lt_or_ge g w.heap.size with q | q
    · exact q
    · rw [Array.getElem?_eq_none q] at h0
      cases h0
  obtain ⟨i0, hi0, hz0, hz1, hz2⟩ := info_parts errorInfo
  clear he
  go_enter Tryz.func175, Tryz.ntmps175
  go_wp2
  refine wp_loop_rounds 3 ?_
  rw [rounds_succ]
  go_wp2
  rw [rounds_succ]
  go_wp2
  rw [rounds_succ]
  go_wp2_with (first
    | (at_make; refine wpList_make_own _ rfl _ _ 242 rfl w.heap.size 67 i0 .nilIface 1 Tryz.underlying242 hi0 hz0 hz1 _ _ _ 1 rfl rfl rfl (by omega) (by unfold maxLen; omega) (Nat.le_refl _) ?_; intro w1 hown1 hgrow1; have k1 := Kept.of_grown hgrow1; have hb1 : Below w.heap.size w w1 := k1.below (Nat.le_refl _) (fun b _ e => by cases e); have c0 : w1.cell? ⟨g, 0, none⟩ = some (.iface tt xx) := (hb1.cell (p := ⟨g, 0, none⟩) hg).trans h0; have c1 : w1.cell? ⟨g, 1, none⟩ = some .nilIface := (hb1.cell (p := ⟨g, 1, none⟩) hg).trans h1; have HO1 := Lib.hid hown1; have HB1 := Lib.hid hb1; have HG1 := Lib.hid (show w.heap.size < w1.heap.size from (hown1.lt _ rfl).2); clear k1 hb1 hown1 hgrow1 h0 h1)
    | go_in)
  have C2 : Cells (w1.alloc (.cells #[.slice (some ⟨w.heap.size, 0, none⟩) 0 1] 321)) w1.heap.size [.slice (some ⟨w.heap.size, 0, none⟩) 0 1] 321 := Cells.new w1 [.slice (some ⟨w.heap.size, 0, none⟩) 0 1] 321
  have B2 := (Below.refl w1.heap.size w1).alloc (Nat.le_refl _) (.cells #[.slice (some ⟨w.heap.size, 0, none⟩) 0 1] 321)
  have d0 := (B2.cell (p := ⟨g, 0, none⟩) (by have := HG1.out; show g < _; omega)).trans c0
  have d1 := (B2.cell (p := ⟨g, 1, none⟩) (by have := HG1.out; show g < _; omega)).trans c1
  have HO2 := Lib.hid (HO1.out.alloc (.cells #[.slice (some ⟨w.heap.size, 0, none⟩) 0 1] 321))
  have BB2 := Lib.hid (HB1.out.trans (B2.mono (by have := HG1.out; omega)))
  have hz : (w1.alloc (.cells #[.slice (some ⟨w.heap.size, 0, none⟩) 0 1] 321)).heap.size = w1.heap.size + 1 := by simp
  obtain ⟨jb, hjb⟩ : ∃ jb, w1.heap.size = jb := ⟨_, rfl⟩
  rw [hjb] at C2 hz ⊢
  generalize w1.alloc (.cells #[.slice (some ⟨w.heap.size, 0, none⟩) 0 1] 321) = w2 at *
  have HC2 := Lib.hid C2; have HZ2 := Lib.hid hz; have HJ := Lib.hid (show w.heap.size < jb by have := HG1.out; omega)
  have y0 := C2.cell 0
  have y1 := C2.free 0
  obtain ⟨gw, hgw⟩ : ∃ gw, w.heap.size = gw := ⟨_, rfl⟩
  rw [hgw] at HJ HO2 BB2 HC2 hg y0
  have HGW := Lib.hid hgw
  clear C2 B2 c0 c1 hjb hgw hz HB1 HO1 HG1
  refine wp_loop_rounds 3 ?_
  rw [rounds_succ]
  have hne : g ≠ jb := by have := HJ.out; omega
  have hne' : jb ≠ g := by omega
  have lj : jb < w2.heap.size := by have := HZ2.out; omega
  have lg : g < w2.heap.size := by have := HJ.out; omega
  go_wp2_with (first
    | (at_builtin; refine wpList_append_own_at _ rfl _ _ 242 rfl gw 67 i0 .nilIface 1 16 Tryz.underlying242 hi0 hz0 hz1 hz2 rfl (by omega) (.slice (some ⟨gw, 0, none⟩) 0 1) 0 [] rfl (HO2.out.alloc _) ⟨w2.heap.size, 0, none⟩ 1 1 [.iface tt xx] rfl rfl (cells_news w2 [.iface tt xx] _) (by intro u hu; simp only [List.mem_singleton] at hu; subst hu; rfl) (by unfold maxLen; omega) (by omega) (by have := HJ.out; simp; omega) ?_; intro v' w3 hown3 hgrow3 hnil3 hob3; obtain ⟨g3, cap3, rfl, hg3, hl3⟩ := hown3.form (by omega); have gk : Kept (fun b => some b = some gw) w2 w3 := ((Kept.refl _ w2).alloc _).trans (Kept.of_grown hgrow3); have e0 : w3.cell? ⟨g, 0, none⟩ = some (.iface tt xx) := (World.cell?_of_block (gk.block g lg (by have := hg; simp; omega))).trans d0; have e1 : w3.cell? ⟨g, 1, none⟩ = some .nilIface := (World.cell?_of_block (gk.block g lg (by have := hg; simp; omega))).trans d1; have hc3 := HC2.out.kept gk (by have := HJ.out; simp; omega); have y2 := hc3.cell 0; have y3 := hc3.free 0; have HC3 := Lib.hid hc3; have HO3 := Lib.hid hown3; have GK := Lib.hid gk; have HG3 := Lib.hid hg3; have HOB := Lib.hid hob3; clear hown3 hgrow3 hnil3 hob3 gk hc3 hg3 hl3 y0 y1 d0 d1 lj lg)
    | go_in)
  rw [rounds_succ]
  go_wp2
  rw [rounds_succ]
  go_wp2
  go_ret
  have hj := HJ.out
  have hne3 : g3 ≠ jb := fun e => by
    rcases HOB.out with q | q
    · simp only [Value.ownBlock, Option.some.injEq] at q
      omega
    · simp only [Value.ownBlock, Option.some.injEq, World.size_alloc] at q
      have := HZ2.out
      omega
  have hb3 : Below gw w w3 := BB2.out.trans (GK.out.below (by have := HZ2.out; omega) (fun b hb e => by simp at e; omega))
  have hb4 := hb3.setCell (p := ⟨jb, 0, none⟩) (by show gw ≤ jb; omega) (.slice (some ⟨g3, 0, none⟩) 1 cap3)
  have hw4 : Below w.heap.size w (w3.setCell ⟨jb, 0, none⟩ (.slice (some ⟨g3, 0, none⟩) 1 cap3)) := by rw [HGW.out]; exact hb4
  have hlt := HE.out.lt
  refine ⟨_, jb :: g3 :: E, rfl, .join jb g3 cap3 _ n E hn (HC3.out.set 0 _) ?_ ?_ (HE.out.heldBy (HeldBy.of_below hw4 hlt) (fun b hb => hb)), hw4, fun b hb => ?_⟩
  · have := (HO3.out.lt g3 rfl).2
    simpa using this
  · have h1 := HO3.out.cellAt 0 (by omega)
    refine ((Kept.setCell (S := fun b => b = jb) (Kept.refl _ w3) (p := ⟨jb, 0, none⟩) (fun _ => rfl) _).block g3 (HO3.out.lt g3 rfl).2 hne3 |> World.cell?_of_block).trans ?_
    simpa using h1
  · simp only [List.mem_cons] at hb
    rcases hb with q | q | q
    · right; have := HGW.out; omega
    · right; have := HGW.out; have := HG3.out; omega
    · exact .inl q
end Go.Proofs.YtkpdacfiglpgeaaGreatDoor

/- Layer 14 (txn): parts. -/
namespace Go.Proofs.YtkpdacfiglpgeaaGreatDoor
open Go.RowKit Bl Th
set_option maxRecDepth 10000

/-- What a call by a Ctx leaves of an object in blocks B. -/
def ObPost {α : Type} (W : World) (R : List Nat) (pa pb pc : Nat) (O : α → List Nat → World → Prop) (B : List Nat) (wr : World) (p : Tree (Nat × α)) (c : CS) (mk : α → Value → Value) (e : Ending) (w' : World) : Prop :=
  ∃ n x c' v E B', exec p c = ((n, x), c') ∧ e = .returned (mk x v) ∧ Err w' v n E ∧ O x B' w' ∧ Ctx W (E ++ (B' ++ R)) pa pb pc c' w' ∧ HeldBy R wr w' ∧ (∀ b ∈ E ++ B', b ∈ B ∨ wr.heap.size ≤ b) ∧ ∀ b ∈ E, b ∉ B'
/-- A transaction and what its parts keep. -/
structure PartSt {σ : Type} (W : World) (pt : Nat) (A : Aux σ) (T X : List Nat) (x : σ × Tx) (w : World) : Prop where
  tx : TxAt W pt x.2 T w
  st : A.at' x.1 X w
  apart : ∀ b ∈ T, b ∉ X
def PartIn {σ : Type} (W : World) (pt : Nat) (A : Aux σ) (x : σ × Tx) (B : List Nat) (w : World) : Prop := ∃ T X, B = T ++ X ∧ PartSt W pt A T X x w
/-- What holds where a part begins. -/
structure PartAt {σ : Type} (W : World) (R T X : List Nat) (pa pb pc pt px : Nat) (A : Aux σ) (s : σ) (t : Tx) (c : CS) (w : World) : Prop where
  ctx : Ctx W ((T ++ X) ++ R) pa pb pc c w
  st : PartSt W pt A T X (s, t) w
  apart : ∀ b ∈ T ++ X, b ∉ R
  tn : TnAt px pt pc w
  inX : px ∈ R
  log : t.sets.log.length < 1000000000
/-- What a body leaves of the notes and marks. -/
structure PartOk {σ : Type} (u : Nat) (t : Tx) (r : Nat × (σ × Tx)) : Prop where
  marks : r.2.2.sets.marks = t.sets.marks ++ [t.sets.log.length]
  log : t.sets.log.length ≤ r.2.2.sets.log.length
  few : r.1 = u → (r.2.2.sets.back (t.sets.marks.length + 1)).writes.length ≤ 500
  lim : r.2.2.sets.log.length < 1000000000
theorem smark_full {W : World} {ps : Nat} {s : Sets} {B : List Nat} {w : World} (h : SetsAt W ps s B w) (hm : 20 ≤ s.marks.length) :
    Calls Tryz.prog 174 #[.pointer (some ⟨ps, 0, none⟩)] w fun e w' => e = .returned (.tuple #[.int .i64 0, .iface 118 (.int .i64 10)]) ∧ w = w' := by
  have HM := Lib.hid (smade_ok h)
  obtain ⟨rv, lv, mv, ba, bw, ea, ew, ca, cw, rfl, h⟩ := h
  obtain ⟨p0, p1, p2, p3, p4, f0, f1, f2, f3, f4⟩ := five h.main
  have hfew := h.fewM
  obtain ⟨p, cap, hmv⟩ := ownsRow_shape h.marks
  obtain ⟨ml, hml⟩ : ∃ ml, s.marks.length = ml := ⟨_, rfl⟩
  rw [hml] at hmv hm hfew
  have g1 : decide ((20 : Int) ≤ (ml : Int)) = true := by simp; omega
  subst hmv
  clear h hml hm
  go_enter Tryz.func174, Tryz.ntmps174
  go_wp2_with (go_at_call 136; refine HM.out.mono ?_; rintro e w' ⟨rfl, rfl⟩)
  go_ret2
  exact ⟨rfl, rfl⟩
theorem tx_on {W : World} {pt ps : Nat} {t : Tx} {T0 : List Nat} {w : World} {s : Sets} (h1 : pt ∉ T0) (h2 : W.heap.size ≤ pt) (h3 : Cells w pt [.pointer (some ⟨ps, 0, none⟩), .int .u64 (t.clock : Int), .int .i64 t.owner, .int .i64 t.stamp] 214) (h5 : t.clock < 18446744073709551616) (hs : SetsAt W ps s T0 w) : TxAt W pt (t.on s) (pt :: T0) w :=
  ⟨ps, T0, rfl, h1, h2, h3, hs, h5⟩
/-- A change inside a transaction's sets. -/
theorem PartAt.change {σ : Type} {W : World} {R X T0 B' : List Nat} {pa pb pc pt px ps : Nat} {A : Aux σ} {s : σ} {t : Tx} {c : CS} {w w' : World} {s' : Sets} (h : PartAt W R (pt :: T0) X pa pb pc pt px A s t c w) (h1 : pt ∉ T0) (h2 : W.heap.size ≤ pt) (h3 : Cells w pt [.pointer (some ⟨ps, 0, none⟩), .int .u64 (t.clock : Int), .int .i64 t.owner, .int .i64 t.stamp] 214) (h5 : t.clock < 18446744073709551616)
    (hs : SetsAt W ps s' B' w') (hk : Kept (fun b => b ∈ T0) w w') (hB : ∀ b ∈ B', b ∈ T0 ∨ w.heap.size ≤ b) (hl : s'.log.length < 1000000000) :
    PartAt W R (pt :: B') X pa pb pc pt px A s (t.on s') c w' ∧ HeldBy R w w' ∧ ∀ b ∈ pt :: B', b ∈ pt :: T0 ∨ w.heap.size ≤ b := by
  have hpt := h3.lt
  have hnew : ∀ b ∈ pt :: B', b ∈ pt :: T0 ∨ w.heap.size ≤ b := fun b hb => by
    rcases List.mem_cons.1 hb with q | q
    · exact .inl (by simp [q])
    · rcases hB b q with q | q
      · exact .inl (by simp [q])
      · exact .inr q
  have hptB : pt ∉ B' := fun hm => by
    rcases hB pt hm with q | q
    · exact h1 q
    · omega
  have htx := tx_on (t := t) (T0 := B') hptB h2 (h3.kept hk h1) h5 hs
  have hkk : Kept (fun b => b ∈ pt :: T0) w w' := hk.mono fun b _ e => List.mem_cons_of_mem _ e
  obtain ⟨e1, e2⟩ := Ctx.objs (B := pt :: T0) (B' := pt :: B') (R := X ++ R) (by simpa using h.ctx) hkk h.st.tx.new (fun b hb hm => by
    rcases List.mem_append.1 hm with q | q
    · exact h.st.apart b hb q
    · exact h.apart b (by simp at hb ⊢; rcases hb with q2 | q2 <;> simp [q2]) q) (fun b hb => ⟨hnew b hb, htx.lt b hb⟩)
  have e3 : HeldBy R w w' := e2.less fun b hb => by simp [hb]
  have e4 : HeldBy X w w' := e2.less fun b hb => by simp [hb]
  refine ⟨⟨by simpa using e1, ⟨htx, A.loc _ _ _ _ h.st.st e4, fun b hb hm => ?_⟩, fun b hb hm => ?_, h.tn.heldBy e3 h.inX, h.inX, hl⟩, e3, hnew⟩
  · rcases hnew b hb with q | q
    · exact h.st.apart b q hm
    · have := h.ctx.heldR b (by simp [hm]); omega
  · rcases List.mem_append.1 hb with q | q
    · rcases hnew b q with q | q
      · exact h.apart b (by simp at q ⊢; rcases q with q2 | q2 <;> simp [q2]) hm
      · have := h.ctx.heldR b (by simp [hm]); omega
    · exact h.apart b (by simp [q]) hm
theorem PartAt.under {σ : Type} {W : World} {R T X : List Nat} {pa pb pc pt px : Nat} {A : Aux σ} {s : σ} {t : Tx} {c : CS} {w w' : World} (h : PartAt W R T X pa pb pc pt px A s t c w) (hb : Below w.heap.size w w') : PartAt W R T X pa pb pc pt px A s t c w' := by
  have hh := HeldBy.of_below (R := (T ++ X) ++ R) hb h.ctx.heldR
  exact ⟨h.ctx.under hb, ⟨h.st.tx.heldBy hh (fun b hb => by simp [hb]), A.loc _ _ _ _ h.st.st (hh.less fun b hb => by simp [hb]), h.st.apart⟩, h.apart, h.tn.heldBy (hh.less (R' := R) fun b hb => by simp [hb]) h.inX, h.inX, h.log⟩
/-- Behind a body. -/
theorem PartAt.next {σ : Type} {W : World} {R T X T1 X1 E : List Nat} {pa pb pc pt px : Nat} {A : Aux σ} {s s1 : σ} {t t1 : Tx} {c c1 : CS} {w w1 : World} (h : PartAt W R T X pa pb pc pt px A s t c w) (hs : PartSt W pt A T1 X1 (s1, t1) w1) (hc : Ctx W (E ++ ((T1 ++ X1) ++ R)) pa pb pc c1 w1) (hh : HeldBy R w w1) (hB : ∀ b ∈ E ++ (T1 ++ X1), b ∈ T ++ X ∨ w.heap.size ≤ b) (hEB : ∀ b ∈ E, b ∉ T1 ++ X1) (hl : t1.sets.log.length < 1000000000) :
    PartAt W (E ++ R) T1 X1 pa pb pc pt px A s1 t1 c1 w1 := by
  refine ⟨hc.less fun b hb => ?_, hs, fun b hb hm => ?_, h.tn.heldBy hh h.inX, by simp [h.inX], hl⟩
  · simp only [List.mem_append] at hb ⊢
    rcases hb with (q | q) | q | q <;> simp [q]
  · rcases List.mem_append.1 hm with q | q
    · exact hEB b q hb
    · rcases hB b (by simp at hb ⊢; rcases hb with q2 | q2 <;> simp [q2]) with q2 | q2
      · exact h.apart b q2 q
      · have := h.ctx.heldR b (by simp [q]); omega
theorem PartAt.post {σ α : Type} {W : World} {R T1 X1 E : List Nat} {B0 : List Nat} {pa pb pc pt px : Nat} {A : Aux σ} {s1 : σ} {t1 : Tx} {c c1 : CS} {w0 w1 : World} {p : Tree (Nat × (α × (σ × Tx)))} {n : Nat} {a : α} {v : Value} {mk : α × (σ × Tx) → Value → Value} (h : PartAt W (E ++ R) T1 X1 pa pb pc pt px A s1 t1 c1 w1) (hx : exec p c = ((n, a, s1, t1), c1)) (he : Err w1 v n E) (hh : HeldBy R w0 w1) (hB : ∀ b ∈ E ++ (T1 ++ X1), b ∈ B0 ∨ w0.heap.size ≤ b) :
    ObPost W R pa pb pc (fun x : α × (σ × Tx) => PartIn W pt A x.2) B0 w0 p c mk (.returned (mk (a, s1, t1) v)) w1 :=
  ⟨n, (a, s1, t1), c1, v, E, T1 ++ X1, hx, rfl, he, ⟨T1, X1, rfl, h.st⟩, h.ctx.less fun b hb => by
    simp only [List.mem_append] at hb ⊢
    rcases hb with q | (q | q) | q <;> simp [q], hh, hB, fun b hb hm => h.apart b hm (by simp [hb])⟩
theorem PartAt.less {σ : Type} {W : World} {R E T X : List Nat} {pa pb pc pt px : Nat} {A : Aux σ} {s : σ} {t : Tx} {c : CS} {w : World} (h : PartAt W (E ++ R) T X pa pb pc pt px A s t c w) (hp : px ∈ R) : PartAt W R T X pa pb pc pt px A s t c w :=
  ⟨h.ctx.less fun b hb => by
    simp only [List.mem_append] at hb ⊢
    rcases hb with (q | q) | q <;> simp [q], h.st, fun b hb hm => h.apart b hb (by simp [hm]), h.tn, hp, h.log⟩
set_option maxHeartbeats 1000000 in
/-- A part. -/
theorem part_ok {σ : Type} {W : World} {R T X : List Nat} {pa pb pc pt px f u : Nat} {caps : Array Value} {A : Aux σ} {s : σ} {t : Tx} {c : CS} {wi : World} {P : σ → Tx → Tree (Nat × (σ × Tx))} (h : PartAt W R T X pa pb pc pt px A s t c wi) (hu : 1 ≤ u)
    (ef : ∀ (args : Array Value) (w : World), (callFunc f args).run Tryz.prog w = .ok (.enter f args) w)
    (hbody : t.sets.marks.length < 20 → ∀ (T' : List Nat) (wk : World), PartAt W R T' X pa pb pc pt px A s (t.on t.sets.mark.2.2) c wk → HeldBy R wi wk → Calls Tryz.prog f caps wk (ObPost W R pa pb pc (PartIn W pt A) (T' ++ X) wk (P s (t.on t.sets.mark.2.2)) c (fun _ v => v)))
    (hok : t.sets.marks.length < 20 → PartOk u t (exec (P s (t.on t.sets.mark.2.2)) c).1) :
    Calls Tryz.prog 150 #[.pointer (some ⟨px, 0, none⟩), .func (.func f) #[] caps, .int .i64 (u : Int)] wi (ObPost W R pa pb pc (fun x : Bool × (σ × Tx) => PartIn W pt A x.2) (T ++ X) wi (tPart P u s t) c (fun x v => .tuple #[.bool x.1, v])) := by
  have HMD := Lib.hid (xmade_ok h.tn)
  obtain ⟨p0, p1⟩ := h.tn.two
  have HH := Lib.hid h
  obtain ⟨ps, T0, rfl, t1, t2, t3, t4, t5⟩ := h.st.tx
  obtain ⟨q0, q1, q2, q3, -⟩ := four t3
  by_cases hm : t.sets.marks.length < 20
  · have HMK := Lib.hid (smark_ok t4 hm h.ctx.below.size)
    have HT1 := Lib.hid t1; have HT2 := Lib.hid t2; have HT3 := Lib.hid t3; have HT5 := Lib.hid t5; have HM := Lib.hid hm; have HBD := Lib.hid hbody; have HOK := Lib.hid hok; have HU := Lib.hid hu
    have hm1 : t.sets.mark.1 = 0 := by unfold Sets.mark; rw [if_neg (by omega)]
    have hm2 : t.sets.mark.2.1 = t.sets.marks.length + 1 := by unfold Sets.mark; rw [if_neg (by omega)]
    have HM1 := Lib.hid hm1; have HM2 := Lib.hid hm2
    obtain ⟨ml, hml⟩ : ∃ ml, t.sets.marks.length + 1 = ml := ⟨_, rfl⟩
    rw [hml] at HMK HM2
    have HML := Lib.hid hml
    clear h t1 t2 t3 t4 t5 hm hbody hok hu hm1 hm2 hml
    go_enter Tryz.func150, Tryz.ntmps150
    go_wp2_with (first
      | (go_at_call 69; refine HMD.out.mono ?_; rintro e w' ⟨rfl, rfl⟩)
      | (go_at_call 174; refine HMK.out.mono ?_; rintro e w1 ⟨B1, rfl, hs1, hk1, hB1⟩; obtain ⟨c1, c2, c3⟩ := HH.out.change HT1.out HT2.out HT3.out HT5.out hs1 hk1 hB1 (by have := HH.out.log; unfold Sets.mark; split <;> exact this); have HC1 := Lib.hid c1; have HC2 := Lib.hid c2; have HC3 := Lib.hid c3; clear hs1 hk1 hB1 c1 c2 c3))
    refine (HBD.out HM.out _ _ HC1.out HC2.out).mono ?_
    rintro e w2 ⟨n, ⟨s2, t2⟩, c2, v, E, B2, hx, rfl, he, ⟨T2, X2, rfl, hst⟩, hc, hh, hB, hEB⟩
    have hok := HOK.out HM.out
    rw [hx] at hok
    have hP := HC1.out.next hst hc hh hB hEB hok.lim
    have hIS := is_any he u HU.out
    have hBB : ∀ b ∈ E ++ (T2 ++ X2), b ∈ (pt :: T0) ++ X ∨ wi.heap.size ≤ b := fun b hb => by
      rcases hB b hb with q | q
      · rcases List.mem_append.1 q with q | q
        · rcases HC3.out b q with q | q
          · exact .inl (by rw [List.mem_append]; exact .inl q)
          · exact .inr q
        · exact .inl (by simp [q])
      · exact .inr (Nat.le_trans HC2.out.1 q)
    have HP := Lib.hid hP; have HE := Lib.hid he; have HX := Lib.hid hx; have HBB := Lib.hid hBB; have HRR := Lib.hid (HC2.out.trans hh); have HOK2 := Lib.hid hok; have HEB := Lib.hid hEB
    obtain ⟨p0, p1⟩ := hP.tn.two
    obtain ⟨ps2, T20, rfl, t1, t2', t3, t4, t5⟩ := hst.tx
    obtain ⟨q0, q1, q2, q3, -⟩ := four t3
    clear q1 q2 q3
    have hmk : ml ≤ t2.sets.marks.length ∧ 1 ≤ ml ∧ t2.sets.marks.getD (ml - 1) 0 = t.sets.log.length := by
      have := hok.marks
      simp only at this
      rw [this]
      refine ⟨by simp; have := HML.out; omega, by have := HML.out; omega, ?_⟩
      rw [show ml - 1 = t.sets.marks.length by have := HML.out; omega]
      simp
    have hsh := he.shape
    by_cases hnu : n = u
    · have HBK := Lib.hid (sback_ok t4 hmk.2.1 hmk.1 (by rw [hmk.2.2]; exact hok.log) (by have := hok.few hnu; rw [HML.out] at this; exact this) hok.lim)
      have hd : decide (n = u) = true := by simp [hnu]
      rw [hd] at hIS
      have HIS := Lib.hid hIS
      have HT1 := Lib.hid t1; have HT2 := Lib.hid t2'; have HT3 := Lib.hid t3; have HT5 := Lib.hid t5; have HMK2 := Lib.hid hmk; have HNU := Lib.hid hnu
      clear hx he hst hc hh hB hEB hok hP hIS hBB t1 t2' t3 t4 t5 hmk hnu hd
      go_wp2_with (first
        | (go_at_call 46; refine HIS.out.mono ?_; rintro e w' ⟨rfl, rfl⟩)
        | (go_at_call 177; refine HBK.out.mono ?_; rintro e w3 ⟨v3, E3, B3, rfl, he3, hs3, hk3, hB3, -, -⟩; obtain ⟨rfl, rfl⟩ := he3.isNil rfl; obtain ⟨c1, c2, c3⟩ := HP.out.change HT1.out HT2.out HT3.out HT5.out hs3 hk3 hB3 (by have := HP.out.log; unfold Sets.back; rw [List.length_take]; omega); have HD1 := Lib.hid c1; have HD2 := Lib.hid c2; have HD3 := Lib.hid c3; clear hs3 hk3 hB3 c1 c2 c3 he3))
      go_ret2
      have hm0 := HML.out
      have hxx : exec (tPart P u s t) c = ((0, true, s2, t2.on (t2.sets.back ml)), c2) := by
        unfold tPart
        rw [if_pos HM1.out, HM2.out]
        simp only [exec_bind, HX.out]
        rw [if_pos HNU.out]
        have hbn : t2.sets.backN ml = (0, t2.sets.back ml) := by
          unfold Sets.backN
          rw [if_pos ⟨HMK2.out.2.1, HMK2.out.1⟩]
        rw [hbn]
        rfl
      refine ((HD1.out.less HH.out.inX).post (E := []) hxx .none (HRR.out.trans (HD2.out.less fun b hb => by simp [hb])) fun b hb => ?_)
      rcases List.mem_append.1 (show b ∈ (pt :: B3) ++ X2 from hb) with q | q
      · rcases HD3.out b q with q | q
        · exact HBB.out b (by simp only [List.mem_append]; exact .inr (.inl q))
        · exact .inr (Nat.le_trans HRR.out.1 q)
      · exact HBB.out b (by simp [q])
    · have HKP := Lib.hid (skeep_ok t4 hmk.2.1 hmk.1)
      have hd : decide (n = u) = false := by simp [hnu]
      rw [hd] at hIS
      have HIS := Lib.hid hIS
      have HT1 := Lib.hid t1; have HT2 := Lib.hid t2'; have HT3 := Lib.hid t3; have HT5 := Lib.hid t5; have HMK2 := Lib.hid hmk; have HNU := Lib.hid hnu
      have hxx : exec (tPart P u s t) c = ((n, false, s2, t2.on (t2.sets.keep ml)), c2) := by
        unfold tPart
        rw [if_pos HM1.out, HM2.out]
        simp only [exec_bind, hx]
        rw [if_neg hnu]
        have hbn : t2.sets.keepN ml = (0, t2.sets.keep ml) := by
          unfold Sets.keepN
          rw [if_pos ⟨hmk.2.1, hmk.1⟩]
        rw [hbn]
        rfl
      have HXX := Lib.hid hxx
      have HSH := Lib.hid hsh
      clear hx he hst hc hh hB hEB hok hP hIS hBB t1 t2' t3 t4 t5 hmk hnu hd hxx hsh
      have HJN : Hid (∀ w3 : World, HeldBy (E ++ R) w2 w3 → Calls Tryz.prog 175 #[.slice (some ⟨w3.heap.size, 0, none⟩) 2 2] (w3.alloc (.cells #[v, .nilIface] 67)) (JoinPost w3 n E)) := Lib.hid (by
        intro w3 hh3
        have C := Cells.new w3 [v, .nilIface] 67
        have he3 := HE.out.heldBy hh3 (fun b hb => by simp [hb])
        have hb3 := (Below.refl w3.heap.size w3).alloc (Nat.le_refl _) (.cells #[v, .nilIface] 67)
        have he4 := he3.heldBy (R := E) (HeldBy.of_below hb3 he3.lt) (fun b hb => hb)
        have key : Calls Tryz.prog 175 #[.slice (some ⟨w3.heap.size, 0, none⟩) 2 2] (w3.alloc (.cells #[v, .nilIface] 67)) (JoinPost (w3.alloc (.cells #[v, .nilIface] 67)) n E) := by
          by_cases h0 : n = 0
          · subst h0
            obtain ⟨rfl, -⟩ := HE.out.isNil rfl
            exact join_nil (C.cell 0) (C.cell 1) E
          · exact join_err (C.cell 0) (C.cell 1) he4 h0
        refine key.mono ?_
        rintro e w5 ⟨v5, E5, rfl, h1, h2, h3⟩
        exact ⟨v5, E5, rfl, h1, hb3.trans (h2.mono hb3.size), fun b hb => (h3 b hb).imp_right fun q => Nat.le_trans hb3.size q⟩)
      rcases HSH.out with rfl | ⟨tt, xx, rfl⟩
      all_goals
        go_wp2_with (first
          | (go_at_call 46; refine HIS.out.mono ?_; rintro e w' ⟨rfl, rfl⟩)
          | (go_at_call 176; refine HKP.out.mono ?_; rintro e w3 ⟨v3, E3, B3, rfl, he3, hs3, hk3, hB3, -, -⟩; obtain ⟨rfl, rfl⟩ := he3.isNil rfl; obtain ⟨c1, c2', c3⟩ := HP.out.change HT1.out HT2.out HT3.out HT5.out hs3 hk3 hB3 (by have := HP.out.log; unfold Sets.keep; simp only; split <;> simp_all); have HD1 := Lib.hid c1; have HD2 := Lib.hid c2'; have HD3 := Lib.hid c3; clear hs3 hk3 hB3 c1 c2' c3 he3)
          | (go_at_call 175; refine (HJN.out _ HD2.out).mono ?_; rintro e w5 ⟨v5, E5, rfl, he5, hb5, hE5⟩; have HE5 := Lib.hid he5; have HB5 := Lib.hid hb5; have HEE := Lib.hid hE5; clear he5 hb5 hE5))
        go_ret2
        have hp5 := (HD1.out.under HB5.out).less HH.out.inX
        have h35 : HeldBy R w3 w5 := HeldBy.of_below HB5.out (fun b hb => HD1.out.ctx.heldR b (by simp [hb]))
        have hz3 := HRR.out.1
        have hz4 := HD2.out.1
        have hz5 := HB5.out.size
        have hlt5 := HE5.out.lt
        have hW3 := HD1.out.ctx.below
        have hx5 : PartAt W (E5 ++ R) (pt :: B3) X2 pa pb pc pt px A s2 (t2.on (t2.sets.keep ml)) c2 w5 := by
          refine ⟨HD1.out.ctx.step ((Kept.of_below HB5.out).mono fun b hb e => by omega) (hW3.trans (HB5.out.mono hW3.size)) fun b hb => ?_, hp5.st, fun b hb hm => ?_, hp5.tn, by simp [hp5.inX], hp5.log⟩
          · rcases List.mem_append.1 hb with q | q
            · exact ⟨.inl (List.mem_append_left _ q), Nat.lt_of_lt_of_le (HD1.out.ctx.heldR b (List.mem_append_left _ q)) hz5⟩
            · rcases List.mem_append.1 q with q | q
              · refine ⟨?_, hlt5 b q⟩
                rcases HEE.out b q with q2 | q2
                · exact .inl (List.mem_append_right _ (List.mem_append_left _ q2))
                · exact .inr q2
              · exact ⟨.inl (List.mem_append_right _ (List.mem_append_right _ q)), Nat.lt_of_lt_of_le (HD1.out.ctx.heldR b (List.mem_append_right _ (List.mem_append_right _ q))) hz5⟩
          · rcases List.mem_append.1 hm with q | q
            · rcases HEE.out b q with q2 | q2
              · exact HD1.out.apart b hb (List.mem_append_left _ q2)
              · have := HD1.out.ctx.heldR b (List.mem_append_left _ hb); omega
            · exact hp5.apart b hb q
        refine hx5.post (E := E5) HXX.out HE5.out ((HRR.out.trans (HD2.out.less fun b hb => List.mem_append_right _ hb)).trans h35) fun b hb => ?_
        rcases List.mem_append.1 hb with q | q
        · rcases HEE.out b q with q | q
          · exact HBB.out b (List.mem_append_left _ q)
          · exact .inr (by omega)
        · rcases List.mem_append.1 q with q | q
          · rcases HD3.out b q with q | q
            · exact HBB.out b (List.mem_append_right _ (List.mem_append_left _ q))
            · exact .inr (Nat.le_trans hz3 q)
          · exact HBB.out b (List.mem_append_right _ (List.mem_append_right _ q))
  · have HMK := Lib.hid (smark_full t4 (Nat.le_of_not_lt hm))
    have hm1 : t.sets.mark.1 = 10 := by unfold Sets.mark; rw [if_pos (by omega)]
    have hxx : exec (tPart P u s t) c = ((10, false, s, t), c) := by
      unfold tPart
      rw [if_neg (by rw [hm1]; omega), hm1]
      rfl
    have HF := Lib.hid ((show PartAt W ([] ++ R) (pt :: T0) X pa pb pc pt px A s t c wi from h).post (E := []) (B0 := (pt :: T0) ++ X) (mk := fun x v => .tuple #[.bool x.1, v]) hxx (.no 10 (by omega) (by omega)) (HeldBy.refl _ _) (fun b hb => .inl hb))
    clear h t1 t2 t3 t4 t5 hm hbody hok hu hm1 hxx
    go_enter Tryz.func150, Tryz.ntmps150
    go_wp2_with (first
      | (go_at_call 69; refine HMD.out.mono ?_; rintro e w' ⟨rfl, rfl⟩)
      | (go_at_call 174; refine HMK.out.mono ?_; rintro e w' ⟨rfl, rfl⟩))
    go_ret2
    exact HF.out
end Go.Proofs.YtkpdacfiglpgeaaGreatDoor

/- Layer 14 (txn): Atomic, Or. -/
namespace Go.Proofs.YtkpdacfiglpgeaaGreatDoor
open Go.RowKit Bl Th
set_option maxRecDepth 10000

theorem atomic_ok {σ : Type} {W : World} {R T X : List Nat} {pa pb pc pt px f : Nat} {caps : Array Value} {A : Aux σ} {s : σ} {t : Tx} {c : CS} {wi : World} {P : σ → Tx → Tree (Nat × (σ × Tx))} (h : PartAt W R T X pa pb pc pt px A s t c wi)
    (ef : ∀ (args : Array Value) (w : World), (callFunc f args).run Tryz.prog w = .ok (.enter f args) w)
    (hbody : t.sets.marks.length < 20 → ∀ (T' : List Nat) (wk : World), PartAt W R T' X pa pb pc pt px A s (t.on t.sets.mark.2.2) c wk → HeldBy R wi wk → Calls Tryz.prog f caps wk (ObPost W R pa pb pc (PartIn W pt A) (T' ++ X) wk (P s (t.on t.sets.mark.2.2)) c (fun _ v => v)))
    (hok : t.sets.marks.length < 20 → PartOk 14 t (exec (P s (t.on t.sets.mark.2.2)) c).1) :
    Calls Tryz.prog 117 #[.pointer (some ⟨px, 0, none⟩), .func (.func f) #[] caps] wi (ObPost W R pa pb pc (PartIn W pt A) (T ++ X) wi (tAtomic P s t) c (fun _ v => v)) := by
  have HP := Lib.hid (part_ok h (by omega : 1 ≤ 14) ef hbody hok)
  clear h ef hbody hok
  go_enter Tryz.func117, Tryz.ntmps117
  go_wp2_with fail
  refine HP.out.mono ?_
  rintro e w1 ⟨n, ⟨b, x⟩, c1, v, E, B1, hx, rfl, he, ho, hc, hh, hB, hEB⟩
  have hsh := he.shape
  have HF := Lib.hid (show ObPost W R pa pb pc (PartIn W pt A) (T ++ X) wi (tAtomic P s t) c (fun _ v => v) (.returned v) w1 from ⟨n, x, c1, v, E, B1, by unfold tAtomic; simp only [exec_bind, hx, exec], rfl, he, ho, hc, hh, hB, hEB⟩)
  clear hx he ho hc hh hB hEB HP
  rcases hsh with rfl | ⟨tt, xx, rfl⟩
  all_goals
    go_wp2
    go_ret
    exact HF.out
theorem or_ok {σ : Type} {W : World} {R T X : List Nat} {pa pb pc pt px f f2 : Nat} {caps caps2 : Array Value} {A : Aux σ} {s : σ} {t : Tx} {c : CS} {wi : World} {P P2 : σ → Tx → Tree (Nat × (σ × Tx))} (h : PartAt W R T X pa pb pc pt px A s t c wi)
    (ef : ∀ (args : Array Value) (w : World), (callFunc f args).run Tryz.prog w = .ok (.enter f args) w) (ef2 : ∀ (args : Array Value) (w : World), (callFunc f2 args).run Tryz.prog w = .ok (.enter f2 args) w)
    (hbody : t.sets.marks.length < 20 → ∀ (T' : List Nat) (wk : World), PartAt W R T' X pa pb pc pt px A s (t.on t.sets.mark.2.2) c wk → HeldBy R wi wk → Calls Tryz.prog f caps wk (ObPost W R pa pb pc (PartIn W pt A) (T' ++ X) wk (P s (t.on t.sets.mark.2.2)) c (fun _ v => v)))
    (hok : t.sets.marks.length < 20 → PartOk 13 t (exec (P s (t.on t.sets.mark.2.2)) c).1)
    (hlim : (exec (tPart P 13 s t) c).1.2.2.2.sets.log.length < 1000000000)
    (hbody2 : (exec (tPart P 13 s t) c).1.1 = 0 → (exec (tPart P 13 s t) c).1.2.1 = true → ∀ (T' X' : List Nat) (wk : World), PartAt W R T' X' pa pb pc pt px A (exec (tPart P 13 s t) c).1.2.2.1 (exec (tPart P 13 s t) c).1.2.2.2 (exec (tPart P 13 s t) c).2 wk → HeldBy R wi wk → Calls Tryz.prog f2 caps2 wk (ObPost W R pa pb pc (PartIn W pt A) (T' ++ X') wk (P2 (exec (tPart P 13 s t) c).1.2.2.1 (exec (tPart P 13 s t) c).1.2.2.2) (exec (tPart P 13 s t) c).2 (fun _ v => v))) :
    Calls Tryz.prog 119 #[.pointer (some ⟨px, 0, none⟩), .func (.func f) #[] caps, .func (.func f2) #[] caps2] wi (ObPost W R pa pb pc (PartIn W pt A) (T ++ X) wi (tOr P P2 s t) c (fun _ v => v)) := by
  have HP := Lib.hid (part_ok h (by omega : 1 ≤ 13) ef hbody hok)
  have HH := Lib.hid h; have HB2 := Lib.hid hbody2; have HL := Lib.hid hlim
  clear h ef hbody hok hbody2 hlim
  go_enter Tryz.func119, Tryz.ntmps119
  go_wp2_with fail
  refine HP.out.mono ?_
  rintro e w1 ⟨n, ⟨b, s1, t1⟩, c1, v, E, B1, hx, rfl, he, ⟨T1, X1, rfl, hst⟩, hc, hh, hB, hEB⟩
  have hb2 := HB2.out
  have hl := HL.out
  rw [hx] at hb2 hl
  simp only at hb2 hl
  by_cases h0 : n = 0
  · subst h0
    obtain ⟨rfl, rfl⟩ := he.isNil rfl
    cases b with
    | true =>
      have HP1 := Lib.hid ((HH.out.next (E := []) hst hc hh hB hEB hl).less HH.out.inX)
      have HC := Lib.hid (hb2 rfl rfl T1 X1 w1 HP1.out hh)
      have HX := Lib.hid hx; have HR := Lib.hid hh; have HBB := Lib.hid hB
      clear hx he hst hc hh hB hEB hb2 hl HP HB2 HL
      go_wp2_with fail
      refine HC.out.mono ?_
      rintro e w2 ⟨m, x, c2, v2, E2, B2, hx2, rfl, he2, ho2, hc2, hh2, hB2, hEB2⟩
      have hsh := he2.shape
      have HF := Lib.hid (show ObPost W R pa pb pc (PartIn W pt A) (T ++ X) wi (tOr P P2 s t) c (fun _ v => v) (.returned v2) w2 from ⟨m, x, c2, v2, E2, B2, by unfold tOr; simp only [exec_bind, HX.out, and_self, if_true, hx2], rfl, he2, ho2, hc2, HR.out.trans hh2, fun b hb => by
        rcases hB2 b hb with q | q
        · exact HBB.out b (by simpa using q)
        · exact .inr (Nat.le_trans HR.out.1 q), hEB2⟩)
      clear hx2 he2 ho2 hc2 hh2 hB2 hEB2
      rcases hsh with rfl | ⟨tt, xx, rfl⟩
      all_goals
        go_wp2
        go_ret
        exact HF.out
    | false =>
      have HF := Lib.hid (show ObPost W R pa pb pc (PartIn W pt A) (T ++ X) wi (tOr P P2 s t) c (fun _ v => v) (.returned .nilIface) w1 from ⟨0, (s1, t1), c1, _, [], T1 ++ X1, by unfold tOr; simp only [exec_bind, hx]; rfl, rfl, .none, ⟨T1, X1, rfl, hst⟩, hc, hh, hB, hEB⟩)
      clear hx he hst hc hh hB hEB hb2 hl HP HB2 HL
      go_wp2
      go_ret
      exact HF.out
  · have HF := Lib.hid (show ObPost W R pa pb pc (PartIn W pt A) (T ++ X) wi (tOr P P2 s t) c (fun _ v => v) (.returned v) w1 from ⟨n, (s1, t1), c1, v, E, T1 ++ X1, by unfold tOr; simp only [exec_bind, hx]; rw [if_neg (fun e => h0 e.1)]; rfl, rfl, he, ⟨T1, X1, rfl, hst⟩, hc, hh, hB, hEB⟩)
    obtain ⟨tt, xx, rfl⟩ := he.iface h0
    clear hx he hst hc hh hB hEB hb2 hl HP HB2 HL h0
    go_wp2
    go_ret
    exact HF.out
end Go.Proofs.YtkpdacfiglpgeaaGreatDoor
