/- A thread's body that runs alone (concordlaw16.Alone); what holds along a transaction's way. -/
import Derived.Test.YtkpdacfiglpgeaaGreatDoorTxn
import Derived.Test.YtkpdacfiglpgeaaGreatDoorRun
import Derived.Maps.AppendAt
import Derived.Laws.OwnMore
namespace Go.Proofs.YtkpdacfiglpgeaaGreatDoor
open Go.RowKit Bl Th
set_option maxRecDepth 10000

def encU (l : List Nat) : List Value := l.map fun x : Nat => .int .u64 (x : Int)
theorem newsU {w : World} {b x : Nat} (h : Cells w b [.int .u64 (x : Int)] 25) : ∀ j u, [Value.int .u64 (x : Int)][j]? = some u → w.cell? ((⟨b, 0, none⟩ : Addr).add j) = some u := by
  intro j u hj
  have h1 := h.cell j
  rw [hj] at h1
  rw [← h1]
  congr 1
  unfold Addr.add
  split <;> simp_all
theorem row_mono {w : World} {base base' : Nat} {e : TypeId} {size : Nat} {v : Value} {n : Nat} {xs : List Value} (h : w.ownsRow base e size v n xs) (hb : base' ≤ base) : w.ownsRow base' e size v n xs := by
  refine ⟨h.1, ?_⟩
  rcases h.2 with q | ⟨g, cap, cur, h1, h2, h3⟩
  · exact .inl q
  · exact .inr ⟨g, cap, cur, h1, Nat.le_trans hb h2, h3⟩
/-- What holds along its way, behind Begin. -/
structure WayC (W : World) (Y : List Nat) (pa pb pc pt px : Nat) (wi : World) (t : Tx) (B E : List Nat) (c : CS) (w : World) : Prop where
  ctx : Ctx W (E ++ (B ++ (px :: Y))) pa pb pc c w
  held : HeldBy Y wi w
  tx : TxAt W pt t B w
  tn : TnAt px pt pc w
  newB : ∀ b ∈ B, wi.heap.size ≤ b ∧ b ≠ px
  newE : ∀ b ∈ E, wi.heap.size ≤ b
  apE : ∀ b ∈ E, b ∉ B
  newX : wi.heap.size ≤ px
  loY : ∀ b ∈ Y, b < wi.heap.size
section
variable {W : World} {Y B B' E : List Nat} {pa pb pc pt px : Nat} {wi w w' : World} {t t' : Tx} {c c' : CS}
theorem WayC.apart (h : WayC W Y pa pb pc pt px wi t B E c w) : ∀ b ∈ B, b ∉ px :: Y := by
  intro b hb hm
  obtain ⟨h1, h2⟩ := h.newB b hb
  rcases List.mem_cons.1 hm with e | e
  · exact h2 e
  · have := h.loY b e; omega
theorem WayC.call (h : WayC W Y pa pb pc pt px wi t B [] c w) (ht : TxAt W pt t' B' w') (hc : Ctx W (E ++ (B' ++ (px :: Y))) pa pb pc c' w') (hh : HeldBy (px :: Y) w w') (hB : ∀ b ∈ E ++ B', b ∈ B ∨ w.heap.size ≤ b) (hEB : ∀ b ∈ E, b ∉ B') : WayC W Y pa pb pc pt px wi t' B' E c' w' := by
  have hz := h.held.1
  have hx := Cells.lt h.tn
  have key : ∀ b ∈ E ++ B', wi.heap.size ≤ b ∧ b ≠ px := by
    intro b hb
    rcases hB b hb with q | q
    · exact h.newB b q
    · exact ⟨Nat.le_trans hz q, fun e => by omega⟩
  exact ⟨hc, h.held.trans (hh.less fun b hb => by simp [hb]), ht, h.tn.heldBy hh (by simp), fun b hb => key b (by simp [hb]), fun b hb => (key b (by simp [hb])).1, hEB, h.newX, h.loY⟩
theorem WayC.under (h : WayC W Y pa pb pc pt px wi t B E c w) (hb : Below w.heap.size w w') : WayC W Y pa pb pc pt px wi t B E c w' := by
  have hh := HeldBy.of_below (R := E ++ (B ++ (px :: Y))) hb h.ctx.heldR
  exact { h with ctx := h.ctx.under hb, held := h.held.trans (hh.less fun b hb => by simp [hb]), tx := h.tx.heldBy hh (fun b hb => by simp [hb]), tn := h.tn.heldBy hh (by simp) }
theorem WayC.nil (h : WayC W Y pa pb pc pt px wi t B [] c w) : Ctx W (B ++ (px :: Y)) pa pb pc c w := h.ctx.less fun b hb => by simpa using hb
end
theorem body_finC {σ : Type} {W : World} {X Q E : List Nat} {pa pb pc n : Nat} {A : Aux σ} {s' : σ} {c' : CS} {v : Value} {wr w' : World} (ha : A.at' s' Q w') (he : Err w' v n E) (hc : Ctx W (E ++ (Q ++ X)) pa pb pc c' w') (hh : HeldBy X wr w') (hE : ∀ b ∈ E, wr.heap.size ≤ b) : BodyPost W pa pb pc A X Q wr (n, c', s') (.returned v) w' := by
  refine ⟨v, E, Q, rfl, he, ha, hc.less (fun b hb => ?_), hh, fun b hb => ?_⟩
  · simp only [List.mem_append] at hb ⊢
    rcases hb with q | q | q
    · exact .inr (.inr q)
    · exact .inl q
    · exact .inr (.inl q)
  · rcases List.mem_append.1 hb with q | q
    · exact .inr (hE b q)
    · exact .inl q
/-- New, and the thread lies in a new block. -/
theorem tnew_newC {σ : Type} {W : World} {R : List Nat} {pa pb : Nat} {S : BS} {wr : World} (h : Held W R pa pb S wr) (A : Aux σ) (s : σ) {Q : List Nat} (hq : A.at' s Q wr) (hQ : ∀ b ∈ Q, b ∈ R) (f : Nat) (caps : Array Value) :
    Calls Tryz.prog 20 #[.pointer (some ⟨pb, 0, none⟩), .func (.func f) #[] caps] wr fun e w' => ∃ pt, e = .returned (.pointer (some ⟨pt, 0, none⟩)) ∧ Thr W pb pt (.func (.func f) #[] caps) A (Th.start s) (pt :: Q) w' ∧ Held W (pt :: R) pa pb S w' ∧ Below wr.heap.size wr w' ∧ wr.heap.size ≤ pt := by
  have hn : ∀ w, (binOp .eql 63 (.func (.func f) #[] caps) .nilFunc).run Tryz.prog w = .ok (.bool false) w := fun _ => by kernel_rfl
  have hB := (Below.refl wr.heap.size wr).alloc (Nat.le_refl _) (.cells #[.pointer (some ⟨pb, 0, none⟩), .func (.func f) #[] caps, .slice none 0 0, .int .i64 0, .int .i64 0, .bool false, .nilIface] 106)
  have HE := Lib.hid (show ∃ pt, Ending.returned (.pointer (some ⟨wr.heap.size, 0, none⟩)) = .returned (.pointer (some ⟨pt, 0, none⟩)) ∧ Thr W pb pt (.func (.func f) #[] caps) A (Th.start s) (pt :: Q) (wr.alloc (.cells #[.pointer (some ⟨pb, 0, none⟩), .func (.func f) #[] caps, .slice none 0 0, .int .i64 0, .int .i64 0, .bool false, .nilIface] 106)) ∧ Held W (pt :: R) pa pb S (wr.alloc (.cells #[.pointer (some ⟨pb, 0, none⟩), .func (.func f) #[] caps, .slice none 0 0, .int .i64 0, .int .i64 0, .bool false, .nilIface] 106)) ∧ Below wr.heap.size wr (wr.alloc (.cells #[.pointer (some ⟨pb, 0, none⟩), .func (.func f) #[] caps, .slice none 0 0, .int .i64 0, .int .i64 0, .bool false, .nilIface] 106)) ∧ wr.heap.size ≤ pt from
    ⟨wr.heap.size, rfl, ⟨.slice none 0 0, .nilIface, [], Q, rfl, Cells.new wr _ _, World.ownsRow_nil _ _ _ _, .none, A.loc _ _ _ _ hq (HeldBy.of_below hB (fun b hb => h.held b (hQ b hb))), fun hm => by
      have := h.held _ (hQ _ (by simpa [Value.ownBlock] using hm)); omega, by simp [Value.ownBlock], h.below.size, by simp [Th.start], by simp [Th.start], by simp [Th.start], fun _ => rfl⟩, h.new _, hB, Nat.le_refl _⟩)
  clear h hB
  go_enter Tryz.func20, Tryz.ntmps20
  go_wp2
  go_ret
  exact HE.out

/-! A body that runs alone. -/
/-- A function value that does F by a Ctx alone. -/
structure DoOk {σ : Type} (W : World) (pa pb : Nat) (f : Nat) (caps : Array Value) (A : Aux σ) (F : σ → CS → Nat × CS × σ) : Prop where
  enters : ∀ (args : Array Value) (w : World), (callFunc f args).run Tryz.prog w = .ok (.enter f args) w
  does : ∀ (s : σ) (X Q : List Nat) (wr : World) (pc : Nat) (c : CS), A.at' s Q wr → Ctx W (X ++ Q) pa pb pc c wr → (∀ b ∈ X, b ∉ Q) →
    Calls Tryz.prog f (#[.pointer (some ⟨pc, 0, none⟩)] ++ caps) wr (BodyPost W pa pb pc A X Q wr (F s c))
theorem ef_alone (args : Array Value) (w : World) : (callFunc 59 args).run Tryz.prog w = .ok (.enter 59 args) w := enters_of Tryz.func59 (by kernel_rfl) rfl args w
theorem alone_body {σ : Type} {W : World} {pa pb f bd : Nat} {caps : Array Value} {A : Aux σ} {F : σ → CS → Nat × CS × σ} (h : DoOk W pa pb f caps A F) :
    BodyOk W pa pb 59 #[.pointer (some ⟨bd, 0, none⟩)] A (fun s _ c => F s c) [bd] (fun w => Cells w bd [.func (.func f) #[] caps] 90) where
  enters := ef_alone
  keeps _ _ k h := h.heldBy k (by simp)
  does s X Q wr pc c round hP hSh ha hc hx _ := by
    have ef := h.enters
    have HD := Lib.hid (h.does s X Q wr pc c ha hc hx)
    have q0 := hP.cell 0
    simp only [List.getElem?_cons_zero] at q0
    clear h hP hSh ha hc hx
    show Calls Tryz.prog 59 #[.pointer (some ⟨pc, 0, none⟩), .int .i64 (round : Int), .pointer (some ⟨bd, 0, none⟩)] wr (BodyPost W pa pb pc A X Q wr (F s c))
    go_enter Tryz.func59, Tryz.ntmps59
    go_wp2_with fail
    refine HD.out.mono ?_
    rintro e w1 ⟨v, E, Q', rfl, he, hrest⟩
    have HF := Lib.hid (show BodyPost W pa pb pc A X Q wr (F s c) (.returned v) w1 from ⟨v, E, Q', rfl, he, hrest⟩)
    have hsh := he.shape
    clear he hrest HD
    rcases hsh with rfl | ⟨tt, xx, rfl⟩
    all_goals
      go_wp2
      go_ret
      exact HF.out
set_option maxHeartbeats 2000000 in
/-- Alone: it ran to its end without an error. -/
theorem alone_ok {σ : Type} {W : World} {R Q : List Nat} {pa pb f : Nat} {caps : Array Value} {A : Aux σ} {F : σ → CS → Nat × CS × σ} {S S' : BS} {s : σ} {t' : TS σ} {w : World} (hd : DoOk W pa pb f caps A F) (h : Held W (Q ++ R) pa pb S w) (hq : A.at' s Q w) (hQR : ∀ b ∈ Q, b ∉ R)
    (hrun : Th.run (fun s _ c => F s c) 7000 (0, Th.start s, S) = (0, t', S')) (hdone : t'.done = true) :
    Calls Tryz.prog 31 #[.pointer (some ⟨pb, 0, none⟩), .func (.func f) #[] caps] w fun e w' => ∃ Q', e = .returned (.int .i64 0) ∧ A.at' t'.aux Q' w' ∧ Held W (Q' ++ R) pa pb S' w' ∧ HeldBy R w w' ∧ (∀ b ∈ Q', b ∉ R) := by
  have hmf : ∀ (fn : Fn) (first cap : Array Value) (w : World), (Instr.makeFunc fn first cap).run Tryz.prog w = .ok (.func fn first cap) w := fun _ _ _ _ => rfl
  have B0 := (Below.refl w.heap.size w).alloc (Nat.le_refl _) (.cells #[.func (.func f) #[] caps] 90)
  have C0 := Cells.new w [.func (.func f) #[] caps] 90
  have hlt := h.held
  have hk0 := HeldBy.of_below (R := Q ++ R) B0 hlt
  have hh0 := h.came B0 [w.heap.size] (by simp)
  have hq0 := A.loc s Q _ _ hq (hk0.less fun b hb => by simp [hb])
  obtain ⟨w0, hw0⟩ : ∃ w0, w.alloc (.cells #[.func (.func f) #[] caps] 90) = w0 := ⟨_, rfl⟩
  obtain ⟨bd, hbd⟩ : ∃ bd, w.heap.size = bd := ⟨_, rfl⟩
  rw [hw0] at B0 C0 hk0 hh0 hq0
  rw [hbd] at C0 hh0
  have HN := Lib.hid (tnew_newC hh0 A s hq0 (fun b hb => by simp [hb]) 59 #[.pointer (some ⟨bd, 0, none⟩)])
  have HLT := Lib.hid (show ∀ b ∈ Q ++ R, b < bd by rw [← hbd]; exact hlt)
  have HK0 := Lib.hid hk0; have HC0 := Lib.hid C0; have HQR := Lib.hid hQR; have HD := Lib.hid hd; have HRUN := Lib.hid hrun; have HDN := Lib.hid hdone; have HH0 := Lib.hid hh0; have HZ := Lib.hid hbd
  clear hd h hq hQR hrun hdone B0 C0 hlt hk0 hh0 hq0
  go_enter Tryz.func31, Tryz.ntmps31
  go_wp2_with fail
  refine HN.out.mono ?_
  rintro e w1 ⟨pt, rfl, ht, hh1, hb1, hpt⟩
  have hz0 : w0.heap.size = bd + 1 := by rw [← hw0, ← HZ.out]; simp
  have HKB := Lib.hid (HeldBy.of_below (R := bd :: R) hb1 (fun b hb => HH0.out.held b (by
    rcases List.mem_cons.1 hb with q | q <;> simp [q])))
  have hP1 := HC0.out.heldBy HKB.out (by simp)
  have hR := trun_ok (R := bd :: R) (S := S) (alone_body HD.out) ht (hh1.less fun b hb => by
    simp only [List.mem_append, List.mem_cons, List.not_mem_nil, or_false] at hb ⊢
    rcases hb with (q | q) | q | q <;> simp [q]) (fun b hb hm => by
    rcases List.mem_cons.1 hb with q | q
    · subst q
      rcases List.mem_cons.1 hm with q | q
      · omega
      · have := HLT.out b (by simp [q]); omega
    · rcases List.mem_cons.1 hm with q2 | q2
      · have := HLT.out b (by simp [q]); omega
      · exact HQR.out b q q2) (by simp) hP1 7000 (by show 0 + 7000 ≤ 3000000000; omega)
  have hrn : Th.run (fun s _ c => F s c) 7000 ((Th.start s).err, Th.start s, S) = (0, t', S') := HRUN.out
  rw [hrn] at hR
  have HR := Lib.hid hR
  clear ht hh1 hb1 hpt hP1 hR hrn HN
  go_wp2_with fail
  refine HR.out.mono ?_
  rintro e w5 ⟨v, E, B', rfl, he, ht5, hh5, hk5, -, hB5⟩
  simp only at he ht5 hh5
  obtain ⟨rfl, rfl⟩ := he.isNil rfl
  have hd := tdone_ok ht5
  rw [HDN.out] at hd
  have HDD := Lib.hid hd
  obtain ⟨lv, ev, E2, Q2, rfl, hl⟩ := ht5
  have HF := Lib.hid (show ∃ Q', A.at' t'.aux Q' w5 ∧ Held W (Q' ++ R) pa pb S' w5 ∧ HeldBy R w w5 ∧ (∀ b ∈ Q', b ∉ R) from
    ⟨Q2, hl.aux, hh5.less (fun b hb => by
      simp only [List.mem_append, List.mem_cons] at hb ⊢
      rcases hb with q | q <;> simp [q]), ((HK0.out.less fun b hb => by simp [hb]).trans (HKB.out.less fun b hb => by simp [hb])).trans (hk5.less fun b hb => by simp [hb]), fun b hb hm => hB5 b (by simp [hb]) (by simp [hm])⟩)
  clear he hd hl hh5 hk5 hB5 HR
  go_wp2_with (first | (go_at_call 22; refine (no_nil _).mono ?_; rintro e w' ⟨rfl, rfl⟩) | (go_at_call 24; refine HDD.out.mono ?_; rintro e w' ⟨rfl, rfl⟩))
  go_ret
  obtain ⟨Q', hf⟩ := HF.out
  exact ⟨Q', rfl, hf⟩
end Go.Proofs.YtkpdacfiglpgeaaGreatDoor
