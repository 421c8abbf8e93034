/- Layer 18's laws: count.New; a body that runs alone (concordlaw16.Alone); the scene. -/
import Derived.Test.YtdipidiahekpkaaGreatDoorBodyC
import Derived.Maps.AppendAt
import Derived.Laws.OwnMore
namespace Go.Proofs.YtdipidiahekpkaaGreatDoor.Th
open Bl
def cNew : Nat → List Nat → Tree (Nat × List Nat)
  | 0, l => .ret (0, l)
  | m + 1, l => (mNewCell 0).bind fun r => if r.1 = 0 then cNew m (l ++ [r.2]) else .ret (r.1, [])
def sceneCT : Tree (Nat × (Nat × List Nat → Nat × List Nat)) :=
  (al 1).bind fun r => if r.1 = 0 then (cNew 4 []).bind fun q => .ret (q.1, fun _ => (r.2, q.2)) else .ret (r.1, fun s => (r.2, s.2))
end Go.Proofs.YtdipidiahekpkaaGreatDoor.Th
namespace Go.Proofs.YtdipidiahekpkaaGreatDoor
open Go.RowKit Bl Th
set_option maxRecDepth 10000

def encU (l : List Nat) : List Value := l.map fun x : Nat => .int .u64 (x : Int)
theorem newsU {w : World} {b x : Nat} (h : Cells w b [.int .u64 (x : Int)] 25) : ∀ j u, [Value.int .u64 (x : Int)][j]? = some u → w.cell? ((⟨b, 0, none⟩ : Addr).add j) = some u := by
  intro j u hj
  have h1 := h.cell j
  rw [hj] at h1
  rw [← h1]
  congr 1
  unfold Addr.add
  split <;> simp_all
/-- What New answers. -/
def NewPost (W : World) (R : List Nat) (pa pb pc : Nat) (wi : World) (c : CS) (e : Ending) (w' : World) : Prop :=
  ∃ n l c' lv v E, exec (cNew 4 []) c = ((n, l), c') ∧ e = .returned (.tuple #[lv, v]) ∧ Err w' v n E ∧ w'.ownsRow wi.heap.size 25 1 lv l.length (encU l) ∧ Ctx W (E ++ (lv.ownBlock.toList ++ R)) pa pb pc c' w' ∧ HeldBy R wi w' ∧ (∀ b ∈ E, wi.heap.size ≤ b) ∧ (∀ b ∈ E, b ∉ lv.ownBlock.toList) ∧ ∀ x ∈ l, x < 18446744073709551616
/-- What holds at each cell's head. -/
def NewJ (W : World) (R : List Nat) (pa pb pc : Nat) (wi : World) (c : CS) (lv iv : Value) (wr : World) : Prop :=
  ∃ (k : Nat) (l : List Nat) (c1 : CS), k ≤ 4 ∧ iv = .int .i64 (k : Int) ∧ l.length = k ∧ wr.ownsRow wi.heap.size 25 1 lv k (encU l) ∧ Ctx W (lv.ownBlock.toList ++ R) pa pb pc c1 wr ∧ HeldBy R wi wr ∧ (∀ x ∈ l, x < 18446744073709551616) ∧ exec (cNew 4 []) c = exec (cNew (4 - k) l) c1
set_option maxHeartbeats 4000000 in
theorem cnew_ok {W : World} {R : List Nat} {pa pb pc : Nat} {c : CS} {wi : World} (h : Ctx W R pa pb pc c wi) (hg : Handle W) :
    Calls Tryz.prog 11 #[.pointer (some ⟨pc, 0, none⟩)] wi (NewPost W R pa pb pc wi c) := by
  obtain ⟨i0, hi0, hz0, hz1, hz2⟩ := info_parts u64info
  have HG := Lib.hid hg
  have HRL := Lib.hid h.heldR
  have HWI := Lib.hid h.below.size
  have HJ := Lib.hid (show NewJ W R pa pb pc wi c (.slice none 0 0) (.int .i64 0) wi from ⟨0, [], c, by omega, rfl, rfl, World.ownsRow_nil _ _ _ _, by simpa [Value.ownBlock] using h, HeldBy.refl _ _, by simp, rfl⟩)
  clear h hg
  go_enter Tryz.func11, Tryz.ntmps11
  go_wp2
  go_loopw [4, 7] (NewJ W R pa pb pc wi c) (fun _ i _ => 4 - (intOf i).toNat)
  case atStart => exact HJ.out
  case round =>
    clear HJ
    obtain ⟨k, l, c1, hk, rfl, hl, hr, hc, hh, hu, hx⟩ := hrel
    obtain ⟨p, cap, rfl⟩ := ownsRow_shape hr
    by_cases hlt : k < 4
    · have hlt' : (k : Int) < 4 := by omega
      have HNC := Lib.hid (newCell_ok hc HG.out (value := 0) (by omega))
      obtain ⟨m, hm⟩ : ∃ m, 4 - k = m + 1 := ⟨3 - k, by omega⟩
      rw [hm] at hx
      have HM := Lib.hid (show 4 - (k + 1) = m by omega)
      have HR := Lib.hid hr; have HH := Lib.hid hh; have HU := Lib.hid hu; have HX := Lib.hid hx; have HL := Lib.hid hl
      clear hc hr hh hu hx hl hm
      go_wp2_with fail
      refine HNC.out.mono ?_
      rintro e w2 ⟨n, x, c2, v, E, hx2, hx0, rfl, he, hc2, hh2, hE⟩
      have hr2 := ownsRow_heldBy HR.out hh2 (fun b hb => by simp [hb])
      have hhr : HeldBy R wi w2 := HH.out.trans (hh2.less fun b hb => by simp [hb])
      by_cases h0 : n = 0
      · subst h0
        obtain ⟨rfl, rfl⟩ := he.isNil rfl
        have HX2 := Lib.hid (show exec (cNew 4 []) c = exec (cNew (4 - (k + 1)) (l ++ [x])) c2 by rw [HX.out, HM.out]; simp only [cNew, exec_bind, hx2, if_true])
        have HC2 := Lib.hid (show Ctx W ((Value.slice p k cap).ownBlock.toList ++ R) pa pb pc c2 w2 from hc2)
        have HR2 := Lib.hid hr2; have HHR := Lib.hid hhr; have HX0 := Lib.hid (show x < 18446744073709551616 from hx0)
        have HS := Lib.hid (show wi.heap.size ≤ (w2.alloc (.cells #[.int .u64 (x : Int)] 25)).heap.size by have := hhr.1; simp; omega)
        clear hx2 hx0 he hc2 hh2 hE hr2 hhr HNC
        go_wp2_with (first
          | (at_builtin; refine wpList_append_own_at _ rfl _ _ 26 rfl wi.heap.size 25 i0 (.int .u64 0) 1 8 Tryz.underlying26 hi0 hz0 hz1 hz2 rfl (by omega) (.slice p k cap) k (encU l) rfl (HR2.out.alloc _) ⟨w2.heap.size, 0, none⟩ 1 1 [.int .u64 (x : Int)] rfl rfl (newsU (Cells.new w2 [.int .u64 (x : Int)] 25)) (by intro u hu; simp at hu; subst hu; rfl) (by unfold maxLen; omega) (by omega) HS.out ?_; intro v2 w5 hown5 hgrow5 hnil5 hat5)
          | go_in)
        have kk : Kept (fun b => b ∈ (Value.slice p k cap).ownBlock.toList) w2 w5 := ((Kept.refl _ w2).alloc (.cells #[.int .u64 (x : Int)] 25)).then (Kept.of_grown hgrow5) (fun i _ e => by simp [← e])
        obtain ⟨e1, e2⟩ := Ctx.objs (B' := v2.ownBlock.toList) HC2.out kk (fun b hb => Nat.le_trans HWI.out (HR2.out.lt b (by simpa using hb)).1) (fun b hb hm => by
          have := (HR2.out.lt b (by simpa using hb)).1
          have := HRL.out b hm
          omega) (fun b hb => by
          refine ⟨?_, (hown5.lt b (by simpa using hb)).2⟩
          rcases hat5 with q | q
          · exact .inl (by rw [← q]; exact hb)
          · right
            rw [q] at hb
            simp at hb
            omega)
        have HREL := Lib.hid (show NewJ W R pa pb pc wi c v2 (.int .i64 ((k + 1 : Nat) : Int)) w5 from ⟨k + 1, l ++ [x], c2, by omega, rfl, by rw [List.length_append, HL.out]; rfl, by simpa [encU] using hown5, e1, HHR.out.trans e2, fun y hy => by
          rcases List.mem_append.1 hy with q | q
          · exact HU.out y q
          · simp at q
            subst q
            exact HX0.out, HX2.out⟩)
        have g9 : IntKind.i64.wrap ((k : Int) + 1) = ((k + 1 : Nat) : Int) := by rw [IntWalk.i64_in _ (by omega)]; rfl
        clear kk e1 e2 hown5 hgrow5 hnil5 hat5
        go_roundw
        case rel => first | exact HREL.out | (rw [show ((k : Int) + 1) = ((k + 1 : Nat) : Int) from rfl]; exact HREL.out)
        case measure => simp [intOf]; omega
      · have HF := Lib.hid (show NewPost W R pa pb pc wi c (.returned (.tuple #[.slice none 0 0, v])) w2 from ⟨n, [], c2, .slice none 0 0, v, E, by rw [HX.out]; simp only [cNew, exec_bind, hx2, if_neg h0, exec], rfl, he, World.ownsRow_nil _ _ _ _, hc2.less (fun b hb => by
          simp only [Value.ownBlock, Option.toList_none, List.nil_append, List.mem_append] at hb ⊢
          rcases hb with q | q <;> simp [q]), hhr, fun b hb => Nat.le_trans HH.out.1 (hE b hb), by simp [Value.ownBlock], by simp⟩)
        obtain ⟨tt, xx, rfl⟩ := he.iface h0
        clear hx2 hx0 he hc2 hh2 hE hr2 hhr HNC h0
        go_wp2
        go_ret2
        exact HF.out
    · obtain rfl : k = 4 := by omega
      have HF := Lib.hid (show NewPost W R pa pb pc wi c (.returned (.tuple #[.slice p 4 cap, .nilIface])) wr from ⟨0, l, c1, _, _, [], by rw [hx]; rfl, rfl, .none, by rw [hl]; exact hr, hc, hh, by simp, by simp, hu⟩)
      clear hl hr hc hh hu hx
      go_wp2
      go_ret2
      exact HF.out

/-- New, and the thread lies in a new block. -/
theorem tnew_newC {σ : Type} {W : World} {R : List Nat} {pa pb : Nat} {S : BS} {wr : World} (h : Held W R pa pb S wr) (A : Aux σ) (s : σ) {Q : List Nat} (hq : A.at' s Q wr) (hQ : ∀ b ∈ Q, b ∈ R) (f : Nat) (caps : Array Value) :
    Calls Tryz.prog 12 #[.pointer (some ⟨pb, 0, none⟩), .func (.func f) #[] caps] wr fun e w' => ∃ pt, e = .returned (.pointer (some ⟨pt, 0, none⟩)) ∧ Thr W pb pt (.func (.func f) #[] caps) A (Th.start s) (pt :: Q) w' ∧ Held W (pt :: R) pa pb S w' ∧ Below wr.heap.size wr w' ∧ wr.heap.size ≤ pt := by
  have hn : ∀ w, (binOp .eql 52 (.func (.func f) #[] caps) .nilFunc).run Tryz.prog w = .ok (.bool false) w := fun _ => by kernel_rfl
  have hB := (Below.refl wr.heap.size wr).alloc (Nat.le_refl _) (.cells #[.pointer (some ⟨pb, 0, none⟩), .func (.func f) #[] caps, .slice none 0 0, .int .i64 0, .int .i64 0, .bool false, .nilIface] 64)
  have HE := Lib.hid (show ∃ pt, Ending.returned (.pointer (some ⟨wr.heap.size, 0, none⟩)) = .returned (.pointer (some ⟨pt, 0, none⟩)) ∧ Thr W pb pt (.func (.func f) #[] caps) A (Th.start s) (pt :: Q) (wr.alloc (.cells #[.pointer (some ⟨pb, 0, none⟩), .func (.func f) #[] caps, .slice none 0 0, .int .i64 0, .int .i64 0, .bool false, .nilIface] 64)) ∧ Held W (pt :: R) pa pb S (wr.alloc (.cells #[.pointer (some ⟨pb, 0, none⟩), .func (.func f) #[] caps, .slice none 0 0, .int .i64 0, .int .i64 0, .bool false, .nilIface] 64)) ∧ Below wr.heap.size wr (wr.alloc (.cells #[.pointer (some ⟨pb, 0, none⟩), .func (.func f) #[] caps, .slice none 0 0, .int .i64 0, .int .i64 0, .bool false, .nilIface] 64)) ∧ wr.heap.size ≤ pt from
    ⟨wr.heap.size, rfl, ⟨.slice none 0 0, .nilIface, [], Q, rfl, Cells.new wr _ _, World.ownsRow_nil _ _ _ _, .none, A.loc _ _ _ _ hq (HeldBy.of_below hB (fun b hb => h.held b (hQ b hb))), fun hm => by
      have := h.held _ (hQ _ (by simpa [Value.ownBlock] using hm)); omega, by simp [Value.ownBlock], h.below.size, by simp [Th.start], by simp [Th.start], by simp [Th.start], fun _ => rfl⟩, h.new _, hB, Nat.le_refl _⟩)
  clear h hB
  go_enter Tryz.func12, Tryz.ntmps12
  go_wp2
  go_ret
  exact HE.out

/-! A body that runs alone. -/
/-- A function value that does F by a Ctx alone. -/
structure DoOk {σ : Type} (W : World) (pa pb : Nat) (f : Nat) (caps : Array Value) (A : Aux σ) (F : σ → CS → Nat × CS × σ) : Prop where
  enters : ∀ (args : Array Value) (w : World), (callFunc f args).run Tryz.prog w = .ok (.enter f args) w
  does : ∀ (s : σ) (X Q : List Nat) (wr : World) (pc : Nat) (c : CS), A.at' s Q wr → Ctx W (X ++ Q) pa pb pc c wr → (∀ b ∈ X, b ∉ Q) →
    Calls Tryz.prog f (#[.pointer (some ⟨pc, 0, none⟩)] ++ caps) wr (BodyPost W pa pb pc A X Q wr (F s c))
theorem ef_alone (args : Array Value) (w : World) : (callFunc 19 args).run Tryz.prog w = .ok (.enter 19 args) w := enters_of Tryz.func19 (by kernel_rfl) rfl args w
theorem alone_body {σ : Type} {W : World} {pa pb f bd : Nat} {caps : Array Value} {A : Aux σ} {F : σ → CS → Nat × CS × σ} (h : DoOk W pa pb f caps A F) :
    BodyOk W pa pb 19 #[.pointer (some ⟨bd, 0, none⟩)] A (fun s _ c => F s c) [bd] (fun w => Cells w bd [.func (.func f) #[] caps] 48) where
  enters := ef_alone
  keeps _ _ k h := h.heldBy k (by simp)
  does s X Q wr pc c round hP hSh ha hc hx _ := by
    have ef := h.enters
    have HD := Lib.hid (h.does s X Q wr pc c ha hc hx)
    have q0 := hP.cell 0
    simp only [List.getElem?_cons_zero] at q0
    clear h hP hSh ha hc hx
    show Calls Tryz.prog 19 #[.pointer (some ⟨pc, 0, none⟩), .int .i64 (round : Int), .pointer (some ⟨bd, 0, none⟩)] wr (BodyPost W pa pb pc A X Q wr (F s c))
    go_enter Tryz.func19, Tryz.ntmps19
    go_wp2_with fail
    refine HD.out.mono ?_
    rintro e w1 ⟨v, E, Q', rfl, he, hrest⟩
    have HF := Lib.hid (show BodyPost W pa pb pc A X Q wr (F s c) (.returned v) w1 from ⟨v, E, Q', rfl, he, hrest⟩)
    have hsh := he.shape
    clear he hrest HD
    rcases hsh with rfl | ⟨tt, xx, rfl⟩
    all_goals
      go_wp2
      go_ret
      exact HF.out
set_option maxHeartbeats 2000000 in
/-- Alone: it ran to its end without an error. -/
theorem alone_ok {σ : Type} {W : World} {R Q : List Nat} {pa pb f : Nat} {caps : Array Value} {A : Aux σ} {F : σ → CS → Nat × CS × σ} {S S' : BS} {s : σ} {t' : TS σ} {w : World} (hd : DoOk W pa pb f caps A F) (h : Held W (Q ++ R) pa pb S w) (hq : A.at' s Q w) (hQR : ∀ b ∈ Q, b ∉ R)
    (hrun : Th.run (fun s _ c => F s c) 7000 (0, Th.start s, S) = (0, t', S')) (hdone : t'.done = true) :
    Calls Tryz.prog 8 #[.pointer (some ⟨pb, 0, none⟩), .func (.func f) #[] caps] w fun e w' => ∃ Q', e = .returned (.int .i64 0) ∧ A.at' t'.aux Q' w' ∧ Held W (Q' ++ R) pa pb S' w' ∧ HeldBy R w w' ∧ (∀ b ∈ Q', b ∉ R) := by
  have hmf : ∀ (fn : Fn) (first cap : Array Value) (w : World), (Instr.makeFunc fn first cap).run Tryz.prog w = .ok (.func fn first cap) w := fun _ _ _ _ => rfl
  have B0 := (Below.refl w.heap.size w).alloc (Nat.le_refl _) (.cells #[.func (.func f) #[] caps] 48)
  have C0 := Cells.new w [.func (.func f) #[] caps] 48
  have hlt := h.held
  have hk0 := HeldBy.of_below (R := Q ++ R) B0 hlt
  have hh0 := h.came B0 [w.heap.size] (by simp)
  have hq0 := A.loc s Q _ _ hq (hk0.less fun b hb => by simp [hb])
  obtain ⟨w0, hw0⟩ : ∃ w0, w.alloc (.cells #[.func (.func f) #[] caps] 48) = w0 := ⟨_, rfl⟩
  obtain ⟨bd, hbd⟩ : ∃ bd, w.heap.size = bd := ⟨_, rfl⟩
  rw [hw0] at B0 C0 hk0 hh0 hq0
  rw [hbd] at C0 hh0
  have HN := Lib.hid (tnew_newC hh0 A s hq0 (fun b hb => by simp [hb]) 19 #[.pointer (some ⟨bd, 0, none⟩)])
  have HLT := Lib.hid (show ∀ b ∈ Q ++ R, b < bd by rw [← hbd]; exact hlt)
  have HK0 := Lib.hid hk0; have HC0 := Lib.hid C0; have HQR := Lib.hid hQR; have HD := Lib.hid hd; have HRUN := Lib.hid hrun; have HDN := Lib.hid hdone; have HH0 := Lib.hid hh0; have HZ := Lib.hid hbd
  clear hd h hq hQR hrun hdone B0 C0 hlt hk0 hh0 hq0
  go_enter Tryz.func8, Tryz.ntmps8
  go_wp2_with fail
  refine HN.out.mono ?_
  rintro e w1 ⟨pt, rfl, ht, hh1, hb1, hpt⟩
  have hz0 : w0.heap.size = bd + 1 := by rw [← hw0, ← HZ.out]; simp
  have HKB := Lib.hid (HeldBy.of_below (R := bd :: R) hb1 (fun b hb => HH0.out.held b (by
    rcases List.mem_cons.1 hb with q | q <;> simp [q])))
  have hP1 := HC0.out.heldBy HKB.out (by simp)
  have hR := trun_ok (R := bd :: R) (S := S) (alone_body HD.out) ht (hh1.less fun b hb => by
    simp only [List.mem_append, List.mem_cons, List.not_mem_nil, or_false] at hb ⊢
    rcases hb with (q | q) | q | q <;> simp [q]) (fun b hb hm => by
    rcases List.mem_cons.1 hb with q | q
    · subst q
      rcases List.mem_cons.1 hm with q | q
      · omega
      · have := HLT.out b (by simp [q]); omega
    · rcases List.mem_cons.1 hm with q2 | q2
      · have := HLT.out b (by simp [q]); omega
      · exact HQR.out b q q2) (by simp) hP1 7000 (by show 0 + 7000 ≤ 3000000000; omega)
  have hrn : Th.run (fun s _ c => F s c) 7000 ((Th.start s).err, Th.start s, S) = (0, t', S') := HRUN.out
  rw [hrn] at hR
  have HR := Lib.hid hR
  clear ht hh1 hb1 hpt hP1 hR hrn HN
  go_wp2_with fail
  refine HR.out.mono ?_
  rintro e w5 ⟨v, E, B', rfl, he, ht5, hh5, hk5, -, hB5⟩
  simp only at he ht5 hh5
  obtain ⟨rfl, rfl⟩ := he.isNil rfl
  have hd := tdone_ok ht5
  rw [HDN.out] at hd
  have HDD := Lib.hid hd
  obtain ⟨lv, ev, E2, Q2, rfl, hl⟩ := ht5
  have HF := Lib.hid (show ∃ Q', A.at' t'.aux Q' w5 ∧ Held W (Q' ++ R) pa pb S' w5 ∧ HeldBy R w w5 ∧ (∀ b ∈ Q', b ∉ R) from
    ⟨Q2, hl.aux, hh5.less (fun b hb => by
      simp only [List.mem_append, List.mem_cons] at hb ⊢
      rcases hb with q | q <;> simp [q]), ((HK0.out.less fun b hb => by simp [hb]).trans (HKB.out.less fun b hb => by simp [hb])).trans (hk5.less fun b hb => by simp [hb]), fun b hb hm => hB5 b (by simp [hb]) (by simp [hm])⟩)
  clear he hd hl hh5 hk5 hB5 HR
  go_wp2_with (first | (go_at_call 14; refine (no_nil _).mono ?_; rintro e w' ⟨rfl, rfl⟩) | (go_at_call 16; refine HDD.out.mono ?_; rintro e w' ⟨rfl, rfl⟩))
  go_ret
  obtain ⟨Q', hf⟩ := HF.out
  exact ⟨Q', rfl, hf⟩

/-! The scene. -/
/-- What the scene's body keeps: the variables. -/
def csAux (W : World) (bk bl : Nat) : Aux (Nat × List Nat) where
  at' s Q w := ∃ lv, Q = bk :: bl :: lv.ownBlock.toList ∧ bk ≠ bl ∧ bk ∉ lv.ownBlock.toList ∧ bl ∉ lv.ownBlock.toList ∧ W.heap.size ≤ bk ∧ W.heap.size ≤ bl ∧ Cells w bk [.int .u64 (s.1 : Int)] 25 ∧ Cells w bl [lv] 26 ∧ w.ownsRow W.heap.size 25 1 lv s.2.length (encU s.2)
  loc := by
    rintro s Q w w' ⟨lv, rfl, h1, h2, h3, h4, h5, h6, h7, h8⟩ k
    exact ⟨lv, rfl, h1, h2, h3, h4, h5, h6.heldBy k (by simp), h7.heldBy k (by simp), ownsRow_heldBy h8 k (fun b hb => by simp [hb])⟩
theorem ef_sceneC (args : Array Value) (w : World) : (callFunc 9 args).run Tryz.prog w = .ok (.enter 9 args) w := enters_of Tryz.func9 (by kernel_rfl) rfl args w
theorem row_mono {w : World} {base base' : Nat} {e : TypeId} {size : Nat} {v : Value} {n : Nat} {xs : List Value} (h : w.ownsRow base e size v n xs) (hb : base' ≤ base) : w.ownsRow base' e size v n xs := by
  refine ⟨h.1, ?_⟩
  rcases h.2 with q | ⟨g, cap, cur, h1, h2, h3⟩
  · exact .inl q
  · exact .inr ⟨g, cap, cur, h1, Nat.le_trans hb h2, h3⟩
def sceneF (s : Nat × List Nat) (c : CS) : Nat × CS × (Nat × List Nat) := treeBody (fun _ => sceneCT) s 0 c
set_option maxHeartbeats 4000000 in
theorem sceneC1_ok {W : World} (hg : Handle W) {pa pb bk bl : Nat} : DoOk W pa pb 9 #[.pointer (some ⟨bk, 0, none⟩), .pointer (some ⟨bl, 0, none⟩)] (csAux W bk bl) sceneF where
  enters := ef_sceneC
  does s X Q wr pc c ha hc hx := by
    obtain ⟨lv, rfl, n1, n2, n3, n4, n5, a1, a2, a3⟩ := ha
    have HG := Lib.hid hg
    have HXQ := Lib.hid hx
    have HC := Lib.hid hc
    have HNK := Lib.hid (newClock_ok hc hg)
    have N := Lib.hid (show bk ≠ bl ∧ bk ∉ lv.ownBlock.toList ∧ bl ∉ lv.ownBlock.toList ∧ W.heap.size ≤ bk ∧ W.heap.size ≤ bl from ⟨n1, n2, n3, n4, n5⟩)
    have A1 := Lib.hid a1; have A2 := Lib.hid a2; have A3 := Lib.hid a3
    clear hg hc hx n1 n2 n3 n4 n5 a1 a2 a3
    show Calls Tryz.prog 9 #[.pointer (some ⟨pc, 0, none⟩), .pointer (some ⟨bk, 0, none⟩), .pointer (some ⟨bl, 0, none⟩)] wr (BodyPost W pa pb pc (csAux W bk bl) X (bk :: bl :: lv.ownBlock.toList) wr (sceneF s c))
    go_enter Tryz.func9, Tryz.ntmps9
    go_wp2_with fail
    refine HNK.out.mono ?_
    rintro e w1 ⟨n, x, c1, v, E, hx1, hx0, rfl, he, hc1, hh1, hE⟩
    have k1 := hh1
    have b1 := A1.out.heldBy hh1 (by simp)
    have b2 := A2.out.heldBy hh1 (by simp)
    have b3 := ownsRow_heldBy A3.out hh1 (fun b hb => by simp [hb])
    have q0 := b1.cell 0
    have f0 := b1.free 0
    have p0 := b2.cell 0
    simp only [List.getElem?_cons_zero] at q0 p0
    have hlE := HC.out.heldR
    have kk : Kept (fun b => b = bk) w1 (w1.setCell ⟨bk, 0, none⟩ (.int .u64 (x : Int))) := (Kept.refl (fun b => b = bk) w1).setCell (p := ⟨bk, 0, none⟩) (fun _ => rfl) _
    obtain ⟨e1, e2⟩ := Ctx.objs (B := [bk]) (B' := [bk]) (R := E ++ (bl :: (lv.ownBlock.toList ++ X))) (hc1.less fun b hb => by
      simp only [List.mem_append, List.mem_cons, List.not_mem_nil, or_false] at hb ⊢
      rcases hb with q | q | q | q | q <;> simp [q]) (kk.mono fun b _ e => by simp [e]) (by simpa using N.out.2.2.2.1) (by
      intro b hb hm
      simp only [List.mem_singleton] at hb
      subst hb
      have l1 := hlE b (by simp)
      simp only [List.mem_append, List.mem_cons] at hm
      rcases hm with q | q | q | q
      · have := hE b q; omega
      · exact N.out.1 q
      · exact N.out.2.1 q
      · exact HXQ.out b q (by simp)) (by intro b hb; simp only [List.mem_singleton] at hb; subst hb; exact ⟨.inl (by simp), Nat.lt_of_lt_of_le (hc1.heldR b (by simp)) kk.size⟩)
    obtain ⟨w2, hw2⟩ : ∃ w2, w1.setCell ⟨bk, 0, none⟩ (.int .u64 (x : Int)) = w2 := ⟨_, rfl⟩
    have c1' := b1.set 0 (.int .u64 (x : Int))
    rw [hw2] at kk e1 e2 c1'
    have hX2 : HeldBy X wr w2 := (hh1.less fun b hb => by simp [hb]).trans (e2.less fun b hb => by simp [hb])
    have b22 := b2.heldBy e2 (by simp)
    have b32 := ownsRow_heldBy b3 e2 (fun b hb => by simp [hb])
    by_cases h0 : n = 0
    · subst h0
      obtain ⟨rfl, rfl⟩ := he.isNil rfl
      have HX1 := Lib.hid (show exec sceneCT c = exec ((cNew 4 []).bind fun q => .ret (q.1, fun _ => (x, q.2))) c1 by simp only [sceneCT, exec_bind, hx1, if_true])
      have hc2 : Ctx W (bk :: bl :: (lv.ownBlock.toList ++ X)) pa pb pc c1 w2 := e1.less fun b hb => by simpa using hb
      have HNW := Lib.hid (cnew_ok hc2 HG.out)
      have HC2 := Lib.hid hc2; have HX2 := Lib.hid hX2; have HB2 := Lib.hid b22; have HC1' := Lib.hid (show Cells w2 bk [.int .u64 (x : Int)] 25 from c1')
      have HZ := Lib.hid hX2.1
      clear hx1 hx0 he hc1 hh1 hE k1 b1 b2 b3 kk e1 e2 c1' hX2 b22 b32 hc2 hlE HNK p0
      go_wp2_with fail
      refine HNW.out.mono ?_
      rintro e w3 ⟨n2, l, c2, lv2, v2, E2, hx2, rfl, he2, hr2, hc3, hh3, hE2, hEl, hu⟩
      have d1 := HC1'.out.heldBy hh3 (by simp)
      have d2 := HB2.out.heldBy hh3 (by simp)
      have q1 := d2.cell 0
      have f1 := d2.free 0
      simp only [List.getElem?_cons_zero] at q1
      have hR2 := HC2.out.heldR
      have lo2 : ∀ b ∈ lv2.ownBlock.toList, w2.heap.size ≤ b := fun b hb => (hr2.lt b (by simpa using hb)).1
      have nbl : bl ∉ lv2.ownBlock.toList := fun hm => by have := lo2 bl hm; have := hR2 bl (by simp); omega
      have nbk : bk ∉ lv2.ownBlock.toList := fun hm => by have := lo2 bk hm; have := hR2 bk (by simp); omega
      have kk : Kept (fun b => b = bl) w3 (w3.setCell ⟨bl, 0, none⟩ lv2) := (Kept.refl (fun b => b = bl) w3).setCell (p := ⟨bl, 0, none⟩) (fun _ => rfl) _
      obtain ⟨e1, e2⟩ := Ctx.objs (B := [bl]) (B' := [bl]) (R := E2 ++ (lv2.ownBlock.toList ++ (bk :: X))) (hc3.less fun b hb => by
        simp only [List.mem_append, List.mem_cons, List.not_mem_nil, or_false] at hb ⊢
        rcases hb with q | q | q | q | q <;> simp [q]) (kk.mono fun b _ e => by simp [e]) (by simpa using N.out.2.2.2.2) (by
        intro b hb hm
        simp only [List.mem_singleton] at hb
        subst hb
        have l1 := hR2 b (by simp)
        simp only [List.mem_append, List.mem_cons] at hm
        rcases hm with q | q | q | q
        · have := hE2 b q; omega
        · exact nbl q
        · exact N.out.1 q.symm
        · exact HXQ.out b q (by simp)) (by intro b hb; simp only [List.mem_singleton] at hb; subst hb; exact ⟨.inl (by simp), Nat.lt_of_lt_of_le (hc3.heldR b (by simp)) kk.size⟩)
      have hat : (csAux W bk bl).at' (x, l) (bk :: bl :: lv2.ownBlock.toList) (w3.setCell ⟨bl, 0, none⟩ lv2) :=
        ⟨lv2, rfl, N.out.1, nbk, nbl, N.out.2.2.2.1, N.out.2.2.2.2, d1.heldBy e2 (by simp), d2.set 0 lv2, ownsRow_heldBy (row_mono hr2 (Nat.le_trans HC2.out.below.size (Nat.le_refl _))) e2 (fun b hb => by simp [hb])⟩
      have HF := Lib.hid (show BodyPost W pa pb pc (csAux W bk bl) X (bk :: bl :: lv.ownBlock.toList) wr (n2, c2, (x, l)) (.returned v2) (w3.setCell ⟨bl, 0, none⟩ lv2) from
        ⟨v2, E2, _, rfl, he2.heldBy e2 (fun b hb => by simp [hb]), hat, e1.less (fun b hb => by
          simp only [List.mem_append, List.mem_cons, List.not_mem_nil, or_false] at hb ⊢
          rcases hb with q | q | q | q | q <;> simp [q]), (HX2.out.trans (hh3.less fun b hb => by simp [hb])).trans (e2.less fun b hb => by simp [hb]), fun b hb => by
          simp only [List.mem_append, List.mem_cons] at hb ⊢
          rcases hb with q | q | q | q
          · exact .inr (by have := hE2 b q; have := HZ.out; omega)
          · exact .inl (.inl q)
          · exact .inl (.inr (.inl q))
          · exact .inr (by have := lo2 b q; have := HZ.out; omega)⟩)
      have HXE := Lib.hid (show sceneF s c = (n2, c2, (x, l)) by unfold sceneF treeBody; rw [HX1.out]; simp only [exec_bind, hx2, exec])
      obtain ⟨p2, cap2, rfl⟩ := ownsRow_shape hr2
      have hsh := he2.shape
      clear hx2 he2 hr2 hc3 hh3 hE2 hEl hu d1 d2 hR2 lo2 nbl nbk kk e1 e2 hat HNW HB2 HC1'
      rcases hsh with rfl | ⟨tt, xx, rfl⟩
      all_goals
        go_wp2
        go_ret
        rw [HXE.out]
        exact HF.out
    · have hat : (csAux W bk bl).at' (x, s.2) (bk :: bl :: lv.ownBlock.toList) w2 := ⟨lv, rfl, N.out.1, N.out.2.1, N.out.2.2.1, N.out.2.2.2.1, N.out.2.2.2.2, c1', b22, b32⟩
      have HF := Lib.hid (show BodyPost W pa pb pc (csAux W bk bl) X (bk :: bl :: lv.ownBlock.toList) wr (n, c1, (x, s.2)) (.returned v) w2 from
        ⟨v, E, _, rfl, he.heldBy e2 (fun b hb => by simp [hb]), hat, e1.less (fun b hb => by
          simp only [List.mem_append, List.mem_cons, List.not_mem_nil, or_false] at hb ⊢
          rcases hb with q | q | q | q | q <;> simp [q]), hX2, fun b hb => by
          rcases List.mem_append.1 hb with q | q
          · exact .inr (hE b q)
          · exact .inl q⟩)
      have HXE := Lib.hid (show sceneF s c = (n, c1, (x, s.2)) by unfold sceneF treeBody; simp only [sceneCT, exec_bind, hx1, if_neg h0, exec])
      obtain ⟨tt, xx, rfl⟩ := he.iface h0
      clear hx1 hx0 he hc1 hh1 hE k1 b1 b2 b3 kk e1 e2 c1' hX2 b22 b32 hlE HNK p0 h0 hat
      go_wp2
      go_ret
      rw [HXE.out]
      exact HF.out
end Go.Proofs.YtdipidiahekpkaaGreatDoor
