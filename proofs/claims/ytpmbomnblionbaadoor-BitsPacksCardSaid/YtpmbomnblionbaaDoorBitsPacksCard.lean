/- BitsPacks holds for every input: the walk returns true, and each argument reads as it did. -/
import Derived.Test.YtpmbomnblionbaaDoorCards
import Derived.Test.YtpmbomnblionbaaDoorTie
import Derived.Test.YtpmbomnblionbaaDoorBitsPack
import Derived.Test.YtpmbomnblionbaaDoorFrame
import Derived.Lib.SmallJoins
import Derived.Lib.LaidTab
namespace Go.Proofs.YtpmbomnblionbaaDoor.bitsPacks
open Go.ChangeShapes Go.WideShapes Go.ChangeAt Go.RowKit Go.Joins

def tabName : String := Rows.bitsPacksRow.named.headD default
theorem gTab : Tryd.prog.globalNamed tabName = some 0 := by kernel_rfl
theorem gTabType : (Tryd.prog.globals[0]?).map (·.type) = some 54 := by kernel_rfl
theorem cellsTab : Tryd.prog.cellsOf 54 = 64 := by kernel_rfl
theorem cellsEl : Tryd.prog.cellsOf 5 = 1 := by kernel_rfl
theorem table {W : World} (h : laidMetH Tryd.prog Rows.bitsPacksRow.laid W) : Lib.TabIs Tryd.prog W tabName .u8 (Lib.deBruijn64tab.map (fun n => ((n : Nat) : Int))) :=
  Lib.tabIs_of_head (rest := []) gTab gTabType Tryd.underlying54 Tryd.underlying5 cellsEl cellsTab h
theorem tabAt {W : World} (h : laidMetH Tryd.prog Rows.bitsPacksRow.laid W) : TabAt W := by
  intro j hj
  have := (table h).cell gTab j (by simpa [Lib.deBruijn64tab] using hj)
  rw [this]
  simp [List.getD_eq_getElem?_getD, List.getElem?_map]
  cases h2 : Lib.deBruijn64tab[j]? <;> simp

theorem cellsMeta : Tryd.prog.cellsOf 35 = 4 := by kernel_rfl
set_option maxRecDepth 100000 in
theorem contract (H : Type) (enc : TypeId × Value → H) (W : World) (base : Nat) (args : Array Value) (ds gs : List (DataW H)) (before : List MemPlace)
    (hval : ∀ (j : Nat) t v, Tryd.f8.params[j]? = some t → args[j]? = some v → Value.okWide Tryd.prog W .any base t v)
    (hW : DataW.Whole enc Tryd.prog Tryd.f8.params.toList Rows.bitsPacksSpec.vars false W args.toList ds gs before) (hL : laidMetH Tryd.prog Rows.bitsPacksRow.laid W) :
    Calls Tryd.prog 8 args W fun e W' => ∃ v, e = .returned v ∧ Rows.bitsPacksSpec.post enc Tryd.prog Tryd.f8 false true false false W args v W' := by
  have hW' := hW
  obtain ⟨p, q, hA0, hV, rfl, hfz, hnd⟩ := hW
  have hA : DataW.TrodAll enc Tryd.prog W 0 (fun _ => true) true Tryd.f8.params.toList args.toList ds p := hA0
  rw [Tryd.params8] at hA hval
  obtain ⟨v0, vs0, d0, ds0, p0, q0, hargs, rfl, rfl, h0, r0⟩ := trodAll_cons hA
  obtain ⟨v1, vs1, d1, ds1, p1, q1, rfl, rfl, rfl, h1, r1⟩ := trodAll_cons r0
  obtain ⟨v2, vs2, d2, ds2, p2, q2, rfl, rfl, rfl, h2, r2⟩ := trodAll_cons r1
  obtain ⟨rfl, rfl, rfl⟩ := trodAll_nil r2
  obtain rfl : args = #[v0, v1, v2] := by cases args; simp_all
  obtain ⟨m00, m01, m02, m03, y00, y01, y02, y03, fu0, rfl, hd0, hp0, t00, t01, t02, t03⟩ := open_agg4 Tryd.underlying35 (by kernel_rfl) cellsMeta (hval 0 35 v0 rfl rfl) h0
  obtain ⟨a0v, e00, -, w0v⟩ := DataW.trod_int Tryd.underlying3 t00
  obtain ⟨a0o, e01, -, w0o⟩ := DataW.trod_int Tryd.underlying3 t01
  obtain ⟨a0c, e02, -⟩ := DataW.trod_bool Tryd.underlying4 t02
  obtain ⟨a0t, e03, -⟩ := DataW.trod_bool Tryd.underlying4 t03
  simp only [List.cons.injEq, and_true] at e00 e01 e02 e03
  subst e00 e01 e02 e03
  obtain ⟨m10, m11, m12, m13, y10, y11, y12, y13, fu1, rfl, hd1, hp1, t10, t11, t12, t13⟩ := open_agg4 Tryd.underlying35 (by kernel_rfl) cellsMeta (hval 1 35 v1 rfl rfl) h1
  obtain ⟨a1v, e10, -, w1v⟩ := DataW.trod_int Tryd.underlying3 t10
  obtain ⟨a1o, e11, -, w1o⟩ := DataW.trod_int Tryd.underlying3 t11
  obtain ⟨a1c, e12, -⟩ := DataW.trod_bool Tryd.underlying4 t12
  obtain ⟨a1t, e13, -⟩ := DataW.trod_bool Tryd.underlying4 t13
  simp only [List.cons.injEq, and_true] at e10 e11 e12 e13
  subst e10 e11 e12 e13
  obtain ⟨a2, rfl, hd2, hp2, w2⟩ := open_int Tryd.underlying28 (hval 2 28 v2 rfl rfl) h2
  have b2 := bounds_u64 w2
  have hT := tabAt hL
  have walk : Calls Tryd.prog 8 #[.agg #[.int .i64 a0v, .int .i64 a0o, .bool a0c, .bool a0t], .agg #[.int .i64 a1v, .int .i64 a1o, .bool a1c, .bool a1t], .int .u64 a2] W fun e w' => e = .returned (.bool true) ∧ Below W.heap.size W w' := by
    obtain ⟨n2, rfl⟩ := Int.eq_ofNat_of_zero_le b2.1
    exact law_packs a0v a0o a0c a0t a1v a1o a1c a1t n2 (by omega) W hT
  refine walk.mono fun e W' ⟨he, hb⟩ => ?_
  subst he
  refine ⟨_, rfl, post_true (s := Rows.bitsPacksSpec) hW' rfl (by kernel_rfl) ?_ (fun hg => by subst hg; rfl) hb⟩
  intro t ht
  rw [Tryd.params8] at ht
  simp only [List.mem_cons, List.not_mem_nil, or_false] at ht
  rcases ht with rfl | rfl | rfl
  all_goals exact ⟨(show Tryd.prog.readableRec _ = true by kernel_rfl), (by decide +kernel)⟩

/-- A world for the witness: the settled one, the table holding what its initialiser lays. -/
noncomputable def laidWorld (os : Os) : World :=
  { World.holding Tryd.prog os ⟨#[], #[], []⟩ with heap := (World.holding Tryd.prog os ⟨#[], #[], []⟩).heap.modify 0 fun
      | .cells _ t frozen => .cells (Lib.deBruijn64tab.map fun n => Value.int .u8 ((n : Nat) : Int)).toArray t frozen
      | o => o }
theorem laid_met (os : Os) : laidMet Tryd.prog Rows.bitsPacksRow.laid ((laidWorld os).forCall (fun _ _ => 0) ⟨#[], #[.agg #[.int .i64 0, .int .i64 0, .bool false, .bool false], .agg #[.int .i64 0, .int .i64 0, .bool false, .bool false], .int .u64 0], []⟩).memory :=
  laidMet_of_run' 8 (by kernel_rfl) (by kernel_rfl)
theorem reads (os : Os) {H : Type} (enc : TypeId × Value → H) : ∃ places, DataW.whole enc Tryd.prog ((laidWorld os).forCall (fun _ _ => 0) ⟨#[], #[.agg #[.int .i64 0, .int .i64 0, .bool false, .bool false], .agg #[.int .i64 0, .int .i64 0, .bool false, .bool false], .int .u64 0], []⟩).memory Tryd.f8.params.toList Rows.bitsPacksSpec.vars false #[.agg #[.int .i64 0, .int .i64 0, .bool false, .bool false], .agg #[.int .i64 0, .int .i64 0, .bool false, .bool false], .int .u64 0].toList 8 = some ([.agg [.lit (.int .i64 0), .lit (.int .i64 0), .lit (.bool false), .lit (.bool false)], .agg [.lit (.int .i64 0), .lit (.int .i64 0), .lit (.bool false), .lit (.bool false)], .lit (.int .u64 0)], [], places) :=
  ⟨[], by kernel_rfl⟩

set_option maxRecDepth 100000 in
theorem lifted (os : Os) (started : os.Started) (H : Type) (enc : TypeId × Value → H) (F : Stop.Interp) :
    ReturnsInHanded {} Tryd.checked os 8 .any ((OpenSpec.ofChange Rows.bitsPacksSpec).preRow enc Tryd.prog Tryd.f8 Rows.bitsPacksRow.domain false Rows.bitsPacksRow.laid) (((OpenSpec.ofChange Rows.bitsPacksSpec).at F).post enc Tryd.prog Tryd.f8 false true false false) := by
  obtain ⟨places, hx⟩ := reads os enc
  refine returnsInHanded_of_row (C := Tryd.checked) (s := OpenSpec.ofChange Rows.bitsPacksSpec) frameOwn started (by kernel_rfl) Tryd.func8
    (witness_row_at (enc := enc) (C := Tryd.checked) false (laidWorld os) #[.agg #[.int .i64 0, .int .i64 0, .bool false, .bool false], .agg #[.int .i64 0, .int .i64 0, .bool false, .bool false], .int .u64 0] rfl (by kernel_rfl) (by kernel_rfl) (by kernel_rfl)
      (OpenSpec.preRow_of_cond 8 hx (by kernel_rfl) (fun k hk => by cases hk) (by kernel_rfl) (laid_met os))) ?_
  intro W base args ds gs before hval hW _ _ _ hL _ _
  exact contract H enc W base args ds gs before hval hW hL

theorem said : Rows.BitsPacksSaid :=
  OpenClaim.holds_of_cond 8 Tryd.f8 rfl rfl rfl rfl rfl rfl rfl ⟨rfl, rfl, rfl, rfl, rfl⟩ rfl rfl rfl rfl rfl (by kernel_rfl) Tryd.func8 (by kernel_rfl)
    (of_decide_eq_true (by kernel_rfl)) (by unfold Func.isWrapper; first | (rw [if_pos (by decide +kernel)]; kernel_rfl) | (rw [if_neg (by decide +kernel)]; exact ⟨rfl, rfl⟩))
    (fun os started H enc _ F => by rw [OpenClaim.pre_eq_preRow]; exact lifted os started H enc F)

theorem plain (f : FuncId) (fn : Func) (hf : Tryd.pinned.checked.prog.funcNamed Rows.bitsPacksRow.func = some f) (hfn : Tryd.pinned.checked.prog.funcs[f]? = some fn) :
    true = Tryd.pinned.checked.prog.looks [] ∧ ∀ (j : Nat) t, fn.params[j]? = some t → Tryd.pinned.checked.prog.wantsStandIn t = false := by
  obtain rfl : f = 8 := Option.some.inj ((show Tryd.prog.funcNamed Rows.bitsPacksRow.func = some 8 by kernel_rfl).symm.trans hf) |>.symm
  obtain rfl : fn = Tryd.f8 := (Option.some.inj (Tryd.func8.symm.trans hfn)).symm
  refine ⟨by kernel_rfl, fun j t ht => ?_⟩
  rw [Tryd.params8] at ht
  have hm := Array.mem_of_getElem? ht
  simp only [List.mem_toArray, List.mem_cons, List.not_mem_nil, or_false] at hm
  rcases hm with rfl | rfl | rfl
  all_goals exact (show Tryd.prog.wantsStandIn _ = false by kernel_rfl)

/-- The card. -/
theorem card : Rows.BitsPacksCardSaid :=
  Claim7.holds_tied_plain_at .later [] _ _ _ _ said (fun _ h => by cases h) (by kernel_rfl) (fun _ h => by cases h) bitsPacks_row_tie rfl ⟨rfl, rfl⟩ (by kernel_rfl) rfl plain (by kernel_rfl)
end Go.Proofs.YtpmbomnblionbaaDoor.bitsPacks
