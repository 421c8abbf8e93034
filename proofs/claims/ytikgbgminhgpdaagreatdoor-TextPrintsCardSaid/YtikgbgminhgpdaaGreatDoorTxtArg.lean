/- Layer 10 (text): argText, regText. -/
import Derived.Test.YtikgbgminhgpdaaGreatDoorTxtBase
import Derived.Test.YtikgbgminhgpdaaGreatDoorTextTold
import Derived.Test.YtikgbgminhgpdaaGreatDoorShelf
import Derived.WalkKit
import Derived.Lib.AppendIntMem
namespace Go.Proofs.YtikgbgminhgpdaaGreatDoor
open Go.RowKit Tx
set_option maxRecDepth 10000

/-- The table of powers of ten lies where it lies at the start. -/
def PowTab (w : World) : Prop := Lib.TabIs Tryz.prog w "internal/strconv.uint64pow10" .u64 Lib.pow10Tab
theorem powG : Tryz.prog.globalNamed "internal/strconv.uint64pow10" = some 4 := by kernel_rfl
theorem PowTab.below {B : Nat} {w w' : World} (h : PowTab w) (hB : 4 < B) (k : Below B w w') : PowTab w' := by
  unfold PowTab Lib.TabIs World.var? at h ⊢
  rw [powG] at h ⊢
  simp only [Option.bind_some] at h ⊢
  rw [k.block _ hB]
  exact h
/-- What the text's functions read: where errors.As finds its type; the table; both among the package variables. -/
structure Base (w : World) : Prop where
  pow : PowTab w
  lt : 4 < w.heap.size
theorem Base.below {w w' : World} (h : Base w) (k : Below w.heap.size w w') : Base w' := ⟨h.pow.below h.lt k, Nat.lt_of_lt_of_le h.lt k.size⟩
theorem itoa_ok {n : Int} (h1 : -999 ≤ n) (h2 : n ≤ 999) {w : World} (hb : Base w) : Calls Tryz.prog 60 #[.int .i64 n] w fun e w' => e = .returned (.string ⟨(Lib.itoa n).toArray⟩) ∧ Below w.heap.size w w' := by
  refine (Tryz.strconv_Itoa n (by omega) (by omega) w hb.pow).mono ?_
  rintro e w' ⟨rfl, k, os, rfl⟩
  exact ⟨rfl, Lib.below_grow _ _ (Nat.le_refl _) _ _⟩
theorem itoa_short {n : Int} (h1 : -999 ≤ n) (h2 : n ≤ 999) : (Lib.itoa n).length ≤ 21 := Lib.itoa_length_le n (by omega) (by omega)
theorem ba_list {a b : ByteArray} (h : a.data.toList = b.data.toList) : a = b := by
  obtain ⟨⟨l⟩⟩ := a
  obtain ⟨⟨m⟩⟩ := b
  simp only at h
  rw [h]
theorem regText_ok {n : Int} (h1 : -999 ≤ n) (h2 : n ≤ 999) {w : World} (hb : Base w) : Calls Tryz.prog 62 #[.int .i64 n] w fun e w' => e = .returned (.string ⟨(114 :: Lib.itoa n).toArray⟩) ∧ Below w.heap.size w w' := by
  have hs := itoa_short h1 h2
  have HI := Lib.hid (itoa_ok h1 h2 hb)
  generalize Lib.itoa n = l at hs HI ⊢
  go_enter Tryz.func62, Tryz.ntmps62
  go_wp2_with fail
  refine HI.out.mono ?_
  rintro e w' ⟨rfl, hb'⟩
  have g : ¬ 9223372036854775807 < 1 + l.length := by omega
  go_wp2
  go_ret
  exact ⟨rfl, hb'⟩
theorem argText_ok {a : Int × Int} {t : Bool} (h : argR a t = true) {w : World} (hb : Base w) : Calls Tryz.prog 61 #[.agg #[.int .i64 a.1, .int .i64 a.2]] w fun e w' => e = .returned (.string ⟨(argT a).toArray⟩) ∧ Below w.heap.size w w' := by
  obtain ⟨h1, h2, h3, h4⟩ := arg_bounds h
  obtain ⟨r, z⟩ := a
  simp only at h1 h2 h3 h4 ⊢
  clear h
  have hs := itoa_short h3 h4
  have hs0 := itoa_short (n := r) (by omega) (by omega)
  have HI := Lib.hid (fun (w : World) (hb : Base w) => itoa_ok h3 h4 hb)
  have HR := Lib.hid (fun (w : World) (hb : Base w) => itoa_ok (n := r) (by omega) (by omega) hb)
  have HB := Lib.hid hb
  unfold argT
  simp only
  generalize Lib.itoa z = lz at hs HI ⊢
  generalize Lib.itoa r = lr at hs0 HR ⊢
  clear hb h2 h3 h4
  by_cases hr : r = 0
  · subst hr
    rw [if_pos rfl]
    clear HR hs0
    go_enter Tryz.func61, Tryz.ntmps61
    go_wp2_with fail
    refine (HI.out _ ?_).mono ?_
    · exact HB.out.below (by first | exact Below.refl _ _ | exact (Below.refl _ _).alloc (Nat.le_refl _) _)
    rintro e w' ⟨rfl, hb'⟩
    have HB' := Lib.hid (show Below w.heap.size w w' from by first | exact hb' | exact ((Below.refl _ _).alloc (Nat.le_refl _) _).trans (hb'.mono (by simp)))
    clear hb'
    go_wp2
    go_ret
    exact ⟨rfl, HB'.out⟩
  · rw [if_neg hr]
    have g0 : (r == 0) = false := by simpa using hr
    have HB0 := Lib.hid ((Below.refl w.heap.size w).alloc (Nat.le_refl _) (.cells #[.int .i64 r, .int .i64 z] 43))
    have C0 := Cells.new w [.int .i64 r, .int .i64 z] 43
    have c0 : (w.alloc (.cells #[.int .i64 r, .int .i64 z] 43)).cell? ⟨w.heap.size, 1, none⟩ = some (.int .i64 z) := by simp
    have HC := Lib.hid c0
    have g5 : ¬ 9223372036854775807 < 1 + lr.length := by omega
    have g6 : ¬ 9223372036854775807 < 1 + lr.length + 1 := by omega
    have g6' : ¬ 9223372036854775807 < lr.length + 1 + 1 := by omega
    have g7 : ¬ 9223372036854775807 < lr.length + 1 + 1 + lz.length := by omega
    have g8 : ¬ 9223372036854775807 < lr.length + 1 + lz.length := by omega
    clear C0 c0
    rcases (by omega : 0 < z ∨ z < 0 ∨ z = 0) with hz | hz | hz
    · rw [if_pos hz]
      have g1 : decide (0 < z) = true := decide_eq_true hz
      have g2 : decide (z < 0) = false := decide_eq_false (by omega)
      go_enter Tryz.func61, Tryz.ntmps61
      go_wp2_with fail
      refine (HR.out _ (HB.out.below HB0.out)).mono ?_
      rintro e w1 ⟨rfl, hb1⟩
      have HB1 := Lib.hid (HB0.out.trans (hb1.mono HB0.out.size))
      have q1 := (hb1.cell (p := ⟨w.heap.size, 1, none⟩) (by simp)).trans HC.out
      clear hb1
      go_wp2_with fail
      refine (HI.out _ (HB.out.below HB1.out)).mono ?_
      rintro e w2 ⟨rfl, hb2⟩
      have HB2 := Lib.hid (HB1.out.trans (hb2.mono HB1.out.size))
      clear hb2
      go_wp2
      go_ret
      exact ⟨congrArg (fun x => Ending.returned (Value.string x)) (ba_list (by simp [ByteArray.data_append])), HB2.out⟩
    · rw [if_neg (by omega), if_pos hz]
      have g1 : decide (0 < z) = false := decide_eq_false (by omega)
      have g2 : decide (z < 0) = true := decide_eq_true hz
      go_enter Tryz.func61, Tryz.ntmps61
      go_wp2_with fail
      refine (HR.out _ (HB.out.below HB0.out)).mono ?_
      rintro e w1 ⟨rfl, hb1⟩
      have HB1 := Lib.hid (HB0.out.trans (hb1.mono HB0.out.size))
      have q1 := (hb1.cell (p := ⟨w.heap.size, 1, none⟩) (by simp)).trans HC.out
      clear hb1
      go_wp2_with fail
      refine (HI.out _ (HB.out.below HB1.out)).mono ?_
      rintro e w2 ⟨rfl, hb2⟩
      have HB2 := Lib.hid (HB1.out.trans (hb2.mono HB1.out.size))
      clear hb2
      go_wp2
      go_ret
      exact ⟨congrArg (fun x => Ending.returned (Value.string x)) (ba_list (by simp [ByteArray.data_append])), HB2.out⟩
    · subst hz
      rw [if_neg (by omega), if_neg (by omega)]
      go_enter Tryz.func61, Tryz.ntmps61
      go_wp2_with fail
      refine (HR.out _ (HB.out.below HB0.out)).mono ?_
      rintro e w1 ⟨rfl, hb1⟩
      have HB1 := Lib.hid (HB0.out.trans (hb1.mono HB0.out.size))
      have q1 := (hb1.cell (p := ⟨w.heap.size, 1, none⟩) (by simp)).trans HC.out
      clear hb1
      go_wp2
      go_ret
      exact ⟨congrArg (fun x => Ending.returned (Value.string x)) (ba_list (by simp [ByteArray.data_append])), HB1.out⟩
end Go.Proofs.YtikgbgminhgpdaaGreatDoor
