/- Layer 10: the document's Print; TextPrints. -/
import Derived.Test.YtikgbgminhgpdaaGreatDoorDoc5
import Derived.Test.YtikgbgminhgpdaaGreatDoorDoc6
import Derived.Test.YtikgbgminhgpdaaGreatDoorStmtsArg
import Derived.Test.YtikgbgminhgpdaaGreatDoorTextJoins2
namespace Go.Proofs.YtikgbgminhgpdaaGreatDoor
open Go.RowKit Tx
set_option maxRecDepth 10000

mutual
theorem cnt_wtS : ∀ (s : St) (d : Nat), wtS d s ≤ 900 → cntS s ≤ wtS d s
  | .mk h b e, d, hw => by
    rw [show cntS (.mk h b e) = 1 + cntL b + cntL e from by rw [cntS]]
    rw [show wtS d (.mk h b e) = 1 + cut (d + 1) (wtSum (d + 1) b) + cut (d + 1) (wtSum (d + 1) e) from by rw [wtS]] at hw ⊢
    have e1 := cut_few (d := d + 1) (n := wtSum (d + 1) b) (k := 900) (by omega) (by omega)
    have e2 := cut_few (d := d + 1) (n := wtSum (d + 1) e) (k := 900) (by omega) (by omega)
    have h1 := cnt_wtSum b (d + 1) (by omega)
    have h2 := cnt_wtSum e (d + 1) (by omega)
    omega
theorem cnt_wtSum : ∀ (l : List St) (d : Nat), wtSum d l ≤ 900 → cntL l ≤ wtSum d l
  | [], d, _ => by
    rw [show cntL [] = 0 from by rw [cntL]]
    omega
  | s :: l, d, hw => by
    rw [show cntL (s :: l) = cntS s + cntL l from by rw [cntL]]
    rw [show wtSum d (s :: l) = wtS d s + wtSum d l from by rw [wtSum]] at hw ⊢
    have h1 := cnt_wtS s d (by omega)
    have h2 := cnt_wtSum l d (by omega)
    omega
end
theorem few_cnt {l : List St} (h : wtL 0 l ≤ 250) : cntL l ≤ 250 := by
  unfold wtL at h
  have e := cut_few h (by omega)
  have := cnt_wtSum l 0 (by omega)
  omega
/-- The document's answer to Print. -/
def PrintDPost (l : List St) (w : World) (e : Ending) (w' : World) : Prop :=
  Below w.heap.size w w' ∧ match walkL l 1 0 with
    | .error x => e = .returned (.tuple #[.string ⟨#[]⟩, .int .i64 x.1, .int .i64 (x.2 : Int)])
    | .ok _ => if 20000 < (tellL l []).length then e = .returned (.tuple #[.string ⟨#[]⟩, .int .i64 8, .int .i64 0]) else e = .returned (.tuple #[.string ⟨(tellL l []).toArray⟩, .int .i64 0, .int .i64 0])
theorem kinds_new (w : World) : KindsAt (w.alloc (.cells #[.int .i64 3, .int .i64 3, .int .i64 3, .int .i64 3, .int .i64 3, .int .i64 3, .int .i64 3, .int .i64 3] 3)) w.heap.size := by
  refine ⟨by simp, fun j hj => ((Cells.new w _ _).cell j).trans ?_⟩
  rcases (by omega : j = 0 ∨ j = 1 ∨ j = 2 ∨ j = 3 ∨ j = 4 ∨ j = 5 ∨ j = 6 ∨ j = 7) with rfl | rfl | rfl | rfl | rfl | rfl | rfl | rfl <;> rfl
set_option maxHeartbeats 2000000 in
theorem printD_ok {l : List St} {v : Value} {B : Nat} {w : World} (hl : SlR B w l v) (hB : B ≤ w.heap.size) (hcnt : cntL l ≤ 250) :
    Calls Tryz.prog 10 #[v] w (PrintDPost l w) := by
  have HB0 := Lib.hid ((Below.refl w.heap.size w).alloc (Nat.le_refl _) (.cells #[.int .i64 3, .int .i64 3, .int .i64 3, .int .i64 3, .int .i64 3, .int .i64 3, .int .i64 3, .int .i64 3] 3))
  have HRD := Lib.hid (rightD_ok (cap := 8) (hl.below HB0.out hB) (Nat.le_trans hB HB0.out.size) (kinds_new w) (by omega))
  obtain ⟨pt, cp, rfl⟩ := hl.shape
  have HL := Lib.hid hl
  clear hl
  go_enter Tryz.func10, Tryz.ntmps10
  go_wp2_with fail
  refine HRD.out.mono ?_
  rintro _ w1 ⟨rfl, hb1⟩
  have HB1 := Lib.hid (HB0.out.trans (hb1.mono HB0.out.size))
  clear hb1 HRD
  unfold rightV
  cases hwl : walkL l 1 0 with
  | error x =>
    have hx := walkL_num _ _ _ _ hwl
    have gx : (x.1 != 0) = true := by simp; omega
    have HW := Lib.hid hwl
    clear hx hwl
    go_wp2
    refine bodyPost_ret (v := .tuple #[.string ⟨#[]⟩, .int .i64 x.1, .int .i64 (x.2 : Int)]) (by simp [results, Tryz.results10, go_sem]) rfl ?_
    unfold PrintDPost
    refine ⟨HB1.out, ?_⟩
    rw [HW.out]
  | ok m =>
    have HW := Lib.hid hwl
    have hgood := walkL_good l _ _ _ hwl
    have hcnt2 := walkL_cnt l _ _ _ hwl
    have hc100 : cntL l ≤ 100 := by have := hcnt2.1; have := hcnt2.2 (Nat.zero_le _); omega
    have htl := tellL_len 300 l [] hgood (by simp; omega)
    have hlen : (tellL l []).length ≤ 1000000 := by
      have : cntL l * (3 * 300 + 300) ≤ 100 * 1200 := Nat.mul_le_mul hc100 (by omega)
      omega
    have HLI := Lib.hid (linesD_all B (cntL l + 1) l _ ⟨#[]⟩ w1 (by omega) hgood (HL.out.below HB1.out hB) (Nat.le_trans hB HB1.out.size) hlen (by show 0 + 2 * cntL l ≤ _; omega))
    obtain ⟨T, hT⟩ : ∃ T : ByteArray, (⟨(tellL l []).toArray⟩ : ByteArray) = T := ⟨_, rfl⟩
    have HTS := Lib.hid (show T.size = (tellL l []).length by rw [← hT]; exact List.size_toArray ..)
    have HT := Lib.hid hT
    change Hid (Calls Tryz.prog 23 #[.slice pt l.length cp, .string ⟨#[]⟩] w1 fun e w' => e = .returned (.string ⟨(tellL l []).toArray⟩) ∧ Below w1.heap.size w1 w') at HLI
    rw [hT] at HLI
    clear hwl hgood hcnt2 htl hlen hT
    go_wp2_with fail
    refine HLI.out.mono ?_
    rintro _ w2 ⟨rfl, hb2⟩
    have HB2 := Lib.hid (HB1.out.trans (hb2.mono HB1.out.size))
    clear hb2
    by_cases hbig : 20000 < T.size
    · have g2 : decide ((20000 : Int) < (T.size : Int)) = true := decide_eq_true (by omega)
      have g2' : (20000 : Int) < (T.size : Int) := by omega
      go_wp2
      refine bodyPost_ret (v := .tuple #[.string ⟨#[]⟩, .int .i64 8, .int .i64 0]) (by simp [results, Tryz.results10, go_sem]) rfl ?_
      unfold PrintDPost
      refine ⟨HB2.out, ?_⟩
      rw [HW.out]
      simp only
      rw [if_pos (by rw [← HTS.out]; exact hbig)]
      first | done | trivial | rfl
    · have g2 : decide ((20000 : Int) < (T.size : Int)) = false := decide_eq_false (by omega)
      have g2' : ¬ (20000 : Int) < (T.size : Int) := by omega
      go_wp2
      refine bodyPost_ret (v := .tuple #[.string T, .int .i64 0, .int .i64 0]) (by simp [results, Tryz.results10, go_sem]) rfl ?_
      unfold PrintDPost
      refine ⟨HB2.out, ?_⟩
      rw [HW.out]
      simp only
      rw [if_neg (by rw [← HTS.out]; exact hbig), HT.out]
end Go.Proofs.YtikgbgminhgpdaaGreatDoor
