/- Layer 10 (text): TextJoins' walk. -/
import Derived.Test.YtikgbgminhgpdaaGreatDoorTextJoins
namespace Go.Proofs.YtikgbgminhgpdaaGreatDoor
open Go.RowKit Tx
set_option maxRecDepth 10000

theorem parse_any (s : ByteArray) (hs : s.size ≤ 20000) {w : World} (hE : TEnv w) : Calls Tryz.prog 13 #[.string s] w fun e w' => ∃ p n c v, e = .returned (.tuple #[.slice p n c, v]) ∧ Below w.heap.size w w' := by
  cases hr : readAll (tl s.data.toList) with
  | error x =>
    refine (parse_bad hr hs hE).mono ?_
    rintro _ w' ⟨v, rfl, _, hb⟩
    exact ⟨_, _, _, _, rfl, hb⟩
  | ok p =>
    refine (parse_good hr hs hE).mono ?_
    rintro _ w' ⟨v, rfl, hv, hb⟩
    obtain ⟨p, n, c, rfl, _⟩ := hv.shape
    exact ⟨_, _, _, _, rfl, hb⟩
def JoinsPost (w : World) (e : Ending) (w' : World) : Prop := e = .returned (.bool true) ∧ Below w.heap.size w w'
set_option maxHeartbeats 4000000 in
theorem joinsE_ok {s t : ByteArray} {w : World} (hE : TEnv w) (hs : s.size ≤ 6000) (ht : t.size ≤ 6000) {x : Bad} (hr : readAll (tl s.data.toList) = .error x) : Calls Tryz.prog 6 #[.string s, .string t] w (JoinsPost w) := by
  have HAL := Lib.hid (fun (w : World) (hE : TEnv w) => alive_ok hE)
  have g1 : decide ((6000 : Int) < (s.size : Int)) = false := decide_eq_false (by omega)
  have g1' : ¬ (6000 : Int) < (s.size : Int) := by omega
  have g2 : decide ((6000 : Int) < (t.size : Int)) = false := decide_eq_false (by omega)
  have g2' : ¬ (6000 : Int) < (t.size : Int) := by omega
  have HP := Lib.hid (parse_bad hr (by omega) hE)
  have HQ := Lib.hid (fun (w : World) (hE : TEnv w) => parse_any t (by omega) hE)
  have HE := Lib.hid hE
  clear hE hr
  go_enter Tryz.func6, Tryz.ntmps6
  go_wp2_with fail
  refine HP.out.mono ?_
  rintro _ w1 ⟨v1, rfl, hf, hb1⟩
  obtain ⟨fb, rfl⟩ := hf.form
  have HF := Lib.hid hf; have HB1 := Lib.hid hb1; have HE1 := Lib.hid (HE.out.below hb1)
  clear hf hb1
  go_wp2_with fail
  refine (HQ.out _ HE1.out).mono ?_
  rintro _ w2 ⟨p2, n2, c2, v2, rfl, hb2⟩
  have HBB := Lib.hid (HB1.out.trans (hb2.mono HB1.out.size)); have HEE := Lib.hid (HE1.out.below hb2)
  have HF2 := Lib.hid (HF.out.kept (Kept.of_below hb2) (fun b _ h q => absurd h (by omega)))
  clear hb2
  go_wp2_with fail
  refine (no_flt HF2.out (by decide) (by decide)).mono ?_
  rintro _ w' ⟨rfl, rfl⟩
  go_wp2_with fail
  refine (HAL.out _ HEE.out).mono ?_
  rintro _ w9 ⟨rfl, hb9⟩
  have HB9 := Lib.hid (HBB.out.trans (hb9.mono HBB.out.size))
  clear hb9
  go_wp2
  go_ret
  exact ⟨rfl, HB9.out⟩
set_option maxHeartbeats 4000000 in
theorem joinsF_ok {s t : ByteArray} {w : World} (hE : TEnv w) (hs : s.size ≤ 6000) (ht : t.size ≤ 6000) {p : List St} (hr : readAll (tl s.data.toList) = .ok p) {x : Bad} (hr2 : readAll (tl t.data.toList) = .error x) : Calls Tryz.prog 6 #[.string s, .string t] w (JoinsPost w) := by
  have HAL := Lib.hid (fun (w : World) (hE : TEnv w) => alive_ok hE)
  have g1 : decide ((6000 : Int) < (s.size : Int)) = false := decide_eq_false (by omega)
  have g1' : ¬ (6000 : Int) < (s.size : Int) := by omega
  have g2 : decide ((6000 : Int) < (t.size : Int)) = false := decide_eq_false (by omega)
  have g2' : ¬ (6000 : Int) < (t.size : Int) := by omega
  have HP := Lib.hid (parse_good hr (by omega) hE)
  have HQ := Lib.hid (fun (w : World) (hE : TEnv w) => parse_bad hr2 (by omega) hE)
  have hj : readAll (tl (s ++ ⟨#[10]⟩ ++ t).data.toList) = .error x := by
    have := tl_join (t := t.data.toList) hr
    rw [hr2] at this
    simpa using this
  have HJ := Lib.hid (fun (w : World) (hE : TEnv w) => parse_bad hj (by simp only [ByteArray.size_append]; show s.size + 1 + t.size ≤ _; omega) hE)
  have HLN := Lib.hid (fun w => lines_ok (s ++ ⟨#[10]⟩) w (by simp only [ByteArray.size_append]; show s.size + 1 ≤ _; omega))
  have hk : ∀ k, x = some k → k ≤ (tl t.data.toList).length := fun k e => read_err (by rw [e] at hr2; exact hr2)
  have hll : (lines (s ++ ⟨#[10]⟩ ++ t).data.toList).length = (lines (s ++ ⟨#[10]⟩).data.toList).length + (lines t.data.toList).length := by
    have := congrArg List.length (lines_two s.data.toList t.data.toList)
    simpa using this
  have hPL : badN (lines (s ++ ⟨#[10]⟩ ++ t).data.toList).length x = ((lines (s ++ ⟨#[10]⟩).data.toList).length : Int) + badN (lines t.data.toList).length x := by
    rw [hll]
    cases x with
    | none => unfold badN; simp only; omega
    | some k =>
      have := hk k rfl
      unfold tl at this
      rw [List.length_map] at this
      unfold badN
      simp only
      omega
  have hb0 : 0 ≤ badN (lines t.data.toList).length x ∧ badN (lines t.data.toList).length x ≤ 7000 := by
    have h1 := lines_len t.data.toList
    have h2 : t.data.toList.length = t.size := by simp
    cases x <;> unfold badN <;> simp only <;> omega
  have hn0 : (lines (s ++ ⟨#[10]⟩).data.toList).length ≤ 7000 := by
    have h1 := lines_len (s ++ ⟨#[10]⟩).data.toList
    have h2 : (s ++ ⟨#[10]⟩ : ByteArray).data.toList.length = s.size + 1 := by
      have : (s ++ ⟨#[10]⟩ : ByteArray).data.toList.length = (s ++ ⟨#[10]⟩ : ByteArray).size := Array.length_toList
      have h3 : (⟨#[10]⟩ : ByteArray).size = 1 := rfl
      rw [this, ByteArray.size_append, h3]
    omega
  rw [hPL] at HJ
  obtain ⟨n1, hn1⟩ : ∃ n, (lines (s ++ ⟨#[10]⟩).data.toList).length = n := ⟨_, rfl⟩
  obtain ⟨b, hb⟩ : ∃ b, badN (lines t.data.toList).length x = b := ⟨_, rfl⟩
  have HN1 := Lib.hid hn1
  rw [hn1, hb] at HJ
  rw [hb] at HQ hb0
  rw [hn1] at hn0
  have hwr : IntKind.i64.wrap ((n1 : Int) + b) = (n1 : Int) + b := IntWalk.i64_in _ (by omega)
  have heq : ((n1 : Int) + b == (n1 : Int) + b) = true := by simp
  clear hPL hn1 hb
  have HE := Lib.hid hE
  clear hE hr hr2 hj hk hll
  go_enter Tryz.func6, Tryz.ntmps6
  go_wp2_with fail
  refine HP.out.mono ?_
  rintro _ w1 ⟨v1, rfl, hv, hb1⟩
  have hr1 := hv.read
  obtain ⟨pt, cp, rfl⟩ := hr1.shape
  have HB1 := Lib.hid hb1; have HE1 := Lib.hid (HE.out.below hb1)
  clear hv hr1 hb1 HP
  go_wp2_with fail
  refine (HQ.out _ HE1.out).mono ?_
  rintro _ w2 ⟨v2, rfl, hf2, hb2⟩
  obtain ⟨fb, rfl⟩ := hf2.form
  have HB2 := Lib.hid (HB1.out.trans (hb2.mono HB1.out.size)); have HE2 := Lib.hid (HE1.out.below hb2)
  have HF2 := Lib.hid hf2
  clear hb2 hf2 HQ
  go_wp2_with fail
  refine (no_nil w2).mono ?_
  rintro _ w' ⟨rfl, rfl⟩
  go_wp2_with fail
  refine (HJ.out _ HE2.out).mono ?_
  rintro _ w3 ⟨v3, rfl, hf3, hb3⟩
  obtain ⟨fc, rfl⟩ := hf3.form
  have HB3 := Lib.hid (HB2.out.trans (hb3.mono HB2.out.size)); have HE3 := Lib.hid (HE2.out.below hb3)
  have HF3 := Lib.hid (HF2.out.kept (Kept.of_below hb3) (fun b _ h q => absurd h (by omega)))
  have HG3 := Lib.hid hf3
  clear hb3 hf3 HJ
  go_wp2_with fail
  refine (no_flt HF3.out (by decide) (by decide)).mono ?_
  rintro _ w' ⟨rfl, rfl⟩
  go_wp2_with fail
  refine (no_flt HG3.out (by decide) (by decide)).mono ?_
  rintro _ w' ⟨rfl, rfl⟩
  go_wp2_with fail
  refine (no_flt HF3.out (by decide) (by decide)).mono ?_
  rintro _ w' ⟨rfl, rfl⟩
  go_wp2_with fail
  refine (place_flt HG3.out HE3.out.hand).mono ?_
  rintro _ w4 ⟨rfl, hb4⟩
  have HB4 := Lib.hid (HB3.out.trans (hb4.mono HB3.out.size)); have HE4 := Lib.hid (HE3.out.below hb4)
  have HF4 := Lib.hid (HF3.out.kept (Kept.of_below hb4) (fun b _ h q => absurd h (by omega)))
  clear hb4
  go_wp2_with fail
  refine (HLN.out _).mono ?_
  rintro _ w5 ⟨hb5, v5, L, rfl, hrow, hL⟩
  have HB5 := Lib.hid (HB4.out.trans (hb5.mono HB4.out.size)); have HE5 := Lib.hid (HE4.out.below hb5)
  have HF5 := Lib.hid (HF4.out.kept (Kept.of_below hb5) (fun b _ h q => absurd h (by omega)))
  have hLl : L.length = n1 := by rw [← HN1.out, ← hL]; simp
  obtain ⟨ptr, cpr, rfl⟩ : ∃ a c, v5 = .slice a n1 c := by
    rw [← hLl]
    rcases hrow.2 with ⟨rfl, h0⟩ | ⟨g, c, cur, rfl, _⟩
    · exact ⟨_, _, by rw [h0]⟩
    · exact ⟨_, _, rfl⟩
  clear hb5 hrow hL hLl
  go_wp2_with fail
  refine (place_flt HF5.out HE5.out.hand).mono ?_
  rintro _ w6 ⟨rfl, hb6⟩
  have HBB := Lib.hid (HB5.out.trans (hb6.mono HB5.out.size)); have HEE := Lib.hid (HE5.out.below hb6)
  clear hb6
  go_wp2_with fail
  refine (HAL.out _ HEE.out).mono ?_
  rintro _ w9 ⟨rfl, hb9⟩
  have HB9 := Lib.hid (HBB.out.trans (hb9.mono HBB.out.size))
  clear hb9
  go_wp2
  go_ret
  exact ⟨rfl, HB9.out⟩
theorem empty_row (w : World) : (w.alloc (.cells #[] 45)).ownsRow w.heap.size 45 9 (.slice (some ⟨w.heap.size, 0, none⟩) 0 0) 0 [] :=
  ⟨rfl, .inr ⟨w.heap.size, 0, #[], rfl, Nat.le_refl _, Cells.new w [] _, Nat.le_refl _, Nat.zero_le _, rfl, rfl⟩⟩
theorem joins_mid {B : Nat} {w3 W3 w4 : World} {q : List St} {y : Value} (hA : Kept (fun b => w3.heap.size ≤ b) w3 W3) (hq : SlR B w3 q y) (_hB : B ≤ w3.heap.size) (hg : W3.grownBy w4 (some w3.heap.size)) :
    Kept (fun b => w3.heap.size ≤ b) w3 w4 ∧ Kept (fun b => w3.heap.size ≤ b) W3 w4 ∧ ∃ cs, StsR B w4 q cs ∧ RowR B w4 y q.length cs.flatten := by
  have k1 : Kept (fun b => w3.heap.size ≤ b) W3 w4 := (Kept.of_grown hg).mono fun k _ e => by
    have : k = w3.heap.size := Option.some.inj e
    omega
  have k := hA.trans k1
  exact ⟨k, k1, hq.kept k (fun b h1 _ => ⟨by omega, h1⟩)⟩
set_option maxHeartbeats 4000000 in
theorem joinsG_ok {s t : ByteArray} {w : World} (hE : TEnv w) (hs : s.size ≤ 6000) (ht : t.size ≤ 6000) {p q : List St} (hr : readAll (tl s.data.toList) = .ok p) (hr2 : readAll (tl t.data.toList) = .ok q) : Calls Tryz.prog 6 #[.string s, .string t] w (JoinsPost w) := by
  have HAL := Lib.hid (fun (w : World) (hE : TEnv w) => alive_ok hE)
  have g1 : decide ((6000 : Int) < (s.size : Int)) = false := decide_eq_false (by omega)
  have g1' : ¬ (6000 : Int) < (s.size : Int) := by omega
  have g2 : decide ((6000 : Int) < (t.size : Int)) = false := decide_eq_false (by omega)
  have g2' : ¬ (6000 : Int) < (t.size : Int) := by omega
  have HP := Lib.hid (parse_good hr (by omega) hE)
  have HQ := Lib.hid (fun (w : World) (hE : TEnv w) => parse_good hr2 (by omega) hE)
  have hj : readAll (tl (s ++ ⟨#[10]⟩ ++ t).data.toList) = .ok (p ++ q) := by
    have := tl_join (t := t.data.toList) hr
    rw [hr2] at this
    simpa using this
  have hsz : (s ++ ⟨#[10]⟩ ++ t : ByteArray).size ≤ 12001 := by
    have h3 : (⟨#[10]⟩ : ByteArray).size = 1 := rfl
    rw [ByteArray.size_append, ByteArray.size_append, h3]
    omega
  have HJ := Lib.hid (fun (w : World) (hE : TEnv w) => parse_good hj (by omega) hE)
  have HPOS := Lib.hid (read_pos hj)
  have hcnt : cntL (p ++ q) ≤ 12002 := by
    have h1 := (read_pos hj).2
    have h2 := lines_len (s ++ ⟨#[10]⟩ ++ t).data.toList
    have h3 : (s ++ ⟨#[10]⟩ ++ t).data.toList.length = (s ++ ⟨#[10]⟩ ++ t).size := Array.length_toList
    unfold tl at h1
    rw [List.length_map] at h1
    omega
  have hlen := len_cnt (p ++ q)
  rw [List.length_append] at hlen
  have HE := Lib.hid hE
  clear hE hr hr2 hj
  go_enter Tryz.func6, Tryz.ntmps6
  go_wp2_with fail
  refine HP.out.mono ?_
  rintro _ w1 ⟨v1, rfl, hv1, hb1⟩
  have hr1 := hv1.read
  obtain ⟨pt, cp, rfl⟩ := hr1.shape
  have HR1 := Lib.hid hr1
  have HB1 := Lib.hid hb1; have HE1 := Lib.hid (HE.out.below hb1)
  clear hv1 hr1 hb1 HP
  go_wp2_with fail
  refine (HQ.out _ HE1.out).mono ?_
  rintro _ w2 ⟨v2, rfl, hv2, hb2⟩
  have hr2 := hv2.read
  obtain ⟨qt, cq, rfl⟩ := hr2.shape
  have HR2 := Lib.hid hr2
  have HR12 := Lib.hid (HR1.out.below hb2 (Nat.le_refl _)); have hz2 := hb2.size
  have HB2 := Lib.hid (HB1.out.trans (hb2.mono HB1.out.size)); have HE2 := Lib.hid (HE1.out.below hb2)
  clear hv2 hr2 hb2 HQ
  go_wp2_with fail
  refine (no_nil w2).mono ?_
  rintro _ w' ⟨rfl, rfl⟩
  go_wp2_with fail
  refine (HJ.out _ HE2.out).mono ?_
  rintro _ w3 ⟨v3, rfl, hv3, hb3⟩
  have hr3 := hv3.read
  obtain ⟨jt, cj, rfl⟩ := hr3.shape
  have HR3 := Lib.hid hr3
  have HR13 := Lib.hid (HR12.out.below hb3 hz2); have HR23 := Lib.hid (HR2.out.below hb3 (Nat.le_refl _)); have hz3 := hb3.size
  have HB3 := Lib.hid (HB2.out.trans (hb3.mono HB2.out.size)); have HE3 := Lib.hid (HE2.out.below hb3)
  clear hv3 hr3 hb3 HJ
  go_wp2_with fail
  refine (no_nil w3).mono ?_
  rintro _ w' ⟨rfl, rfl⟩
  go_wp2_with fail
  refine (no_nil w3).mono ?_
  rintro _ w' ⟨rfl, rfl⟩
  have hA : Kept (fun b => w3.heap.size ≤ b) w3 (w3.alloc (.cells #[] 45)) := (Kept.refl _ w3).alloc _
  obtain ⟨cs1, q1, q2⟩ := HR13.out.kept hA (B' := w1.heap.size) (fun b h1 h2 => ⟨by omega, h1⟩)
  have HQ1 := Lib.hid q1; have HQ2 := Lib.hid q2; have HA := Lib.hid hA
  have HEMP := Lib.hid (empty_row w3)
  have hn1 : 0 + p.length ≤ 1000000 := by omega
  have hn2 : p.length + q.length ≤ 1000000 := by omega
  have hz4 : w3.heap.size ≤ (w3.alloc (.cells #[] 45)).heap.size := by simp
  clear hA q1 q2 hlen
  go_wp2_with (first
    | (at_builtin; refine wpList_want (by kernel_rfl) (wp_append_sts (.tmp 72) (.tmp 73) rfl rfl HROW4.out rfl HS4.out HT4.out hn2 HZ4.out ?_); rintro v5 w5 hrow5 hg5 - ⟨p5, c5, rfl⟩; have HROW5 := Lib.hid hrow5; have HG5 := Lib.hid hg5; clear hrow5 hg5)
    | (at_builtin; refine wpList_want (by kernel_rfl) (wp_append_sts (.tmp 70) (.tmp 71) rfl rfl HEMP.out rfl HQ1.out HQ2.out hn1 hz4 ?_); rintro v4 w4 hrow4 hg4 hob4 ⟨p4, c4, rfl⟩; simp only [Nat.zero_add, List.nil_append] at hrow4 hob4; obtain ⟨K4, K34, cs2, S4, T4⟩ := joins_mid HA.out HR23.out hz3 hg4; have HROW4 := Lib.hid hrow4; have HK4 := Lib.hid K4; have HK34 := Lib.hid K34; have HS4 := Lib.hid S4; have HT4 := Lib.hid T4; have HZ4 := Lib.hid K4.size; have HOB4 := Lib.hid hob4; clear hrow4 hg4 hob4 K4 K34 S4 T4))
  have hK45 : Kept (fun b => w3.heap.size ≤ b) w4 w5 := (Kept.of_grown HG5.out).mono fun k _ e0 => by
    have e : some k = (Value.slice p4 p.length c4).ownBlock := e0
    rcases HOB4.out with h | h
    · rw [h] at e
      have : k = w3.heap.size := Option.some.inj e
      omega
    · rw [h] at e
      have : k = (w3.alloc (.cells #[] 45)).heap.size := Option.some.inj e
      omega
  have hK5 := HK4.out.trans hK45
  have s1 := StsR.kept (B' := w3.heap.size) (HK34.out.trans hK45) (fun b h1 h2 => ⟨by omega, by omega⟩) p cs1 HQ1.out
  have s2 := StsR.kept (B' := w3.heap.size) hK45 (fun b h1 h2 => ⟨by omega, by omega⟩) q cs2 HS4.out
  have sv := SlR.of_row (StsR.app s1 s2) (show w5.ownsRow w3.heap.size 45 9 (.slice p5 (p.length + q.length) c5) (p ++ q).length (cs1 ++ cs2).flatten by
    rw [List.length_append, List.flatten_append]
    exact HROW5.out)
  have sj := HR3.out.kept (B' := w5.heap.size) hK5 (fun b h1 h2 => ⟨by omega, Nat.lt_of_lt_of_le h1 hK5.size⟩)
  have hj5 : SlR w5.heap.size w5 (p ++ q) (.slice jt (p.length + q.length) cj) := by
    have := sj
    rwa [List.length_append] at this
  have HB5 := Lib.hid (HB3.out.trans (hK5.below (HB3.out.size) (fun k h1 h2 => by have := HB3.out.size; omega)))
  have HE5 := Lib.hid (HE3.out.below (hK5.below (Nat.le_refl _) (fun k h1 h2 => by omega)))
  refine (same_ok (cntL (p ++ q) + 1) (p ++ q) _ _ w5.heap.size w5 (by omega) (by omega) HPOS.out.1 hj5 sv (Nat.le_refl _)).mono ?_
  rintro _ w6 ⟨rfl, hb6⟩
  have HBB := Lib.hid (HB5.out.trans (hb6.mono HB5.out.size)); have HEE := Lib.hid (HE5.out.below hb6)
  clear hb6 hK45 hK5 s1 s2 sv sj hj5
  go_wp2_with fail
  refine (HAL.out _ HEE.out).mono ?_
  rintro _ w9 ⟨rfl, hb9⟩
  have HB9 := Lib.hid (HBB.out.trans (hb9.mono HBB.out.size))
  clear hb9
  go_wp2
  go_ret
  exact ⟨rfl, HB9.out⟩
set_option maxHeartbeats 4000000 in
theorem textJoins_ok (s t : ByteArray) {w : World} (hE : TEnv w) : Calls Tryz.prog 6 #[.string s, .string t] w (JoinsPost w) := by
  by_cases hs : 6000 < s.size
  · have HE := Lib.hid hE
    have HAL := Lib.hid (fun (w : World) (hE : TEnv w) => alive_ok hE)
    have g1 : decide ((6000 : Int) < (s.size : Int)) = true := decide_eq_true (by omega)
    have g1' : (6000 : Int) < (s.size : Int) := by omega
    clear hE
    go_enter Tryz.func6, Tryz.ntmps6
    go_wp2_with fail
    refine (HAL.out _ HE.out).mono ?_
    rintro _ w1 ⟨rfl, hb1⟩
    have HB1 := Lib.hid hb1
    clear hb1
    go_wp2
    go_ret
    exact ⟨rfl, HB1.out⟩
  · by_cases ht : 6000 < t.size
    · have HE := Lib.hid hE
      have HAL := Lib.hid (fun (w : World) (hE : TEnv w) => alive_ok hE)
      have g1 : decide ((6000 : Int) < (s.size : Int)) = false := decide_eq_false (by omega)
      have g1' : ¬ (6000 : Int) < (s.size : Int) := by omega
      have g2 : decide ((6000 : Int) < (t.size : Int)) = true := decide_eq_true (by omega)
      have g2' : (6000 : Int) < (t.size : Int) := by omega
      clear hE
      go_enter Tryz.func6, Tryz.ntmps6
      go_wp2_with fail
      refine (HAL.out _ HE.out).mono ?_
      rintro _ w1 ⟨rfl, hb1⟩
      have HB1 := Lib.hid hb1
      clear hb1
      go_wp2
      go_ret
      exact ⟨rfl, HB1.out⟩
    · cases hr : readAll (tl s.data.toList) with
      | error x => exact joinsE_ok hE (by omega) (by omega) hr
      | ok p =>
        cases hr2 : readAll (tl t.data.toList) with
        | error x => exact joinsF_ok hE (by omega) (by omega) hr hr2
        | ok q => exact joinsG_ok hE (by omega) (by omega) hr hr2
end Go.Proofs.YtikgbgminhgpdaaGreatDoor
