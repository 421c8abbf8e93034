/- Layer 10 (text): TextBlanks. -/
import Derived.Test.YtikgbgminhgpdaaGreatDoorTextJoins2
import Derived.Test.YtikgbgminhgpdaaGreatDoorTextBlank2
import Derived.Test.YtikgbgminhgpdaaGreatDoorTxtWords
namespace Go.Proofs.YtikgbgminhgpdaaGreatDoor
open Go.RowKit Tx
set_option maxRecDepth 10000

theorem mem_dropEnd : ∀ (l : List Bs) (p : Bs), p ∈ dropEnd l → p ∈ l
  | [], p, h => h
  | [a], p, h => by
    unfold dropEnd at h
    split at h
    · cases h
    · exact h
  | a :: b :: r, p, h => by
    unfold dropEnd at h
    rcases List.mem_cons.1 h with rfl | h
    · exact List.mem_cons_self
    · exact List.mem_cons_of_mem _ (mem_dropEnd (b :: r) p h)
theorem line_short {s p : Bs} (h : p ∈ lines s) : p.length ≤ s.length := (split_len 10 s).2 p (mem_dropEnd _ _ h)
/-- How far the text is put together. -/
def TextJ (Ls : List Bs) (w0 : World) (gf : Nat) (t i : Value) (wx : World) : Prop :=
  ∃ (k : Nat) (T : ByteArray), t = .string T ∧ i = .int .i64 (k : Int) ∧ k ≤ Ls.length ∧ Ls.length + 1 ≤ k + gf ∧ T.size ≤ k * 20000000 ∧ Below w0.heap.size w0 wx ∧ retext (Ls.drop k) k T.data.toList = retext Ls 0 []
/-- How far a line is. -/
def LineJ (Ws : List Bs) (k : Nat) (w0 : World) (gf : Nat) (lv j : Value) (wx : World) : Prop :=
  ∃ (m : Nat) (l : ByteArray), lv = .string l ∧ j = .int .i64 (m : Int) ∧ m ≤ Ws.length ∧ Ws.length + 1 ≤ m + gf ∧ l.size ≤ m * 3003 ∧ wx = w0 ∧ reline k (Ws.drop m) m l.data.toList = reline k Ws 0 []
theorem StrRow.get {B : Nat} {w : World} {v : Value} {L : List ByteArray} (h : StrRow B w v L) {k : Nat} {x : ByteArray} (hk : L[k]? = some x) : ∃ g c, v = .slice (some ⟨g, 0, none⟩) L.length c ∧ g < w.heap.size ∧ w.cell? ⟨g, k, none⟩ = some (.string x) := by
  have hlt := (List.getElem?_eq_some_iff.1 hk).1
  obtain ⟨g, c, rfl, _, hg⟩ := World.ownsRow.form h (by omega)
  exact ⟨g, c, rfl, hg, words_row h k x hk⟩
theorem StrRow.shape {B : Nat} {w : World} {v : Value} {L : List ByteArray} (h : StrRow B w v L) : ∃ a c, v = .slice a L.length c := by
  rcases h.2 with ⟨rfl, h0⟩ | ⟨g, c, cur, rfl, _⟩
  · exact ⟨_, _, by rw [h0]⟩
  · exact ⟨_, _, rfl⟩
theorem line_next {Ws : List ByteArray} {k m : Nat} {l y b : ByteArray} {R : Bs} (hy : Ws[m]? = some y) (hb : b.data.toList = blanks (k + m)) (h : reline k ((Ws.map (·.data.toList)).drop m) m l.data.toList = R) :
    reline k ((Ws.map (·.data.toList)).drop (m + 1)) (m + 1) (l ++ b ++ y).data.toList = R := by
  have hm : (Ws.map (·.data.toList))[m]? = some y.data.toList := by rw [List.getElem?_map, hy]; rfl
  obtain ⟨hl, e⟩ := List.getElem?_eq_some_iff.1 hm
  rw [List.drop_eq_getElem_cons hl, e] at h
  unfold reline at h
  rw [← h, ByteArray.data_append, ByteArray.data_append, Array.toList_append, Array.toList_append, hb]
theorem text_next {L : List ByteArray} {k : Nat} {T x b l : ByteArray} {R : Bs} (hx : L[k]? = some x) (hb : b.data.toList = if k % 2 = 0 then [] else [10]) (hl : l.data.toList = reline k (words x.data.toList) 0 []) (h : retext ((L.map (·.data.toList)).drop k) k T.data.toList = R) :
    retext ((L.map (·.data.toList)).drop (k + 1)) (k + 1) (T ++ b ++ l ++ ⟨#[32, 10]⟩).data.toList = R := by
  have hm : (L.map (·.data.toList))[k]? = some x.data.toList := by rw [List.getElem?_map, hx]; rfl
  obtain ⟨hlt, e⟩ := List.getElem?_eq_some_iff.1 hm
  rw [List.drop_eq_getElem_cons hlt, e] at h
  unfold retext at h
  rw [← h]
  congr 1
  unfold bpiece
  simp only [ByteArray.data_append, Array.toList_append, hb, hl, List.append_assoc]
theorem at3 (w : World) : (Instr.index 38 (.agg #[.string ⟨#[32]⟩, .string ⟨#[32, 32]⟩, .string ⟨#[32, 32, 32]⟩]) (.int .i64 0)).run Tryz.prog w = .ok (.string ⟨#[32]⟩) w := by kernel_rfl
theorem at31 (w : World) : (Instr.index 38 (.agg #[.string ⟨#[32]⟩, .string ⟨#[32, 32]⟩, .string ⟨#[32, 32, 32]⟩]) (.int .i64 1)).run Tryz.prog w = .ok (.string ⟨#[32, 32]⟩) w := by kernel_rfl
theorem at32 (w : World) : (Instr.index 38 (.agg #[.string ⟨#[32]⟩, .string ⟨#[32, 32]⟩, .string ⟨#[32, 32, 32]⟩]) (.int .i64 2)).run Tryz.prog w = .ok (.string ⟨#[32, 32, 32]⟩) w := by kernel_rfl
theorem at2 (w : World) : (Instr.index 39 (.agg #[.string ⟨#[]⟩, .string ⟨#[10]⟩]) (.int .i64 0)).run Tryz.prog w = .ok (.string ⟨#[]⟩) w := by kernel_rfl
theorem at21 (w : World) : (Instr.index 39 (.agg #[.string ⟨#[]⟩, .string ⟨#[10]⟩]) (.int .i64 1)).run Tryz.prog w = .ok (.string ⟨#[10]⟩) w := by kernel_rfl
set_option maxHeartbeats 4000000 in
theorem textBlanks_ok (s : ByteArray) {w : World} (hE : TEnv w) : Calls Tryz.prog 5 #[.string s] w (JoinsPost w) := by
  have HE := Lib.hid hE
  have HAL := Lib.hid (fun (w : World) (hE : TEnv w) => alive_ok hE)
  by_cases h3 : 3000 < s.size
  · have g1 : decide ((3000 : Int) < (s.size : Int)) = true := decide_eq_true (by omega)
    have g1' : (3000 : Int) < (s.size : Int) := by omega
    clear hE
    go_enter Tryz.func5, Tryz.ntmps5
    go_wp2_with fail
    refine (HAL.out _ HE.out).mono ?_
    rintro _ w1 ⟨rfl, hb1⟩
    have HB1 := Lib.hid hb1
    clear hb1
    go_wp2
    go_ret
    exact ⟨rfl, HB1.out⟩
  · have g1 : decide ((3000 : Int) < (s.size : Int)) = false := decide_eq_false (by omega)
    have g1' : ¬ (3000 : Int) < (s.size : Int) := by omega
    have HLN := Lib.hid (lines_ok s w (by omega))
    clear hE
    go_enter Tryz.func5, Tryz.ntmps5
    go_wp2_with fail
    refine HLN.out.mono ?_
    rintro _ w1 ⟨hb1, v1, L, rfl, hrow, hL⟩
    obtain ⟨pt, cp, rfl⟩ := hrow.shape
    have HB1 := Lib.hid hb1; have HE1 := Lib.hid (HE.out.below hb1); have HROW := Lib.hid hrow; have HL := Lib.hid hL
    have hLl : L.length ≤ s.size + 1 := by
      have e1 : L.length = (lines s.data.toList).length := by rw [← hL]; simp
      have e2 := lines_len s.data.toList
      have e3 : s.data.toList.length = s.size := by simp
      omega
    have hshort : ∀ (k : Nat) x, L[k]? = some x → x.size ≤ 3000 := fun k x hx => by
      have : x.data.toList ∈ lines s.data.toList := by rw [← hL]; exact List.mem_map.2 ⟨x, List.mem_of_getElem? hx, rfl⟩
      have := line_short this
      simp at this
      omega
    have HSH := Lib.hid hshort
    have hLen : (lines s.data.toList).length = L.length := by rw [← hL]; simp
    have HLEN := Lib.hid hLen
    clear hb1 hrow hL hshort hLen HLN
    go_wp2
    go_loopg [3, 20] (L.length + 1) (fun gf t i wx => TextJ (L.map (·.data.toList)) w1 gf t i wx)
    case atStart => exact ⟨0, ⟨#[]⟩, rfl, rfl, Nat.zero_le _, by simp, Nat.zero_le _, Below.refl _ _, rfl⟩
    case round =>
      obtain ⟨k, T, rfl, rfl, hk, hfu, hT, hb, hre⟩ := hrel
      rw [List.length_map] at hk hfu
      obtain ⟨gk', rfl⟩ : ∃ g', gk = g' + 1 := ⟨gk - 1, by omega⟩
      obtain ⟨wo, rfl⟩ : ∃ wo : World, wo = wr := ⟨_, rfl⟩
      have HB := Lib.hid hb; have HRE := Lib.hid hre
      by_cases hlt : k < L.length
      · obtain ⟨x, hx⟩ : ∃ x, L[k]? = some x := ⟨_, List.getElem?_eq_getElem hlt⟩
        obtain ⟨g, c, hv, hg, hcell⟩ := HROW.out.get hx
        simp only [Value.slice.injEq, true_and] at hv
        obtain ⟨rfl, rfl⟩ := hv
        have cc : wo.cell? ⟨g, k, none⟩ = some (.string x) := (hb.cell (p := ⟨g, k, none⟩) hg).trans hcell
        have g2 : decide ((k : Int) < (L.length : Int)) = true := decide_eq_true (by omega)
        have g2' : (k : Int) < (L.length : Int) := by omega
        have hxs := HSH.out k x hx
        have HWD := Lib.hid (words_ok x wo (by omega))
        have HX := Lib.hid hx
        clear hb hre hcell hx
        go_wp2_with fail
        refine HWD.out.mono ?_
        rintro _ w2 ⟨hb2, v2, Ws, rfl, hrow2, hW, hWl⟩
        obtain ⟨pt2, cp2, rfl⟩ := hrow2.shape
        have HB2 := Lib.hid (HB.out.trans (hb2.mono HB.out.size)); have HROW2 := Lib.hid hrow2; have HW := Lib.hid hW
        have hws : ∀ (m : Nat) y, Ws[m]? = some y → y.size ≤ 3000 := fun m y hy => by
          have : y.data.toList ∈ words x.data.toList := by rw [← hW]; exact List.mem_map.2 ⟨y, List.mem_of_getElem? hy, rfl⟩
          have := (words_len x.data.toList).2 _ this
          simp at this
          omega
        have HWS := Lib.hid hws
        clear hb2 hrow2 hW hws HWD cc g2 g2'
        go_wp2
        go_loopg [6, 28] (Ws.length + 1) (fun gf lv j wx => LineJ (Ws.map (·.data.toList)) k w2 gf lv j wx)
        case atStart => exact ⟨0, ⟨#[]⟩, rfl, rfl, Nat.zero_le _, by simp, Nat.zero_le _, rfl, rfl⟩
        case round =>
          obtain ⟨m, l, rfl, rfl, hm, hfu2, hl, rfl, hre2⟩ := hrel
          rw [List.length_map] at hm hfu2
          obtain ⟨gm, rfl⟩ : ∃ g', gk = g' + 1 := ⟨gk - 1, by omega⟩
          have HRE2 := Lib.hid hre2
          clear hre2
          by_cases hlt2 : m < Ws.length
          · obtain ⟨y, hy⟩ : ∃ y, Ws[m]? = some y := ⟨_, List.getElem?_eq_getElem hlt2⟩
            obtain ⟨g2, c2, hv2, hg2, hcell2⟩ := HROW2.out.get hy
            simp only [Value.slice.injEq, true_and] at hv2
            obtain ⟨rfl, rfl⟩ := hv2
            have hys := HWS.out m y hy
            have g3 : decide ((m : Int) < (Ws.length : Int)) = true := decide_eq_true (by omega)
            have g3' : (m : Int) < (Ws.length : Int) := by omega
            have HY := Lib.hid hy
            clear hy
            have hreml : l.size ≤ 9100000 := by omega
            rcases (by omega : (k + m) % 3 = 0 ∨ (k + m) % 3 = 1 ∨ (k + m) % 3 = 2) with hq | hq | hq
            · have hrem : ((k : Int) + (m : Int)) % 3 = 0 := by omega
              have hat := at3
              have g5 : ¬ 9223372036854775807 < l.size + 1 := by omega
              have g6 : ¬ 9223372036854775807 < l.size + 2 := by omega
              have g7 : ¬ 9223372036854775807 < l.size + 3 := by omega
              have g8 : ¬ 9223372036854775807 < l.size + 1 + y.size := by omega
              have g9 : ¬ 9223372036854775807 < l.size + 2 + y.size := by omega
              have g10 : ¬ 9223372036854775807 < l.size + 3 + y.size := by omega
              go_wp2
              go_roundg gm
              case measure => omega
              case rel => exact ⟨m + 1, _, rfl, by go_num, by rw [List.length_map]; omega, by rw [List.length_map]; omega, by rw [ByteArray.size_append, ByteArray.size_append, show (⟨#[32]⟩ : ByteArray).size = 1 from rfl]; omega, rfl, line_next HY.out (by unfold blanks; rw [if_pos hq]) HRE2.out⟩
            · have hrem : ((k : Int) + (m : Int)) % 3 = 1 := by omega
              have hat := at31
              have g5 : ¬ 9223372036854775807 < l.size + 1 := by omega
              have g6 : ¬ 9223372036854775807 < l.size + 2 := by omega
              have g7 : ¬ 9223372036854775807 < l.size + 3 := by omega
              have g8 : ¬ 9223372036854775807 < l.size + 1 + y.size := by omega
              have g9 : ¬ 9223372036854775807 < l.size + 2 + y.size := by omega
              have g10 : ¬ 9223372036854775807 < l.size + 3 + y.size := by omega
              go_wp2
              go_roundg gm
              case measure => omega
              case rel => exact ⟨m + 1, _, rfl, by go_num, by rw [List.length_map]; omega, by rw [List.length_map]; omega, by rw [ByteArray.size_append, ByteArray.size_append, show (⟨#[32, 32]⟩ : ByteArray).size = 2 from rfl]; omega, rfl, line_next HY.out (by unfold blanks; rw [if_neg (by omega), if_pos hq]) HRE2.out⟩
            · have hrem : ((k : Int) + (m : Int)) % 3 = 2 := by omega
              have hat := at32
              have g5 : ¬ 9223372036854775807 < l.size + 1 := by omega
              have g6 : ¬ 9223372036854775807 < l.size + 2 := by omega
              have g7 : ¬ 9223372036854775807 < l.size + 3 := by omega
              have g8 : ¬ 9223372036854775807 < l.size + 1 + y.size := by omega
              have g9 : ¬ 9223372036854775807 < l.size + 2 + y.size := by omega
              have g10 : ¬ 9223372036854775807 < l.size + 3 + y.size := by omega
              go_wp2
              go_roundg gm
              case measure => omega
              case rel => exact ⟨m + 1, _, rfl, by go_num, by rw [List.length_map]; omega, by rw [List.length_map]; omega, by rw [ByteArray.size_append, ByteArray.size_append, show (⟨#[32, 32, 32]⟩ : ByteArray).size = 3 from rfl]; omega, rfl, line_next HY.out (by unfold blanks; rw [if_neg (by omega), if_neg (by omega)]) HRE2.out⟩
          · obtain rfl : m = Ws.length := by omega
            have g3 : decide ((Ws.length : Int) < (Ws.length : Int)) = false := decide_eq_false (by omega)
            have hlw : l.data.toList = reline k (words x.data.toList) 0 [] := by
              have := HRE2.out
              rw [List.drop_eq_nil_of_le (by rw [List.length_map]; exact Nat.le_refl _), HW.out] at this
              exact this
            have HLW := Lib.hid hlw
            clear hlw
            have hreml : l.size ≤ 9100000 := by omega
            have hremt : T.size ≤ 60040000000 := by omega
            have g5 : ¬ 9223372036854775807 < T.size + 1 := by omega
            have g6 : ¬ 9223372036854775807 < T.size + l.size := by omega
            have g7 : ¬ 9223372036854775807 < T.size + 1 + l.size := by omega
            have g8 : ¬ 9223372036854775807 < T.size + l.size + 2 := by omega
            have g9 : ¬ 9223372036854775807 < T.size + 1 + l.size + 2 := by omega
            have g10 : ¬ 9223372036854775807 < T.size := by omega
            rcases (by omega : k % 2 = 0 ∨ k % 2 = 1) with hq | hq
            · have hrem : (k : Int) % 2 = 0 := by omega
              have hat := at2
              go_wp2
              go_roundg gk'
              case measure => omega
              case rel => exact ⟨k + 1, _, rfl, by go_num, by rw [List.length_map]; omega, by rw [List.length_map]; omega, by simp only [ByteArray.size_append]; rw [show (⟨#[32, 10]⟩ : ByteArray).size = 2 from rfl, show (⟨#[]⟩ : ByteArray).size = 0 from rfl]; omega, HB2.out, text_next HX.out (by rw [if_pos hq]) HLW.out HRE.out⟩
            · have hrem : (k : Int) % 2 = 1 := by omega
              have hat := at21
              go_wp2
              go_roundg gk'
              case measure => omega
              case rel => exact ⟨k + 1, _, rfl, by go_num, by rw [List.length_map]; omega, by rw [List.length_map]; omega, by simp only [ByteArray.size_append]; rw [show (⟨#[32, 10]⟩ : ByteArray).size = 2 from rfl, show (⟨#[10]⟩ : ByteArray).size = 1 from rfl]; omega, HB2.out, text_next HX.out (by rw [if_neg (by omega)]) HLW.out HRE.out⟩
      · obtain rfl : k = L.length := by omega
        have g2 : decide ((L.length : Int) < (L.length : Int)) = false := decide_eq_false (by omega)
        have hTl : sq (tl T.data.toList) = sq (tl s.data.toList) := by
          have h1 := HRE.out
          rw [List.drop_eq_nil_of_le (by rw [List.length_map]; exact Nat.le_refl _), HL.out] at h1
          have h2 : T.data.toList = retext (lines s.data.toList) 0 [] := h1
          unfold tl
          rw [h2, blanked]
        have hTs : T.size ≤ 60040000000 := by omega
        have HE2 := Lib.hid (HE1.out.below hb)
        have HB2 := Lib.hid (HB1.out.trans (hb.mono HB1.out.size))
        have HTL := Lib.hid hTl
        clear hb hre hTl HRE hT
        by_cases hbig : 20000 < T.size
        · have g3 : decide ((20000 : Int) < (T.size : Int)) = true := decide_eq_true (by omega)
          have g3' : (20000 : Int) < (T.size : Int) := by omega
          go_wp2_with fail
          refine (HAL.out _ HE2.out).mono ?_
          rintro _ w3 ⟨rfl, hb3⟩
          have HB3 := Lib.hid (HB2.out.trans (hb3.mono HB2.out.size))
          clear hb3
          go_wp2
          go_ret
          exact ⟨rfl, HB3.out⟩
        · have g3 : decide ((20000 : Int) < (T.size : Int)) = false := decide_eq_false (by omega)
          have g3' : ¬ (20000 : Int) < (T.size : Int) := by omega
          rcases readAll_sq HTL.out with ⟨x, y, h1, h2⟩ | ⟨p, h1, h2⟩
          · have HP := Lib.hid (fun (w : World) (hE : TEnv w) => parse_bad h2 (by omega) hE)
            have HQ := Lib.hid (fun (w : World) (hE : TEnv w) => parse_bad h1 (by omega) hE)
            clear h1 h2
            go_wp2_with fail
            refine (HP.out _ HE2.out).mono ?_
            rintro _ w3 ⟨v3, rfl, hf3, hb3⟩
            obtain ⟨fb, rfl⟩ := hf3.form
            have HE3 := Lib.hid (HE2.out.below hb3)
            have HB3 := Lib.hid (HB2.out.trans (hb3.mono HB2.out.size))
            have HF3 := Lib.hid hf3
            clear hb3 hf3
            go_wp2_with fail
            refine (HQ.out _ HE3.out).mono ?_
            rintro _ w4 ⟨v4, rfl, hf4, hb4⟩
            obtain ⟨fc, rfl⟩ := hf4.form
            have HE4 := Lib.hid (HE3.out.below hb4)
            have HB4 := Lib.hid (HB3.out.trans (hb4.mono HB3.out.size))
            have HF4 := Lib.hid hf4
            have HF34 := Lib.hid (HF3.out.kept (Kept.of_below hb4) (fun b _ h q => absurd h (by omega)))
            clear hb4 hf4
            go_wp2_with fail
            refine (no_flt HF34.out (by decide) (by decide)).mono ?_
            rintro _ w' ⟨rfl, rfl⟩
            go_wp2_with fail
            refine (no_flt HF4.out (by decide) (by decide)).mono ?_
            rintro _ w' ⟨rfl, rfl⟩
            go_wp2_with fail
            refine (same_ok (cntL [] + 1) [] (.slice none 0 0) (.slice none 0 0) w4.heap.size w4 (by omega) (by unfold cntL; omega) (by unfold posL; rfl) (SlR.nil _ _) (SlR.nil _ _) (Nat.le_refl _)).mono ?_
            rintro _ w5 ⟨rfl, hb5⟩
            have HBB := Lib.hid (HB4.out.trans (hb5.mono HB4.out.size)); have HEE := Lib.hid (HE4.out.below hb5)
            clear hb5
            go_wp2_with fail
            refine (HAL.out _ HEE.out).mono ?_
            rintro _ w9 ⟨rfl, hb9⟩
            have HB9 := Lib.hid (HBB.out.trans (hb9.mono HBB.out.size))
            clear hb9
            go_wp2
            go_ret
            exact ⟨rfl, HB9.out⟩
          · have HP := Lib.hid (fun (w : World) (hE : TEnv w) => parse_good h2 (by omega) hE)
            have HQ := Lib.hid (fun (w : World) (hE : TEnv w) => parse_good h1 (by omega) hE)
            have HPOS := Lib.hid (read_pos h2)
            have hcnt : cntL p ≤ 3001 := by
              have q1 := (read_pos h2).2
              have q2 := lines_len s.data.toList
              have q3 : s.data.toList.length = s.size := Array.length_toList
              unfold tl at q1
              rw [List.length_map] at q1
              omega
            clear h1 h2
            go_wp2_with fail
            refine (HP.out _ HE2.out).mono ?_
            rintro _ w3 ⟨v3, rfl, hv3, hb3⟩
            have hr3 := hv3.read
            obtain ⟨pt3, cp3, rfl⟩ := hr3.shape
            have HE3 := Lib.hid (HE2.out.below hb3)
            have HB3 := Lib.hid (HB2.out.trans (hb3.mono HB2.out.size))
            have HR3 := Lib.hid hr3
            clear hb3 hr3 hv3
            go_wp2_with fail
            refine (HQ.out _ HE3.out).mono ?_
            rintro _ w4 ⟨v4, rfl, hv4, hb4⟩
            have hr4 := hv4.read
            obtain ⟨pt4, cp4, rfl⟩ := hr4.shape
            have HE4 := Lib.hid (HE3.out.below hb4)
            have HB4 := Lib.hid (HB3.out.trans (hb4.mono HB3.out.size))
            have HS := Lib.hid (same_ok (cntL p + 1) p _ _ w4.heap.size w4 (by omega) (by omega) HPOS.out.1 (HR3.out.kept (Kept.of_below hb4) (fun b h1 h2 => ⟨by omega, by have := hb4.size; omega⟩)) hr4 (Nat.le_refl _))
            clear hb4 hr4 hv4
            go_wp2_with fail
            refine (no_nil w4).mono ?_
            rintro _ w' ⟨rfl, rfl⟩
            go_wp2_with fail
            refine (no_nil w4).mono ?_
            rintro _ w' ⟨rfl, rfl⟩
            go_wp2_with fail
            refine HS.out.mono ?_
            rintro _ w5 ⟨rfl, hb5⟩
            have HBB := Lib.hid (HB4.out.trans (hb5.mono HB4.out.size)); have HEE := Lib.hid (HE4.out.below hb5)
            clear hb5
            go_wp2_with fail
            refine (HAL.out _ HEE.out).mono ?_
            rintro _ w9 ⟨rfl, hb9⟩
            have HB9 := Lib.hid (HBB.out.trans (hb9.mono HBB.out.size))
            clear hb9
            go_wp2
            go_ret
            exact ⟨rfl, HB9.out⟩
end Go.Proofs.YtikgbgminhgpdaaGreatDoor
