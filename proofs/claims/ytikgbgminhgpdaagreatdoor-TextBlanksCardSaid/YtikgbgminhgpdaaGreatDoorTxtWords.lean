/- Layer 10 (text): the document's Words. -/
import Derived.Test.YtikgbgminhgpdaaGreatDoorTxtLines
namespace Go.Proofs.YtikgbgminhgpdaaGreatDoor
open Go.RowKit Tx
set_option maxRecDepth 10000

def openW (cur : Bs) : Option Bs := if cur = [] then none else some cur
theorem wf_letter {c : UInt8} (h : c ≠ 32) (l cur : Bs) : wf (c :: l) (openW cur) = wf l (openW (cur ++ [c])) := by
  have h2 : openW (cur ++ [c]) = some (cur ++ [c]) := by unfold openW; rw [if_neg (by simp)]
  rw [h2]
  unfold openW
  split
  · rename_i e
    rw [e]
    simp [wf, h]
  · simp [wf, h]
theorem wf_blank (l cur : Bs) : wf (32 :: l) (openW cur) = (if cur = [] then [] else [cur]) ++ wf l none := by
  unfold openW
  split <;> simp [wf]
theorem wf_end (cur : Bs) : wf [] (openW cur) = if cur = [] then [] else [cur] := by
  unfold openW
  split <;> simp [wf]
/-- What Words answers. -/
def WordsPost (s : ByteArray) (w : World) (e : Ending) (w' : World) : Prop :=
  Below w.heap.size w w' ∧ ∃ v L, e = .returned v ∧ StrRow w.heap.size w' v L ∧ L.map (·.data.toList) = words s.data.toList ∧ L.length ≤ s.size + 1
/-- How far Words is. -/
def WordsJ (s : ByteArray) (w : World) (gf : Nat) (v cv i : Value) (wx : World) : Prop :=
  ∃ (cur : ByteArray) (k : Nat) (L : List ByteArray), cv = .string cur ∧ i = .int .i64 (k : Int) ∧ k ≤ s.size + 1 ∧ L.length ≤ k ∧ cur.size ≤ k ∧ StrRow w.heap.size wx v L ∧ Below w.heap.size w wx ∧
    ((k ≤ s.size ∧ words s.data.toList = L.map (·.data.toList) ++ wf (s.data.toList.drop k) (openW cur.data.toList)) ∨ (k = s.size + 1 ∧ words s.data.toList = L.map (·.data.toList))) ∧ s.size + 2 ≤ k + gf
set_option maxHeartbeats 4000000 in
theorem words_ok (s : ByteArray) (w : World) (hs : s.size ≤ 1048576) : Calls Tryz.prog 16 #[.string s] w (WordsPost s w) := by
  have hsd : s.data.toList.length = s.size := by simp
  go_enter Tryz.func16, Tryz.ntmps16
  go_wp2
  go_loopg [3, 4, 5] (s.size + 2) (fun gf v cv i wx => WordsJ s w gf v cv i wx)
  case atStart => exact ⟨⟨#[]⟩, 0, [], rfl, rfl, Nat.zero_le _, Nat.le_refl _, Nat.le_refl _, World.ownsRow_nil _ _ _ _, Below.refl _ _, .inl ⟨Nat.zero_le _, (wf_words _).symm⟩, by omega⟩
  case round =>
    obtain ⟨cur, k, L, rfl, rfl, h1, h2, h3, hrow, hb, hinv, hfu⟩ := hrel
    obtain ⟨gk', rfl⟩ : ∃ g', gk = g' + 1 := ⟨gk - 1, by omega⟩
    have hw1 : IntKind.i64.wrap ((k : Int) + 1) = (k : Int) + 1 := IntWalk.i64_in _ (by omega)
    obtain ⟨vp, vn, vc, rfl⟩ : ∃ p n c, u3 = .slice p n c := by
      rcases hrow.2 with ⟨rfl, _⟩ | ⟨g, cap, cu, rfl, _⟩
      · exact ⟨_, _, _, rfl⟩
      · exact ⟨_, _, _, rfl⟩
    obtain ⟨i0, hi0, hz0, hz1, hz2⟩ := info_parts strInfo
    have hX : cur.toList = cur.data.toList := ByteArray.toList_eq cur
    rcases hinv with ⟨hk, hwd⟩ | ⟨rfl, hwd⟩
    · have g1 : decide ((k : Int) ≤ (s.size : Int)) = true := decide_eq_true (by omega)
      have g1' : (k : Int) ≤ (s.size : Int) := by omega
      have g1'' : k ≤ s.size := hk
      by_cases hlet : ∃ c, s.data.toList[k]? = some c ∧ c ≠ 32
      · obtain ⟨c, hc, h32⟩ := hlet
        have hlt : k < s.size := by
          have := (List.getElem?_eq_some_iff.1 hc).1
          omega
        have hcx : (s[k]'hlt) = c := at_of rfl hc hlt
        have g2 : decide ((k : Int) < (s.size : Int)) = true := decide_eq_true (by omega)
        have g2' : (k : Int) < (s.size : Int) := by omega
        have g3 : ((c.toNat : Int) != 32) = true := by
          have := u8_ne h32
          have e : (32 : UInt8).toNat = 32 := rfl
          simp
          omega
        have g4 : ¬ 9223372036854775807 < cur.size + (min (k + 1) s.size - k) := by omega
        have hd : s.data.toList.drop k = c :: s.data.toList.drop (k + 1) := by
          obtain ⟨hl, e⟩ := List.getElem?_eq_some_iff.1 hc
          rw [List.drop_eq_getElem_cons hl, e]
        have hex : (s.extract k (k + 1)).data.toList = [c] := by
          rw [extract_list, hd, show k + 1 - k = 1 by omega]
          rfl
        have HW2 := Lib.hid (show words s.data.toList = L.map (·.data.toList) ++ wf (s.data.toList.drop (k + 1)) (openW (cur ++ s.extract k (k + 1)).data.toList) by
          rw [hwd, hd, wf_letter h32, ByteArray.data_append, Array.toList_append, hex])
        have HROW := Lib.hid hrow; have HB := Lib.hid hb
        clear hrow hb hwd hd hex hc
        go_wp2
        go_roundg gk'
        case measure => omega
        case rel => exact ⟨cur ++ s.extract k (k + 1), k + 1, L, by go_num, by go_num, by omega, by omega, by rw [ByteArray.size_append, ByteArray.size_extract]; omega, HROW.out, HB.out, .inl ⟨by omega, HW2.out⟩, by omega⟩
      · have hwd2 : words s.data.toList = (if cur.data.toList = [] then L else L ++ [cur]).map (·.data.toList) ++ wf (s.data.toList.drop (k + 1)) none := by
          rcases Nat.lt_or_ge k s.size with hlt | hge
          · obtain ⟨c, hc⟩ : ∃ c, s.data.toList[k]? = some c := ⟨_, List.getElem?_eq_getElem (by omega)⟩
            have hc32 : c = 32 := Decidable.byContradiction fun q => hlet ⟨c, hc, q⟩
            have hd : s.data.toList.drop k = 32 :: s.data.toList.drop (k + 1) := by
              obtain ⟨hl, e⟩ := List.getElem?_eq_some_iff.1 hc
              rw [List.drop_eq_getElem_cons hl, e, hc32]
            rw [hwd, hd, wf_blank]
            split <;> simp
          · have hd : s.data.toList.drop k = [] := List.drop_eq_nil_of_le (by omega)
            have hd2 : s.data.toList.drop (k + 1) = [] := List.drop_eq_nil_of_le (by omega)
            rw [hwd, hd, hd2, wf_end]
            split <;> simp [wf]
        have hnext : ∀ L' : List ByteArray, words s.data.toList = L'.map (·.data.toList) ++ wf (s.data.toList.drop (k + 1)) none → ((k + 1 ≤ s.size ∧ words s.data.toList = L'.map (·.data.toList) ++ wf (s.data.toList.drop (k + 1)) (openW (⟨#[]⟩ : ByteArray).data.toList)) ∨ (k + 1 = s.size + 1 ∧ words s.data.toList = L'.map (·.data.toList))) := by
          intro L' h
          rcases Nat.lt_or_ge k s.size with hlt | hge
          · exact .inl ⟨hlt, h⟩
          · refine .inr ⟨by omega, ?_⟩
            rw [h, List.drop_eq_nil_of_le (by omega)]
            simp [wf]
        have g3 : (k : Int) < (s.size : Int) → ∀ h : k < s.size, (((s[k]'h).toNat : Int) != 32) = false := by
          intro _ h
          have hc32 : (s[k]'h) = 32 := Decidable.byContradiction fun q => hlet ⟨s[k]'h, by rw [List.getElem?_eq_getElem (by omega)]; rfl, q⟩
          rw [hc32]; rfl
        have HN := Lib.hid hnext
        have HW3 := Lib.hid hwd2
        clear hwd hwd2 hnext hlet
        have lw := hb.size
        by_cases h0 : cur.data.toList = []
        · obtain rfl : cur = ⟨#[]⟩ := by
            obtain ⟨⟨l⟩⟩ := cur
            simp only at h0
            rw [h0]
          have HW4 := Lib.hid (HN.out L (by rw [HW3.out, if_pos h0]))
          have HROW := Lib.hid hrow; have HB := Lib.hid hb
          clear hrow hb HN HW3 h0 hX
          rcases Nat.lt_or_ge k s.size with hlt | hge
          · have g2 : decide ((k : Int) < (s.size : Int)) = true := decide_eq_true (by omega)
            have g2' : (k : Int) < (s.size : Int) := by omega
            have g5 := g3 g2' hlt
            clear g3
            go_wp2
            go_roundg gk'
            case measure => omega
            case rel => exact ⟨⟨#[]⟩, k + 1, L, by go_num, by go_num, by omega, by omega, Nat.zero_le _, HROW.out, HB.out, HW4.out, by omega⟩
          · have g2 : decide ((k : Int) < (s.size : Int)) = false := decide_eq_false (by omega)
            have g2' : ¬ (k : Int) < (s.size : Int) := by omega
            clear g3
            go_wp2
            go_roundg gk'
            case measure => omega
            case rel => exact ⟨⟨#[]⟩, k + 1, L, by go_num, by go_num, by omega, by omega, Nat.zero_le _, HROW.out, HB.out, HW4.out, by omega⟩
        · have gE : cur.data.toList.isEmpty = false := by
            cases hl : cur.data.toList with
            | nil => exact absurd hl h0
            | cons a b => rfl
          have gB : (cur.data.toList == []) = false := by simpa using h0
          have HW4 := Lib.hid (HN.out (L ++ [cur]) (by rw [HW3.out, if_neg h0]))
          have HROW := Lib.hid (show (wr.alloc (.cells #[.string cur] 9)).ownsRow _ _ _ _ _ _ from World.ownsRow.alloc hrow _)
          have HB := Lib.hid (hb.alloc hb.size (.cells #[.string cur] 9))
          have HNEWS := Lib.hid (news_str wr cur)
          clear hrow hb HN HW3 h0
          rcases Nat.lt_or_ge k s.size with hlt | hge
          · have g2 : decide ((k : Int) < (s.size : Int)) = true := decide_eq_true (by omega)
            have g2' : (k : Int) < (s.size : Int) := by omega
            have g5 := g3 g2' hlt
            clear g3
            go_wp2_with (at_builtin; refine wpList_append_lies _ rfl _ _ 36 rfl w.heap.size 9 i0 _ 1 16 Tryz.underlying36 hi0 hz0 hz1 hz2 rfl (by omega) _ L.length (L.map Value.string) rfl HROW.out ⟨wr.heap.size, 0, none⟩ 1 1 [.string cur] rfl rfl HNEWS.out (by intro u hu; simp at hu; subst hu; rfl) (by omega) (by unfold maxLen; omega) (by omega) HB.out.size _ rfl ?_; intro gg cap8 w8 hown8 hgrow8 hat8 hlt8)
            go_roundg gk'
            case measure => omega
            case rel => exact ⟨⟨#[]⟩, k + 1, L ++ [cur], by go_num, by go_num, by omega, by simp; omega, Nat.zero_le _, by unfold StrRow; simpa using hown8, HB.out.grown hgrow8 HB.out.size (fun q hq => (HROW.out.lt q hq).1), HW4.out, by omega⟩
          · have g2 : decide ((k : Int) < (s.size : Int)) = false := decide_eq_false (by omega)
            have g2' : ¬ (k : Int) < (s.size : Int) := by omega
            clear g3
            go_wp2_with (at_builtin; refine wpList_append_lies _ rfl _ _ 36 rfl w.heap.size 9 i0 _ 1 16 Tryz.underlying36 hi0 hz0 hz1 hz2 rfl (by omega) _ L.length (L.map Value.string) rfl HROW.out ⟨wr.heap.size, 0, none⟩ 1 1 [.string cur] rfl rfl HNEWS.out (by intro u hu; simp at hu; subst hu; rfl) (by omega) (by unfold maxLen; omega) (by omega) HB.out.size _ rfl ?_; intro gg cap8 w8 hown8 hgrow8 hat8 hlt8)
            go_roundg gk'
            case measure => omega
            case rel => exact ⟨⟨#[]⟩, k + 1, L ++ [cur], by go_num, by go_num, by omega, by simp; omega, Nat.zero_le _, by unfold StrRow; simpa using hown8, HB.out.grown hgrow8 HB.out.size (fun q hq => (HROW.out.lt q hq).1), HW4.out, by omega⟩
    · have g1 : decide (((s.size + 1 : Nat) : Int) ≤ (s.size : Int)) = false := decide_eq_false (by omega)
      have g1' : ¬ ((s.size : Int) + 1) ≤ (s.size : Int) := by omega
      have g1'' : decide (((s.size : Int) + 1) ≤ (s.size : Int)) = false := decide_eq_false (by omega)
      have HROW := Lib.hid hrow; have HB := Lib.hid hb; have HW := Lib.hid hwd
      clear hrow hb hwd
      go_wp2
      go_ret
      exact ⟨HB.out, _, L, rfl, HROW.out, HW.out.symm, h2⟩
end Go.Proofs.YtikgbgminhgpdaaGreatDoor
