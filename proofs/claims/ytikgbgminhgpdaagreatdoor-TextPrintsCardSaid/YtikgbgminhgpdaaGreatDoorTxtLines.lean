/- Layer 10 (text): the document's Lines and Words. -/
import Derived.Test.YtikgbgminhgpdaaGreatDoorTxtParse
namespace Go.Proofs.YtikgbgminhgpdaaGreatDoor
open Go.RowKit Tx
set_option maxRecDepth 10000

theorem strInfo : (Tryz.prog.info? 9).map (fun i => (i.zero, i.size, i.bytes)) = some (some (.string ⟨#[]⟩), 1, 16) := by kernel_rfl
/-- A row of strings. -/
def StrRow (B : Nat) (w : World) (v : Value) (L : List ByteArray) : Prop := w.ownsRow B 9 1 v L.length (L.map Value.string)
theorem news_str (w : World) (x : ByteArray) : ∀ j u, [Value.string x][j]? = some u → (w.alloc (.cells #[.string x] 9)).cell? ((⟨w.heap.size, 0, none⟩ : Addr).add j) = some u := by
  have := World.news_of_block (w := w.alloc (.cells #[.string x] 9)) (B := w.heap.size) (cs := #[.string x]) (t := 9) (fr := (0, 0)) (heap_alloc_new w _)
  simpa using this
theorem split_at (c : UInt8) : ∀ (p r : Bs), c ∉ p → split c (p ++ c :: r) = p :: split c r := split_app c
/-- What Lines answers. -/
def LinesPost (s : ByteArray) (w : World) (e : Ending) (w' : World) : Prop :=
  Below w.heap.size w w' ∧ ∃ v L, e = .returned v ∧ StrRow w.heap.size w' v L ∧ L.map (·.data.toList) = lines s.data.toList
theorem extract_list (s : ByteArray) (a b : Nat) : (s.extract a b).data.toList = (s.data.toList.drop a).take (b - a) := by
  simp only [ByteArray.data_extract, Array.toList_extract, List.extract_eq_take_drop]
set_option maxHeartbeats 4000000 in
theorem lines_ok (s : ByteArray) (w : World) (hs : s.size ≤ 1048576) : Calls Tryz.prog 15 #[.string s] w (LinesPost s w) := by
  have hsd : s.data.toList.length = s.size := by simp
  go_enter Tryz.func15, Tryz.ntmps15
  go_wp2
  go_loopg [3, 4, 5] (s.size + 1) (fun gf v fr i wx => ∃ (f k : Nat) (L : List ByteArray), fr = .int .i64 (f : Int) ∧ i = .int .i64 (k : Int) ∧ f ≤ k ∧ k ≤ s.size ∧ L.length ≤ k ∧ StrRow w.heap.size wx v L ∧ Below w.heap.size w wx ∧
    split 10 s.data.toList = L.map (·.data.toList) ++ split 10 (s.data.toList.drop f) ∧ (10 : UInt8) ∉ (s.data.toList.drop f).take (k - f) ∧ s.size + 1 ≤ k + gf)
  case atStart => exact ⟨0, 0, [], rfl, rfl, Nat.le_refl _, Nat.zero_le _, by simp, World.ownsRow_nil _ _ _ _, Below.refl _ _, rfl, by simp, by omega⟩
  case round =>
    obtain ⟨f, k, L, rfl, rfl, h1, h2, h3, hrow, hb, hsp, hno, hfu⟩ := hrel
    obtain ⟨gk', rfl⟩ : ∃ g', gk = g' + 1 := ⟨gk - 1, by omega⟩
    have hw1 : IntKind.i64.wrap ((k : Int) + 1) = (k : Int) + 1 := IntWalk.i64_in _ (by omega)
    obtain ⟨vp, vn, vc, rfl⟩ : ∃ p n c, u3 = .slice p n c := by
      rcases hrow.2 with ⟨rfl, _⟩ | ⟨g, cap, cur, rfl, _⟩
      · exact ⟨_, _, _, rfl⟩
      · exact ⟨_, _, _, rfl⟩
    obtain ⟨i0, hi0, hz0, hz1, hz2⟩ := info_parts strInfo
    by_cases hk : k < s.size
    · have g1 : decide ((k : Int) < (s.size : Int)) = true := decide_eq_true (by omega)
      have g1' : (k : Int) < (s.size : Int) := by omega
      obtain ⟨c, hc⟩ : ∃ c, s.data.toList[k]? = some c := ⟨_, List.getElem?_eq_getElem (by omega)⟩
      have hcx : (s[k]'hk) = c := at_of rfl hc hk
      by_cases h10 : c = 10
      · have hdk : (s.data.toList.drop f).drop (k - f) = 10 :: s.data.toList.drop (k + 1) := by
          rw [List.drop_drop, show f + (k - f) = k by omega]
          obtain ⟨hl, e⟩ := List.getElem?_eq_some_iff.1 hc
          rw [List.drop_eq_getElem_cons hl, e, h10]
        have hsp2 : split 10 s.data.toList = (L ++ [s.extract f k]).map (·.data.toList) ++ split 10 (s.data.toList.drop (k + 1)) := by
          rw [hsp]
          have : s.data.toList.drop f = (s.data.toList.drop f).take (k - f) ++ 10 :: s.data.toList.drop (k + 1) := by
            rw [← hdk, List.take_append_drop]
          rw [this, split_at 10 _ _ hno]
          simp
        have HROW := Lib.hid (show (wr.alloc (.cells #[.string (s.extract f k)] 9)).ownsRow _ _ _ _ _ _ from World.ownsRow.alloc hrow _)
        have HB := Lib.hid (hb.alloc hb.size (.cells #[.string (s.extract f k)] 9))
        have HNEWS := Lib.hid (news_str wr (s.extract f k))
        have HS := Lib.hid hsp2
        have e10 : c.toNat = 10 := by rw [h10]; rfl
        have lw := hb.size
        clear hrow hb hsp hno hsp2 hdk
        go_wp2_with (at_builtin; refine wpList_append_lies _ rfl _ _ 36 rfl w.heap.size 9 i0 _ 1 16 Tryz.underlying36 hi0 hz0 hz1 hz2 rfl (by omega) _ L.length (L.map Value.string) rfl HROW.out ⟨wr.heap.size, 0, none⟩ 1 1 [.string (s.extract f k)] rfl rfl HNEWS.out (by intro u hu; simp at hu; subst hu; rfl) (by omega) (by unfold maxLen; omega) (by omega) HB.out.size _ rfl ?_; intro gg cap8 w8 hown8 hgrow8 hat8 hlt8)
        go_roundg gk'
        case measure => omega
        case rel =>
          refine ⟨k + 1, k + 1, L ++ [s.extract f k], by go_num, by go_num, Nat.le_refl _, by omega, by simp; omega, by unfold StrRow; simpa using hown8, HB.out.grown hgrow8 HB.out.size (fun q hq => (HROW.out.lt q hq).1), HS.out, by simp, by omega⟩
      · have hno2 : (10 : UInt8) ∉ (s.data.toList.drop f).take (k + 1 - f) := by
          have e1 : k + 1 - f = (k - f) + 1 := by omega
          have e2 : (s.data.toList.drop f)[k - f]? = some c := by rw [List.getElem?_drop, show f + (k - f) = k by omega]; exact hc
          rw [e1, List.take_add_one, e2]
          simp only [Option.toList_some, List.mem_append, List.mem_singleton, not_or]
          exact ⟨hno, fun e => h10 e.symm⟩
        have g2 : ((c.toNat : Int) == 10) = false := by
          have := u8_ne h10
          have e : (10 : UInt8).toNat = 10 := rfl
          simp
          omega
        have g3 : (c.toNat == 10) = false := by
          have := u8_ne h10
          have e : (10 : UInt8).toNat = 10 := rfl
          simp
          omega
        have HROW := Lib.hid hrow; have HB := Lib.hid hb; have HS := Lib.hid hsp; have HNO := Lib.hid hno2
        clear hrow hb hsp hno hno2
        go_wp2
        go_roundg gk'
        case measure => omega
        case rel => exact ⟨f, k + 1, L, by go_num, by go_num, by omega, by omega, by omega, HROW.out, HB.out, HS.out, HNO.out, by omega⟩
    · obtain rfl : k = s.size := by omega
      have g1 : decide ((s.size : Int) < (s.size : Int)) = false := decide_eq_false (by omega)
      have hone : split 10 (s.data.toList.drop f) = [s.data.toList.drop f] := by
        refine split_one 10 _ ?_
        rw [List.take_of_length_le (by rw [List.length_drop, hsd]; omega)] at hno
        exact hno
      have hln : lines s.data.toList = if s.data.toList.drop f = [] then L.map (·.data.toList) else L.map (·.data.toList) ++ [s.data.toList.drop f] := by
        unfold lines
        rw [hsp, hone, dropEnd_last]
      by_cases hf : f < s.size
      · have g2 : decide ((f : Int) < (s.size : Int)) = true := decide_eq_true (by omega)
        have hne : ¬ s.data.toList.drop f = [] := fun e => by
          have := congrArg List.length e
          rw [List.length_drop, hsd] at this
          simp at this
          omega
        have hxe : (s.extract f s.size).data.toList = s.data.toList.drop f := by
          rw [extract_list, List.take_of_length_le (by rw [List.length_drop, hsd]; omega)]
        have HLN := Lib.hid (show (L ++ [s.extract f s.size]).map (·.data.toList) = lines s.data.toList by rw [hln, if_neg hne]; simp only [List.map_append, List.map_cons, List.map_nil, hxe])
        have HROW := Lib.hid (show (wr.alloc (.cells #[.string (s.extract f s.size)] 9)).ownsRow _ _ _ _ _ _ from World.ownsRow.alloc hrow _)
        have HB := Lib.hid (hb.alloc hb.size (.cells #[.string (s.extract f s.size)] 9))
        have HNEWS := Lib.hid (news_str wr (s.extract f s.size))
        have lw := hb.size
        have g2' : (f : Int) < (s.size : Int) := by omega
        have g1' : ¬ (s.size : Int) < (s.size : Int) := by omega
        clear hrow hb hsp hno hone hln hne hxe
        go_wp2_with (at_builtin; refine wpList_append_lies _ rfl _ _ 36 rfl w.heap.size 9 i0 _ 1 16 Tryz.underlying36 hi0 hz0 hz1 hz2 rfl (by omega) _ L.length (L.map Value.string) rfl HROW.out ⟨wr.heap.size, 0, none⟩ 1 1 [.string (s.extract f s.size)] rfl rfl HNEWS.out (by intro u hu; simp at hu; subst hu; rfl) (by omega) (by unfold maxLen; omega) (by omega) HB.out.size _ rfl ?_; intro gg cap8 w8 hown8 hgrow8 hat8 hlt8)
        go_ret
        exact ⟨HB.out.grown hgrow8 HB.out.size (fun q hq => (HROW.out.lt q hq).1), _, L ++ [s.extract f s.size], rfl, by unfold StrRow; simpa using hown8, HLN.out⟩
      · have g2 : decide ((f : Int) < (s.size : Int)) = false := decide_eq_false (by omega)
        have g2' : ¬ (f : Int) < (s.size : Int) := by omega
        have g1' : ¬ (s.size : Int) < (s.size : Int) := by omega
        have hne : s.data.toList.drop f = [] := List.drop_eq_nil_of_le (by rw [hsd]; omega)
        have HLN := Lib.hid (show L.map (·.data.toList) = lines s.data.toList by rw [hln, if_pos hne])
        have HROW := Lib.hid hrow; have HB := Lib.hid hb
        clear hrow hb hsp hno hone hln hne
        go_wp2
        go_ret
        exact ⟨HB.out, _, L, rfl, HROW.out, HLN.out⟩
end Go.Proofs.YtikgbgminhgpdaaGreatDoor
