/- Layer 10 (text): Parse. -/
import Derived.Test.YtikgbgminhgpdaaGreatDoorTxtBlock
import Derived.Test.YtikgbgminhgpdaaGreatDoorTextSplit
namespace Go.Proofs.YtikgbgminhgpdaaGreatDoor
open Go.RowKit Tx
set_option maxRecDepth 10000

/-- The lines of a text, as words. -/
def tl (s : Bs) : List (List Bs) := (lines s).map words
/-- Where a fault lies. -/
def badN (n : Nat) : Bad → Int
  | none => (n : Int) + 1
  | some k => ((n - k : Nat) : Int)
/-- What Parse answers. -/
def ParsePost (s : ByteArray) (w : World) (e : Ending) (w' : World) : Prop :=
  Below w.heap.size w w' ∧ if 20000 < s.size then e = .returned (.tuple #[.slice none 0 0, .iface 53 (.int .i64 8)]) else match readAll (tl s.data.toList) with
    | .error x => ∃ v, e = .returned (.tuple #[.slice none 0 0, v]) ∧ Flt w.heap.size w' v (badN (lines s.data.toList).length x) 9
    | .ok p => ∃ v, e = .returned (.tuple #[v, .nilIface]) ∧ SlV w.heap.size w' p v
def MaxLen (w : World) (m : Int) : Prop := w.cell? ⟨1, 0, none⟩ = some (.int .i64 m)
set_option maxHeartbeats 4000000 in
theorem parse_ok (s : ByteArray) {w : World} {m : Int} (hm : MaxLen w m) : Calls Tryz.prog 13 #[.string s] w (ParsePost s w) := by
  by_cases h2 : 20000 < s.size
  · have g : decide ((20000 : Int) < (s.size : Int)) = true := decide_eq_true (by omega)
    have g' : (20000 : Int) < (s.size : Int) := by omega
    go_enter Tryz.func13, Tryz.ntmps13
    go_wp2
    go_ret2
    refine ⟨Below.refl _ _, ?_⟩
    rw [if_pos h2]
    rfl
  · have g : decide ((20000 : Int) < (s.size : Int)) = false := decide_eq_false (by omega)
    have g' : ¬ (20000 : Int) < (s.size : Int) := by omega
    have HSP := Lib.hid (Tryz.strings_Split s ⟨#[10]⟩ m w (by omega) hm (by decide))
    have hsp := split_pieces s
    have hct := Lib.splitB_all ⟨#[10]⟩ (by decide) 0 _ s rfl
    have hsl := split_len 10 s.data.toList
    have hsd : s.data.toList.length = s.size := by simp
    obtain ⟨pcs, hpc⟩ : ∃ pcs, Lib.splitB ⟨#[10]⟩ 0 (Lib.countB s ⟨#[10]⟩) s = pcs := ⟨_, rfl⟩
    rw [hpc] at HSP hsp hct
    have hne : pcs ≠ [] := fun e => by rw [e] at hct; simp at hct
    obtain ⟨pre, last, rfl⟩ : ∃ pre last, pcs = pre ++ [last] := ⟨pcs.dropLast, pcs.getLast hne, (List.dropLast_concat_getLast hne).symm⟩
    rw [← hct] at HSP
    have hpl : (pre ++ [last]).length = pre.length + 1 := by simp
    rw [hpl] at HSP
    have hln : lines s.data.toList = if last.data.toList = [] then pre.map (·.data.toList) else (pre ++ [last]).map (·.data.toList) := by
      unfold lines
      rw [← hsp, List.map_append, List.map_cons, List.map_nil, dropEnd_last]
    have hfit : pre.length + 1 ≤ 1048576 ∧ ∀ x ∈ pre ++ [last], x.size ≤ 1048576 := by
      rw [← hsp, List.length_map, hpl, hsd] at hsl
      refine ⟨by omega, fun x hx => ?_⟩
      have := hsl.2 x.data.toList (List.mem_map_of_mem hx)
      have e : x.data.toList.length = x.size := by simp
      omega
    have hw1 : IntKind.i64.wrap (((pre.length + 1 : Nat) : Int) - 1) = (pre.length : Int) := by
      rw [show ((pre.length + 1 : Nat) : Int) - 1 = (pre.length : Int) by omega]
      exact IntWalk.i64_in _ (by omega)
    have hw2 : IntKind.i64.wrap ((pre.length : Int) + 1 - 1) = (pre.length : Int) := by
      rw [show (pre.length : Int) + 1 - 1 = (pre.length : Int) by omega]
      exact IntWalk.i64_in _ (by omega)
    have hw3 : IntKind.i64.wrap (pre.length : Int) = (pre.length : Int) := IntWalk.i64_in _ (by omega)
    simp only [List.map_append, List.map_cons, List.map_nil] at HSP
    have q0 : (pre.map Value.string ++ [Value.string last]).toArray[pre.length]? = some (.string last) := by simp
    have q1 : (pre.map Value.string ++ [Value.string last])[pre.length]? = some (.string last) := by simp
    clear hct hne hpc hsp hsl hpl hm
    by_cases h0 : last.data.toList = []
    · have HLN := Lib.hid (show lines s.data.toList = pre.map (·.data.toList) by rw [hln, if_pos h0])
      obtain rfl : last = ⟨#[]⟩ := by
        obtain ⟨⟨l⟩⟩ := last
        simp only at h0
        rw [h0]
      clear hln h0
      go_enter Tryz.func13, Tryz.ntmps13
      go_wp2_with (go_at_call 26; refine HSP.out.mono ?_; rintro e w' ⟨rfl, rfl⟩)
      obtain ⟨W, hW⟩ : ∃ W, (w.alloc (.cells (pre.map Value.string ++ [Value.string ⟨#[]⟩]).toArray 9)).alloc (.cells #[.slice (some ⟨w.heap.size, 0, none⟩) pre.length (pre.length + 1), .int .i64 0] 68) = W := ⟨_, rfl⟩
      have hC1 : Cells (w.alloc (.cells (pre.map Value.string ++ [Value.string ⟨#[]⟩]).toArray 9)) w.heap.size (pre.map Value.string ++ [Value.string ⟨#[]⟩]) 9 := Cells.new _ _ _
      have hC2 : Cells W w.heap.size (pre.map Value.string ++ [Value.string ⟨#[]⟩]) 9 := by rw [← hW]; exact hC1.alloc _
      have hR : Cells W (w.heap.size + 1) [.slice (some ⟨w.heap.size, 0, none⟩) pre.length (pre.length + 1), .int .i64 0] 68 := by
        have := Cells.new (w.alloc (.cells (pre.map Value.string ++ [Value.string ⟨#[]⟩]).toArray 9)) [.slice (some ⟨w.heap.size, 0, none⟩) pre.length (pre.length + 1), .int .i64 0] 68
        rw [World.size_alloc] at this
        rw [← hW]
        exact this
      have hB : Below w.heap.size w W := by rw [← hW]; exact ((Below.refl _ w).alloc (Nat.le_refl _) _).alloc (by simp) _
      have hsz : W.heap.size = w.heap.size + 2 := by rw [← hW]; simp
      have hRd : Rd (w.heap.size + 1) w.heap.size pre (pre.length + 1) W 0 := ⟨hR.cast (by rfl), fun k x hx => by
        rw [hC2.cell k, List.getElem?_append_left (by rw [List.length_map]; exact (List.getElem?_eq_some_iff.1 hx).1), List.getElem?_map, hx]; rfl, hC2.lt, by omega, ⟨by omega, fun x hx => hfit.2 x (List.mem_append_left _ hx)⟩⟩
      have hls : lsAt pre 0 = tl s.data.toList := by
        unfold lsAt tl
        rw [List.drop_zero, HLN.out, List.map_map]
        rfl
      have HNN := Lib.hid (show (lines s.data.toList).length = pre.length by rw [HLN.out, List.length_map])
      have hbk := (blk_all (w.heap.size + 1) w.heap.size pre (pre.length + 1) pre.length).1 W 0 hRd (Nat.zero_le _) (by omega)
      have HBK := Lib.hid hbk; have HB := Lib.hid hB
      have HRA := Lib.hid (readAll_Blk (tl s.data.toList))
      rw [hls.symm] at HRA
      have HLS := Lib.hid hls
      rw [hW]
      clear hbk hls hRd hB hR hC2 hC1 hW hfit
      refine HBK.out.mono ?_
      rintro e w2 ⟨hk, hp⟩
      have HK := Lib.hid (HB.out.trans (hk.below (B := w.heap.size) (by omega) (fun k h1 e => by omega)))
      have lw2 := hk.size
      clear hk
      cases hB : Blk (lsAt pre 0) with
      | error x =>
        rw [hB] at hp
        obtain ⟨v, rfl, hfl⟩ := hp
        obtain ⟨fb, rfl⟩ := hfl.form
        have HFL := Lib.hid hfl
        have HE := Lib.hid (show readAll (tl s.data.toList) = .error x by rw [← HLS.out, HRA.out, hB])
        clear hB hfl HRA
        go_wp2
        refine bodyPost_ret (v := .tuple #[.slice none 0 0, .iface 60 (.pointer (some ⟨fb, 0, none⟩))]) (by simp [results, Tryz.results13, go_sem]) rfl ?_
        refine ⟨HK.out, ?_⟩
        rw [if_neg h2, HE.out]
        refine ⟨_, rfl, ?_⟩
        rw [HNN.out]
        have := HFL.out.low (B' := w.heap.size) (by omega)
        cases x <;> exact this
      | ok x =>
        obtain ⟨p, f, r⟩ := x
        rw [hB] at hp
        obtain ⟨v, rfl, hsl, hrd⟩ := hp
        obtain ⟨vp, vn, vc, rfl, -⟩ := hsl.shape
        have HSL := Lib.hid hsl
        have HE := Lib.hid (show readAll (tl s.data.toList) = if f = .text then .ok p else .error (place f r) by rw [← HLS.out, HRA.out, hB])
        clear hB hsl HRA
        cases f with
        | text =>
          clear hrd
          go_wp2
          refine bodyPost_ret (v := .tuple #[.slice vp vn vc, .nilIface]) (by simp [results, Tryz.results13, go_sem]) rfl ?_
          refine ⟨HK.out, ?_⟩
          rw [if_neg h2, HE.out]
          exact ⟨_, rfl, HSL.out.kept (by omega) (Kept.refl (fun _ => False) w2) (fun _ _ _ => id)⟩
        | block =>
          rcases hrd with ⟨q, _⟩ | ⟨_, b, hrb, rfl, hab, hbl⟩
          · cases q
          have HFT := Lib.hid (fault_ok hrb)
          clear hrb
          go_wp2_with (go_at_call 28; refine (HFT.out).mono ?_; rintro e w4 ⟨v4, rfl, hfl, hb4⟩; obtain ⟨fb, rfl⟩ := hfl.form; have HFL := Lib.hid hfl; clear hfl)
          refine bodyPost_ret (v := .tuple #[.slice none 0 0, .iface 60 (.pointer (some ⟨fb, 0, none⟩))]) (by simp [results, Tryz.results13, go_sem]) rfl ?_
          refine ⟨HK.out.trans (hb4.mono (by omega)), ?_⟩
          rw [if_neg h2, HE.out]
          refine ⟨_, rfl, ?_⟩
          have hq : badN (lines s.data.toList).length (some (lsAt pre b).length) = (b : Int) := by unfold badN; rw [lsAt_len, HNN.out]; simp only; omega
          exact (show Flt w.heap.size w4 _ (badN (lines s.data.toList).length (some (lsAt pre b).length)) 9 by rw [hq]; exact HFL.out.low (by omega))
        | els =>
          rcases hrd with ⟨q, _⟩ | ⟨_, b, hrb, rfl, hab, hbl⟩
          · cases q
          have HFT := Lib.hid (fault_ok hrb)
          clear hrb
          go_wp2_with (go_at_call 28; refine (HFT.out).mono ?_; rintro e w4 ⟨v4, rfl, hfl, hb4⟩; obtain ⟨fb, rfl⟩ := hfl.form; have HFL := Lib.hid hfl; clear hfl)
          refine bodyPost_ret (v := .tuple #[.slice none 0 0, .iface 60 (.pointer (some ⟨fb, 0, none⟩))]) (by simp [results, Tryz.results13, go_sem]) rfl ?_
          refine ⟨HK.out.trans (hb4.mono (by omega)), ?_⟩
          rw [if_neg h2, HE.out]
          refine ⟨_, rfl, ?_⟩
          have hq : badN (lines s.data.toList).length (some (lsAt pre b).length) = (b : Int) := by unfold badN; rw [lsAt_len, HNN.out]; simp only; omega
          exact (show Flt w.heap.size w4 _ (badN (lines s.data.toList).length (some (lsAt pre b).length)) 9 by rw [hq]; exact HFL.out.low (by omega))
    · have HLN := Lib.hid (show lines s.data.toList = (pre ++ [last]).map (·.data.toList) by rw [hln, if_neg h0])
      have hX : last.toList = last.data.toList := ByteArray.toList_eq last
      have gE : last.data.toList.isEmpty = false := by
        cases hl : last.data.toList with
        | nil => exact absurd hl h0
        | cons a b => rfl
      have gB : (last.data.toList == []) = false := by simpa using h0
      have hlen : (pre ++ [last]).length = pre.length + 1 := by simp
      clear hln h0
      go_enter Tryz.func13, Tryz.ntmps13
      go_wp2_with (go_at_call 26; refine HSP.out.mono ?_; rintro e w' ⟨rfl, rfl⟩)
      obtain ⟨W, hW⟩ : ∃ W, (w.alloc (.cells (pre.map Value.string ++ [Value.string last]).toArray 9)).alloc (.cells #[.slice (some ⟨w.heap.size, 0, none⟩) (pre.length + 1) (pre.length + 1), .int .i64 0] 68) = W := ⟨_, rfl⟩
      have hC1 : Cells (w.alloc (.cells (pre.map Value.string ++ [Value.string last]).toArray 9)) w.heap.size (pre.map Value.string ++ [Value.string last]) 9 := Cells.new _ _ _
      have hC2 : Cells W w.heap.size (pre.map Value.string ++ [Value.string last]) 9 := by rw [← hW]; exact hC1.alloc _
      have hR : Cells W (w.heap.size + 1) [.slice (some ⟨w.heap.size, 0, none⟩) (pre.length + 1) (pre.length + 1), .int .i64 0] 68 := by
        have := Cells.new (w.alloc (.cells (pre.map Value.string ++ [Value.string last]).toArray 9)) [.slice (some ⟨w.heap.size, 0, none⟩) (pre.length + 1) (pre.length + 1), .int .i64 0] 68
        rw [World.size_alloc] at this
        rw [← hW]
        exact this
      have hB : Below w.heap.size w W := by rw [← hW]; exact ((Below.refl _ w).alloc (Nat.le_refl _) _).alloc (by simp) _
      have hsz : W.heap.size = w.heap.size + 2 := by rw [← hW]; simp
      have hRd : Rd (w.heap.size + 1) w.heap.size (pre ++ [last]) (pre.length + 1) W 0 := ⟨hR.cast (by rw [hlen]; rfl), fun k x hx => by
        have e : pre.map Value.string ++ [Value.string last] = (pre ++ [last]).map Value.string := by simp
        rw [hC2.cell k, e, List.getElem?_map, hx]; rfl, hC2.lt, by omega, ⟨by simp; omega, hfit.2⟩⟩
      have hls : lsAt (pre ++ [last]) 0 = tl s.data.toList := by
        unfold lsAt tl
        rw [List.drop_zero, HLN.out, List.map_map]
        rfl
      have HNN := Lib.hid (show (lines s.data.toList).length = (pre ++ [last]).length by rw [HLN.out, List.length_map])
      have hbk := (blk_all (w.heap.size + 1) w.heap.size (pre ++ [last]) (pre.length + 1) (pre ++ [last]).length).1 W 0 hRd (Nat.zero_le _) (by omega)
      have HBK := Lib.hid hbk; have HB := Lib.hid hB
      have HRA := Lib.hid (readAll_Blk (tl s.data.toList))
      rw [hls.symm] at HRA
      have HLS := Lib.hid hls
      rw [hW]
      clear hbk hls hRd hB hR hC2 hC1 hW hfit
      refine HBK.out.mono ?_
      rintro e w2 ⟨hk, hp⟩
      have HK := Lib.hid (HB.out.trans (hk.below (B := w.heap.size) (by omega) (fun k h1 e => by omega)))
      have lw2 := hk.size
      clear hk
      cases hB : Blk (lsAt (pre ++ [last]) 0) with
      | error x =>
        rw [hB] at hp
        obtain ⟨v, rfl, hfl⟩ := hp
        obtain ⟨fb, rfl⟩ := hfl.form
        have HFL := Lib.hid hfl
        have HE := Lib.hid (show readAll (tl s.data.toList) = .error x by rw [← HLS.out, HRA.out, hB])
        clear hB hfl HRA
        go_wp2
        refine bodyPost_ret (v := .tuple #[.slice none 0 0, .iface 60 (.pointer (some ⟨fb, 0, none⟩))]) (by simp [results, Tryz.results13, go_sem]) rfl ?_
        refine ⟨HK.out, ?_⟩
        rw [if_neg h2, HE.out]
        refine ⟨_, rfl, ?_⟩
        rw [HNN.out]
        have := HFL.out.low (B' := w.heap.size) (by omega)
        cases x <;> exact this
      | ok x =>
        obtain ⟨p, f, r⟩ := x
        rw [hB] at hp
        obtain ⟨v, rfl, hsl, hrd⟩ := hp
        obtain ⟨vp, vn, vc, rfl, -⟩ := hsl.shape
        have HSL := Lib.hid hsl
        have HE := Lib.hid (show readAll (tl s.data.toList) = if f = .text then .ok p else .error (place f r) by rw [← HLS.out, HRA.out, hB])
        clear hB hsl HRA
        cases f with
        | text =>
          clear hrd
          go_wp2
          refine bodyPost_ret (v := .tuple #[.slice vp vn vc, .nilIface]) (by simp [results, Tryz.results13, go_sem]) rfl ?_
          refine ⟨HK.out, ?_⟩
          rw [if_neg h2, HE.out]
          exact ⟨_, rfl, HSL.out.kept (by omega) (Kept.refl (fun _ => False) w2) (fun _ _ _ => id)⟩
        | block =>
          rcases hrd with ⟨q, _⟩ | ⟨_, b, hrb, rfl, hab, hbl⟩
          · cases q
          have HFT := Lib.hid (fault_ok hrb)
          clear hrb
          go_wp2_with (go_at_call 28; refine (HFT.out).mono ?_; rintro e w4 ⟨v4, rfl, hfl, hb4⟩; obtain ⟨fb, rfl⟩ := hfl.form; have HFL := Lib.hid hfl; clear hfl)
          refine bodyPost_ret (v := .tuple #[.slice none 0 0, .iface 60 (.pointer (some ⟨fb, 0, none⟩))]) (by simp [results, Tryz.results13, go_sem]) rfl ?_
          refine ⟨HK.out.trans (hb4.mono (by omega)), ?_⟩
          rw [if_neg h2, HE.out]
          refine ⟨_, rfl, ?_⟩
          have hq : badN (lines s.data.toList).length (some (lsAt (pre ++ [last]) b).length) = (b : Int) := by unfold badN; rw [lsAt_len, HNN.out]; simp only; omega
          exact (show Flt w.heap.size w4 _ (badN (lines s.data.toList).length (some (lsAt (pre ++ [last]) b).length)) 9 by rw [hq]; exact HFL.out.low (by omega))
        | els =>
          rcases hrd with ⟨q, _⟩ | ⟨_, b, hrb, rfl, hab, hbl⟩
          · cases q
          have HFT := Lib.hid (fault_ok hrb)
          clear hrb
          go_wp2_with (go_at_call 28; refine (HFT.out).mono ?_; rintro e w4 ⟨v4, rfl, hfl, hb4⟩; obtain ⟨fb, rfl⟩ := hfl.form; have HFL := Lib.hid hfl; clear hfl)
          refine bodyPost_ret (v := .tuple #[.slice none 0 0, .iface 60 (.pointer (some ⟨fb, 0, none⟩))]) (by simp [results, Tryz.results13, go_sem]) rfl ?_
          refine ⟨HK.out.trans (hb4.mono (by omega)), ?_⟩
          rw [if_neg h2, HE.out]
          refine ⟨_, rfl, ?_⟩
          have hq : badN (lines s.data.toList).length (some (lsAt (pre ++ [last]) b).length) = (b : Int) := by unfold badN; rw [lsAt_len, HNN.out]; simp only; omega
          exact (show Flt w.heap.size w4 _ (badN (lines s.data.toList).length (some (lsAt (pre ++ [last]) b).length)) 9 by rw [hq]; exact HFL.out.low (by omega))
end Go.Proofs.YtikgbgminhgpdaaGreatDoor
