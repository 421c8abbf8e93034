/- Layer 13's laws: the document's own functions, over rows of numbers: Same, Writes, First, Do. -/
import Derived.Test.YtmdganpealbmpaaGreatDoorBody13a
import Derived.Test.YtmdganpealbmpaaGreatDoorAlonePlain13
import Derived.Laws.OwnMore
import Derived.Maps.AppendAt
import Derived.BigQuiet
import Derived.Deep.QuietTactic
namespace Go.Proofs.YtmdganpealbmpaaGreatDoor
open Go.RowKit Bl Th
set_option maxRecDepth 10000

theorem row_at {w : World} {base n cap : Nat} {p : Option Addr} {l : List Nat} {k x : Nat} (h : w.ownsRow base 41 1 (.slice p n cap) n (encT l)) (hx : l[k]? = some x) : ∃ g, p = some ⟨g, 0, none⟩ ∧ w.cell? ⟨g, k, none⟩ = some (.int .u64 (x : Int)) := by
  have hl := h.1
  have hk := (List.getElem?_eq_some_iff.1 hx).1
  simp only [encT, List.length_map] at hl
  rcases h.2 with ⟨-, h0⟩ | ⟨g, c, cur, hv, -, -⟩
  · omega
  · simp only [Value.slice.injEq] at hv
    obtain ⟨rfl, -, rfl⟩ := hv
    refine ⟨g, rfl, ?_⟩
    rw [h.cellAt k (by omega), encT, List.getElem?_map, hx]
    rfl
set_option maxHeartbeats 1000000 in
theorem same13_ok {w : World} {b1 b2 : Nat} {v1 v2 : Value} {l : List Nat} (h1 : w.ownsRow b1 41 1 v1 l.length (encT l)) (h2 : w.ownsRow b2 41 1 v2 l.length (encT l)) (hl : l.length ≤ 1000) :
    Calls Tryz.prog 15 #[v1, v2] w fun e w' => e = .returned (.bool true) ∧ Below w.heap.size w w' := by
  obtain ⟨p1, c1, rfl⟩ := ownsRow_shape h1
  obtain ⟨p2, c2, rfl⟩ := ownsRow_shape h2
  obtain ⟨len, hlen⟩ : ∃ len, l.length = len := ⟨_, rfl⟩
  rw [hlen] at hl h1 h2 ⊢
  have H1 := Lib.hid h1; have H2 := Lib.hid h2
  have HLEN := Lib.hid hlen
  clear h1 h2 hlen
  have g0 : ((len : Int) != (len : Int)) = false := by simp
  have g1 : (len != len) = false := by simp
  go_enter Tryz.func15, Tryz.ntmps15
  go_wp2
  go_loopw [5] (fun i wr => ∃ k n : Nat, k ≤ len ∧ i = .int .i64 (k : Int) ∧ wr = w.drewN n) (fun i _ => len - (intOf i).toNat)
  case atStart => exact ⟨0, 0, Nat.zero_le _, rfl, rfl⟩
  case round =>
    obtain ⟨k, n, hk, rfl, rfl⟩ := hrel
    by_cases hlt : k < len
    · have hlt' : (k : Int) < (len : Int) := by omega
      obtain ⟨x, hx⟩ : ∃ x, l[k]? = some x := ⟨l[k]'(by rw [HLEN.out]; exact hlt), List.getElem?_eq_getElem _⟩
      obtain ⟨ga, rfl, ha⟩ := row_at H1.out hx
      obtain ⟨gb, rfl, hb⟩ := row_at H2.out hx
      have g2 : ((x : Int) != (x : Int)) = false := by simp
      clear hx
      go_wp2
      go_quiet (fail)
      go_wp2
      go_roundw
      case rel => exact ⟨k + 1, _, by omega, by go_num, rfl⟩
      case measure => simp [intOf]; omega
    · obtain rfl : k = len := by omega
      have g3 : decide ((k : Int) < (k : Int)) = false := by simp
      go_wp2
      go_ret
      exact ⟨rfl, below_drewN (Below.refl _ _) _⟩

theorem wr_take {l : List Op13} {k : Nat} {o : Op13} (h : l[k]? = some o) : Th.wr (l.take (k + 1)) = (Th.wr (l.take k) || decide (o.kind = 2)) := by
  have hk := (List.getElem?_eq_some_iff.1 h).1
  rw [List.take_add_one, h]
  simp [wr, List.any_append]
set_option maxHeartbeats 1000000 in
theorem first13_ok {n : Nat} (h3 : n ≤ 4) (w : World) : Calls Tryz.prog 13 #[.int .i64 (n : Int)] w fun e w' => ∃ v, e = .returned v ∧ w'.ownsRow w.heap.size 41 1 v n (encT ((List.range n).map (10 + ·))) ∧ Below w.heap.size w w' := by
  obtain ⟨i0, hi0, hz0, hz1, hz2⟩ := info_parts u64info
  go_enter Tryz.func13, Tryz.ntmps13
  go_wp2
  go_loopw [3, 4] (fun v i wr => ∃ k : Nat, k ≤ n ∧ i = .int .i64 (k : Int) ∧ wr.ownsRow w.heap.size 41 1 v k (encT ((List.range k).map (10 + ·))) ∧ Below w.heap.size w wr) (fun _ i _ => n - (intOf i).toNat)
  case atStart => exact ⟨0, Nat.zero_le _, rfl, World.ownsRow_nil _ _ _ _, Below.refl _ _⟩
  case round =>
    obtain ⟨k, hk, rfl, hr, hb⟩ := hrel
    obtain ⟨p, cap, rfl⟩ := ownsRow_shape hr
    have HR := Lib.hid hr; have HB := Lib.hid hb
    clear hr hb
    by_cases hlt : k < n
    · have hlt' : (k : Int) < (n : Int) := by omega
      have g1 : IntKind.i64.wrap (10 + (k : Int)) = 10 + (k : Int) := IntWalk.i64_in _ (by omega)
      have g2 : IntKind.u64.wrap (10 + (k : Int)) = 10 + (k : Int) := IntWalk.u64_in _ (by omega)
      have HS := Lib.hid (show w.heap.size ≤ (wr.alloc (.cells #[.int .u64 (10 + (k : Int))] 41)).heap.size by have := HB.out.size; simp; omega)
      have HF := Lib.hid (fun (v2 : Value) (w5 : World) (ho : w5.ownsRow w.heap.size 41 1 v2 (k + 1) (encT ((List.range k).map (10 + ·)) ++ [.int .u64 (10 + (k : Int))])) => (show w5.ownsRow w.heap.size 41 1 v2 (k + 1) (encT ((List.range (k + 1)).map (10 + ·))) by
        rw [List.range_succ, List.map_append]
        simpa [encT] using ho))
      go_wp2_with (first
        | (at_builtin; refine wpList_append_own _ rfl _ _ 31 rfl w.heap.size 41 i0 (.int .u64 0) 1 8 Tryz.underlying31 hi0 hz0 hz1 hz2 rfl (by omega) (.slice p k cap) k (encT ((List.range k).map (10 + ·))) rfl (HR.out.alloc _) ⟨wr.heap.size, 0, none⟩ 1 1 [.int .u64 (10 + (k : Int))] rfl rfl (cells_news wr [.int .u64 (10 + (k : Int))] _) (by intro u hu; simp at hu; subst hu; rfl) (by unfold maxLen; omega) (by omega) HS.out ?_; intro v2 w5 hown5 hgrow5 hnil5; have hB5 := (HB.out.alloc HB.out.size (.cells #[.int .u64 (10 + (k : Int))] 41)).grown hgrow5 HS.out (fun b hb => (HR.out.lt b hb).1))
        | go_in)
      go_roundw
      case rel => exact ⟨k + 1, by omega, by go_num, HF.out _ _ hown5, hB5⟩
      case measure => simp [intOf]; omega
    · obtain rfl : k = n := by omega
      have g3 : decide ((k : Int) < (k : Int)) = false := by simp
      go_wp2
      go_ret
      exact ⟨_, rfl, HR.out, HB.out⟩
end Go.Proofs.YtmdganpealbmpaaGreatDoor
