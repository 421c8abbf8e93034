/- Layer 5 (thread): the laws' comparisons of logs and of lists of refs. -/
import Derived.Test.YtfehonejcambgaaGreatDoorClone
import Derived.BigQuiet
import Derived.Laws.StructEq
import Derived.Deep.QuietTactic
namespace Go.Proofs.YtfehonejcambgaaGreatDoor
open Go.RowKit Bl Th
set_option maxRecDepth 10000

theorem entry_cells {w : World} {base : Nat} {v : Value} {l : List Ntry} (h : w.ownsRow base 70 6 v l.length (l.flatMap encE)) {k : Nat} {x : Ntry} (hx : l[k]? = some x) :
    ∃ g cap, v = .slice (some ⟨g, 0, none⟩) l.length cap ∧ l.length ≤ cap ∧ cap ≤ maxLen ∧ ∀ j, j < 6 → w.cell? ⟨g, k * 6 + j, none⟩ = (encE x)[j]? := by
  have hk : k < l.length := (List.getElem?_eq_some_iff.1 hx).1
  rcases h.2 with ⟨_, h0⟩ | ⟨g, cap, cur, rfl, hb, hg, hn, hm, hc, ht⟩
  · omega
  · refine ⟨g, cap, rfl, hn, hm, fun j hj => ?_⟩
    rw [← flat_at l k x hx j hj, ← ht, cell_of_row w g (k * 6 + j) cur 70 (0, 0) hg, List.getElem?_take, if_pos (by omega)]
    simp
theorem neq_entry (x : Ntry) (w : World) : (binOp .neq 70 (.agg #[.int .i64 (x.kind : Int), .int .u64 (x.ref : Int), .int .i64 x.i, .int .u64 (x.word : Int), .bool x.done, .int .i64 (x.err : Int)]) (.agg #[.int .i64 (x.kind : Int), .int .u64 (x.ref : Int), .int .i64 x.i, .int .u64 (x.word : Int), .bool x.done, .int .i64 (x.err : Int)])).run Tryz.prog w = .ok (.bool false) w := by
  have ht : Tryz.prog.underlying 70 = some (.struct (Tryz.prog.fieldsOf 70)) := by kernel_rfl
  rw [run_neq_struct, run_equalIn_agg (P := Tryz.prog) w 9999 70 _ _ ht (by kernel_rfl)]
  simp [go_sem, Tryz.underlying70, Tryz.underlying3, Tryz.underlying52, Tryz.underlying4, Tryz.underlying61]

set_option maxHeartbeats 1000000 in
theorem sameLog_ok {w : World} {b1 b2 : Nat} {v1 v2 : Value} {l : List Ntry} (h1 : w.ownsRow b1 70 6 v1 l.length (l.flatMap encE)) (h2 : w.ownsRow b2 70 6 v2 l.length (l.flatMap encE)) (hl : l.length ≤ 6000) :
    Calls Tryz.prog 13 #[v1, v2] w fun e w' => e = .returned (.bool true) ∧ Below w.heap.size w w' := by
  obtain ⟨p1, c1, hv1⟩ := ownsRow_shape h1
  obtain ⟨p2, c2, hv2⟩ := ownsRow_shape h2
  have H1 := Lib.hid h1; have H2 := Lib.hid h2
  have hn := neq_entry
  subst hv1 hv2
  obtain ⟨len, hlen⟩ : ∃ len, l.length = len := ⟨_, rfl⟩
  rw [hlen] at hl
  have HLEN := Lib.hid hlen
  rw [hlen]
  clear h1 h2 hlen
  have g0 : ((len : Int) != (len : Int)) = false := by simp
  have g1 : (len != len) = false := by simp
  go_enter Tryz.func13, Tryz.ntmps13
  go_wp2
  go_loopw [5] (fun i wr => ∃ k n : Nat, k ≤ len ∧ i = .int .i64 (k : Int) ∧ wr = w.drewN n) (fun i _ => len - (intOf i).toNat)
  case atStart => exact ⟨0, 0, Nat.zero_le _, rfl, rfl⟩
  case round =>
    obtain ⟨k, n, hk, rfl, rfl⟩ := hrel
    by_cases hlt : k < len
    · have hlt' : (k : Int) < (len : Int) := by omega
      obtain ⟨x, hx⟩ : ∃ x, l[k]? = some x := ⟨l[k]'(by rw [HLEN.out]; exact hlt), List.getElem?_eq_getElem _⟩
      obtain ⟨ga, ca, hva, hca1, hca2, hca⟩ := entry_cells H1.out hx
      obtain ⟨gb, cb, hvb, hcb1, hcb2, hcb⟩ := entry_cells H2.out hx
      rw [HLEN.out] at hva hvb
      obtain ⟨rfl, _, rfl⟩ := Value.slice.inj hva
      obtain ⟨rfl, _, rfl⟩ := Value.slice.inj hvb
      have a0 := hca 0 (by omega); have a1 := hca 1 (by omega); have a2 := hca 2 (by omega); have a3 := hca 3 (by omega); have a4 := hca 4 (by omega); have a5 := hca 5 (by omega)
      have d0 := hcb 0 (by omega); have d1 := hcb 1 (by omega); have d2 := hcb 2 (by omega); have d3 := hcb 3 (by omega); have d4 := hcb 4 (by omega); have d5 := hcb 5 (by omega)
      simp only [encE, List.getElem?_cons_zero, List.getElem?_cons_succ, Nat.add_zero] at a0 a1 a2 a3 a4 a5 d0 d1 d2 d3 d4 d5
      clear hca hcb hx hva hvb hca1 hca2 hcb1 hcb2
      go_wp2
      go_quiet (fail)
      go_wp2
      go_roundw
      case rel => exact ⟨k + 1, _, by omega, by go_num, rfl⟩
      case measure => simp [intOf]; omega
    · have g : decide ((k : Int) < (len : Int)) = false := by simp; omega
      go_wp2
      go_ret
      exact ⟨rfl, below_drewN (Below.refl _ _) _⟩
end Go.Proofs.YtfehonejcambgaaGreatDoor
