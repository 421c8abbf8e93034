/- Layer 5 (thread): the law's example (alive). -/
import Derived.Test.YtfehonejcambgaaGreatDoorBody
import Derived.Test.YtfehonejcambgaaGreatDoorClone
namespace Go.Proofs.YtfehonejcambgaaGreatDoor
open Go.RowKit Bl Th
set_option maxRecDepth 10000

/-- The example's program, its blocks, and the thread behind each step. -/
def alP : List Micro := [⟨4, 0, 1, 0, false, 0⟩, ⟨1, 0, 0, 0, false, 1⟩, ⟨2, 0, 0, 1, true, 1⟩, ⟨1, 0, 0, 0, false, 1⟩]
def alS : BS := ⟨List.replicate 20 0, 1, [], []⟩
def al : Nat → TS Unit × BS
  | 0 => (Th.start (), alS)
  | k + 1 => ((Th.step (body alP) (al k).1 (al k).2).2.1, (Th.step (body alP) (al k).1 (al k).2).2.2)
theorem al_open : ∀ k, k < 4 → (al k).1.done = false ∧ (Th.step (body alP) (al k).1 (al k).2).1 = 0 ∧ (al k).1.steps = k
  | 0, _ => ⟨by kernel_rfl, by kernel_rfl, by kernel_rfl⟩
  | 1, _ => ⟨by kernel_rfl, by kernel_rfl, by kernel_rfl⟩
  | 2, _ => ⟨by kernel_rfl, by kernel_rfl, by kernel_rfl⟩
  | 3, _ => ⟨by kernel_rfl, by kernel_rfl, by kernel_rfl⟩
theorem al_end : (al 4).1.done = true ∧ (al 4).1.steps = 4 ∧ (al 4).1.log.length = 4 ∧ (al 4).2.ws.getD 2 0 = 1 ∧ (al 4).2.ws.length = 20 := ⟨by kernel_rfl, by kernel_rfl, by kernel_rfl, by kernel_rfl, by kernel_rfl⟩
theorem al_prg (W w : World) (g : Nat) (Q : List Nat) (hg : g ∈ Q) (h : Cells w g [.int .i64 4, .int .i64 0, .int .i64 1, .int .u64 0, .bool false, .int .i64 0, .int .i64 1, .int .i64 0, .int .i64 0, .int .u64 0, .bool false, .int .i64 1, .int .i64 2, .int .i64 0, .int .i64 0, .int .u64 1, .bool true, .int .i64 1, .int .i64 1, .int .i64 0, .int .i64 0, .int .u64 0, .bool false, .int .i64 1] 54) : Prg W w (.slice (some ⟨g, 0, none⟩) 4 4) Q alP := by
  refine ⟨⟨_, _, rfl, fun _ => ⟨g, 0, rfl, fun k m hk j hj => .inl ⟨hg, ?_⟩⟩⟩, by decide, by decide⟩
  rw [h.cell]
  match k, hk with
  | 0, hk => simp [alP] at hk; subst hk; match j, hj with | 0, _ => rfl | 1, _ => rfl | 2, _ => rfl | 3, _ => rfl | 4, _ => rfl | 5, _ => rfl
  | 1, hk => simp [alP] at hk; subst hk; match j, hj with | 0, _ => rfl | 1, _ => rfl | 2, _ => rfl | 3, _ => rfl | 4, _ => rfl | 5, _ => rfl
  | 2, hk => simp [alP] at hk; subst hk; match j, hj with | 0, _ => rfl | 1, _ => rfl | 2, _ => rfl | 3, _ => rfl | 4, _ => rfl | 5, _ => rfl
  | 3, hk => simp [alP] at hk; subst hk; match j, hj with | 0, _ => rfl | 1, _ => rfl | 2, _ => rfl | 3, _ => rfl | 4, _ => rfl | 5, _ => rfl
  | k + 4, hk => simp [alP] at hk
/-- A load of the arena itself. -/
theorem held_arena {W : World} {R : List Nat} {pa pb : Nat} {S : BS} {wr : World} (h : Held W R pa pb S wr) (i : Nat) (hi : i < S.ws.length) :
    Calls Tryz.prog 22 #[.pointer (some ⟨pa, 0, none⟩), .int .i64 i] wr fun e w' => e = .returned (.tuple #[.int .u64 (S.ws.getD i 0 : Nat), .nilIface]) ∧ HeldBy R wr w' ∧ Below W.heap.size W w' := by
  obtain ⟨L, rfl, h1, h2⟩ := h.lay
  refine (arena_load h1.arena i hi).mono ?_
  rintro e w' ⟨rfl, _, hk⟩
  have hp := h2 L.pa (mem_pa _ _)
  exact ⟨rfl, fun b hb => hk.block b (h.held b hb) fun e => hp.2 (e ▸ hb), h.below.trans (hk.below h.below.size fun k hk' e => by have := hp.1; omega)⟩

set_option maxHeartbeats 4000000 in
theorem alive5_ok (w : World) (hg : Handle w) : Calls Tryz.prog 6 #[] w fun e w' => e = .returned (.bool true) ∧ Below w.heap.size w w' := by
  have HG := Lib.hid hg
  clear hg
  go_enter Tryz.func6, Tryz.ntmps6
  go_wp2_with fail
  refine (on_held 20 1 (by omega) (by omega) (by omega) w).mono ?_
  rintro e w1 ⟨pa, pb, rfl, h1⟩
  have H1 := Lib.hid h1
  clear h1
  have B2 := (Below.refl w1.heap.size w1).alloc (Nat.le_refl _) (.cells #[.int .i64 4, .int .i64 0, .int .i64 1, .int .u64 0, .bool false, .int .i64 0, .int .i64 1, .int .i64 0, .int .i64 0, .int .u64 0, .bool false, .int .i64 1, .int .i64 2, .int .i64 0, .int .i64 0, .int .u64 1, .bool true, .int .i64 1, .int .i64 1, .int .i64 0, .int .i64 0, .int .u64 0, .bool false, .int .i64 1] 54)
  have B3 := B2.alloc (by simp) (.cells #[.slice (some ⟨w1.heap.size, 0, none⟩) 4 4] 22)
  have H3 : Held w [w1.heap.size, w1.heap.size + 1] pa pb alS ((w1.alloc (.cells #[.int .i64 4, .int .i64 0, .int .i64 1, .int .u64 0, .bool false, .int .i64 0, .int .i64 1, .int .i64 0, .int .i64 0, .int .u64 0, .bool false, .int .i64 1, .int .i64 2, .int .i64 0, .int .i64 0, .int .u64 1, .bool true, .int .i64 1, .int .i64 1, .int .i64 0, .int .i64 0, .int .u64 0, .bool false, .int .i64 1] 54)).alloc (.cells #[.slice (some ⟨w1.heap.size, 0, none⟩) 4 4] 22)) := H1.out.came B3 [w1.heap.size, w1.heap.size + 1] (by intro b hb; simp at hb ⊢; omega)
  have C3 : Cells ((w1.alloc (.cells #[.int .i64 4, .int .i64 0, .int .i64 1, .int .u64 0, .bool false, .int .i64 0, .int .i64 1, .int .i64 0, .int .i64 0, .int .u64 0, .bool false, .int .i64 1, .int .i64 2, .int .i64 0, .int .i64 0, .int .u64 1, .bool true, .int .i64 1, .int .i64 1, .int .i64 0, .int .i64 0, .int .u64 0, .bool false, .int .i64 1] 54)).alloc (.cells #[.slice (some ⟨w1.heap.size, 0, none⟩) 4 4] 22)) w1.heap.size [.int .i64 4, .int .i64 0, .int .i64 1, .int .u64 0, .bool false, .int .i64 0, .int .i64 1, .int .i64 0, .int .i64 0, .int .u64 0, .bool false, .int .i64 1, .int .i64 2, .int .i64 0, .int .i64 0, .int .u64 1, .bool true, .int .i64 1, .int .i64 1, .int .i64 0, .int .i64 0, .int .u64 0, .bool false, .int .i64 1] 54 := (Cells.new w1 [.int .i64 4, .int .i64 0, .int .i64 1, .int .u64 0, .bool false, .int .i64 0, .int .i64 1, .int .i64 0, .int .i64 0, .int .u64 0, .bool false, .int .i64 1, .int .i64 2, .int .i64 0, .int .i64 0, .int .u64 1, .bool true, .int .i64 1, .int .i64 1, .int .i64 0, .int .i64 0, .int .u64 0, .bool false, .int .i64 1] 54).alloc _
  have D3 : ((w1.alloc (.cells #[.int .i64 4, .int .i64 0, .int .i64 1, .int .u64 0, .bool false, .int .i64 0, .int .i64 1, .int .i64 0, .int .i64 0, .int .u64 0, .bool false, .int .i64 1, .int .i64 2, .int .i64 0, .int .i64 0, .int .u64 1, .bool true, .int .i64 1, .int .i64 1, .int .i64 0, .int .i64 0, .int .u64 0, .bool false, .int .i64 1] 54)).alloc (.cells #[.slice (some ⟨w1.heap.size, 0, none⟩) 4 4] 22)).cell? ⟨w1.heap.size + 1, 0, none⟩ = some (.slice (some ⟨w1.heap.size, 0, none⟩) 4 4) := by
    have := (Cells.new (w1.alloc (.cells #[.int .i64 4, .int .i64 0, .int .i64 1, .int .u64 0, .bool false, .int .i64 0, .int .i64 1, .int .i64 0, .int .i64 0, .int .u64 0, .bool false, .int .i64 1, .int .i64 2, .int .i64 0, .int .i64 0, .int .u64 1, .bool true, .int .i64 1, .int .i64 1, .int .i64 0, .int .i64 0, .int .u64 0, .bool false, .int .i64 1] 54)) [.slice (some ⟨w1.heap.size, 0, none⟩) 4 4] 22).cell 0
    simpa only [World.size_alloc, List.getElem?_cons_zero] using this
  have A3 : (prgAux w (w1.heap.size + 1) alP).at' () [w1.heap.size, w1.heap.size + 1] ((w1.alloc (.cells #[.int .i64 4, .int .i64 0, .int .i64 1, .int .u64 0, .bool false, .int .i64 0, .int .i64 1, .int .i64 0, .int .i64 0, .int .u64 0, .bool false, .int .i64 1, .int .i64 2, .int .i64 0, .int .i64 0, .int .u64 1, .bool true, .int .i64 1, .int .i64 1, .int .i64 0, .int .i64 0, .int .u64 0, .bool false, .int .i64 1] 54)).alloc (.cells #[.slice (some ⟨w1.heap.size, 0, none⟩) 4 4] 22)) := ⟨by simp, _, D3, al_prg _ _ _ _ (by simp) C3⟩
  have HN := Lib.hid (tnew_ok H3 (prgAux w (w1.heap.size + 1) alP) () A3 (fun _ h => h) 23 #[.pointer (some ⟨w1.heap.size + 1, 0, none⟩)])
  clear B2 B3 H3 C3 D3 A3
  go_wp2_with fail
  refine (body_ok _ ⟨_, _, _, rfl⟩ _).mono ?_
  rintro e w3 ⟨rfl, hw3⟩
  have hz : (w1.alloc (.cells #[.int .i64 4, .int .i64 0, .int .i64 1, .int .u64 0, .bool false, .int .i64 0, .int .i64 1, .int .i64 0, .int .i64 0, .int .u64 0, .bool false, .int .i64 1, .int .i64 2, .int .i64 0, .int .i64 0, .int .u64 1, .bool true, .int .i64 1, .int .i64 1, .int .i64 0, .int .i64 0, .int .u64 0, .bool false, .int .i64 1] 54)).heap.size = w1.heap.size + 1 := by simp
  rw [hz]
  rw [hw3] at HN
  clear hw3 hz
  go_wp2_with fail
  refine HN.out.mono ?_
  rintro e w4 ⟨pt, rfl, ht4, hh4, hb4⟩
  have H4 := Lib.hid (show Thr w pb pt (.func (.func 23) #[] #[.pointer (some ⟨w1.heap.size + 1, 0, none⟩)]) (prgAux w (w1.heap.size + 1) alP) (al 0).1 (pt :: [w1.heap.size, w1.heap.size + 1]) w4 from ht4)
  have HH4 := Lib.hid (show Held w ((pt :: [w1.heap.size, w1.heap.size + 1]) ++ []) pa pb (al 0).2 w4 from by rw [List.append_nil]; exact hh4)
  have HBD := Lib.hid (micro_body HG.out pa pb (w1.heap.size + 1) alP)
  clear ht4 hh4 hb4 HN
  go_wp2
  obtain ⟨bp, hbp⟩ : ∃ bp, w1.heap.size + 1 = bp := ⟨_, rfl⟩
  obtain ⟨Q0, hQ0⟩ : ∃ Q0, [w1.heap.size, w1.heap.size + 1] = Q0 := ⟨_, rfl⟩
  rw [hQ0] at H4 HH4
  rw [hbp] at H4 HBD
  clear hQ0 hbp
  go_loopw [4] (fun n wr => ∃ (k : Nat) (B : List Nat), k ≤ 4 ∧ n = .int .i64 (k : Int) ∧ Thr w pb pt (.func (.func 23) #[] #[.pointer (some ⟨bp, 0, none⟩)]) (prgAux w bp alP) (al k).1 B wr ∧ Held w (B ++ []) pa pb (al k).2 wr) (fun n _ => 4 - (intOf n).toNat)
  case atStart => exact ⟨0, _, by omega, rfl, H4.out, HH4.out⟩
  case round =>
    obtain ⟨k, B, hk, rfl, ht, hh⟩ := hrel
    have HT := Lib.hid ht; have HH := Lib.hid hh
    clear ht hh H4 HH4
    by_cases hlt : k < 4
    · obtain ⟨d1, d2, d3⟩ := al_open k hlt
      have HD := Lib.hid (tdone_ok HT.out)
      rw [d1] at HD
      have HS := Lib.hid (tstep_open HBD.out HT.out HH.out (by simp) d1 (by rw [d3]; omega))
      have HE2 := Lib.hid d2
      clear d1 d2 d3
      go_wp2_with fail
      refine HD.out.mono ?_
      rintro e w' ⟨rfl, rfl⟩
      go_wp2_with fail
      refine HS.out.mono ?_
      rintro e w5 ⟨v, E, B', rfl, he, ht', hh', hx, hE, hBR⟩
      rw [HE2.out] at he
      obtain ⟨rfl, rfl⟩ := he.isNil rfl
      have HT' := Lib.hid ht'; have HH' := Lib.hid hh'
      clear he ht' hh' hx hE hBR HS HE2 HD
      go_wp2_with fail
      refine (no_nil _).mono ?_
      rintro e w' ⟨rfl, rfl⟩
      go_wp2
      go_roundw
      case rel => exact ⟨k + 1, B', by omega, by go_num, HT'.out, HH'.out⟩
      case measure => simp [intOf]; omega
    · obtain rfl : k = 4 := by omega
      obtain ⟨d1, d2, d3, d4, d5⟩ := al_end
      have HD := Lib.hid (tdone_ok HT.out)
      rw [d1] at HD
      have HA := Lib.hid (held_arena HH.out 2 (by rw [d5]; omega))
      rw [d4] at HA
      have HD2 := Lib.hid d2; have HD3 := Lib.hid d3
      clear d1 d2 d3 d4 d5
      go_wp2_with fail
      refine HD.out.mono ?_
      rintro e w' ⟨rfl, rfl⟩
      go_wp2_with fail
      refine HA.out.mono ?_
      rintro e w6 ⟨rfl, hx6, hb6⟩
      have HT6 := Lib.hid (HT.out.heldBy hx6 (fun b hb => by simp [hb]))
      have HB6 := Lib.hid hb6
      have HST := Lib.hid (tsteps_ok HT6.out)
      rw [HD2.out] at HST
      have HLG := Lib.hid (tlog_ok HT6.out)
      rw [HD3.out] at HLG
      clear hx6 hb6 HA HD
      go_wp2_with fail
      refine (no_nil _).mono ?_
      rintro e w' ⟨rfl, rfl⟩
      go_wp2_with fail
      refine HST.out.mono ?_
      rintro e w' ⟨rfl, rfl⟩
      go_wp2_with fail
      refine HLG.out.mono ?_
      rintro e w7 ⟨v', rfl, ho7, hb7⟩
      obtain ⟨p7, cap7, rfl⟩ := ownsRow_shape ho7
      have HB7 := Lib.hid (HB6.out.trans (hb7.mono HB6.out.size))
      clear ho7 hb7 HLG HST
      go_wp2
      go_ret
      exact ⟨rfl, HB7.out⟩
end Go.Proofs.YtfehonejcambgaaGreatDoor
