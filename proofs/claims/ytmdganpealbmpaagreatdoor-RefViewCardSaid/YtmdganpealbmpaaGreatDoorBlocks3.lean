/- Layer 2 (blocks), on: Alloc. -/
import Derived.Test.YtmdganpealbmpaaGreatDoorBlocks2
namespace Go.Proofs.YtmdganpealbmpaaGreatDoor
open Go.RowKit Bl
set_option maxRecDepth 10000

/-- Only what belongs to the blocks has changed, and what belongs to them now did so before, or is new. -/
structure Moved (pb : Nat) (L L' : Lay) (w w' : World) : Prop where
  kept : Kept (fun b => b ∈ L.all pb) w w'
  new : ∀ b ∈ L'.all pb, b ∈ L.all pb ∨ w.heap.size ≤ b
  pa : L'.pa = L.pa
theorem Moved.refl (pb : Nat) (L : Lay) (w : World) : Moved pb L L w w := ⟨Kept.refl _ _, fun _ h => Or.inl h, rfl⟩
theorem Moved.trans {pb : Nat} {L L1 L2 : Lay} {w w1 w2 : World} (h : Moved pb L L1 w w1) (k : Moved pb L1 L2 w1 w2) : Moved pb L L2 w w2 := by
  refine ⟨h.kept.then k.kept fun i hi hm => ?_, fun b hb => ?_, k.pa.trans h.pa⟩
  · rcases h.new i hm with e | e
    · exact e
    · omega
  · rcases k.new b hb with e | e
    · exact h.new b e
    · exact Or.inr (Nat.le_trans h.kept.size e)
theorem Moved.same {pb : Nat} {L : Lay} {w w' : World} {T : Nat → Prop} (k : Kept T w w') (hT : ∀ b, T b → b ∈ L.all pb) : Moved pb L L w w' :=
  ⟨k.mono fun _ _ h => hT _ h, fun _ h => Or.inl h, rfl⟩
theorem Moved.to {pb : Nat} {L L' : Lay} {w w' : World} {T : Nat → Prop} (k : Kept T w w') (hT : ∀ b, T b → b ∈ L.all pb) (hl : ∀ b ∈ L'.all pb, b ∈ L.all pb ∨ w.heap.size ≤ b) (hpa : L'.pa = L.pa) : Moved pb L L' w w' :=
  ⟨k.mono fun _ _ h => hT _ h, hl, hpa⟩

theorem mem_pb (pb : Nat) (L : Lay) : pb ∈ L.all pb := by simp [Lay.all]
theorem mem_pa (pb : Nat) (L : Lay) : L.pa ∈ L.all pb := by simp [Lay.all]
theorem mem_wb (pb : Nat) (L : Lay) : L.wb ∈ L.all pb := by simp [Lay.all]
theorem mem_bm (pb : Nat) (L : Lay) : L.bm ∈ L.all pb := by simp [Lay.all]
theorem mem_fm (pb : Nat) (L : Lay) : L.fm ∈ L.all pb := by simp [Lay.all]
theorem mem_xs (pb : Nat) (L : Lay) {x : Nat} (h : x ∈ L.xs) : x ∈ L.all pb := by simp [Lay.all, h]
theorem two_mem (pb : Nat) (L : Lay) : ∀ b, (b = L.pa ∨ b = L.wb) → b ∈ L.all pb := by
  rintro b (rfl | rfl)
  · exact mem_pa _ _
  · exact mem_wb _ _
theorem all_snoc (pb : Nat) (L : Lay) (x b : Nat) (h : b ∈ ({ L with xs := L.xs ++ [x] } : Lay).all pb) : b ∈ L.all pb ∨ b = x := by
  simp only [Lay.all, List.mem_cons, List.mem_append, List.not_mem_nil, or_false] at h ⊢
  rcases h with h | h | h | h | h | (h | h) | h
  · exact Or.inl (Or.inl h)
  · exact Or.inl (Or.inr (Or.inl h))
  · exact Or.inl (Or.inr (Or.inr (Or.inl h)))
  · exact Or.inl (Or.inr (Or.inr (Or.inr (Or.inl h))))
  · exact Or.inl (Or.inr (Or.inr (Or.inr (Or.inr (Or.inl h)))))
  · exact Or.inl (Or.inr (Or.inr (Or.inr (Or.inr (Or.inr (Or.inl h))))))
  · exact Or.inr h
  · exact Or.inl (Or.inr (Or.inr (Or.inr (Or.inr (Or.inr (Or.inr h))))))

set_option maxHeartbeats 1000000 in
theorem take_full {w : World} {pb : Nat} {L : Lay} {S : BS} (h : Rep w pb L S) {n : Nat} (h2 : n ≤ 64) (hn : aget n S.fr = none ∨ aget n S.fr = some []) (hroom : S.ws.length < S.top + n + 1) :
    Calls Tryz.prog 117 #[.pointer (some ⟨pb, 0, none⟩), .int .i64 n] w fun e w' => e = .returned (.tuple #[.int .i64 0, .iface 99 (.int .i64 4)]) ∧ Below w.heap.size w w' := by
  have hl := h.lookF n
  have hs := spotF_aget n S.fr L.vs h.vlen
  have hv : ∃ v : Value, ((spotF n S.fr L.vs).map (·.1)).getD (.slice none 0 0) = v ∧ ∃ a c, v = .slice a 0 c := by
    refine ⟨_, rfl, ?_⟩
    cases hsp : spotF n S.fr L.vs with
    | none => exact ⟨_, _, rfl⟩
    | some y =>
      obtain ⟨v, l⟩ := y
      rw [hsp] at hs
      simp only [Option.map_some] at hs
      rw [← hs] at hn
      obtain rfl : l = [] := by rcases hn with e | e <;> simp at e; exact e
      obtain ⟨i, i1, i2, _, _⟩ := spotF_idx n S.fr L.vs _ hsp
      rcases (h.rows i _ _ i1 i2).2 with ⟨e, _⟩ | ⟨g, cap, cur, e, _⟩
      · simp only at e; exact ⟨none, 0, by simpa using e⟩
      · simp only at e; exact ⟨_, _, by simpa using e⟩
  obtain ⟨v, hv, a, c, rfl⟩ := hv
  rw [hv] at hl
  have q := h.main.cell
  have HL := Lib.hid (fun m => arena_len (h.arena.kept ((Kept.refl (fun _ => False) w).drewN m) (fun e => e) (fun e => e)))
  have b1 : S.top ≤ 16384 := by have := h.ok.len; have := h.ok.top; omega
  have b8 : S.ws.length ≤ 16384 := h.ok.len
  clear hs hv hn h
  generalize S.ws.length = len at *
  have r1 : IntKind.i64.wrap ((S.top : Int) + (n : Int)) = (S.top : Int) + (n : Int) := IntWalk.i64_in _ (by omega)
  have r2 : IntKind.i64.wrap ((S.top : Int) + (n : Int) + 1) = (S.top : Int) + (n : Int) + 1 := IntWalk.i64_in _ (by omega)
  have r3 : decide ((len : Int) < (S.top : Int) + (n : Int) + 1) = true := by simp; omega
  have r4 : decide (len < S.top + n + 1) = true := by simp; omega
  go_enter Tryz.func117, Tryz.ntmps117
  go_wp2
  go_quiet ((go_at_call 95; exact quiet_left (HL.out _)))
  clear r1 r2 HL
  go_wp2
  go_ret2
  exact ⟨rfl, below_drewN (Below.refl _ _) _⟩

/-- What take answers where it finds a place. -/
def Took (pb : Nat) (L : Lay) (S1 : BS) (p : Nat) (w : World) (e : Ending) (w' : World) : Prop :=
  ∃ L', e = .returned (.tuple #[.int .i64 p, .nilIface]) ∧ Rep w' pb L' S1 ∧ Moved pb L L' w w'
theorem take_ok {w : World} {pb : Nat} {L : Lay} {S S1 : BS} (h : Rep w pb L S) {n p : Nat} (h1 : 1 ≤ n) (h2 : n ≤ 64) (ht : take S n = some (p, S1)) :
    Calls Tryz.prog 117 #[.pointer (some ⟨pb, 0, none⟩), .int .i64 n] w (Took pb L S1 p w) := by
  unfold take at ht
  have new : (aget n S.fr = none ∨ aget n S.fr = some []) → (if S.ws.length < S.top + n + 1 then none else some (S.top, ({ S with top := S.top + n + 1, bl := aput S.top ⟨n, 0, false⟩ S.bl } : BS))) = some (p, S1) → Calls Tryz.prog 117 #[.pointer (some ⟨pb, 0, none⟩), .int .i64 n] w (Took pb L S1 p w) := by
    intro hn hif
    split at hif
    · cases hif
    · obtain ⟨rfl, rfl⟩ := Prod.mk.inj (Option.some.inj hif)
      refine (take_new h h1 h2 hn (by omega)).mono ?_
      rintro e w' ⟨x, rfl, hr, hk, hx⟩
      refine ⟨_, rfl, hr, Moved.to hk ?_ ?_ rfl⟩
      · rintro b (rfl | rfl)
        · exact mem_pb _ _
        · exact mem_bm _ _
      · intro b hb
        rcases all_snoc pb L x b hb with e | rfl
        · exact Or.inl e
        · exact Or.inr hx
  cases hg : aget n S.fr with
  | none => rw [hg] at ht; exact new (Or.inl hg) ht
  | some l =>
    cases l with
    | nil => rw [hg] at ht; exact new (Or.inr hg) ht
    | cons y l =>
      rw [hg] at ht
      obtain ⟨rfl, rfl⟩ := Prod.mk.inj (Option.some.inj ht)
      refine (take_old h hg (by simp)).mono ?_
      rintro e w' ⟨L', rfl, hr, hk, hall⟩
      refine ⟨L', rfl, hr, Moved.to hk ?_ ?_ (List.cons.inj (List.cons.inj hall).2).1⟩
      · rintro b rfl; exact mem_fm _ _
      · intro b hb; rw [hall] at hb; exact Or.inl hb

theorem ref_form (gen p : Nat) (hg : gen ≤ 4294967295) (hp : p < 4294967296) : bits BinOp.or IntKind.u64 ((gen : Int) * 4294967296) (p : Int) = ((gen * 4294967296 + p : Nat) : Int) := by
  rw [show (gen : Int) * 4294967296 = ((gen * 4294967296 : Nat) : Int) by omega, u64_or_nat _ _ (by omega) (by omega), nat_join 32 _ _ (by omega) (by omega)]

/-- What Alloc answers where it gives out a block. -/
def Alloced (pb : Nat) (L : Lay) (S' : BS) (ref : Nat) (w : World) (e : Ending) (w' : World) : Prop :=
  ∃ L', e = .returned (.tuple #[.int .u64 ref, .nilIface]) ∧ Rep w' pb L' S' ∧ Moved pb L L' w w'

/-- The frame of the loop that makes a block's words 0. -/
def Zeroing (pb : Nat) (L L' : Lay) (S : BS) (ws : List Nat) (p k : Nat) (w w' : World) : Prop :=
  Rep w' pb L' { S with ws := zeros ws (p + 1) k } ∧ Moved pb L L' w w'

set_option maxHeartbeats 2000000 in
theorem alloc_ok {w : World} {pb : Nat} {L : Lay} {S S1 : BS} (h : Rep w pb L S) {n p : Nat} {b : Blk} (h1 : 1 ≤ n) (h2 : n ≤ 64) (ht : take S n = some (p, S1)) (hb : aget p S1.bl = some b) :
    Calls Tryz.prog 98 #[.pointer (some ⟨pb, 0, none⟩), .int .i64 n] w (Alloced pb L { S1 with bl := aput p { b with live := true } S1.bl, ws := zeros (S1.ws.set p (headOf { b with live := true })) (p + 1) n } (refOf p b) w) := by
  have HM := Lib.hid (made_ok h)
  have HT := Lib.hid (take_ok h h1 h2 ht)
  have hf := take_fits h.ok ht
  obtain ⟨b', hb', hf2, hf3, hf4, hf5, hf6, hf7⟩ := hf
  rw [hb] at hb'
  obtain rfl := Option.some.inj hb'
  have g1 : decide ((n : Int) < 1) = false := by simp; omega
  have g2 : decide (64 < (n : Int)) = false := by simp; omega
  have HF := Lib.hid hf5; have HBN := Lib.hid hf2; have HG := Lib.hid hf3; have HB := Lib.hid hb; have H7 := Lib.hid hf7
  have hws : Hid (S1.ws.length ≤ 16384 ∧ S1.ws = S.ws) := Lib.hid ⟨by rw [hf6]; exact h.ok.len, hf6⟩
  have n1 : (1 : Int) ≤ n := by omega
  have n2 : (n : Int) ≤ 64 := by omega
  clear hf2 hf3 hf5 hf6 hf7 hb ht h
  go_enter Tryz.func98, Tryz.ntmps98
  go_wp2_with fail
  refine HM.out.mono ?_
  rintro e w' ⟨rfl, rfl⟩
  go_wp2_with fail
  refine HT.out.mono ?_
  rintro e w1 ⟨L', rfl, hr1, hm1⟩
  have H1 := Lib.hid hr1; have M1 := Lib.hid hm1
  clear HM HT
  have hsp := spot_aget p S1.bl L'.xs hr1.xlen
  obtain ⟨x, hx⟩ : ∃ x, spot p S1.bl L'.xs = some (x, b) := by
    cases hs : spot p S1.bl L'.xs with
    | none => rw [hs, HB.out] at hsp; simp at hsp
    | some y => rw [hs, HB.out] at hsp; simp at hsp; exact ⟨y.1, by rw [← hsp]⟩
  have hl := hr1.lookB p
  rw [hx] at hl
  obtain ⟨i, hi1, hi2⟩ := spot_at p S1.bl L'.xs _ hx
  have qm := hr1.main.cell
  have cb : Cells w1 x _ _ := hr1.blks i _ _ hi1 hi2
  have qb := cb.cell
  have fb := cb.free
  simp only [hf4] at qb hl
  have bp : p ≤ 16384 := by have := hr1.ok.top; have := hws.out.1; have := H7.out; omega
  have hxm : x ∈ L'.xs := List.mem_of_getElem? hi2
  have hlive : Hid (Rep (w1.setCell ⟨x, 2, none⟩ (.bool true)) pb L' { S1 with bl := aput p { b with live := true } S1.bl } ∧ Kept (fun j => j = x) w1 (w1.setCell ⟨x, 2, none⟩ (.bool true))) := by
    refine Lib.hid ?_
    have kk : Kept (fun j => j = x) w1 (w1.setCell ⟨x, 2, none⟩ (.bool true)) := Kept.setCell (S := fun j => j = x) (Kept.refl _ _) (fun _ => rfl) _
    refine ⟨hr1.withBlk hx kk ?_ (live_ok hr1.ok HB.out HG.out HF.out), kk⟩
    exact Cells.cast (cb.set 2 (.bool true)) rfl
  have HX := Lib.hid hx; have HXM := Lib.hid hxm
  clear cb hr1 hm1 hsp hi1 hi2 hx hxm
  go_wp2_with fail
  obtain ⟨W2, hW2⟩ : ∃ W2, W2 = w1.setCell ⟨x, 2, none⟩ (.bool true) := ⟨_, rfl⟩
  have R2 := Lib.hid hlive.out.1
  have hget2 : aget p (aput p { b with live := true } S1.bl) = some { b with live := true } := by simp [aget_aput]
  have HH := Lib.hid (head_ok R2.out hget2)
  refine HH.out.mono ?_
  rintro e w3 ⟨rfl, hr3, hk3⟩
  have M3 : Moved pb L L' w w3 := (M1.out.trans (Moved.same hlive.out.2 (by rintro j rfl; exact mem_xs _ _ HXM.out))).trans (Moved.same hk3 (two_mem pb L'))
  have R3 := Lib.hid hr3
  have MM := Lib.hid M3
  clear hr3 hk3 M3 qb fb qm hl hlive R2 HH hget2 hW2 W2
  go_wp2_with fail
  have hbp := H7.out
  have htop3 := R3.out.ok.top
  simp only [List.length_set] at htop3
  have HRF := Lib.hid (ref_form b.gen p (by have := HG.out; omega) (by omega))
  have hcb : ∀ wr, Rep wr pb L' { S1 with bl := aput p { b with live := true } S1.bl, ws := zeros (S1.ws.set p (headOf { b with live := true })) (p + 1) n } → w1 = w1 → wr.cell? ⟨x, 1, none⟩ = some (.int .u64 b.gen) := by
    intro wr hr _
    have hs2 := spot_aget p (aput p { b with live := true } S1.bl) L'.xs hr.xlen
    rw [aget_aput, if_pos rfl] at hs2
    obtain ⟨i, j1, j2, j3⟩ := spot_idx p S1.bl L'.xs _ HX.out
    have hl2 : (aput p { b with live := true } S1.bl)[i]? = some (p, { b with live := true }) := by
      rw [j3]; simp [(List.getElem?_eq_some_iff.1 j1).1]
    have cc : Cells wr x _ _ := hr.blks i _ _ hl2 j2
    simpa using cc.cell 1
  have HCB := Lib.hid hcb
  have bg : b.gen ≤ 4294967295 := by have := HG.out; omega
  generalize hws0 : S1.ws.set p (headOf { b with live := true }) = ws0 at *
  have hl0 : p + 1 + n ≤ ws0.length := by rw [← hws0, List.length_set]; have := R3.out.ok.top; simp only at this; rw [← hws0, List.length_set] at this; omega
  clear hcb hws0 htop3 H1 M1 HX HXM
  go_loopw [10, 11, 50] (fun _ _ i wr => ∃ k : Nat, k ≤ n ∧ i = .int .i64 k ∧ Zeroing pb L L' { S1 with bl := aput p { b with live := true } S1.bl } ws0 p k w wr) (fun _ _ i _ => n - (intOf i).toNat)
  case atStart => exact ⟨0, Nat.zero_le _, rfl, R3.out, MM.out⟩
  case round =>
    obtain ⟨k, hk, rfl, hz⟩ := hrel
    have HZ := Lib.hid hz
    have qm := hz.1.main.cell
    clear hz
    by_cases hlt : k < n
    · have hst := Lib.hid (arena_store HZ.out.1.arena (p + 1 + k) (by simp only [zeros_length]; omega) 0 (by omega))
      have hlt' : (k : Int) < (n : Int) := by omega
      go_wp2_with fail
      have e1 : (p : Int) + 1 + (k : Int) = ((p + 1 + k : Nat) : Int) := by omega
      rw [e1]
      clear e1
      refine hst.out.mono ?_
      rintro e w4 ⟨rfl, ha, hk4⟩
      have Z4 : Zeroing pb L L' { S1 with bl := aput p { b with live := true } S1.bl } ws0 p (k + 1) w w4 := ⟨HZ.out.1.withWords hk4 ha (by simp [zeros_length]), HZ.out.2.trans (Moved.same hk4 (two_mem pb L'))⟩
      have HZ4 := Lib.hid Z4
      clear Z4 ha hk4 qm hst
      go_wp2
      go_roundw
      case rel => exact ⟨k + 1, by omega, by go_num, HZ4.out⟩
      case measure => simp [intOf]; omega
    · obtain rfl : k = n := by omega
      have q1 := HCB.out _ HZ.out.1 rfl
      have hrf := HRF.out
      obtain ⟨rf, hrr⟩ : ∃ rf : Nat, b.gen * 4294967296 + p = rf := ⟨_, rfl⟩
      rw [hrr] at hrf
      have HRR := Lib.hid hrr
      clear hlt hk hrr
      go_wp2
      go_ret2
      exact ⟨L', by unfold refOf; rw [HRR.out]; rfl, HZ.out.1, HZ.out.2⟩

set_option maxHeartbeats 400000 in
theorem alloc_nil (n : Int) (w : World) : Calls Tryz.prog 98 #[.pointer none, .int .i64 n] w fun e w' => e = .returned (.tuple #[.int .u64 0, .iface 99 (.int .i64 1)]) ∧ w = w' := by
  go_enter Tryz.func98, Tryz.ntmps98
  go_wp2_with (go_at_call 94; refine (made_nil _).mono ?_; rintro e w' ⟨rfl, rfl⟩)
  go_ret2
  exact ⟨rfl, rfl⟩
set_option maxHeartbeats 400000 in
theorem alloc_arg {w : World} {pb : Nat} {L : Lay} {S : BS} (h : Rep w pb L S) (n : Int) (hn : ¬ (1 ≤ n ∧ n ≤ 64)) : Calls Tryz.prog 98 #[.pointer (some ⟨pb, 0, none⟩), .int .i64 n] w fun e w' => e = .returned (.tuple #[.int .u64 0, .iface 99 (.int .i64 2)]) ∧ w = w' := by
  have HM := Lib.hid (made_ok h)
  clear h
  rcases (by omega : n < 1 ∨ (1 ≤ n ∧ 64 < n)) with hn | ⟨ha, hb⟩
  · have g1 : decide (n < 1) = true := by simpa using hn
    clear hn
    go_enter Tryz.func98, Tryz.ntmps98
    go_wp2_with (go_at_call 94; refine HM.out.mono ?_; rintro e w' ⟨rfl, rfl⟩)
    go_ret2
    exact ⟨rfl, rfl⟩
  · have g1 : decide (n < 1) = false := by simp; omega
    have g2 : decide (64 < n) = true := by simpa using hb
    clear ha hb hn
    go_enter Tryz.func98, Tryz.ntmps98
    go_wp2_with (go_at_call 94; refine HM.out.mono ?_; rintro e w' ⟨rfl, rfl⟩)
    go_ret2
    exact ⟨rfl, rfl⟩
theorem take_none {S : BS} {n : Nat} (h : take S n = none) : (aget n S.fr = none ∨ aget n S.fr = some []) ∧ S.ws.length < S.top + n + 1 := by
  unfold take at h
  cases hg : aget n S.fr with
  | none =>
    rw [hg] at h
    refine ⟨Or.inl rfl, ?_⟩
    simp only at h
    split at h
    · assumption
    · cases h
  | some l =>
    cases l with
    | nil =>
      rw [hg] at h
      refine ⟨Or.inr rfl, ?_⟩
      simp only at h
      split at h
      · assumption
      · cases h
    | cons y l => rw [hg] at h; cases h
set_option maxHeartbeats 400000 in
theorem alloc_full {w : World} {pb : Nat} {L : Lay} {S : BS} (h : Rep w pb L S) {n : Nat} (h1 : 1 ≤ n) (h2 : n ≤ 64) (ht : take S n = none) : Calls Tryz.prog 98 #[.pointer (some ⟨pb, 0, none⟩), .int .i64 n] w fun e w' => e = .returned (.tuple #[.int .u64 0, .iface 99 (.int .i64 4)]) ∧ Below w.heap.size w w' := by
  have HM := Lib.hid (made_ok h)
  have HT := Lib.hid (take_full h h2 (take_none ht).1 (take_none ht).2)
  clear h ht
  have g1 : decide ((n : Int) < 1) = false := by simp; omega
  have g2 : decide (64 < (n : Int)) = false := by simp; omega
  go_enter Tryz.func98, Tryz.ntmps98
  go_wp2_with fail
  refine HM.out.mono ?_
  rintro e w' ⟨rfl, rfl⟩
  go_wp2_with fail
  refine HT.out.mono ?_
  rintro e w1 ⟨rfl, hb⟩
  have HB := Lib.hid hb
  clear hb
  go_wp2
  go_ret2
  exact ⟨rfl, HB.out⟩
end Go.Proofs.YtmdganpealbmpaaGreatDoor
