/- Layer 2 (blocks): Used. -/
import Derived.Test.YtfehonejcambgaaDoorLive
namespace Go.Proofs.YtfehonejcambgaaDoor
open Go.RowKit Bl
set_option maxRecDepth 10000

set_option maxHeartbeats 400000 in
theorem used_nil (w : World) : Calls Tryd.prog 30 #[.pointer none] w fun e w' => e = .returned (.int .i64 0) ∧ w = w' := by
  go_enter Tryd.func30, Tryd.ntmps30
  go_wp2_with (go_at_call 33; refine (live_nil _).mono ?_; rintro e w' ⟨rfl, rfl⟩)
  go_loopw [3, 9] (fun n i wr => n = .int .i64 0 ∧ i = .int .i64 0 ∧ w = wr) (fun _ _ _ => 0)
  case atStart => exact ⟨rfl, rfl, rfl⟩
  case round =>
    obtain ⟨rfl, rfl, rfl⟩ := hrel
    go_wp2
    go_ret
    exact ⟨rfl, rfl⟩

theorem cost_at {S : BS} (ho : Ok S) (hu : Uniq S) {r : Nat} (hr : r ∈ liveRefs S.bl) : ∃ b, aget (r % 4294967296) S.bl = some b ∧ cost S.bl r = b.n + 1 ∧ b.n ≤ 64 ∧ r < 18446744073709551616 := by
  have hsm := refs_small ho hu r hr
  obtain ⟨q, hq, hl, rfl⟩ := mem_liveRefs hr
  obtain ⟨i, hi⟩ := List.getElem?_of_mem hq
  have hg := aget_of_get S.bl i q.1 q.2 hu hi
  have hf := ho.fits q.1 q.2 hg
  have ht := ho.top
  have hl := ho.len
  have e : refOf q.1 q.2 % 4294967296 = q.1 := by unfold refOf; omega
  refine ⟨q.2, by rw [e]; exact hg, ?_, hf.2.2.1, hsm⟩
  unfold cost
  rw [e, hg]

/-- The sum over the first k. -/
def sumTo (S : BS) (l : List Nat) (k : Nat) : Nat := ((l.take k).map (cost S.bl)).sum
theorem sumTo_succ {S : BS} {l : List Nat} {k r : Nat} (h : l[k]? = some r) : sumTo S l (k + 1) = sumTo S l k + cost S.bl r := by
  obtain ⟨hk, rfl⟩ := List.getElem?_eq_some_iff.1 h
  unfold sumTo
  rw [List.take_add_one, List.getElem?_eq_getElem hk, List.map_append, List.sum_append]
  simp only [Option.toList_some, List.map_cons, List.map_nil, List.sum_cons, List.sum_nil, Nat.add_zero]
theorem sumTo_le {S : BS} {l : List Nat} (h : ∀ r ∈ l, cost S.bl r ≤ 65) : ∀ k, sumTo S l k ≤ 65 * k
  | 0 => by simp [sumTo]
  | k + 1 => by
    have := sumTo_le h k
    cases hk : l[k]? with
    | none =>
      have hl : l.length ≤ k := List.getElem?_eq_none_iff.1 hk
      unfold sumTo at *
      rw [List.take_of_length_le (by omega)] at *
      omega
    | some r =>
      rw [sumTo_succ hk]
      have := h r (List.mem_of_getElem? hk)
      omega

set_option maxHeartbeats 2000000 in
theorem used_ok {w : World} {pb : Nat} {L : Lay} {S : BS} (h : Rep w pb L S) (hu : Uniq S) : Calls Tryd.prog 30 #[.pointer (some ⟨pb, 0, none⟩)] w fun e w' => e = .returned (.int .i64 (usedBy S.bl : Int)) ∧ Below w.heap.size w w' := by
  have HR := Lib.hid h
  have HL := Lib.hid (live_ok' h hu)
  clear h
  go_enter Tryd.func30, Tryd.ntmps30
  go_wp2_with fail
  refine HL.out.mono ?_
  rintro e w1 ⟨p, cap, l, rfl, hperm, hb, hc⟩
  have HR1 := Lib.hid (HR.out.kept (Kept.of_below hb) (fun b hb' => by have := HR.out.lt b hb'; omega))
  have HP := Lib.hid hperm
  have HB := Lib.hid hb
  have HC := Lib.hid hc
  have hlen : l.length ≤ 16384 := by rw [hperm.length_eq]; exact live_len HR.out.ok hu
  have hall : Hid (∀ r ∈ l, cost S.bl r ≤ 65) := Lib.hid fun r hr => by
    obtain ⟨b, _, h2, h3, _⟩ := cost_at HR.out.ok hu (hperm.mem_iff.1 hr)
    omega
  clear hperm hb hc HL HR
  go_wp2
  go_loopw [3, 9] (fun n i wr => ∃ k : Nat, k ≤ l.length ∧ i = .int .i64 k ∧ n = .int .i64 (sumTo S l k : Int) ∧ wr = w1) (fun _ i _ => l.length - (intOf i).toNat)
  case atStart => exact ⟨0, Nat.zero_le _, rfl, rfl, rfl⟩
  case round =>
    obtain ⟨k, hk, rfl, rfl, rfl⟩ := hrel
    by_cases hlt : k < l.length
    · have hlt' : (k : Int) < (l.length : Int) := by omega
      obtain ⟨r, hr⟩ : ∃ r, l[k]? = some r := ⟨_, List.getElem?_eq_getElem hlt⟩
      obtain ⟨g, rfl, hcell⟩ := HC.out k r hr
      have hm := HP.out.mem_iff.1 (List.mem_of_getElem? hr)
      obtain ⟨b, hb1, hb2, hb3, hb4⟩ := cost_at HR1.out.ok hu hm
      have hmask := and_mask32 r hb4
      have hs := spot_aget (r % 4294967296) S.bl L.xs HR1.out.xlen
      rw [hb1] at hs
      obtain ⟨⟨x, b'⟩, hsp, hbb⟩ : ∃ q, spot (r % 4294967296) S.bl L.xs = some q ∧ q.2 = b := by
        cases hq : spot (r % 4294967296) S.bl L.xs with
        | none => rw [hq] at hs; cases hs
        | some q => rw [hq] at hs; exact ⟨q, rfl, Option.some.inj hs⟩
      subst hbb
      have hlk := HR1.out.lookB (r % 4294967296)
      rw [hsp] at hlk
      dsimp only at hlk hb2 hb3
      obtain ⟨j, j1, j2⟩ := spot_at _ _ _ _ hsp
      have hcl : Cells wr x _ _ := HR1.out.blks j _ _ j1 j2
      have qx := hcl.cell
      have qm := HR1.out.main.cell
      have hmod : r % 4294967296 < 4294967296 := Nat.mod_lt _ (by decide)
      obtain ⟨P, hP⟩ : ∃ P, r % 4294967296 = P := ⟨_, rfl⟩
      rw [hP] at hmask hlk hmod
      have hsum := sumTo_le hall.out k
      have HSU := Lib.hid (sumTo_succ (S := S) hr)
      obtain ⟨sm, hsm⟩ : ∃ sm, sumTo S l k = sm := ⟨_, rfl⟩
      have HSM := Lib.hid hsm
      rw [hsm] at hsum ⊢
      have HB2 := Lib.hid hb2
      have hP' : (P : Int) < 4294967296 := by omega
      have hs' : (sm : Int) ≤ 1064960 := by omega
      have hb3' : (b'.n : Int) ≤ 64 := by omega
      clear hcl hsp hb1 hb2 hm hs hsm hP j1 j2 hb4
      go_wp2
      go_roundw
      case rel => exact ⟨k + 1, by omega, by go_num, by rw [HSU.out, HSM.out, HB2.out]; go_num, trivial⟩
      case measure => simp [intOf]; omega
    · obtain rfl : k = l.length := by omega
      go_wp2
      go_ret
      refine ⟨ret_one ?_, HB.out⟩
      have := cost_live S HR1.out.ok hu
      rw [← sum_perm HP.out (cost S.bl)] at this
      unfold sumTo
      rw [List.take_length, this]
end Go.Proofs.YtfehonejcambgaaDoor
