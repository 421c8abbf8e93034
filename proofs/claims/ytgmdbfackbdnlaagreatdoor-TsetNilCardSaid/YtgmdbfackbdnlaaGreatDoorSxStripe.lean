/- The executor: count's stripe. -/
import Derived.Test.YtgmdbfackbdnlaaGreatDoorSxPrim
namespace Go.Proofs.YtgmdbfackbdnlaaGreatDoor
open Go.RowKit Bl Th Go.Sx
set_option maxRecDepth 10000

theorem stripe_ok {w : World} {b n cap i : Nat} {z : Int} {v : Value} (hn : 0 < n) (hl : n ≤ 1000000) (hi : i = (IntKind.u64.wrap z).toNat % n) (hv : w.cell? ⟨b, i, none⟩ = some v) :
    Calls Tryz.prog 149 #[.slice (some ⟨b, 0, none⟩) n cap, .int .i64 z] w fun e w' => e = .returned v ∧ w = w' := by
  have hw : ∀ x : Int, IntKind.u64.wrap x = x % 18446744073709551616 := fun x => by simp [IntKind.wrap, IntKind.signed, IntKind.bits]
  have h0 : 0 ≤ IntKind.u64.wrap z ∧ IntKind.u64.wrap z < 18446744073709551616 := by
    rw [hw]
    constructor <;> omega
  obtain ⟨k, hk⟩ : ∃ k : Nat, IntKind.u64.wrap z = (k : Int) := ⟨(IntKind.u64.wrap z).toNat, by omega⟩
  have hnw : IntKind.u64.wrap (n : Int) = (n : Int) := by
    rw [hw]
    omega
  rw [hk] at hi
  have hi' : i = k % n := by rw [hi]; rfl
  have hne : ((n : Int) == 0) = false := by simp; omega
  have hm : Int.tmod (k : Int) (n : Int) = (i : Int) := by rw [hi']; rfl
  have hlt : i < n := by rw [hi']; exact Nat.mod_lt _ hn
  clear h0 hi hi' hw
  go_enter Tryz.func149, Tryz.ntmps149
  go_wp2
  go_ret
  exact ⟨rfl, rfl⟩
theorem pStripe_ok {E : Env} {G : Gh} {ρ : Ren} {m : Mem} {w : World} {args : List Value} {v : Value} {m' : Mem} (h : pStripe args m = some (v, m')) {args' : List Value} (hc : Conc E G ρ m w) (hr : RelL ρ args args') :
    Calls Tryz.prog 149 ⟨args'⟩ w fun e w' => ∃ v', e = .returned v' ∧ EffPost E G ρ m w v m' v' w' := by
  unfold pStripe at h
  split at h
  · rename_i b n cap k
    obtain ⟨x', y', rfl, p1, p2⟩ := hr.two
    obtain ⟨n', c, d, e, op, ro, g1, h1⟩ := row_some h
    clear h
    obtain ⟨i, h2, h3⟩ := ob_some h1
    clear h1
    obtain ⟨u, h4, h5⟩ := ob_some h3
    clear h3
    cases h5
    have hidx : ∃ z, y' = .int .i64 z ∧ i = (IntKind.u64.wrap z).toNat % n ∧ 0 < n ∧ n ≤ 1000000 := by
      split at h2
      · rename_i z
        obtain ⟨h6, h7⟩ := ifo_some h2
        rw [Bool.and_eq_true, Nat.blt_eq] at h6
        cases h7
        refine ⟨z, rel_int p2, ?_, h6.1, Nat.le_of_ble_eq_true h6.2⟩
        rw [← fw_eq]
        rfl
      · obtain ⟨h6, h7⟩ := ifo_some h2
        cases h7
        have hn : n = 1 := Nat.eq_of_beq_eq_true h6
        subst hn
        cases p2 with
        | unk _ _ e =>
        obtain ⟨z, rfl, _⟩ := e.2 (Nat.le_refl 1)
        exact ⟨z, rfl, (Nat.mod_one _).symm, by omega, by omega⟩
      · cases h2
    obtain ⟨z, rfl, hi, hn, hl⟩ := hidx
    obtain ⟨q, arr, a1, a2, _, _, a5⟩ := row_at hc g1
    obtain ⟨v', x, y⟩ := a5 i _ h4
    have hx : ∃ cap', x' = .slice (some ⟨q.1, 0, none⟩) n cap' := by
      cases p1 with
      | sl _ _ _ _ q' hq' _ => rw [hq'] at a1; cases a1; exact ⟨_, rfl⟩
      | slo _ _ _ _ q' hq' _ => rw [hq'] at a1; cases a1; exact ⟨_, rfl⟩
      | sle _ _ aa cc he => exact absurd he (by decide)
    obtain ⟨cap', rfl⟩ := hx
    refine (stripe_ok hn hl hi (by rw [a2.cell]; exact x)).mono ?_
    rintro e w' ⟨rfl, rfl⟩
    exact ⟨_, rfl, eff_self hc y⟩
  · cases h
theorem pStripe_grow {args : List Value} {m m' : Mem} {v : Value} (h : pStripe args m = some (v, m')) (_ : m.mode = 1) : m'.mode = m.mode ∧ m'.tl = m.tl := by
  unfold pStripe at h
  split at h
  · obtain ⟨n, c, d, e, op, ro, g1, h⟩ := row_some h
    obtain ⟨_, _, h⟩ := ob_some h
    obtain ⟨_, _, h⟩ := ob_some h
    cases h
    exact ⟨rfl, rfl⟩
  · cases h
end Go.Proofs.YtgmdbfackbdnlaaGreatDoor
