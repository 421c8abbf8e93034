/- The executor: bits' Rank and Tall. -/
import Derived.Test.YtgmdbfackbdnlaaGreatDoorSxPrim
import Derived.Test.YtgmdbfackbdnlaaGreatDoorBitsWalks
import Derived.Lib.SlBuf
namespace Go.Proofs.YtgmdbfackbdnlaaGreatDoor
open Go.RowKit Bl Th Bp Go.Sx
set_option maxRecDepth 10000

theorem bel_drewN {w : World} : ∀ k, Below w.heap.size w (w.drewN k)
  | 0 => Below.refl _ w
  | k + 1 => (bel_drewN k).drew
theorem pRank_ok {E : Env} {G : Gh} {ρ : Ren} {m : Mem} {w : World} {args : List Value} {v : Value} {m' : Mem} (h : pRank args m = some (v, m')) {args' : List Value} (hc : Conc E G ρ m w) (hr : RelL ρ args args') :
    Calls Tryz.prog 190 ⟨args'⟩ w fun e w' => ∃ v', e = .returned v' ∧ EffPost E G ρ m w v m' v' w' := by
  unfold pRank at h
  split at h
  · rename_i n s
    obtain ⟨x', y', rfl, p1, p2⟩ := hr.two
    rw [rel_int p1, rel_int p2]
    split at h
    · rename_i hn
      rw [Nat.blt_eq] at hn
      cases h
      refine (bits_rank n s hn w).mono ?_
      rintro e w' ⟨rfl, k, rfl⟩
      have hb : Below w.heap.size w (w.drewN k) := bel_drewN k
      obtain ⟨h1, h2⟩ := hc.under hb
      refine ⟨_, rfl, ?_⟩
      exact eff_same (.int _ _) h1 h2 (Nat.le_refl _)
    · cases h
  · cases h
theorem pRank_grow {args : List Value} {m m' : Mem} {v : Value} (h : pRank args m = some (v, m')) (_ : m.mode = 1) : m'.mode = m.mode ∧ m'.tl = m.tl := by
  unfold pRank at h
  split at h
  · split at h
    · cases h; exact ⟨rfl, rfl⟩
    · cases h
  · cases h
theorem pTall_ok {E : Env} (hE : E.tab = some 0) {G : Gh} {ρ : Ren} {m : Mem} {w : World} {args : List Value} {v : Value} {m' : Mem} (h : pTall args m = some (v, m')) {args' : List Value} (hc : Conc E G ρ m w) (hr : RelL ρ args args') :
    Calls Tryz.prog 85 ⟨args'⟩ w fun e w' => ∃ v', e = .returned v' ∧ EffPost E G ρ m w v m' v' w' := by
  unfold pTall at h
  split at h
  · rename_i d t
    obtain ⟨x', y', rfl, p1, p2⟩ := hr.two
    rw [rel_int p1, rel_int p2]
    split at h
    · rename_i hn
      rw [Nat.blt_eq] at hn
      cases h
      have hT : TabAt w := fun j hj => Lib.Below.cellOf hc.below (hc.hand.2 _ hE j hj) (Nat.le_refl _)
      refine (bits_tall d t hn w hT).mono ?_
      rintro e w' ⟨rfl, rfl⟩
      have hi : tallN d (t : Int) = ((Nat.min (Nat.add 1 (Lib.ctz 64 d)) (Nat.max t 1) : Nat) : Int) := by
        show min (1 + (Lib.ctz 64 d : Int)) (max (t : Int) 1) = ((min (1 + Lib.ctz 64 d) (max t 1) : Nat) : Int)
        omega
      refine ⟨_, rfl, ?_⟩
      rw [hi]
      exact eff_self hc (.int _ _)
    · cases h
  · cases h
theorem pTall_grow {args : List Value} {m m' : Mem} {v : Value} (h : pTall args m = some (v, m')) (_ : m.mode = 1) : m'.mode = m.mode ∧ m'.tl = m.tl := by
  unfold pTall at h
  split at h
  · split at h
    · cases h; exact ⟨rfl, rfl⟩
    · cases h
  · cases h
end Go.Proofs.YtgmdbfackbdnlaaGreatDoor
