/- The executor: Blocks.Live and Free, outside of bodies. -/
import Derived.Test.YtgmdbfackbdnlaaGreatDoorSxWrites2
import Derived.Test.YtgmdbfackbdnlaaGreatDoorLive
namespace Go.Proofs.YtgmdbfackbdnlaaGreatDoor
open Go.RowKit Bl Th Go.Sx
set_option maxRecDepth 10000

section
variable {E : Env} {G : Gh} {ρ : Ren} {m : Mem} {w : World}
def lowPair (r : Nat) : Nat × Nat := (r % 4294967296, r)
theorem refsK_perm : ∀ l : List Nat, (refsK l).Perm (l.map lowPair)
  | [] => .refl _
  | r :: l => by
    show (insK (Nat.mod r 4294967296) r (refsK l)).Perm _
    refine (insK_perm _ _ _).trans ?_
    rw [List.map_cons]
    exact (refsK_perm l).cons _
theorem refV_map : ∀ l : List (Nat × Nat), refV l = l.map fun x => .int .u64 (x.2 : Int)
  | [] => rfl
  | x :: l => by
    show Value.int .u64 (.ofNat x.2) :: refV l = _
    rw [refV_map l, List.map_cons]
    rfl
theorem refV_rel (l : List (Nat × Nat)) : RelL ρ (refV l) (refV l) := by
  rw [refV_map]
  refine ⟨rfl, fun i x y hx hy => ?_⟩
  rw [hx] at hy
  cases hy
  rw [List.getElem?_map] at hx
  cases h : l[i]? with
  | none => rw [h] at hx; cases hx
  | some p => rw [h] at hx; cases hx; exact .int _ _
theorem refV_len (l : List (Nat × Nat)) : (refV l).length = l.length := by rw [refV_map, List.length_map]
theorem pBLive_ok (hsz : E.size 24 = some 1) {args : List Value} {v : Value} {m' : Mem} (h : pBLive 24 args m = some (v, m')) {args' : List Value} (hc : Conc E G ρ m w) (hr : RelL ρ args args') :
    Calls Tryz.prog 106 ⟨args'⟩ w fun e w' => ∃ v', e = .returned v' ∧ EffPost E G ρ m w v m' v' w' := by
  unfold pBLive at h
  split at h
  · rename_i b
    obtain ⟨S, h1, h2⟩ := ob_some h
    clear h
    obtain ⟨h3, h4⟩ := ifo_some h2
    clear h2
    unfold liveK at h4
    obtain ⟨h5, h6⟩ := ifo_some h4
    clear h4
    rw [Bool.and_eq_true] at h3 h5
    have e1 : b = m.ib := Nat.eq_of_beq_eq_true h3.1
    have e2 : m.mode = 0 := Nat.eq_of_beq_eq_true h3.2
    have e3 : 1 ≤ (refsK (liveRefs S.bl)).length := Nat.le_of_ble_eq_true h5.2
    have hsort : Th.Sorted (refsK (liveRefs S.bl)) := by
      have := ascK_ok (f := fun x => x) h5.1
      simpa using this
    obtain ⟨h7, h8⟩ := ifo_some h6
    clear h6
    simp only [Bool.and_eq_true] at h7
    obtain ⟨⟨t1, t2⟩, _⟩ := h7
    have t1 : (refsK (liveRefs S.bl)).length * 1 ≤ lim := Nat.le_of_ble_eq_true t1
    rw [Nat.blt_eq] at t2
    cases h8
    obtain ⟨x', c1, rfl, p1, k⟩ := hr.cons_inv
    obtain rfl := k.nil_inv
    obtain ⟨R, r1, r2, r3⟩ := hc.lay
    rcases r3 with ⟨a, _⟩ | ⟨S', pa, q, a, _, hq, hh⟩ | ⟨a, _⟩
    · rw [a] at h1; cases h1
    · rw [a] at h1; cases h1
      subst e1
      cases p1 with
      | ptr _ _ q' hq' =>
      rw [hq] at hq'; cases hq'
      obtain ⟨L, l1, l2, l3⟩ := hh.lay
      refine (live_oks l2 hh.uniq).mono ?_
      rintro e w' ⟨p, cap, l, rfl, hperm, hb, _, hasc, hrow⟩
      obtain ⟨ws, hws⟩ : ∃ ws, ws = refsK (liveRefs S.bl) := ⟨_, rfl⟩
      rw [← hws] at e3 hsort t1 ⊢
      have hl : l.map lowPair = ws := by
        refine asc_unique hsort ?_ ?_
        · rw [hws]; exact (hperm.map lowPair).trans (refsK_perm _).symm
        · intro i j x y hij hx hy
          rw [List.getElem?_map] at hx hy
          cases hxi : l[i]? with
          | none => rw [hxi] at hx; cases hx
          | some a =>
            cases hyj : l[j]? with
            | none => rw [hyj] at hy; cases hy
            | some b =>
              rw [hxi] at hx; rw [hyj] at hy
              cases hx; cases hy
              exact hasc i j a b hij hxi hyj
      have hlen : l.length = ws.length := by rw [← hl, List.length_map]
      have hval : (l.map fun (k : Nat) => Value.int .u64 (k : Int)) = refV ws := by
        rw [refV_map, ← hl, List.map_map]
        rfl
      rw [hval, hlen] at hrow
      have hi := hc.fresh
      rcases hrow.2 with ⟨_, e0⟩ | ⟨g, cap', cur, hv, f1, f2, f3, f4, f5, f6⟩
      · omega
      · cases hv
        have hcur : ∀ i, i < ws.length * 1 → cur.toList[i]? = (refV ws)[i]? := fun i hi => by
          rw [← f6, List.getElem?_take, if_pos hi]
        have hcells : Cells w' g cur.toList 24 := by
          unfold Cells
          rw [f2]
        obtain ⟨c1, c2⟩ := hc.name hb hi t2 (Nat.le_succ m.nx) (Nat.lt_succ_self _) (.row (ws.length * 1) (Tr.ofList (refV ws) 0 .nil) none 24 true false) (g := g) (K := cap) (by omega)
          ⟨cur.toList, hcells, (by rw [show cur.toList.length = cap * 1 from (Array.length_toList).trans f5]; exact Nat.mul_le_mul_right 1 f3), t1, (fun e => by cases e), fun _ => ⟨1, hsz, by omega, (Array.length_toList).trans f5, by unfold maxLen at f4; unfold big; omega⟩, fun i u hu => by
            have hu' := list_cells (ρ := ρ.put m.nx (g, cap)) (refV_rel ws) (by rw [refV_len]; unfold lim at t1; omega) i u (by rw [refV_len]; rw [Nat.mul_one] at hu; exact hu)
            obtain ⟨u', x, y⟩ := hu'
            have hlt := (List.getElem?_eq_some_iff.1 x).1
            rw [refV_len] at hlt
            exact ⟨u', (hcur i (by omega)).trans x, y⟩⟩
        rw [hlen]
        exact ⟨_, rfl, _, ⟨Ren.le_put hi, fun j hj => Ren.put_ne _ _ (by omega), c2⟩, Nat.le_succ _, .slo m.nx 0 ws.length _ _ (Ren.put_self _ _ _) ⟨fun _ => rfl, f3⟩, c1⟩
    · exact absurd e2 a
  · cases h
theorem pBLive_grow {tu : Nat} {args : List Value} {m m' : Mem} {v : Value} (h : pBLive tu args m = some (v, m')) (_ : m.mode = 1) : m'.mode = m.mode ∧ m'.tl = m.tl := by
  unfold pBLive at h
  split at h
  · obtain ⟨_, _, h⟩ := ob_some h
    obtain ⟨_, h⟩ := ifo_some h
    obtain ⟨_, h⟩ := ifo_some h
    obtain ⟨_, h⟩ := ifo_some h
    cases h; exact ⟨rfl, rfl⟩
  · cases h
end
end Go.Proofs.YtgmdbfackbdnlaaGreatDoor
