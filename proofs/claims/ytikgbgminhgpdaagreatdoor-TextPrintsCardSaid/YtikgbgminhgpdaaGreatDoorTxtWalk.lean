/- Layer 9 (prog): walk, Right's visit, Right. -/
import Derived.Test.YtikgbgminhgpdaaGreatDoorTxtRight
import Derived.Test.YtikgbgminhgpdaaGreatDoorTxtRead
import Derived.Test.YtikgbgminhgpdaaGreatDoorTxtErr
namespace Go.Proofs.YtikgbgminhgpdaaGreatDoor
open Go.RowKit Tx
set_option maxRecDepth 10000

/-- What visit says of a statement: nothing, or an error. -/
def visitR (n d : Nat) (h : Sh) (nb ne : Bool) : Option Nat := if 100 < n then some 8 else if 8 < d then some 10 else if oneR h nb ne = false then some 9 else none
theorem ErrV.cells (w : World) (a n : Int) : Cells (w.alloc (.cells #[.int .i64 a, .int .i64 n] 64)) w.heap.size [.int .i64 a, .int .i64 n] 64 := Cells.new w _ _
def VisitPost (n d : Nat) (h : Sh) (nb ne : Bool) (eb : Nat) (w : World) (e : Ending) (w' : World) : Prop :=
  Kept (fun k => k = eb) w w' ∧ match visitR n d h nb ne with
    | none => e = .returned (.bool true) ∧ Cells w' eb [.nilIface] 26
    | some no => e = .returned (.bool false) ∧ ∃ v, Cells w' eb [v] 26 ∧ Flt w.heap.size w' v (n : Int) (no : Int)
theorem visit_bad {n d eb no : Nat} {h : Sh} {nb ne : Bool} {w W1 : World} {v : Value} {e : Ending} (hv : visitR n d h nb ne = some no) (hc : Cells W1 eb [v] 26) (hk : Kept (fun k => k = eb) w W1) (he : e = .returned (.bool false) ∧ v = .iface 60 (.pointer (some ⟨W1.heap.size, 0, none⟩))) :
    VisitPost n d h nb ne eb w e (W1.alloc (.cells #[.int .i64 (n : Int), .int .i64 (no : Int)] 64)) := by
  unfold VisitPost
  refine ⟨hk.alloc _, ?_⟩
  rw [hv]
  obtain ⟨rfl, rfl⟩ := he
  exact ⟨rfl, _, hc.alloc _, W1.heap.size, rfl, Cells.new W1 [.int .i64 (n : Int), .int .i64 (no : Int)] 64, hk.size⟩
theorem visit_good {n d eb : Nat} {h : Sh} {nb ne : Bool} {w w' : World} {e : Ending} (hv : visitR n d h nb ne = none) (hk : Kept (fun k => k = eb) w w') (hc : Cells w' eb [.nilIface] 26) (he : e = .returned (.bool true)) : VisitPost n d h nb ne eb w e w' := by
  unfold VisitPost
  refine ⟨hk, ?_⟩
  rw [hv]
  exact ⟨he, hc⟩
theorem kept_set (w : World) (eb : Nat) (v : Value) : Kept (fun k => k = eb) w (w.setCell ⟨eb, 0, none⟩ v) := Kept.setCell (S := fun k => k = eb) (p := ⟨eb, 0, none⟩) (Kept.refl (fun k => k = eb) w) (fun _ => rfl) v
set_option maxHeartbeats 4000000 in
theorem visit_ok {z : Int} {h : Sh} (hz : z.toNat = h.kind) {n d eb xb kb cap : Nat} {w : World} (hk : KindsAt w kb) (_hne : kb ≠ eb) (hx : Cells w xb [.slice (some ⟨kb, 0, none⟩) 8 cap] 57) (_hxe : xb ≠ eb) (he : Cells w eb [.nilIface] 26) (bp ep : Option Addr) (bn bc en ec : Nat) :
    Calls Tryz.prog 29 #[.int .i64 (n : Int), .int .i64 (d : Int), stV z h (.slice bp bn bc) (.slice ep en ec), .pointer (some ⟨eb, 0, none⟩), .pointer (some ⟨xb, 0, none⟩)] w (VisitPost n d h (decide (bn = 0)) (decide (en = 0)) eb w) := by
  have HKI := Lib.hid hk; have HX := Lib.hid hx; have HE := Lib.hid he
  have HR := Lib.hid (fun (w : World) (hk : KindsAt w kb) => right_ok (cap := cap) hz hk bp ep bn bc en ec)
  have e0 := he.cell 0; have f0 := he.free 0; have hlt := he.lt; have x0 := hx.cell 0
  simp only [List.getElem?_cons_zero] at e0 x0
  have hxlt := hx.lt
  clear hk hx he hz
  unfold stV at HR ⊢
  by_cases h1 : 100 < n
  · have g1 : decide ((100 : Int) < (n : Int)) = true := decide_eq_true (by omega)
    have HV := Lib.hid (show visitR n d h (decide (bn = 0)) (decide (en = 0)) = some 8 by unfold visitR; rw [if_pos h1])
    go_enter Tryz.func29, Tryz.ntmps29
    go_wp2
    go_ret
    exact visit_bad HV.out ((HE.out.set 0 _).alloc _) ((kept_set w eb _).alloc _) ⟨rfl, by simp⟩
  · have g1 : decide ((100 : Int) < (n : Int)) = false := decide_eq_false (by omega)
    by_cases h2 : 8 < d
    · have g2 : decide ((8 : Int) < (d : Int)) = true := decide_eq_true (by omega)
      have HV := Lib.hid (show visitR n d h (decide (bn = 0)) (decide (en = 0)) = some 10 by unfold visitR; rw [if_neg h1, if_pos h2])
      go_enter Tryz.func29, Tryz.ntmps29
      go_wp2
      go_ret
      exact visit_bad HV.out ((HE.out.set 0 _).alloc _) ((kept_set w eb _).alloc _) ⟨rfl, by simp⟩
    · have g2 : decide ((8 : Int) < (d : Int)) = false := decide_eq_false (by omega)
      go_enter Tryz.func29, Tryz.ntmps29
      go_wp2_with fail
      have B1 := (Below.refl w.heap.size w).alloc (Nat.le_refl _) (.cells #[.int .i64 z, .int .i64 h.coll, .int .i64 h.reg, .int .i64 h.a.1, .int .i64 h.a.2, .int .i64 h.b.1, .int .i64 h.b.2, .slice bp bn bc, .slice ep en ec] 45)
      refine (HR.out _ (HKI.out.below B1)).mono ?_
      rintro e w2 ⟨rfl, hb2⟩
      have HB2 := Lib.hid (B1.trans (hb2.mono B1.size))
      have HE2 := Lib.hid (HE.out.kept (Kept.of_below HB2.out) (fun q => by omega))
      have e2 := HE2.out.cell 0; have f2 := HE2.out.free 0; have hlt2 := HE2.out.lt
      simp only [List.getElem?_cons_zero] at e2
      clear B1 hb2 e0 f0 x0
      cases hO : oneR h (decide (bn = 0)) (decide (en = 0)) with
      | true =>
        have HV := Lib.hid (show visitR n d h (decide (bn = 0)) (decide (en = 0)) = none by unfold visitR; rw [if_neg h1, if_neg h2, hO]; rfl)
        go_wp2
        go_ret
        exact visit_good HV.out ((Kept.of_below HB2.out).mono (fun k h1 h2 => by omega)) HE2.out rfl
      | false =>
        have HV := Lib.hid (show visitR n d h (decide (bn = 0)) (decide (en = 0)) = some 9 by unfold visitR; rw [if_neg h1, if_neg h2, hO]; rfl)
        go_wp2
        go_ret
        exact visit_bad HV.out (HE2.out.set 0 _) (((Kept.of_below HB2.out).mono (fun k h1 h2 => by omega)).trans (kept_set w2 eb _)) ⟨rfl, by simp⟩
end Go.Proofs.YtikgbgminhgpdaaGreatDoor
