/- Layer 10 (text): the reader; fault, next. -/
import Derived.Test.YtikgbgminhgpdaaGreatDoorTxtStmt
import Derived.Test.YtikgbgminhgpdaaGreatDoorTextWords
import Derived.StillTailTactics
import Derived.Deep.QuietTactic
namespace Go.Proofs.YtikgbgminhgpdaaGreatDoor
open Go.RowKit Tx
set_option maxRecDepth 10000

/-- A reader. -/
structure Rd (rb lb : Nat) (L : List ByteArray) (cap : Nat) (w : World) (a : Nat) : Prop where
  rd : Cells w rb [.slice (some ⟨lb, 0, none⟩) L.length cap, .int .i64 (a : Int)] 68
  li : WordsAt w lb L
  lt : lb < w.heap.size
  ne : lb ≠ rb
  fits : L.length ≤ 1048576 ∧ ∀ x ∈ L, x.size ≤ 1048576
theorem WordsAt.kept {S : Nat → Prop} {w w' : World} {g : Nat} {wl : List ByteArray} (h : WordsAt w g wl) (k : Kept S w w') (hg : g < w.heap.size) (hs : ¬ S g) : WordsAt w' g wl := fun j x hx => by
  have := h j x hx
  unfold World.cell? at this ⊢
  simp only at this ⊢
  rw [k.block g hg hs]
  exact this
theorem Rd.kept {S : Nat → Prop} {rb lb cap a : Nat} {L : List ByteArray} {w w' : World} (h : Rd rb lb L cap w a) (k : Kept S w w') (h1 : ¬ S rb) (h2 : ¬ S lb) : Rd rb lb L cap w' a :=
  ⟨h.rd.kept k h1, h.li.kept k h.lt h2, Nat.lt_of_lt_of_le h.lt k.size, h.ne, h.fits⟩
theorem Rd.step {rb lb cap a : Nat} {L : List ByteArray} {w : World} (h : Rd rb lb L cap w a) (b : Nat) : Rd rb lb L cap (w.setCell ⟨rb, 1, none⟩ (.int .i64 (b : Int))) b :=
  ⟨h.rd.set 1 _, h.li.kept ((Kept.refl (fun k => k = rb) w).setCell (p := ⟨rb, 1, none⟩) (fun _ => rfl) _) h.lt h.ne, by simpa using h.lt, h.ne, h.fits⟩
def lsAt (L : List ByteArray) (a : Nat) : List (List Bs) := (L.drop a).map fun b => words b.data.toList
theorem lsAt_len (L : List ByteArray) (a : Nat) : (lsAt L a).length = L.length - a := by simp [lsAt]
/-- A fault with a place. -/
def Flt (base : Nat) (w : World) (v : Value) (at' no : Int) : Prop := ∃ f, v = .iface 60 (.pointer (some ⟨f, 0, none⟩)) ∧ Cells w f [.int .i64 at', .int .i64 no] 64 ∧ base ≤ f
theorem fault_ok {rb lb cap a : Nat} {L : List ByteArray} {w : World} (h : Rd rb lb L cap w a) : Calls Tryz.prog 28 #[.pointer (some ⟨rb, 0, none⟩)] w fun e w' => ∃ v, e = .returned v ∧ Flt w.heap.size w' v (a : Int) 9 ∧ Below w.heap.size w w' := by
  have r1 := h.rd.cell 1
  have C := Cells.new w [.int .i64 (a : Int), .int .i64 9] 64
  have B := (Below.refl w.heap.size w).alloc (Nat.le_refl _) (.cells #[.int .i64 (a : Int), .int .i64 9] 64)
  have HC := Lib.hid C; have HB := Lib.hid B
  simp only [List.getElem?_cons_succ, List.getElem?_cons_zero] at r1
  clear C B h
  go_enter Tryz.func28, Tryz.ntmps28
  go_wp2
  go_ret
  exact ⟨_, rfl, ⟨_, rfl, HC.out, Nat.le_refl _⟩, HB.out⟩

/-! next. -/
theorem blank_ok (x : Nat) (w : World) : Calls Tryz.prog 72 #[.int .i32 (x : Int)] w fun e w' => e = .returned (.bool (isBlank x)) ∧ w' = w := by
  have hb : ((x : Int) == 32) = isBlank x := by
    unfold isBlank
    cases h : x == 32 with
    | true => have : x = 32 := by simpa using h
              simp [this]
    | false => have : x ≠ 32 := by simpa using h
               simp; omega
  go_enter Tryz.func72, Tryz.ntmps72
  go_wp2
  go_ret
  exact ⟨congrArg (fun b => Ending.returned (.bool b)) (by rw [← hb]), rfl⟩
theorem ef_blank (args : Array Value) (w : World) : (callFunc 72 args).run Tryz.prog w = .ok (.enter 72 args) w := enters_of Tryz.func72 (by kernel_rfl) rfl args w
theorem blank_pred (w : World) : PredAtRunes Tryz.prog 72 #[] isBlank w := fun W x _ _ => (blank_ok x W).mono fun _ _ ⟨h1, h2⟩ => ⟨h1, 0, h2⟩
theorem words_row {w : World} {base A n : Nat} {c : Nat} {e : TypeId} {wl : List ByteArray} (h : w.ownsRow base e 1 (.slice (some ⟨A, 0, none⟩) n c) n (wl.map Value.string)) : WordsAt w A wl := fun j x hx => by
  have := h.cells (g := A) rfl j (.string x) (by rw [List.getElem?_map, hx]; rfl)
  rw [Addr.add_lit, Nat.zero_add] at this
  exact this
theorem split_len (c : UInt8) : ∀ l : Bs, (split c l).length ≤ l.length + 1 ∧ ∀ p ∈ split c l, p.length ≤ l.length
  | [] => by simp [split]
  | x :: l => by
    obtain ⟨h1, h2⟩ := split_len c l
    unfold split
    split
    · refine ⟨by simpa using h1, ?_⟩
      intro p hp
      rcases List.mem_cons.1 hp with rfl | hp
      · simp
      · have := h2 p hp; simp; omega
    · split
      · simp
      · rename_i p r hpr
        rw [hpr] at h1 h2
        refine ⟨by simp at h1 ⊢; omega, ?_⟩
        intro q hq
        rcases List.mem_cons.1 hq with rfl | hq
        · have := h2 p (by simp); simp; omega
        · have := h2 q (by simp [hq]); simp; omega
theorem words_len (l : Bs) : (words l).length ≤ l.length + 1 ∧ ∀ p ∈ words l, p.length ≤ l.length :=
  ⟨Nat.le_trans (List.length_filter_le _ _) (split_len 32 l).1, fun p hp => (split_len 32 l).2 p (List.mem_filter.1 hp).1⟩
theorem lsAt_cons {L : List ByteArray} {b : Nat} {x : ByteArray} (h : L[b]? = some x) : lsAt L b = words x.data.toList :: lsAt L (b + 1) := by
  obtain ⟨h1, e⟩ := List.getElem?_eq_some_iff.1 h
  unfold lsAt
  rw [List.drop_eq_getElem_cons h1, e]
  rfl
/-- What next answers. -/
def NextPost (rb lb : Nat) (L : List ByteArray) (cap : Nat) (w : World) (a : Nat) (e : Ending) (w' : World) : Prop :=
  Kept (fun k => k = rb) w w' ∧ match next (lsAt L a) with
    | none => e = .returned (.slice none 0 0) ∧ Rd rb lb L cap w' (L.length + 1)
    | some (l, r) => ∃ g n wl b, e = .returned (.slice (some ⟨g, 0, none⟩) n n) ∧ WordsAt w' g wl ∧ g < w'.heap.size ∧ w.heap.size ≤ g ∧ wl.length = n ∧ wl.map (·.data.toList) = l ∧ (∀ x ∈ wl, x.size ≤ 1048576) ∧ n ≤ 1048577 ∧ Rd rb lb L cap w' b ∧ r = lsAt L b ∧ a < b ∧ b ≤ L.length
set_option maxHeartbeats 1000000 in
theorem next_ok {rb lb cap a : Nat} {L : List ByteArray} {w : World} (h : Rd rb lb L cap w a) (ha : a ≤ L.length) : Calls Tryz.prog 51 #[.pointer (some ⟨rb, 0, none⟩)] w (NextPost rb lb L cap w a) := by
  have hrl : rb < w.heap.size := h.rd.lt
  have HF := Lib.hid h.fits
  go_enter Tryz.func51, Tryz.ntmps51
  go_wp2
  go_loopg [] L.length (fun gf wx => ∃ b, Rd rb lb L cap wx b ∧ Kept (fun k => k = rb) w wx ∧ next (lsAt L a) = next (lsAt L b) ∧ a ≤ b ∧ b ≤ L.length ∧ L.length ≤ b + gf)
  case atStart => exact ⟨a, h, Kept.refl _ _, rfl, Nat.le_refl _, ha, by omega⟩
  case round =>
    obtain ⟨b, hr, hk, hn, h1, h2, h3⟩ := hrel
    have r0 := hr.rd.cell 0
    have r1 := hr.rd.cell 1
    have fr := hr.rd.free 1
    simp only [List.getElem?_cons_succ, List.getElem?_cons_zero] at r0 r1
    have hL : L.length ≤ 1048576 := HF.out.1
    by_cases hb : b < L.length
    · obtain ⟨g', rfl⟩ : ∃ g', gk = g' + 1 := ⟨gk - 1, by omega⟩
      obtain ⟨x, hx⟩ : ∃ x, L[b]? = some x := ⟨_, List.getElem?_eq_getElem hb⟩
      have hxs : x.size ≤ 1048576 := HF.out.2 x (List.mem_of_getElem? hx)
      have hw1 : IntKind.i64.wrap ((b : Int) + 1) = (b : Int) + 1 := IntWalk.i64_in _ (by omega)
      have HRR := Lib.hid hr; have HKK := Lib.hid hk; have HN0 := Lib.hid hn; have HX := Lib.hid hx
      have gb : (b : Int) < (L.length : Int) := by omega
      have gb' : b < L.length := hb
      clear hr hk hn hx h
      go_wp2_with fail
      go_quiet (fail)
      go_wp2_with fail
      have hr := (HRR.out).kept ((Kept.refl (fun _ => False) wr).drewN nq) id id
      have hk := (HKK.out).drewN nq
      have hn := HN0.out; have hx := HX.out
      have hr2 := hr.step (b + 1)
      have hk2 := hk.setCell (p := ⟨rb, 1, none⟩) (fun _ => rfl) (.int .i64 ((b + 1 : Nat) : Int))
      obtain ⟨W, hW⟩ : ∃ W, (wr.drewN nq).setCell ⟨rb, 1, none⟩ (.int .i64 ((b : Int) + 1)) = W := ⟨_, rfl⟩
      rw [show ((b + 1 : Nat) : Int) = (b : Int) + 1 by omega, hW] at hr2 hk2
      rw [hW]
      have qx := hr2.li b x hx
      have s0 := hr2.rd.cell 0
      have s1 := hr2.rd.cell 1
      simp only [List.getElem?_cons_succ, List.getElem?_cons_zero] at s0 s1
      have HFF := Lib.hid (Tryz.strings_FieldsFunc_runes 72 #[] ef_blank isBlank x W.drew (by omega) (blank_pred W.drew))
      have hwd := fields_words x
      have hwl := words_len x.data.toList
      have hxl : x.data.toList.length = x.size := by simp
      rw [hxl] at hwl
      rw [lsAt_cons hx] at hn
      obtain ⟨wl, hwle⟩ : ∃ wl, Lib.goFieldsP isBlank x = wl := ⟨_, rfl⟩
      rw [hwle] at HFF hwd
      have hnl : wl.length ≤ 1048577 := by
        have := congrArg List.length hwd
        rw [List.length_map] at this
        omega
      have hw2 : IntKind.i64.wrap ((b : Int) + 1 - 1) = (b : Int) := by rw [show (b : Int) + 1 - 1 = (b : Int) by omega]; exact IntWalk.i64_in _ (by omega)
      have hw3 : IntKind.i64.wrap (b : Int) = (b : Int) := IntWalk.i64_in _ (by omega)
      have HR2 := Lib.hid hr2; have HK2 := Lib.hid hk2; have HN := Lib.hid hn; have HWD := Lib.hid hwd; have HWL := Lib.hid hwl; have HWW := Lib.hid hW
      clear hr2 hk2 hn hwd hwl hwle hr hk hxl hW r0 r1 fr hx
      by_cases h0 : wl.length = 0
      · have g0 : decide ((0 : Int) < (wl.length : Int)) = false := decide_eq_false (by omega)
        have g0' : ¬ (0 : Int) < (wl.length : Int) := by omega
        have g0'' : ¬ 0 < wl.length := by omega
        have hl0 : wl = [] := List.length_eq_zero_iff.1 h0
        have HN3 := Lib.hid (show next (lsAt L a) = next (lsAt L (b + 1)) by have := HN.out; rw [← HWD.out, hl0] at this; exact this)
        clear hl0 h0
        go_still_tail 11, (by kernel_rfl)
        go_wp2_with (go_at_call 71; refine HFF.out.mono ?_; rintro e w3 ⟨A, rfl, hA, hrow, hbl⟩)
        have k3 := (HK2.out.drew).trans (Kept.of_below hbl |>.mono (T := fun k => k = rb) (fun k hk hq => by omega))
        go_roundg g'
        case measure => omega
        case rel => exact ⟨b + 1, HR2.out.kept ((Kept.refl _ _).drew.trans (Kept.of_below hbl)) (fun q => by have := HR2.out.rd.lt; simp at q; omega) (fun q => by have := HR2.out.lt; simp at q; omega), k3, HN3.out, by omega, by omega, by omega⟩
      · have g0 : decide ((0 : Int) < (wl.length : Int)) = true := decide_eq_true (by omega)
        have g0' : (0 : Int) < (wl.length : Int) := by omega
        have g0'' : 0 < wl.length := by omega
        go_still_tail 11, (by kernel_rfl)
        go_wp2_with (go_at_call 71; refine HFF.out.mono ?_; rintro e w3 ⟨A, rfl, hA, hrow, hbl⟩)
        have k3 := (HK2.out.drew).trans (Kept.of_below hbl |>.mono (T := fun k => k = rb) (fun k hk hq => by omega))
        go_ret
        have hnx : next (lsAt L a) = some (wl.map (·.data.toList), lsAt L (b + 1)) := by
          have := HN.out
          rw [← HWD.out] at this
          rw [this]
          cases wl with
          | nil => simp at g0''
          | cons y ys => rfl
        refine ⟨k3, ?_⟩
        rw [hnx]
        have hs : ∀ y ∈ wl, y.size ≤ 1048576 := fun y hy => by
          have h1 := HWL.out.2 y.data.toList (by rw [← HWD.out]; exact List.mem_map_of_mem hy)
          have h2 : y.data.toList.length = y.size := by simp
          omega
        exact ⟨A, wl.length, wl, b + 1, rfl, words_row hrow, (hrow.lt A rfl).2, Nat.le_trans (HK2.out.size) hA, rfl, rfl, hs, hnl, HR2.out.kept ((Kept.refl _ _).drew.trans (Kept.of_below hbl)) (fun q => by have := HR2.out.rd.lt; simp at q; omega) (fun q => by have := HR2.out.lt; simp at q; omega), rfl, by omega, by omega⟩
    · obtain rfl : b = L.length := by omega
      have gb : ¬ (L.length : Int) < (L.length : Int) := by omega
      have gb' : ¬ L.length < L.length := by omega
      have hw1 : IntKind.i64.wrap ((L.length : Int) + 1) = (L.length : Int) + 1 := IntWalk.i64_in _ (by omega)
      have HRR := Lib.hid hr; have HKK := Lib.hid hk; have HN0 := Lib.hid hn
      clear hr hk hn h
      go_wp2_with fail
      go_quiet (fail)
      go_wp2_with fail
      go_ret
      have hr := (HRR.out).kept ((Kept.refl (fun _ => False) wr).drewN nq) id id
      have hk := (HKK.out).drewN nq
      have hnx : next (lsAt L a) = none := by rw [HN0.out]; unfold lsAt; rw [List.drop_length]; rfl
      refine ⟨hk.setCell (p := ⟨rb, 1, none⟩) (fun _ => rfl) _, ?_⟩
      rw [hnx]
      exact ⟨rfl, hr.step (L.length + 1)⟩
end Go.Proofs.YtikgbgminhgpdaaGreatDoor
