/- Layer 10 (text): kindOf, stmt. -/
import Derived.Test.YtikgbgminhgpdaaGreatDoorTxtKind
import Derived.Test.YtikgbgminhgpdaaGreatDoorTxtLeaf
namespace Go.Proofs.YtikgbgminhgpdaaGreatDoor
open Go.RowKit Tx
set_option maxRecDepth 10000

theorem kindOf_ok (s : ByteArray) (w : World) : Calls Tryz.prog 73 #[.string s] w fun e w' => e = .returned (.int .i64 ((kindOf s.data.toList : Nat) : Int)) ∧ w = w' := by
  obtain ⟨l, hl⟩ : ∃ l, s.data.toList = l := ⟨_, rfl⟩
  rw [hl]
  have hA : s.toList = l := (ByteArray.toList_eq s).trans hl
  clear hl
  go_enter Tryz.func73, Tryz.ntmps73
  go_wp2
  go_loopw [3] (fun i wr => ∃ k : Nat, 1 ≤ k ∧ k ≤ 17 ∧ i = .int .i64 (k : Int) ∧ kindOf l = kindFrom (kinds.drop (k - 1)) k l ∧ wr = w) (fun i _ => 17 - (intOf i).toNat)
  case atStart => exact ⟨1, by omega, by omega, rfl, rfl, rfl⟩
  case round =>
    obtain ⟨k, h1, h2, rfl, hk, rfl⟩ := hrel
    by_cases hlt : k ≤ 16
    · have hlt' : (k : Int) ≤ 16 := by omega
      have HW := Lib.hid (word_ok h1 hlt wr)
      obtain ⟨x, hx⟩ : ∃ x, kinds[k - 1]? = some x := ⟨_, List.getElem?_eq_getElem (show k - 1 < 16 by omega)⟩
      have hwd : wordOf k = x := by unfold wordOf; rw [List.getD_eq_getElem?_getD, hx]; rfl
      have hd : kinds.drop (k - 1) = x :: kinds.drop k := by
        have hlen : k - 1 < kinds.length := show k - 1 < 16 by omega
        rw [List.drop_eq_getElem_cons hlen, show k - 1 + 1 = k by omega]
        rw [List.getElem?_eq_getElem hlen] at hx
        rw [Option.some.inj hx]
      rw [hd, kindFrom] at hk
      rw [hwd] at HW
      have hX : (⟨x.toArray⟩ : ByteArray).toList = x := by rw [ByteArray.toList_eq]
      by_cases hxl : x = l
      · rw [if_pos hxl] at hk
        have HK := Lib.hid hk
        have gB : (x == l) = true := by simp [hxl]
        clear hk hd hx hwd
        go_wp2_with (go_at_call 59; refine HW.out.mono ?_; rintro e w' ⟨rfl, rfl⟩)
        go_ret
        exact ⟨by rw [HK.out]; rfl, rfl⟩
      · rw [if_neg hxl] at hk
        have HK := Lib.hid hk
        have gB : (x == l) = false := by simp [hxl]
        clear hk hd hx hwd
        go_wp2_with (go_at_call 59; refine HW.out.mono ?_; rintro e w' ⟨rfl, rfl⟩)
        go_roundw
        case rel => exact ⟨k + 1, by omega, by omega, by go_num, HK.out, trivial⟩
        case measure => simp [intOf]; omega
    · obtain rfl : k = 17 := by omega
      have HK := Lib.hid (show kindOf l = 0 from hk)
      clear hk
      go_wp2
      go_ret
      exact ⟨by rw [HK.out]; rfl, rfl⟩

/-! stmt. -/
/-- A statement as a value, with its blocks. -/
def shW (s : Sh) (body els : Value) : Value := .agg #[.int .i64 (s.kind : Int), .int .i64 s.coll, .int .i64 s.reg, .int .i64 s.a.1, .int .i64 s.a.2, .int .i64 s.b.1, .int .i64 s.b.2, body, els]
def shV (s : Sh) : Value := shW s (.slice none 0 0) (.slice none 0 0)
def WordsAt (w : World) (g : Nat) (wl : List ByteArray) : Prop := ∀ (j : Nat) x, wl[j]? = some x → w.cell? ⟨g, j, none⟩ = some (.string x)
theorem WordsAt.below {B : Nat} {w w' : World} {g : Nat} {wl : List ByteArray} (h : WordsAt w g wl) (hb : Below B w w') (hg : g < B) : WordsAt w' g wl := fun j x hx => (hb.cell (p := ⟨g, j, none⟩) hg).trans (h j x hx)
/-- What stmt answers. -/
def StmtPost (l : List Bs) (w : World) (e : Ending) (w' : World) : Prop :=
  Below w.heap.size w w' ∧ ∃ s', e = .returned (.tuple #[shV s', .bool (stmt l).isSome]) ∧ ∀ s, stmt l = some s → s' = s
theorem StmtPost.bad {l : List Bs} {w w' : World} {s' : Sh} (h : stmt l = none) (hb : Below w.heap.size w w') : StmtPost l w (.returned (.tuple #[shV s', .bool false])) w' :=
  ⟨hb, s', by rw [h]; rfl, fun s q => by rw [h] at q; cases q⟩
theorem StmtPost.good {l : List Bs} {w w' : World} {s : Sh} (h : stmt l = some s) (hb : Below w.heap.size w w') : StmtPost l w (.returned (.tuple #[shV s, .bool true])) w' :=
  ⟨hb, _, by rw [h]; rfl, fun s' q => by rw [h] at q; cases q; rfl⟩
theorem form_len {k : Nat} (h : k ≤ 16) : (form k).length ≤ 4 := by
  have : ∀ k : Fin 17, (form k.1).length ≤ 4 := by decide +kernel
  exact this ⟨k, by omega⟩
theorem form_chars {k : Nat} (h : k ≤ 16) : ∀ c ∈ form k, c = 99 ∨ c = 97 ∨ c = 98 ∨ c = 110 ∨ c = 114 ∨ c = 123 := by
  have : ∀ k : Fin 17, ∀ c ∈ form k.1, c = 99 ∨ c = 97 ∨ c = 98 ∨ c = 110 ∨ c = 114 ∨ c = 123 := by decide +kernel
  exact this ⟨k, by omega⟩
theorem nine_cells {w : World} {b : Nat} {t : TypeId} {x0 x1 x2 x3 x4 x5 x6 x7 x8 : Value} (h : Cells w b [x0, x1, x2, x3, x4, x5, x6, x7, x8] t) :
    (w.cell? ⟨b, 0, none⟩ = some x0 ∧ w.cell? ⟨b, 1, none⟩ = some x1 ∧ w.cell? ⟨b, 2, none⟩ = some x2 ∧ w.cell? ⟨b, 3, none⟩ = some x3 ∧ w.cell? ⟨b, 4, none⟩ = some x4 ∧ w.cell? ⟨b, 5, none⟩ = some x5 ∧ w.cell? ⟨b, 6, none⟩ = some x6 ∧ w.cell? ⟨b, 7, none⟩ = some x7 ∧ w.cell? ⟨b, 8, none⟩ = some x8) ∧
    (w.frozen? ⟨b, 0, none⟩ = false ∧ w.frozen? ⟨b, 1, none⟩ = false ∧ w.frozen? ⟨b, 2, none⟩ = false ∧ w.frozen? ⟨b, 3, none⟩ = false ∧ w.frozen? ⟨b, 4, none⟩ = false ∧ w.frozen? ⟨b, 5, none⟩ = false ∧ w.frozen? ⟨b, 6, none⟩ = false ∧ w.frozen? ⟨b, 7, none⟩ = false ∧ w.frozen? ⟨b, 8, none⟩ = false) :=
  ⟨⟨h.cell 0, h.cell 1, h.cell 2, h.cell 3, h.cell 4, h.cell 5, h.cell 6, h.cell 7, h.cell 8⟩, h.free 0, h.free 1, h.free 2, h.free 3, h.free 4, h.free 5, h.free 6, h.free 7, h.free 8⟩
theorem below_set {B : Nat} {a w : World} (h : Below B a w) (p : Addr) (hp : B ≤ p.block) (v : Value) : Below B a (w.setCell p v) :=
  ⟨h.os, h.tape, h.output, by have := h.size; simp; omega, fun k hk => (Below.heap_setCell w p v k (by omega)).trans (h.block k hk)⟩
theorem heap_set_far (w : World) (p : Addr) (v : Value) (k : Nat) (h : k ≠ p.block) : (w.setCell p v).heap[k]? = w.heap[k]? := Below.heap_setCell w p v k h
/-- A statement laid over a block. -/
theorem below_nine {B : Nat} {a w : World} (h : Below B a w) {b : Nat} (hb : B ≤ b) (x0 x1 x2 x3 x4 x5 x6 x7 x8 : Value) : Below B a (((((((((w.setCell ⟨b, 0, none⟩ x0).setCell ⟨b, 1, none⟩ x1).setCell ⟨b, 2, none⟩ x2).setCell ⟨b, 3, none⟩ x3).setCell ⟨b, 4, none⟩ x4).setCell ⟨b, 5, none⟩ x5).setCell ⟨b, 6, none⟩ x6).setCell ⟨b, 7, none⟩ x7).setCell ⟨b, 8, none⟩ x8) :=
  below_set (below_set (below_set (below_set (below_set (below_set (below_set (below_set (below_set h _ hb _) _ hb _) _ hb _) _ hb _) _ hb _) _ hb _) _ hb _) _ hb _) _ hb _
/-- What stands in a statement's block. -/
abbrev SV (s : Sh) : List Value := [.int .i64 (s.kind : Int), .int .i64 s.coll, .int .i64 s.reg, .int .i64 s.a.1, .int .i64 s.a.2, .int .i64 s.b.1, .int .i64 s.b.2, .slice none 0 0, .slice none 0 0]
theorem fill_step {f : Bs} {l : List Bs} {j : Nat} {c : UInt8} {x : Bs} (hf : f[j]? = some c) (hl : l[j]? = some x) (sh : Sh) :
    fill (f.drop j) (l.drop j) sh = match fill1 c x sh with
      | some s' => fill (f.drop (j + 1)) (l.drop (j + 1)) s'
      | none => none := by
  obtain ⟨h1, e1⟩ := List.getElem?_eq_some_iff.1 hf
  obtain ⟨h2, e2⟩ := List.getElem?_eq_some_iff.1 hl
  rw [List.drop_eq_getElem_cons h1, List.drop_eq_getElem_cons h2, e1, e2]
  rfl
set_option maxHeartbeats 4000000 in
theorem stmt_ok {g n cap : Nat} {wl : List ByteArray} {w : World} (h : WordsAt w g wl) (hg : g < w.heap.size) (hn : wl.length = n) (h1 : 1 ≤ n) (hm : n ≤ 9223372036854775807) (hsz : ∀ x ∈ wl, x.size ≤ 9223372036854775807) :
    Calls Tryz.prog 52 #[.slice (some ⟨g, 0, none⟩) n cap] w (StmtPost (wl.map (·.data.toList)) w) := by
  obtain ⟨x0, wt, rfl⟩ : ∃ x0 wt, wl = x0 :: wt := by
    cases wl with
    | nil => simp at hn; omega
    | cons a b => exact ⟨a, b, rfl⟩
  have q0 := h 0 x0 rfl
  have HKO := Lib.hid (fun w => kindOf_ok x0 w)
  obtain ⟨k, hk⟩ : ∃ k, kindOf x0.data.toList = k := ⟨_, rfl⟩
  rw [hk] at HKO
  have hk16 : k ≤ 16 := by rw [← hk]; exact kindOf_le _
  obtain ⟨F, hF⟩ : ∃ F : ByteArray, (⟨(form k).toArray⟩ : ByteArray) = F := ⟨_, rfl⟩
  have HFO := Lib.hid (fun w => form_ok hk16 w)
  rw [hF] at HFO
  have hFs : F.size = (form k).length := by rw [← hF]; exact List.size_toArray ..
  have hFd : F.data.toList = form k := by rw [← hF]
  have hF4 : (form k).length ≤ 4 := form_len hk16
  have HFD := Lib.hid hFd
  clear hF hFd
  have HW := Lib.hid h; have HG := Lib.hid hg; have HN := Lib.hid hn; have HK := Lib.hid hk; have HSZ := Lib.hid hsz
  have B0 := ((Below.refl w.heap.size w).alloc (Nat.le_refl _) (.cells #[.int .i64 0, .int .i64 0, .int .i64 0, .int .i64 0, .int .i64 0, .int .i64 0, .int .i64 0, .slice none 0 0, .slice none 0 0] 45)).alloc (by simp) (.cells #[.int .i64 (k : Int), .int .i64 0, .int .i64 0, .int .i64 0, .int .i64 0, .int .i64 0, .int .i64 0, .slice none 0 0, .slice none 0 0] 45)
  have C0 := (Cells.new w [.int .i64 0, .int .i64 0, .int .i64 0, .int .i64 0, .int .i64 0, .int .i64 0, .int .i64 0, .slice none 0 0, .slice none 0 0] 45).alloc (.cells #[.int .i64 (k : Int), .int .i64 0, .int .i64 0, .int .i64 0, .int .i64 0, .int .i64 0, .int .i64 0, .slice none 0 0, .slice none 0 0] 45)
  have C1 := Cells.new (w.alloc (.cells #[.int .i64 0, .int .i64 0, .int .i64 0, .int .i64 0, .int .i64 0, .int .i64 0, .int .i64 0, .slice none 0 0, .slice none 0 0] 45)) [.int .i64 (k : Int), .int .i64 0, .int .i64 0, .int .i64 0, .int .i64 0, .int .i64 0, .int .i64 0, .slice none 0 0, .slice none 0 0] 45
  obtain ⟨W, hW⟩ : ∃ W, (w.alloc (.cells #[.int .i64 0, .int .i64 0, .int .i64 0, .int .i64 0, .int .i64 0, .int .i64 0, .int .i64 0, .slice none 0 0, .slice none 0 0] 45)).alloc (.cells #[.int .i64 (k : Int), .int .i64 0, .int .i64 0, .int .i64 0, .int .i64 0, .int .i64 0, .int .i64 0, .slice none 0 0, .slice none 0 0] 45) = W := ⟨_, rfl⟩
  have hs1 : (w.alloc (.cells #[.int .i64 0, .int .i64 0, .int .i64 0, .int .i64 0, .int .i64 0, .int .i64 0, .int .i64 0, .slice none 0 0, .slice none 0 0] 45)).heap.size = w.heap.size + 1 := by simp
  have hs2 : W.heap.size = w.heap.size + 2 := by rw [← hW]; simp
  rw [hW] at B0 C0
  rw [hs1] at C1
  have C1 : Cells W (w.heap.size + 1) [.int .i64 (k : Int), .int .i64 0, .int .i64 0, .int .i64 0, .int .i64 0, .int .i64 0, .int .i64 0, .slice none 0 0, .slice none 0 0] 45 := by rw [← hW]; exact C1
  have HB0 := Lib.hid B0; have HC0 := Lib.hid C0; have HC1 := Lib.hid C1; have HS2 := Lib.hid hs2; have HWQ := Lib.hid hW
  clear B0 C0 C1 hs1 hs2 hW
  clear h hn hk hsz
  go_enter Tryz.func52, Tryz.ntmps52
  go_wp2_with fail
  refine (HKO.out _).mono ?_
  rintro e w' ⟨rfl, rfl⟩
  go_wp2_with fail
  refine (HFO.out _).mono ?_
  rintro e w' ⟨rfl, rfl⟩
  rw [HWQ.out]
  obtain ⟨⟨z0, z1, z2, z3, z4, z5, z6, z7, z8⟩, f0, f1, f2, f3, f4, f5, f6, f7, f8⟩ := nine_cells HC0.out
  obtain ⟨⟨y0, y1, y2, y3, y4, y5, y6, y7, y8⟩, -⟩ := nine_cells HC1.out
  by_cases hc : k = 0 ∨ wt.length ≠ (form k).length
  · have hst : stmt ((x0 :: wt).map (·.data.toList)) = none := by
      simp only [List.map_cons, stmt, HK.out]
      rw [if_pos (by simpa using hc)]
    have hV := Lib.hid (below_nine HB0.out (Nat.le_refl w.heap.size))
    have hST := Lib.hid hst
    by_cases hk0 : k = 0
    · have g1 : ((k : Int) == 0) = true := by simp [hk0]
      clear hc hst
      go_wp2
      refine bodyPost_ret (v := .tuple #[shV (.zero k), .bool false]) (by simp [results, Tryz.results52, go_sem, shV, shW, Sh.zero, hk0, z0, z1, z2, z3, z4, z5, z6, z7, z8]) rfl ?_
      exact .bad hST.out (hV.out ..)
    · have g1 : ((k : Int) == 0) = false := by simp; omega
      have hl2 : wt.length ≠ (form k).length := by rcases hc with q | q; exact absurd q hk0; exact q
      have hn2 : n = wt.length + 1 := by rw [← HN.out]; rfl
      have hwr : IntKind.i64.wrap ((F.size : Int) + 1) = (F.size : Int) + 1 := IntWalk.i64_in _ (by omega)
      have g2 : ((n : Int) != (F.size : Int) + 1) = true := by simp; omega
      clear hc hst
      go_wp2
      refine bodyPost_ret (v := .tuple #[shV (.zero k), .bool false]) (by simp [results, Tryz.results52, go_sem, shV, shW, Sh.zero, z0, z1, z2, z3, z4, z5, z6, z7, z8]) rfl ?_
      exact .bad hST.out (hV.out ..)
  · simp only [not_or, Decidable.not_not] at hc
    obtain ⟨hk0, hl2⟩ := hc
    have hst : stmt ((x0 :: wt).map (·.data.toList)) = fill (form k) (wt.map (·.data.toList)) (.zero k) := by
      simp only [List.map_cons, stmt, HK.out]
      rw [if_neg (by simpa using ⟨hk0, hl2⟩)]
    have HST := Lib.hid hst
    have hn2 : n = wt.length + 1 := by rw [← HN.out]; rfl
    have g1 : ((k : Int) == 0) = false := by simp; omega
    have hwr : IntKind.i64.wrap ((F.size : Int) + 1) = (F.size : Int) + 1 := IntWalk.i64_in _ (by omega)
    have g2 : ((n : Int) != (F.size : Int) + 1) = false := by simp; omega
    clear hst
    go_wp2
    rw [HS2.out]
    go_loopg [] F.size (fun gf wx => ∃ (j : Nat) (sh : Sh), wx.heap[w.heap.size + 2]? = some (.stringIter F j) ∧ Cells wx (w.heap.size + 1) (SV sh) 45 ∧ Cells wx w.heap.size (SV (.zero 0)) 45 ∧ Below w.heap.size w wx ∧ stmt ((x0 :: wt).map (·.data.toList)) = fill ((form k).drop j) ((wt.map (·.data.toList)).drop j) sh ∧ F.size ≤ j + gf)
    case atStart =>
      refine ⟨0, .zero k, ?_, HC1.out.alloc _, HC0.out.alloc _, HB0.out.alloc HB0.out.size _, HST.out, by omega⟩
      have := World.iter_heap W F 0
      rw [HS2.out] at this
      exact this
    case round =>
      obtain ⟨j, sh, hit, hsb, hrb, hbw, hleft, hfu⟩ := hrel
      clear z0 z1 z2 z3 z4 z5 z6 z7 z8 f0 f1 f2 f3 f4 f5 f6 f7 f8 y0 y1 y2 y3 y4 y5 y6 y7 y8
      by_cases hps : j < F.size
      · obtain ⟨g', rfl⟩ : ∃ g', gk = g' + 1 := ⟨gk - 1, by omega⟩
        obtain ⟨c, hcf⟩ : ∃ c, (form k)[j]? = some c := ⟨_, List.getElem?_eq_getElem (by omega)⟩
        obtain ⟨x, hxf⟩ : ∃ x, wt[j]? = some x := ⟨_, List.getElem?_eq_getElem (by omega)⟩
        have hxl : (wt.map (·.data.toList))[j]? = some x.data.toList := by rw [List.getElem?_map, hxf]; rfl
        have hcx : (F[j]'hps) = c := at_of HFD.out hcf hps
        have hnx : ∀ ty, (Instr.next (.pointer (some ⟨w.heap.size + 2, 0, none⟩)) true ty).run Tryz.prog wr = .ok (.tuple #[.bool true, .int .i64 j, .int .i32 c.toNat]) (wr.iterAt (w.heap.size + 2) F (j + 1)) := fun ty => by
          rw [← hcx]
          refine Lib.run_next_ascii_at wr (w.heap.size + 2) F j ty hit hps ?_
          rw [hcx]
          rcases form_chars hk16 c (List.mem_of_getElem? hcf) with q | q | q | q | q | q <;> rw [q] <;> decide
        have hxs : x.size ≤ 9223372036854775807 := HSZ.out x (List.mem_cons_of_mem _ (List.mem_of_getElem? hxf))
        have hit2 := Lib.iterAt_heap wr (w.heap.size + 2) F j (j + 1) hit
        have hbw2 := Lib.below_iterAt hbw (k := w.heap.size + 2) (by omega) F (j + 1)
        have hsb2 : Cells (wr.iterAt (w.heap.size + 2) F (j + 1)) _ _ _ := (Lib.iterAt_other wr (w.heap.size + 2) (w.heap.size + 1) F (j + 1) (by omega)).trans hsb
        have hrb2 : Cells (wr.iterAt (w.heap.size + 2) F (j + 1)) _ _ _ := (Lib.iterAt_other wr (w.heap.size + 2) w.heap.size F (j + 1) (by omega)).trans hrb
        obtain ⟨W1, hWd⟩ : ∃ W1, wr.iterAt (w.heap.size + 2) F (j + 1) = W1 := ⟨_, rfl⟩
        rw [hWd] at hnx hit2 hbw2 hsb2 hrb2
        have hsz1 : w.heap.size + 2 < W1.heap.size := (Array.getElem?_eq_some_iff.1 hit2).1
        have qx : W1.cell? ⟨g, j + 1, none⟩ = some (.string x) := (hbw2.cell (p := ⟨g, j + 1, none⟩) hg).trans (HW.out (j + 1) x (by rw [List.getElem?_cons_succ]; exact hxf))
        rw [fill_step hcf hxl] at hleft
        have hw1 : IntKind.i64.wrap ((j : Int) + 1) = ((j + 1 : Nat) : Int) := by rw [IntWalk.i64_in _ (by omega)]; omega
        have hin : j + 1 < (form k).length + 1 := by omega
        have HLF := Lib.hid hleft; have HIT := Lib.hid hit2; have HBW := Lib.hid hbw2; have HSB := Lib.hid hsb2; have HRB := Lib.hid hrb2; have HCF := Lib.hid hcf
        have hch := form_chars hk16 c (List.mem_of_getElem? hcf)
        clear hleft hit hit2 hbw hbw2 hsb hsb2 hrb hrb2 hcf hxf hxl hcx
        rcases hch with rfl | rfl | rfl | rfl | rfl | rfl
        · have hpl := plain_ok x W1 hxs
          have HPL := Lib.hid hpl
          clear hpl
          cases hp : plain x.data.toList with
          | none =>
            rw [hp] at HPL
            have HL : Hid (stmt ((x0 :: wt).map (·.data.toList)) = none) := by
              have q := HLF.out
              simp only [fill1, hp, reduceIte, show ((99 : UInt8) = 97) = False from by decide, show ((99 : UInt8) = 98) = False from by decide, show ((99 : UInt8) = 110) = False from by decide, show ((99 : UInt8) = 114) = False from by decide] at q
              exact Lib.hid q
            clear hp HLF
            go_wp2_with (go_at_call 74; refine HPL.out.mono ?_; rintro e w2 ⟨rfl, hb⟩; obtain ⟨⟨y0, y1, y2, y3, y4, y5, y6, y7, y8⟩, e0, e1, e2, e3, e4, e5, e6, e7, e8⟩ := nine_cells (HSB.out.kept (Kept.of_below hb) (fun q => by omega)); obtain ⟨⟨z0, z1, z2, z3, z4, z5, z6, z7, z8⟩, f0, f1, f2, f3, f4, f5, f6, f7, f8⟩ := nine_cells (HRB.out.kept (Kept.of_below hb) (fun q => by omega)))
            refine bodyPost_ret (v := .tuple #[shV { sh with coll := 0 }, .bool false]) (by simp [results, Tryz.results52, go_sem, shV, shW, z0, z1, z2, z3, z4, z5, z6, z7, z8]) rfl ?_
            exact .bad HL.out (below_nine (below_set (HBW.out.trans (hb.mono (by omega))) _ (Nat.le_succ _) _) (Nat.le_refl _) ..)
          | some v =>
            rw [hp] at HPL
            have HL : Hid (stmt ((x0 :: wt).map (·.data.toList)) = fill ((form k).drop (j + 1)) ((wt.map (·.data.toList)).drop (j + 1)) { sh with coll := (v : Int) }) := by
              have q := HLF.out
              simp only [fill1, hp, reduceIte, show ((99 : UInt8) = 97) = False from by decide, show ((99 : UInt8) = 98) = False from by decide, show ((99 : UInt8) = 110) = False from by decide, show ((99 : UInt8) = 114) = False from by decide] at q
              exact Lib.hid q
            clear hp HLF
            go_wp2_with (go_at_call 74; refine HPL.out.mono ?_; rintro e w2 ⟨rfl, hb⟩; obtain ⟨⟨y0, y1, y2, y3, y4, y5, y6, y7, y8⟩, e0, e1, e2, e3, e4, e5, e6, e7, e8⟩ := nine_cells (HSB.out.kept (Kept.of_below hb) (fun q => by omega)); obtain ⟨⟨z0, z1, z2, z3, z4, z5, z6, z7, z8⟩, f0, f1, f2, f3, f4, f5, f6, f7, f8⟩ := nine_cells (HRB.out.kept (Kept.of_below hb) (fun q => by omega)))
            go_roundg g'
            case measure => omega
            case rel => exact ⟨j + 1, { sh with coll := (v : Int) }, (heap_set_far _ _ _ _ (by simp)).trans ((hb.block _ (by omega)).trans HIT.out), (HSB.out.kept (Kept.of_below hb) (fun q => by omega)).set 1 (.int .i64 (v : Int)), (HRB.out.kept (Kept.of_below hb) (fun q => by omega)).set_other (a := ⟨_, 1, none⟩) (by simp) _, below_set (HBW.out.trans (hb.mono (by omega))) _ (Nat.le_succ _) _, HL.out, by omega⟩
        · have hpl := arg_ok x W1 hxs
          have HPL := Lib.hid hpl
          clear hpl
          cases hp : arg x.data.toList with
          | none =>
            rw [hp] at HPL
            have HL : Hid (stmt ((x0 :: wt).map (·.data.toList)) = none) := by
              have q := HLF.out
              simp only [fill1, hp, Option.map_none, reduceIte, show ((97 : UInt8) = 99) = False from by decide, show ((97 : UInt8) = 98) = False from by decide, show ((97 : UInt8) = 110) = False from by decide, show ((97 : UInt8) = 114) = False from by decide] at q
              exact Lib.hid q
            clear hp HLF
            go_wp2_with (go_at_call 75; refine HPL.out.mono ?_; rintro e w2 ⟨rfl, hb⟩; obtain ⟨⟨y0, y1, y2, y3, y4, y5, y6, y7, y8⟩, e0, e1, e2, e3, e4, e5, e6, e7, e8⟩ := nine_cells (HSB.out.kept (Kept.of_below hb) (fun q => by omega)); obtain ⟨⟨z0, z1, z2, z3, z4, z5, z6, z7, z8⟩, f0, f1, f2, f3, f4, f5, f6, f7, f8⟩ := nine_cells (HRB.out.kept (Kept.of_below hb) (fun q => by omega)))
            refine bodyPost_ret (v := .tuple #[shV { sh with a := (0, 0) }, .bool false]) (by simp [results, Tryz.results52, go_sem, shV, shW, z0, z1, z2, z3, z4, z5, z6, z7, z8]) rfl ?_
            exact .bad HL.out (below_nine (below_set (below_set (HBW.out.trans (hb.mono (by omega))) _ (Nat.le_succ _) _) _ (Nat.le_succ _) _) (Nat.le_refl _) ..)
          | some v =>
            rw [hp] at HPL
            have HL : Hid (stmt ((x0 :: wt).map (·.data.toList)) = fill ((form k).drop (j + 1)) ((wt.map (·.data.toList)).drop (j + 1)) { sh with a := v }) := by
              have q := HLF.out
              simp only [fill1, hp, Option.map_some, reduceIte, show ((97 : UInt8) = 99) = False from by decide, show ((97 : UInt8) = 98) = False from by decide, show ((97 : UInt8) = 110) = False from by decide, show ((97 : UInt8) = 114) = False from by decide] at q
              exact Lib.hid q
            clear hp HLF
            go_wp2_with (go_at_call 75; refine HPL.out.mono ?_; rintro e w2 ⟨rfl, hb⟩; obtain ⟨⟨y0, y1, y2, y3, y4, y5, y6, y7, y8⟩, e0, e1, e2, e3, e4, e5, e6, e7, e8⟩ := nine_cells (HSB.out.kept (Kept.of_below hb) (fun q => by omega)); obtain ⟨⟨z0, z1, z2, z3, z4, z5, z6, z7, z8⟩, f0, f1, f2, f3, f4, f5, f6, f7, f8⟩ := nine_cells (HRB.out.kept (Kept.of_below hb) (fun q => by omega)))
            go_roundg g'
            case measure => omega
            case rel => exact ⟨j + 1, { sh with a := v }, (heap_set_far _ _ _ _ (by simp)).trans ((heap_set_far _ _ _ _ (by simp)).trans ((hb.block _ (by omega)).trans HIT.out)), ((HSB.out.kept (Kept.of_below hb) (fun q => by omega)).set 3 (.int .i64 v.1)).set 4 (.int .i64 v.2), ((HRB.out.kept (Kept.of_below hb) (fun q => by omega)).set_other (a := ⟨_, 3, none⟩) (by simp) _).set_other (a := ⟨_, 4, none⟩) (by simp) _, below_set (below_set (HBW.out.trans (hb.mono (by omega))) _ (Nat.le_succ _) _) _ (Nat.le_succ _) _, HL.out, by omega⟩
        · have hpl := arg_ok x W1 hxs
          have HPL := Lib.hid hpl
          clear hpl
          cases hp : arg x.data.toList with
          | none =>
            rw [hp] at HPL
            have HL : Hid (stmt ((x0 :: wt).map (·.data.toList)) = none) := by
              have q := HLF.out
              simp only [fill1, hp, Option.map_none, reduceIte, show ((98 : UInt8) = 99) = False from by decide, show ((98 : UInt8) = 97) = False from by decide, show ((98 : UInt8) = 110) = False from by decide, show ((98 : UInt8) = 114) = False from by decide] at q
              exact Lib.hid q
            clear hp HLF
            go_wp2_with (go_at_call 75; refine HPL.out.mono ?_; rintro e w2 ⟨rfl, hb⟩; obtain ⟨⟨y0, y1, y2, y3, y4, y5, y6, y7, y8⟩, e0, e1, e2, e3, e4, e5, e6, e7, e8⟩ := nine_cells (HSB.out.kept (Kept.of_below hb) (fun q => by omega)); obtain ⟨⟨z0, z1, z2, z3, z4, z5, z6, z7, z8⟩, f0, f1, f2, f3, f4, f5, f6, f7, f8⟩ := nine_cells (HRB.out.kept (Kept.of_below hb) (fun q => by omega)))
            refine bodyPost_ret (v := .tuple #[shV { sh with b := (0, 0) }, .bool false]) (by simp [results, Tryz.results52, go_sem, shV, shW, z0, z1, z2, z3, z4, z5, z6, z7, z8]) rfl ?_
            exact .bad HL.out (below_nine (below_set (below_set (HBW.out.trans (hb.mono (by omega))) _ (Nat.le_succ _) _) _ (Nat.le_succ _) _) (Nat.le_refl _) ..)
          | some v =>
            rw [hp] at HPL
            have HL : Hid (stmt ((x0 :: wt).map (·.data.toList)) = fill ((form k).drop (j + 1)) ((wt.map (·.data.toList)).drop (j + 1)) { sh with b := v }) := by
              have q := HLF.out
              simp only [fill1, hp, Option.map_some, reduceIte, show ((98 : UInt8) = 99) = False from by decide, show ((98 : UInt8) = 97) = False from by decide, show ((98 : UInt8) = 110) = False from by decide, show ((98 : UInt8) = 114) = False from by decide] at q
              exact Lib.hid q
            clear hp HLF
            go_wp2_with (go_at_call 75; refine HPL.out.mono ?_; rintro e w2 ⟨rfl, hb⟩; obtain ⟨⟨y0, y1, y2, y3, y4, y5, y6, y7, y8⟩, e0, e1, e2, e3, e4, e5, e6, e7, e8⟩ := nine_cells (HSB.out.kept (Kept.of_below hb) (fun q => by omega)); obtain ⟨⟨z0, z1, z2, z3, z4, z5, z6, z7, z8⟩, f0, f1, f2, f3, f4, f5, f6, f7, f8⟩ := nine_cells (HRB.out.kept (Kept.of_below hb) (fun q => by omega)))
            go_roundg g'
            case measure => omega
            case rel => exact ⟨j + 1, { sh with b := v }, (heap_set_far _ _ _ _ (by simp)).trans ((heap_set_far _ _ _ _ (by simp)).trans ((hb.block _ (by omega)).trans HIT.out)), ((HSB.out.kept (Kept.of_below hb) (fun q => by omega)).set 5 (.int .i64 v.1)).set 6 (.int .i64 v.2), ((HRB.out.kept (Kept.of_below hb) (fun q => by omega)).set_other (a := ⟨_, 5, none⟩) (by simp) _).set_other (a := ⟨_, 6, none⟩) (by simp) _, below_set (below_set (HBW.out.trans (hb.mono (by omega))) _ (Nat.le_succ _) _) _ (Nat.le_succ _) _, HL.out, by omega⟩
        · have hpl := plain_ok x W1 hxs
          have HPL := Lib.hid hpl
          clear hpl
          cases hp : plain x.data.toList with
          | none =>
            rw [hp] at HPL
            have HL : Hid (stmt ((x0 :: wt).map (·.data.toList)) = none) := by
              have q := HLF.out
              simp only [fill1, hp, reduceIte, show ((110 : UInt8) = 99) = False from by decide, show ((110 : UInt8) = 97) = False from by decide, show ((110 : UInt8) = 98) = False from by decide, show ((110 : UInt8) = 114) = False from by decide] at q
              exact Lib.hid q
            clear hp HLF
            go_wp2_with (go_at_call 74; refine HPL.out.mono ?_; rintro e w2 ⟨rfl, hb⟩; obtain ⟨⟨y0, y1, y2, y3, y4, y5, y6, y7, y8⟩, e0, e1, e2, e3, e4, e5, e6, e7, e8⟩ := nine_cells (HSB.out.kept (Kept.of_below hb) (fun q => by omega)); obtain ⟨⟨z0, z1, z2, z3, z4, z5, z6, z7, z8⟩, f0, f1, f2, f3, f4, f5, f6, f7, f8⟩ := nine_cells (HRB.out.kept (Kept.of_below hb) (fun q => by omega)))
            refine bodyPost_ret (v := .tuple #[shV { sh with a := (sh.a.1, 0) }, .bool false]) (by simp [results, Tryz.results52, go_sem, shV, shW, z0, z1, z2, z3, z4, z5, z6, z7, z8]) rfl ?_
            exact .bad HL.out (below_nine (below_set (HBW.out.trans (hb.mono (by omega))) _ (Nat.le_succ _) _) (Nat.le_refl _) ..)
          | some v =>
            rw [hp] at HPL
            have HL : Hid (stmt ((x0 :: wt).map (·.data.toList)) = fill ((form k).drop (j + 1)) ((wt.map (·.data.toList)).drop (j + 1)) { sh with a := (sh.a.1, (v : Int)) }) := by
              have q := HLF.out
              simp only [fill1, hp, reduceIte, show ((110 : UInt8) = 99) = False from by decide, show ((110 : UInt8) = 97) = False from by decide, show ((110 : UInt8) = 98) = False from by decide, show ((110 : UInt8) = 114) = False from by decide] at q
              exact Lib.hid q
            clear hp HLF
            go_wp2_with (go_at_call 74; refine HPL.out.mono ?_; rintro e w2 ⟨rfl, hb⟩; obtain ⟨⟨y0, y1, y2, y3, y4, y5, y6, y7, y8⟩, e0, e1, e2, e3, e4, e5, e6, e7, e8⟩ := nine_cells (HSB.out.kept (Kept.of_below hb) (fun q => by omega)); obtain ⟨⟨z0, z1, z2, z3, z4, z5, z6, z7, z8⟩, f0, f1, f2, f3, f4, f5, f6, f7, f8⟩ := nine_cells (HRB.out.kept (Kept.of_below hb) (fun q => by omega)))
            go_roundg g'
            case measure => omega
            case rel => exact ⟨j + 1, { sh with a := (sh.a.1, (v : Int)) }, (heap_set_far _ _ _ _ (by simp)).trans ((hb.block _ (by omega)).trans HIT.out), (HSB.out.kept (Kept.of_below hb) (fun q => by omega)).set 4 (.int .i64 (v : Int)), (HRB.out.kept (Kept.of_below hb) (fun q => by omega)).set_other (a := ⟨_, 4, none⟩) (by simp) _, below_set (HBW.out.trans (hb.mono (by omega))) _ (Nat.le_succ _) _, HL.out, by omega⟩
        · have hpl := register_ok x W1
          have HPL := Lib.hid hpl
          clear hpl
          cases hp : register x.data.toList with
          | none =>
            rw [hp] at HPL
            have HL : Hid (stmt ((x0 :: wt).map (·.data.toList)) = none) := by
              have q := HLF.out
              simp only [fill1, hp, reduceIte, show ((114 : UInt8) = 99) = False from by decide, show ((114 : UInt8) = 97) = False from by decide, show ((114 : UInt8) = 98) = False from by decide, show ((114 : UInt8) = 110) = False from by decide] at q
              exact Lib.hid q
            clear hp HLF
            go_wp2_with (go_at_call 76; refine HPL.out.mono ?_; rintro e w2 ⟨rfl, rfl⟩; have hb := Below.refl W1.heap.size W1; obtain ⟨⟨y0, y1, y2, y3, y4, y5, y6, y7, y8⟩, e0, e1, e2, e3, e4, e5, e6, e7, e8⟩ := nine_cells (HSB.out.kept (Kept.of_below hb) (fun q => by omega)); obtain ⟨⟨z0, z1, z2, z3, z4, z5, z6, z7, z8⟩, f0, f1, f2, f3, f4, f5, f6, f7, f8⟩ := nine_cells (HRB.out.kept (Kept.of_below hb) (fun q => by omega)))
            have hb := Below.refl W1.heap.size W1
            refine bodyPost_ret (v := .tuple #[shV { sh with reg := 0 }, .bool false]) (by simp [results, Tryz.results52, go_sem, shV, shW, z0, z1, z2, z3, z4, z5, z6, z7, z8]) rfl ?_
            exact .bad HL.out (below_nine (below_set (HBW.out.trans (hb.mono (by omega))) _ (Nat.le_succ _) _) (Nat.le_refl _) ..)
          | some v =>
            rw [hp] at HPL
            have HL : Hid (stmt ((x0 :: wt).map (·.data.toList)) = fill ((form k).drop (j + 1)) ((wt.map (·.data.toList)).drop (j + 1)) { sh with reg := (v : Int) }) := by
              have q := HLF.out
              simp only [fill1, hp, reduceIte, show ((114 : UInt8) = 99) = False from by decide, show ((114 : UInt8) = 97) = False from by decide, show ((114 : UInt8) = 98) = False from by decide, show ((114 : UInt8) = 110) = False from by decide] at q
              exact Lib.hid q
            clear hp HLF
            go_wp2_with (go_at_call 76; refine HPL.out.mono ?_; rintro e w2 ⟨rfl, rfl⟩; have hb := Below.refl W1.heap.size W1; obtain ⟨⟨y0, y1, y2, y3, y4, y5, y6, y7, y8⟩, e0, e1, e2, e3, e4, e5, e6, e7, e8⟩ := nine_cells (HSB.out.kept (Kept.of_below hb) (fun q => by omega)); obtain ⟨⟨z0, z1, z2, z3, z4, z5, z6, z7, z8⟩, f0, f1, f2, f3, f4, f5, f6, f7, f8⟩ := nine_cells (HRB.out.kept (Kept.of_below hb) (fun q => by omega)))
            have hb := Below.refl W1.heap.size W1
            go_roundg g'
            case measure => omega
            case rel => exact ⟨j + 1, { sh with reg := (v : Int) }, (heap_set_far _ _ _ _ (by simp)).trans ((hb.block _ (by omega)).trans HIT.out), (HSB.out.kept (Kept.of_below hb) (fun q => by omega)).set 2 (.int .i64 (v : Int)), (HRB.out.kept (Kept.of_below hb) (fun q => by omega)).set_other (a := ⟨_, 2, none⟩) (by simp) _, below_set (HBW.out.trans (hb.mono (by omega))) _ (Nat.le_succ _) _, HL.out, by omega⟩
        · have hX : x.toList = x.data.toList := ByteArray.toList_eq x
          by_cases hxc : x.data.toList = [123]
          · have HL : Hid (stmt ((x0 :: wt).map (·.data.toList)) = fill ((form k).drop (j + 1)) ((wt.map (·.data.toList)).drop (j + 1)) sh) := by
              have q := HLF.out
              simp only [fill1, hxc, reduceIte, show ((123 : UInt8) = 99) = False from by decide, show ((123 : UInt8) = 97) = False from by decide, show ((123 : UInt8) = 98) = False from by decide, show ((123 : UInt8) = 110) = False from by decide, show ((123 : UInt8) = 114) = False from by decide] at q
              exact Lib.hid q
            obtain rfl : x = ⟨#[123]⟩ := by
              obtain ⟨⟨m⟩⟩ := x
              simp only at hxc
              rw [hxc]
            clear HLF hX hxc
            go_wp2
            go_roundg g'
            case measure => omega
            case rel => exact ⟨j + 1, sh, HIT.out, HSB.out, HRB.out, HBW.out, HL.out, by omega⟩
          · have HL : Hid (stmt ((x0 :: wt).map (·.data.toList)) = none) := by
              have q := HLF.out
              simp only [fill1, hxc, reduceIte, show ((123 : UInt8) = 99) = False from by decide, show ((123 : UInt8) = 97) = False from by decide, show ((123 : UInt8) = 98) = False from by decide, show ((123 : UInt8) = 110) = False from by decide, show ((123 : UInt8) = 114) = False from by decide] at q
              exact Lib.hid q
            have gB : (x.data.toList == [123]) = false := by simpa using hxc
            obtain ⟨⟨y0, y1, y2, y3, y4, y5, y6, y7, y8⟩, e0, e1, e2, e3, e4, e5, e6, e7, e8⟩ := nine_cells HSB.out
            obtain ⟨⟨z0, z1, z2, z3, z4, z5, z6, z7, z8⟩, f0, f1, f2, f3, f4, f5, f6, f7, f8⟩ := nine_cells HRB.out
            clear HLF hxc
            go_wp2
            refine bodyPost_ret (v := .tuple #[shV sh, .bool false]) (by simp [results, Tryz.results52, go_sem, shV, shW, z0, z1, z2, z3, z4, z5, z6, z7, z8]) rfl ?_
            exact .bad HL.out (below_nine HBW.out (Nat.le_refl _) ..)
      · have hnx : ∀ ty, (Instr.next (.pointer (some ⟨w.heap.size + 2, 0, none⟩)) true ty).run Tryz.prog wr = _ := fun ty => Lib.run_next_end_at wr (w.heap.size + 2) F j ty hit hps
        have hd : (form k).drop j = [] := List.drop_eq_nil_of_le (by omega)
        rw [hd] at hleft
        have HL := Lib.hid hleft
        obtain ⟨⟨z0, z1, z2, z3, z4, z5, z6, z7, z8⟩, f0, f1, f2, f3, f4, f5, f6, f7, f8⟩ := nine_cells hrb
        obtain ⟨⟨y0, y1, y2, y3, y4, y5, y6, y7, y8⟩, -⟩ := nine_cells hsb
        have hV := Lib.hid (below_nine hbw (Nat.le_refl w.heap.size))
        clear hleft hd hsb hrb hit
        go_wp2
        refine bodyPost_ret (v := .tuple #[shV sh, .bool true]) (by simp [results, Tryz.results52, go_sem, shV, shW, z0, z1, z2, z3, z4, z5, z6, z7, z8]) rfl ?_
        exact .good HL.out (hV.out ..)
end Go.Proofs.YtikgbgminhgpdaaGreatDoor
