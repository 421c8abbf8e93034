/- Layer 10 (text): what is read are statements that can be; the chapter's example. -/
import Derived.Test.YtikgbgminhgpdaaGreatDoorTxtPrint2
import Derived.Test.YtikgbgminhgpdaaGreatDoorTxtSame
import Derived.Test.YtikgbgminhgpdaaGreatDoorTxtErr
import Derived.Test.YtikgbgminhgpdaaGreatDoorTxtParse
import Derived.Test.YtikgbgminhgpdaaGreatDoorTextBlank
namespace Go.Proofs.YtikgbgminhgpdaaGreatDoor
open Go.RowKit Tx
set_option maxRecDepth 10000

theorem fill1p_kind {c : UInt8} {w : Bs} {s s' : Sh} (h : fill1 c w s = some s') : s'.kind = s.kind := by
  unfold fill1 at h
  split at h
  · obtain ⟨n, _, rfl⟩ := Option.map_eq_some_iff.1 h; rfl
  · split at h
    · obtain ⟨n, _, rfl⟩ := Option.map_eq_some_iff.1 h; rfl
    · split at h
      · obtain ⟨n, _, rfl⟩ := Option.map_eq_some_iff.1 h; rfl
      · split at h
        · obtain ⟨n, _, rfl⟩ := Option.map_eq_some_iff.1 h; rfl
        · split at h
          · obtain ⟨n, _, rfl⟩ := Option.map_eq_some_iff.1 h; rfl
          · split at h
            · cases h; rfl
            · cases h
theorem fillp_kind : ∀ (f : Bs) (l : List Bs) (s s' : Sh), fill f l s = some s' → s'.kind = s.kind
  | [], _, s, s', h => by unfold fill at h; cases h; rfl
  | _ :: _, [], s, s', h => by unfold fill at h; cases h
  | c :: f, w :: l, s, s', h => by
    unfold fill at h
    split at h
    · rename_i s1 h1
      rw [fillp_kind f l s1 s' h, fill1p_kind h1]
    · cases h
theorem stmtp_kind {l : List Bs} {h : Sh} (hs : stmt l = some h) : 1 ≤ h.kind := by
  unfold stmt at hs
  split at hs
  · cases hs
  · rename_i w l'
    split at hs
    · cases hs
    · rename_i hk
      have := fillp_kind _ _ _ _ hs
      rw [this]
      show 1 ≤ kindOf w
      omega
theorem blk_pos : ∀ (f : Nat), (∀ (ls : List (List Bs)) (p : List St) (e : Tx.Fin) (r : List (List Bs)), blk f ls = .ok (p, e, r) → posL p = true ∧ cntL p + r.length ≤ ls.length) ∧ (∀ (h : Sh) (r0 : List (List Bs)) (s : St) (r : List (List Bs)), 1 ≤ h.kind → blks f h r0 = .ok (s, r) → posS s = true ∧ cntS s + r.length ≤ r0.length + 1)
  | 0 => ⟨fun _ _ _ _ h => by simp [blk] at h, fun _ _ _ _ _ h => by simp [blks] at h⟩
  | f + 1 => by
    obtain ⟨ih1, ih2⟩ := blk_pos f
    refine ⟨fun ls p e r h => ?_, fun h r0 s r hk hb => ?_⟩
    · unfold blk at h
      split at h
      · simp only [Except.ok.injEq, Prod.mk.injEq] at h
        obtain ⟨rfl, _, rfl⟩ := h
        exact ⟨by unfold posL; rfl, by unfold cntL; simp⟩
      · rename_i l r1 hn
        have hlt := next_lt hn
        split at h
        · simp only [Except.ok.injEq, Prod.mk.injEq] at h
          obtain ⟨rfl, _, rfl⟩ := h
          exact ⟨by unfold posL; rfl, by unfold cntL; omega⟩
        · split at h
          · simp only [Except.ok.injEq, Prod.mk.injEq] at h
            obtain ⟨rfl, _, rfl⟩ := h
            exact ⟨by unfold posL; rfl, by unfold cntL; omega⟩
          · split at h
            · cases h
            · rename_i sh hst
              split at h
              · cases h
              · rename_i s r' hbs
                have q1 := ih2 sh r1 s r' (stmtp_kind hst) hbs
                split at h
                · cases h
                · rename_i p2 e2 r2 hb2
                  have q2 := ih1 r' p2 e2 r2 hb2
                  simp only [Except.ok.injEq, Prod.mk.injEq] at h
                  obtain ⟨rfl, _, rfl⟩ := h
                  refine ⟨?_, ?_⟩
                  · unfold posL
                    rw [q1.1, q2.1]
                    rfl
                  · rw [show cntL (s :: p2) = cntS s + cntL p2 from by rw [cntL]]
                    omega
    · have hmk : ∀ b e, posL b = true → posL e = true → posS (.mk h b e) = true := fun b e q1 q2 => by
        unfold posS
        rw [q1, q2]
        simpa using hk
      have hct : ∀ b e, cntS (.mk h b e) = 1 + cntL b + cntL e := fun b e => by rw [cntS]
      unfold blks at hb
      split at hb
      · simp only [Except.ok.injEq, Prod.mk.injEq] at hb
        obtain ⟨rfl, rfl⟩ := hb
        refine ⟨hmk _ _ (by unfold posL; rfl) (by unfold posL; rfl), ?_⟩
        rw [hct]
        unfold cntL
        omega
      · split at hb
        · cases hb
        · rename_i b e1 r1 hb1
          have q1 := ih1 _ _ _ _ hb1
          split at hb
          · split at hb
            · cases hb
            · rename_i b2 e2 r2 hb2
              have q2 := ih1 _ _ _ _ hb2
              split at hb
              · simp only [Except.ok.injEq, Prod.mk.injEq] at hb
                obtain ⟨rfl, rfl⟩ := hb
                refine ⟨hmk _ _ q1.1 q2.1, ?_⟩
                rw [hct]
                omega
              · cases hb
          · split at hb
            · simp only [Except.ok.injEq, Prod.mk.injEq] at hb
              obtain ⟨rfl, rfl⟩ := hb
              refine ⟨hmk _ _ q1.1 (by unfold posL; rfl), ?_⟩
              rw [hct, show cntL [] = 0 from by rw [cntL]]
              omega
            · cases hb
theorem read_pos {ls : List (List Bs)} {p : List St} (h : readAll ls = .ok p) : posL p = true ∧ cntL p ≤ ls.length := by
  unfold readAll at h
  split at h
  · cases h
  · rename_i p' e r hb
    have := (blk_pos _).1 _ _ _ _ hb
    split at h
    · cases h
      exact ⟨this.1, by omega⟩
    · cases h
/-- What the laws of layer 10 find in the world. -/
structure TEnv (w : World) : Prop where
  base : Base w
  hand : Handle w
  mx : ∃ m, MaxLen w m
theorem TEnv.below {w w' : World} (h : TEnv w) (k : Below w.heap.size w w') : TEnv w' :=
  ⟨h.base.below k, h.hand.below h.hand.lt k, by obtain ⟨m, hm⟩ := h.mx; exact ⟨m, (k.cell (World.block_lt_of_cell? w _ hm)).trans hm⟩⟩

/-! The example. -/
def exB : Bs := [112, 117, 116, 32, 48, 32, 114, 49, 43, 49, 32, 45, 51, 10, 105, 102, 32, 114, 49, 32, 50, 32, 123, 10, 32, 32, 114, 101, 116, 114, 121, 10, 125, 10]
def exP : List St := [.mk ⟨2, 0, 0, (1, 1), (0, -3)⟩ [] [], .mk ⟨11, 0, 0, (1, 0), (0, 2)⟩ [.mk ⟨15, 0, 0, (0, 0), (0, 0)⟩ [] []] []]
theorem ex_read : readAll (tl exB) = .ok exP := by kernel_rfl
theorem ex_walk : walkL exP 1 0 = .ok 3 := by kernel_rfl
theorem it0 : Lib.itoa 0 = [48] := by rw [show (0 : Int) = ((0 : Nat) : Int) from rfl, itoa_nat, dec_dig3 (by decide)]; rfl
theorem it1 : Lib.itoa 1 = [49] := by rw [show (1 : Int) = ((1 : Nat) : Int) from rfl, itoa_nat, dec_dig3 (by decide)]; rfl
theorem it2 : Lib.itoa 2 = [50] := by rw [show (2 : Int) = ((2 : Nat) : Int) from rfl, itoa_nat, dec_dig3 (by decide)]; rfl
theorem itm3 : Lib.itoa (-3) = [45, 51] := by rw [show (-3 : Int) = -((3 : Nat) : Int) from rfl, itoa_minus (by decide), dec_dig3 (by decide)]; rfl
theorem ex_l1 : lineT ⟨2, 0, 0, (1, 1), (0, -3)⟩ = [112, 117, 116, 32, 48, 32, 114, 49, 43, 49, 32, 45, 51] := by
  show Lib.join [wordB 2, Lib.itoa 0, 114 :: Lib.itoa 1 ++ (43 :: Lib.itoa 1), Lib.itoa (-3)] [32] = _
  rw [it0, it1, itm3]
  rfl
theorem ex_l2 : lineT ⟨11, 0, 0, (1, 0), (0, 2)⟩ = [105, 102, 32, 114, 49, 32, 50, 32, 123] := by
  show Lib.join [wordB 11, 114 :: Lib.itoa 1 ++ [], Lib.itoa 2, [123]] [32] = _
  rw [it1, it2]
  rfl
theorem ex_l3 : lineT ⟨15, 0, 0, (0, 0), (0, 0)⟩ = [114, 101, 116, 114, 121] := rfl
theorem ex_tell : tellL exP [] = exB := by
  unfold exP
  simp only [tellL, tellS, ex_l1, ex_l2, ex_l3]
  rfl
def badB : Bs := [105, 102, 32, 49, 32, 50, 32, 123, 10]
theorem bad_read : readAll (tl badB) = .error none := by kernel_rfl
theorem bad_lines : (lines badB).length = 1 := by kernel_rfl
theorem no_flt {B : Nat} {w : World} {v : Value} {a n : Int} (h : Flt B w v a n) (h1 : 1 ≤ n) (h2 : n ≤ 17) : Calls Tryz.prog 11 #[v] w fun e w' => e = .returned (.int .i64 n) ∧ w = w' := no_err h.err h1 h2
theorem parse_good {s : ByteArray} {p : List St} (h : readAll (tl s.data.toList) = .ok p) (hs : s.size ≤ 20000) {w : World} (hE : TEnv w) : Calls Tryz.prog 13 #[.string s] w fun e w' => ∃ v, e = .returned (.tuple #[v, .nilIface]) ∧ SlV w.heap.size w' p v ∧ Below w.heap.size w w' := by
  obtain ⟨m, hm⟩ := hE.mx
  refine (parse_ok s hm).mono ?_
  rintro e w' ⟨hb, hp⟩
  rw [if_neg (by omega), h] at hp
  obtain ⟨v, rfl, hv⟩ := hp
  exact ⟨v, rfl, hv, hb⟩
theorem parse_bad {s : ByteArray} {x : Bad} (h : readAll (tl s.data.toList) = .error x) (hs : s.size ≤ 20000) {w : World} (hE : TEnv w) : Calls Tryz.prog 13 #[.string s] w fun e w' => ∃ v, e = .returned (.tuple #[.slice none 0 0, v]) ∧ Flt w.heap.size w' v (badN (lines s.data.toList).length x) 9 ∧ Below w.heap.size w w' := by
  obtain ⟨m, hm⟩ := hE.mx
  refine (parse_ok s hm).mono ?_
  rintro e w' ⟨hb, hp⟩
  rw [if_neg (by omega), h] at hp
  obtain ⟨v, rfl, hv⟩ := hp
  exact ⟨v, rfl, hv, hb⟩
theorem print_good {l : List St} {m : Nat} (h : walkL l 1 0 = .ok m) (hs : (tellL l []).length ≤ 20000) {v : Value} {w : World} (hl : SlR w.heap.size w l v) (hE : TEnv w) : Calls Tryz.prog 9 #[v] w fun e w' => e = .returned (.tuple #[.string ⟨(tellL l []).toArray⟩, .nilIface]) ∧ Below w.heap.size w w' := by
  refine (Print_ok hl hE.base).mono ?_
  rintro e w' ⟨hb, hp⟩
  rw [h] at hp
  simp only at hp
  rw [if_neg (by omega)] at hp
  exact ⟨hp, hb⟩
set_option maxHeartbeats 2000000 in
theorem alive_ok {w : World} (hE : TEnv w) : Calls Tryz.prog 8 #[] w fun e w' => e = .returned (.bool true) ∧ Below w.heap.size w w' := by
  have HE := Lib.hid hE
  have HP1 := Lib.hid (parse_good (s := ⟨exB.toArray⟩) ex_read (by decide) hE)
  clear hE
  go_enter Tryz.func8, Tryz.ntmps8
  go_wp2_with fail
  refine HP1.out.mono ?_
  rintro _ w1 ⟨v1, rfl, hv1, hb1⟩
  have hE1 := HE.out.below hb1
  have hr1 := hv1.read
  obtain ⟨g, off, cap, z, bv, ev, rfl, hgB, hgl, hz, hcell, -, -⟩ := hr1.get (i := 0) rfl
  have HP2 := Lib.hid (print_good ex_walk (by rw [ex_tell]; decide) hr1 hE1)
  rw [ex_tell] at HP2
  have HB1 := Lib.hid hb1; have HE1 := Lib.hid hE1; have HC := Lib.hid hcell
  clear hb1 hE1 hr1 hcell hv1 HP1 HE
  go_wp2_with fail
  refine HP2.out.mono ?_
  rintro _ w2 ⟨rfl, hb2⟩
  have HE2 := Lib.hid (HE1.out.below hb2)
  have HB2 := Lib.hid (HB1.out.trans (hb2.mono HB1.out.size))
  have HC2 := Lib.hid (fun (j : Nat) (x : Value) (hx : (stL z ⟨2, 0, 0, (1, 1), (0, -3)⟩ bv ev)[j]? = some x) => (hb2.cell (p := ⟨g, off + 0 * 9 + j, none⟩) hgB).trans (HC.out j x hx))
  have hg2 := hb2.size
  clear hb2 HP2 HC HE1 HB1
  have HP3 := Lib.hid (parse_bad (s := ⟨badB.toArray⟩) bad_read (by decide) HE2.out)
  go_wp2_with fail
  refine HP3.out.mono ?_
  rintro _ w3 ⟨v3, rfl, hf3, hb3⟩
  rw [show badN (lines (⟨badB.toArray⟩ : ByteArray).data.toList).length none = 2 by show badN (lines badB).length none = 2; rw [bad_lines]; rfl] at hf3
  obtain ⟨fb, rfl⟩ := hf3.form
  have HE3 := Lib.hid (HE2.out.below hb3)
  have HB3 := Lib.hid (HB2.out.trans (hb3.mono HB2.out.size))
  have HC3 := Lib.hid (fun (j : Nat) (x : Value) (hx : (stL z ⟨2, 0, 0, (1, 1), (0, -3)⟩ bv ev)[j]? = some x) => (hb3.cell (p := ⟨g, off + 0 * 9 + j, none⟩) (Nat.lt_of_lt_of_le hgB hg2)).trans (HC2.out j x hx))
  have HF := Lib.hid hf3
  clear hb3 hf3 HP3 HC2 HE2 HB2
  go_wp2_with fail
  refine (no_nil w3).mono ?_
  rintro _ w' ⟨rfl, rfl⟩
  go_wp2_with fail
  refine (no_nil w3).mono ?_
  rintro _ w' ⟨rfl, rfl⟩
  have hl2 : exP.length = 2 := rfl
  rw [hl2]
  unfold exB
  have y3 : w3.cell? ⟨g, off + 3, none⟩ = some (.int .i64 1) := HC3.out 3 _ rfl
  have y4 : w3.cell? ⟨g, off + 4, none⟩ = some (.int .i64 1) := HC3.out 4 _ rfl
  have y6 : w3.cell? ⟨g, off + 6, none⟩ = some (.int .i64 (-3)) := HC3.out 6 _ rfl
  clear hl2
  go_wp2_with fail
  refine (no_flt HF.out (by decide) (by decide)).mono ?_
  rintro _ w' ⟨rfl, rfl⟩
  go_wp2_with fail
  refine (place_flt HF.out HE3.out.hand).mono ?_
  rintro _ w4 ⟨rfl, hb4⟩
  have HB4 := Lib.hid (HB3.out.trans (hb4.mono HB3.out.size))
  clear hb4
  go_wp2
  go_ret
  exact ⟨rfl, HB4.out⟩
end Go.Proofs.YtikgbgminhgpdaaGreatDoor
