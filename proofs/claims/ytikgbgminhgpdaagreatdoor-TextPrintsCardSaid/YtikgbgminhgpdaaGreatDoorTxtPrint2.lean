/- Layer 10 (text): how long a text is; Print. -/
import Derived.Test.YtikgbgminhgpdaaGreatDoorTxtPrint
namespace Go.Proofs.YtikgbgminhgpdaaGreatDoor
open Go.RowKit Tx
set_option maxRecDepth 10000

theorem argT_len {a : Int × Int} {t : Bool} (h : argR a t = true) : (argT a).length ≤ 44 := by
  obtain ⟨h1, h2, h3, h4⟩ := arg_bounds h
  have l1 := itoa_short (n := a.1) (by omega) (by omega)
  have l2 := itoa_short (n := a.2) h3 h4
  unfold argT
  split
  · omega
  · split
    · simp; omega
    · split
      · simp; omega
      · simp; omega
theorem line_len {s : Sh} {nb ne : Bool} (h : oneR s nb ne = true) : (lineT s).length ≤ 225 := by
  obtain ⟨h1, h2, h3, h4, h5, h6, h7, -, -⟩ := oneR_parts h
  have hp : ∀ p ∈ lineW s, p.length ≤ 44 := by
    intro p hp
    unfold lineW at hp
    rcases List.mem_cons.1 hp with rfl | hp
    · have : ∀ k : _root_.Fin 17, (wordB k.1).length ≤ 44 := by decide +kernel
      exact this ⟨s.kind, by omega⟩
    · obtain ⟨c, hc, rfl⟩ := List.mem_map.1 hp
      have hreg : 0 ≤ s.reg ∧ s.reg ≤ 8 := by
        cases hk : hasReg s.kind with
        | true => have := reg_in h7 hk; omega
        | false => have := reg_out h7 hk; omega
      have hcoll : 0 ≤ s.coll ∧ s.coll ≤ 999 := by
        cases hk : hasColl s.kind with
        | true => exact coll_in h3 hk
        | false => have := coll_out h3 hk; omega
      have l1 := itoa_short (n := s.coll) (by omega) (by omega)
      have l2 := itoa_short (n := s.reg) (by omega) (by omega)
      unfold piece
      split
      · omega
      · split
        · exact argT_len h4
        · split
          · exact argT_len h4
          · split
            · exact argT_len h5
            · split
              · simp; omega
              · simp
  have := join_M 44 (lineW s) hp
  have hl : (lineW s).length ≤ 5 := by
    have := form_len h2
    unfold lineW
    simp only [List.length_cons, List.length_map]
    omega
  have h3 := Nat.mul_le_mul_right 45 hl
  unfold lineT
  omega
mutual
theorem tellS_len (M : Nat) : ∀ (s : St) (ah : Bs), goodS s = true → ah.length + 2 * cntS s ≤ M → (tellS s ah).length ≤ cntS s * (3 * M + 300)
  | .mk h b e, ah, hg, hM => by
    unfold goodS at hg
    simp only [Bool.and_eq_true] at hg
    obtain ⟨⟨h1, h2⟩, h3⟩ := hg
    rw [show cntS (.mk h b e) = 1 + cntL b + cntL e from by rw [cntS]] at hM ⊢
    have hL := line_len h1
    have hb := tellL_len M b (ah ++ [32, 32]) h2 (by simp; omega)
    have he := tellL_len M e (ah ++ [32, 32]) h3 (by simp; omega)
    have hel : elseT.length = 8 := by decide
    rw [Nat.add_mul, Nat.add_mul, Nat.one_mul]
    unfold tellS
    split
    · simp only [List.length_append, List.length_singleton, List.length_nil]
      generalize cntL b * (3 * M + 300) = x at *
      generalize cntL e * (3 * M + 300) = y at *
      omega
    · split
      · simp only [List.length_append, List.length_singleton, List.length_nil]
        generalize cntL b * (3 * M + 300) = x at *
        generalize cntL e * (3 * M + 300) = y at *
        omega
      · simp only [List.length_append, List.length_singleton]
        generalize cntL b * (3 * M + 300) = x at *
        generalize cntL e * (3 * M + 300) = y at *
        omega
theorem tellL_len (M : Nat) : ∀ (l : List St) (ah : Bs), goodL l = true → ah.length + 2 * cntL l ≤ M → (tellL l ah).length ≤ cntL l * (3 * M + 300)
  | [], ah, _, _ => by unfold tellL; simp
  | s :: l, ah, hg, hM => by
    unfold goodL at hg
    simp only [Bool.and_eq_true] at hg
    rw [show cntL (s :: l) = cntS s + cntL l from by rw [cntL]] at hM ⊢
    have h1 := tellS_len M s ah hg.1 (by omega)
    have h2 := tellL_len M l ah hg.2 (by omega)
    unfold tellL
    rw [List.length_append, Nat.add_mul]
    omega
end
mutual
theorem walkS_cnt : ∀ (s : St) (d n m : Nat), walkS s d n = .ok m → m = n + cntS s ∧ m ≤ 100
  | .mk h b e, d, n, m, hw => by
    rw [show cntS (.mk h b e) = 1 + cntL b + cntL e from by rw [cntS]]
    unfold walkS at hw
    split at hw
    · cases hw
    · split at hw
      · cases hw
      · split at hw
        · cases hw
        · split at hw
          · cases hw
          · rename_i n1 hb
            have h1 := walkL_cnt b _ _ _ hb
            have h2 := walkL_cnt e _ _ _ hw
            omega
theorem walkL_cnt : ∀ (l : List St) (d n m : Nat), walkL l d n = .ok m → m = n + cntL l ∧ (n ≤ 100 → m ≤ 100)
  | [], _, n, m, hw => by
    unfold walkL at hw
    cases hw
    exact ⟨by unfold cntL; omega, id⟩
  | s :: l, d, n, m, hw => by
    rw [show cntL (s :: l) = cntS s + cntL l from by rw [cntL]]
    unfold walkL at hw
    split at hw
    · cases hw
    · rename_i n1 hs
      have h1 := walkS_cnt s _ _ _ hs
      have h2 := walkL_cnt l _ _ _ hw
      omega
end
/-- What Print answers. -/
def PrintPost (l : List St) (w : World) (e : Ending) (w' : World) : Prop :=
  Below w.heap.size w w' ∧ match walkL l 1 0 with
    | .error x => ∃ v, e = .returned (.tuple #[.string ⟨#[]⟩, v]) ∧ Flt w.heap.size w' v (x.2 : Int) x.1
    | .ok _ => if 20000 < (tellL l []).length then e = .returned (.tuple #[.string ⟨#[]⟩, .iface 53 (.int .i64 8)]) else e = .returned (.tuple #[.string ⟨(tellL l []).toArray⟩, .nilIface])
set_option maxHeartbeats 2000000 in
theorem Print_ok {l : List St} {v : Value} {w : World} (hl : SlR w.heap.size w l v) (hb : Base w) : Calls Tryz.prog 9 #[v] w (PrintPost l w) := by
  obtain ⟨pt, cp, rfl⟩ := hl.shape
  have HL := Lib.hid hl; have HBASE := Lib.hid hb
  have hpw := hb.lt
  clear hl hb
  go_enter Tryz.func9, Tryz.ntmps9
  go_wp2_with fail
  obtain ⟨W1, hW1⟩ : ∃ W1, w.alloc (.cells #[.int .i64 3, .int .i64 3, .int .i64 3, .int .i64 3, .int .i64 3, .int .i64 3, .int .i64 3, .int .i64 3] 3) = W1 := ⟨_, rfl⟩
  rw [hW1]
  have hB1 : Below w.heap.size w W1 := by rw [← hW1]; exact (Below.refl _ w).alloc (Nat.le_refl _) _
  have hK : KindsAt W1 w.heap.size := by
    have hc := Cells.new w [.int .i64 3, .int .i64 3, .int .i64 3, .int .i64 3, .int .i64 3, .int .i64 3, .int .i64 3, .int .i64 3] 3
    rw [hW1] at hc
    refine ⟨hc.lt, fun j hj => ?_⟩
    have := hc.cell j
    rw [this]
    rcases (by omega : j = 0 ∨ j = 1 ∨ j = 2 ∨ j = 3 ∨ j = 4 ∨ j = 5 ∨ j = 6 ∨ j = 7) with rfl | rfl | rfl | rfl | rfl | rfl | rfl | rfl <;> rfl
  have hW1s := hB1.size
  refine (Right_ok (HL.out.below hB1 (Nat.le_refl _)) hW1s hK (cap := 8)).mono ?_
  rintro e w2 hp
  unfold RightPost at hp
  obtain ⟨hb2, hp⟩ := hp
  have HB2 := Lib.hid (hB1.trans (hb2.mono hW1s))
  have hs2 := hb2.size
  clear hB1 hK hb2 hW1
  cases hwl : walkL l 1 0 with
  | error x =>
    rw [hwl] at hp
    obtain ⟨v, rfl, hfl⟩ := hp
    obtain ⟨fb, rfl⟩ := hfl.form
    have HFL := Lib.hid hfl; have HWL := Lib.hid hwl
    clear hfl hwl
    go_wp2
    go_ret2
    unfold PrintPost
    refine ⟨HB2.out, ?_⟩
    rw [HWL.out]
    exact ⟨_, rfl, HFL.out.low hW1s⟩
  | ok m =>
    rw [hwl] at hp
    subst hp
    have hgood := walkL_good l _ _ _ hwl
    have hcnt := walkL_cnt l _ _ _ hwl
    have hc100 : cntL l ≤ 100 := by have := hcnt.1; have := hcnt.2 (Nat.zero_le _); omega
    have htl := tellL_len 200 l [] hgood (by simp; omega)
    have htl2 : (tellL l []).length ≤ 90000 := Nat.le_trans htl (Nat.le_trans (Nat.mul_le_mul_right _ hc100) (by decide))
    have hBl : BldAt w.heap.size w2.heap.size [] (w2.alloc (.cells #[.pointer none, .slice none 0 0] 50)) := by
      refine Or.inl ⟨HB2.out.size, .slice none 0 0, heap_alloc_new w2 _, ⟨rfl, .inl ⟨rfl, rfl⟩⟩, fun q => by cases q⟩
    have hB3 : Below w.heap.size w (w2.alloc (.cells #[.pointer none, .slice none 0 0] 50)) := HB2.out.alloc HB2.out.size _
    have HT := Lib.hid (tell_ok w.heap.size w2.heap.size (cntL l + 1) l _ [] ⟨#[]⟩ _ (by omega) hgood (HL.out.below hB3 (Nat.le_refl _)) hB3.size (HBASE.out.below hB3) hpw hBl (by show 0 + (tellL l []).length ≤ _; omega) (by show 0 + 2 * cntL l ≤ 1000; omega))
    have HB3 := Lib.hid hB3; have HWL := Lib.hid hwl
    clear hB3 hBl htl hgood hcnt hwl
    go_wp2_with fail
    refine HT.out.mono ?_
    rintro _ w3 ⟨⟨v3, rfl⟩, hbl3, htk3⟩
    rw [List.nil_append] at hbl3
    have HBL := Lib.hid (show BldAt w.heap.size w2.heap.size (tellL l []) w3 from hbl3)
    have HB4 := Lib.hid (HB3.out.trans htk3.be)
    clear hbl3 htk3 HT
    go_wp2_with fail
    refine (Tryz.Builder_Len_f w.heap.size w2.heap.size (Lib.byteCells (tellL l [])) w3 HBL.out).mono ?_
    rintro _ w' ⟨rfl, rfl⟩
    have hbc : (Lib.byteCells (tellL l [])).length = (tellL l []).length := by simp [Lib.byteCells]
    rw [hbc]
    by_cases h2 : 20000 < (tellL l []).length
    · have g1 : decide ((20000 : Int) < ((tellL l []).length : Int)) = true := decide_eq_true (by omega)
      clear hbc
      go_wp2
      go_ret2
      unfold PrintPost
      refine ⟨HB4.out, ?_⟩
      rw [HWL.out]
      exact (if_pos h2).symm ▸ rfl
    · have g1 : decide ((20000 : Int) < ((tellL l []).length : Int)) = false := decide_eq_false (by omega)
      have HS := Lib.hid (Tryz.Builder_String_any_k w.heap.size w2.heap.size (tellL l []) w' HBL.out HB4.out.size)
      clear hbc
      go_wp2_with fail
      refine HS.out.mono ?_
      rintro _ w5 ⟨rfl, _, hb5, _⟩
      have HB5 := Lib.hid (HB4.out.trans hb5)
      clear hb5 HS
      go_wp2
      go_ret2
      unfold PrintPost
      refine ⟨HB5.out, ?_⟩
      rw [HWL.out]
      exact (if_neg h2).symm ▸ rfl
end Go.Proofs.YtikgbgminhgpdaaGreatDoor
