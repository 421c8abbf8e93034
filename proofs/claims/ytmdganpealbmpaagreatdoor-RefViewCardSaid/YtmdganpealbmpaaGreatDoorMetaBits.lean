/- Pack and Unpack of layer 3, at any Meta, at any word; and meta.in. -/
import Derived.Test.YtmdganpealbmpaaGreatDoorCtxOps
import Derived.Test.YtmdganpealbmpaaGreatDoorRefPlain
import Derived.Laws.BitsAllLaws
namespace Go.Proofs.YtmdganpealbmpaaGreatDoor
open Go.RowKit Th
set_option maxRecDepth 10000

/-- A Meta's word. -/
def packN (v o : Nat) (c t : Bool) : Nat := 65536 * v + 256 * o + 2 * t.toNat + c.toNat
theorem pack_lt (v o : Nat) (c t : Bool) (hv : v ≤ 281474976710655) (ho : o ≤ 255) : packN v o c t < 18446744073709551616 := by
  have := Bool.toNat_le c; have := Bool.toNat_le t; unfold packN; omega

theorem or_vo (v o : Nat) (hv : v ≤ 281474976710655) (ho : o ≤ 255) : bits BinOp.or IntKind.u64 ((v : Int) * 65536) ((o : Int) * 256) = ((65536 * v + 256 * o : Nat) : Int) := by
  rw [show (v : Int) * 65536 = ((65536 * v : Nat) : Int) by omega, show (o : Int) * 256 = ((256 * o : Nat) : Int) by omega, u64_or_nat _ _ (by omega) (by omega), nat_join 16 _ _ (by omega) (by omega)]
theorem or_two (v o : Nat) (hv : v ≤ 281474976710655) (ho : o ≤ 255) : bits BinOp.or IntKind.u64 ((65536 * v + 256 * o : Nat) : Int) 2 = ((65536 * v + 256 * o + 2 : Nat) : Int) := by
  rw [show (2 : Int) = ((2 : Nat) : Int) from rfl, u64_or_nat _ _ (by omega) (by omega), nat_join 2 _ _ (by omega) (by omega)]
theorem or_one (v o : Nat) (hv : v ≤ 281474976710655) (ho : o ≤ 255) : bits BinOp.or IntKind.u64 ((65536 * v + 256 * o : Nat) : Int) 1 = ((65536 * v + 256 * o + 1 : Nat) : Int) := by
  rw [show (1 : Int) = ((1 : Nat) : Int) from rfl, u64_or_nat _ _ (by omega) (by omega), nat_join 1 _ _ (by omega) (by omega)]
theorem or_three (v o : Nat) (hv : v ≤ 281474976710655) (ho : o ≤ 255) : bits BinOp.or IntKind.u64 ((65536 * v + 256 * o + 2 : Nat) : Int) 1 = ((65536 * v + 256 * o + 2 + 1 : Nat) : Int) := by
  rw [show (1 : Int) = ((1 : Nat) : Int) from rfl, u64_or_nat _ _ (by omega) (by omega), nat_join 1 _ _ (by omega) (by omega)]

theorem ret_pair {k : IntKind} {a b : Int} {v : Value} (h : a = b) : Ending.returned (.tuple #[.int k a, v]) = .returned (.tuple #[.int k b, v]) := by rw [h]

set_option maxHeartbeats 400000 in
theorem bits_pack (v o : Nat) (c t : Bool) (hv : v ≤ 281474976710655) (ho : o ≤ 255) (w : World) :
    Calls Tryz.prog 130 #[.agg #[.int .i64 v, .int .i64 o, .bool c, .bool t]] w fun e w' => e = .returned (.tuple #[.int .u64 (packN v o c t), .nilIface]) ∧ Below w.heap.size w w' := by
  have g2 : decide (281474976710655 < (v : Int)) = false := by simp; omega
  have g3 : decide (255 < (o : Int)) = false := by simp; omega
  have g4 : decide ((v : Int) < 0) = false := by simp
  have g5 : decide ((o : Int) < 0) = false := by simp
  have e0 := or_vo v o hv ho
  have e1 := or_one v o hv ho
  have e2 := or_two v o hv ho
  have e3 := or_three v o hv ho
  generalize h3 : 65536 * v + 256 * o + 2 + 1 = x3 at *
  generalize h2 : 65536 * v + 256 * o + 2 = x2 at *
  generalize h1 : 65536 * v + 256 * o + 1 = x1 at *
  generalize h0 : 65536 * v + 256 * o = x0 at *
  have H0 := Lib.hid h0; have H1 := Lib.hid h1; have H2 := Lib.hid h2; have H3 := Lib.hid h3
  clear h0 h1 h2 h3
  cases c <;> cases t
  all_goals
    go_enter Tryz.func130, Tryz.ntmps130
    go_wp2
    go_ret2
    refine ⟨ret_pair ?_, (Below.refl _ _).alloc (Nat.le_refl _) _⟩
    have q0 := H0.out; have q1 := H1.out; have q2 := H2.out; have q3 := H3.out
    simp only [packN, Bool.toNat_false, Bool.toNat_true]
    omega
/-- What Pack answers at a Meta that has no word. -/
def PackBad (w : World) (e : Ending) (w' : World) : Prop := ∃ x, e = .returned (.tuple #[.int .u64 0, x]) ∧ (∃ u, x = .iface 251 (.pointer (some ⟨u, 0, none⟩)) ∧ w.heap.size ≤ u ∧ u < w'.heap.size) ∧ Below w.heap.size w w'
set_option maxHeartbeats 400000 in
theorem bits_pack_bad (v o : Int) (c t : Bool) (h : ¬ (0 ≤ v ∧ v ≤ 281474976710655 ∧ 0 ≤ o ∧ o ≤ 255)) (w : World) :
    Calls Tryz.prog 130 #[.agg #[.int .i64 v, .int .i64 o, .bool c, .bool t]] w (PackBad w) := by
  rcases (by omega : v < 0 ∨ (0 ≤ v ∧ 281474976710655 < v) ∨ (0 ≤ v ∧ v ≤ 281474976710655 ∧ o < 0) ∨ (0 ≤ v ∧ v ≤ 281474976710655 ∧ 0 ≤ o ∧ 255 < o)) with q | ⟨q0, q⟩ | ⟨q0, q1, q⟩ | ⟨q0, q1, q2, q⟩
  · clear h
    have g0 : decide (v < 0) = true := by simpa using q
    clear q
    go_enter Tryz.func130, Tryz.ntmps130
    go_wp2
    go_ret2
    exact ⟨_, rfl, ⟨_, rfl, by simp, by simp⟩, ((Below.refl _ _).alloc (Nat.le_refl _) _).alloc (by simp) _⟩
  · clear h
    have g0 : decide (v < 0) = false := by simpa using q0
    have g1 : decide (281474976710655 < v) = true := by simpa using q
    clear q q0
    go_enter Tryz.func130, Tryz.ntmps130
    go_wp2
    go_ret2
    exact ⟨_, rfl, ⟨_, rfl, by simp, by simp⟩, ((Below.refl _ _).alloc (Nat.le_refl _) _).alloc (by simp) _⟩
  · clear h
    have g0 : decide (v < 0) = false := by simpa using q0
    have g1 : decide (281474976710655 < v) = false := by simpa using q1
    have g2 : decide (o < 0) = true := by simpa using q
    clear q q0 q1
    go_enter Tryz.func130, Tryz.ntmps130
    go_wp2
    go_ret2
    exact ⟨_, rfl, ⟨_, rfl, by simp, by simp⟩, ((Below.refl _ _).alloc (Nat.le_refl _) _).alloc (by simp) _⟩
  · clear h
    have g0 : decide (v < 0) = false := by simpa using q0
    have g1 : decide (281474976710655 < v) = false := by simpa using q1
    have g2 : decide (o < 0) = false := by simpa using q2
    have g3 : decide (255 < o) = true := by simpa using q
    clear q q0 q1 q2
    go_enter Tryz.func130, Tryz.ntmps130
    go_wp2
    go_ret2
    exact ⟨_, rfl, ⟨_, rfl, by simp, by simp⟩, ((Below.refl _ _).alloc (Nat.le_refl _) _).alloc (by simp) _⟩

/-- What a word tells. -/
def unV (x : Nat) : Value := .agg #[.int .i64 (x / 65536 : Nat), .int .i64 (x / 256 % 256 : Nat), .bool (decide (x % 2 = 1)), .bool (decide (x / 2 % 2 = 1))]
theorem un_bits (x : Nat) (hx : x < 18446744073709551616) : Value.agg #[.int .i64 ((x : Int) / 65536), .int .i64 (wrap64 (bits BinOp.and IntKind.u64 ((x : Int) / 256) 255)), .bool (bits BinOp.and IntKind.u64 (x : Int) 1 != 0), .bool (bits BinOp.and IntKind.u64 (x : Int) 2 != 0)] = unV x := by
  have e0 : wrap64 (bits BinOp.and IntKind.u64 ((x : Int) / 256) 255) = ((x / 256 % 256 : Nat) : Int) := by
    rw [show ((x : Int) / 256) = ((x / 256 : Nat) : Int) by omega, show (255 : Int) = ((255 : Nat) : Int) from rfl, u64_and_nat _ _ (by omega) (by omega), nat_mask8]
    unfold wrap64; omega
  have e1 : (bits BinOp.and IntKind.u64 (x : Int) 1 != 0) = decide (x % 2 = 1) := by
    rw [show (1 : Int) = ((1 : Nat) : Int) from rfl, u64_and_nat _ _ (by omega) (by omega), nat_mask1, Bool.eq_iff_iff]; simp; omega
  have e2 : (bits BinOp.and IntKind.u64 (x : Int) 2 != 0) = decide (x / 2 % 2 = 1) := by
    rw [show (2 : Int) = ((2 : Nat) : Int) from rfl, u64_and_nat _ _ (by omega) (by omega), nat_bit 1, Bool.eq_iff_iff]; simp; omega
  unfold unV
  rw [e0, e1, e2, show ((x : Int) / 65536) = ((x / 65536 : Nat) : Int) by omega]

set_option maxHeartbeats 400000 in
theorem bits_unpack (x : Nat) (hx : x < 18446744073709551616) (w : World) :
    Calls Tryz.prog 115 #[.int .u64 x] w fun e w' => e = .returned (unV x) ∧ Below w.heap.size w w' := by
  have HU := Lib.hid (un_bits x hx)
  go_enter Tryz.func115, Tryz.ntmps115
  go_wp2
  exact bodyPost_ret (v := .agg #[.int .i64 ((x : Int) / 65536), .int .i64 (wrap64 (bits BinOp.and IntKind.u64 ((x : Int) / 256) 255)), .bool (bits BinOp.and IntKind.u64 (x : Int) 1 != 0), .bool (bits BinOp.and IntKind.u64 (x : Int) 2 != 0)]) (by simp [results, Tryz.results115, go_sem]) rfl ⟨congrArg _ HU.out, (Below.refl _ _).alloc (Nat.le_refl _) _⟩
set_option maxHeartbeats 400000 in

/-- A Meta as a value. -/
def mtV (m : Mt) : Value := .agg #[.int .i64 m.ver, .int .i64 m.own, .bool m.chg, .bool m.wait]
theorem unV_mt (x : Nat) : unV x = mtV (unM x) := rfl
def PackPost (w : World) (r : Nat × Nat) (e : Ending) (w' : World) : Prop := ∃ v E, e = .returned (.tuple #[.int .u64 (r.2 : Int), v]) ∧ Err w' v r.1 E ∧ (∀ b ∈ E, w.heap.size ≤ b) ∧ Below w.heap.size w w'
theorem pack_any (v o : Int) (c t : Bool) (w : World) : Calls Tryz.prog 130 #[.agg #[.int .i64 v, .int .i64 o, .bool c, .bool t]] w (PackPost w (packM ⟨v, o, c, t⟩)) := by
  by_cases h : 0 ≤ v ∧ v ≤ 281474976710655 ∧ 0 ≤ o ∧ o ≤ 255
  · rw [show packM ⟨v, o, c, t⟩ = (0, packN v.toNat o.toNat c t) by unfold packM; exact if_pos h]
    obtain ⟨h1, h2, h3, h4⟩ := h
    obtain ⟨v, rfl⟩ : ∃ n : Nat, v = n := ⟨v.toNat, by omega⟩
    obtain ⟨o, rfl⟩ : ∃ n : Nat, o = n := ⟨o.toNat, by omega⟩
    refine (bits_pack v o c t (by omega) (by omega) w).mono ?_
    rintro e w' ⟨rfl, hb⟩
    exact ⟨_, [], rfl, .none, by simp, hb⟩
  · rw [show packM ⟨v, o, c, t⟩ = (2, 0) by unfold packM; exact if_neg h]
    refine (bits_pack_bad v o c t h w).mono ?_
    rintro e w' ⟨x, rfl, ⟨u, rfl, hu, hl⟩, hb⟩
    exact ⟨_, [u], rfl, .unfit u hl, by simpa using hu, hb⟩
theorem packM_lt (m : Mt) : (packM m).2 < 18446744073709551616 := by
  unfold packM
  split
  · rename_i h
    obtain ⟨h1, h2, h3, h4⟩ := h
    have := Bool.toNat_le m.chg; have := Bool.toNat_le m.wait
    simp only
    omega
  · simp
theorem packM_err (m : Mt) : (packM m).1 = 0 ∨ (packM m).1 = 2 := by
  unfold packM
  split
  · exact .inl rfl
  · exact .inr rfl

/-- An error of a call by a Ctx: a value, its number, and blocks that are held from then on. -/
def Came (W : World) (R : List Nat) (pa pb pc : Nat) (wr : World) (n : Nat) (c : CS) (mk : Value → Value) (e : Ending) (w' : World) : Prop :=
  ∃ v E, e = .returned (mk v) ∧ Err w' v n E ∧ Ctx W (E ++ R) pa pb pc c w' ∧ HeldBy R wr w' ∧ ∀ b ∈ E, wr.heap.size ≤ b

def InPost (w : World) (n : Nat) (E : List Nat) (e : Ending) (w' : World) : Prop := ∃ v' E', e = .returned v' ∧ Err w' v' n E' ∧ (∀ b ∈ E', b ∈ E ∨ w.heap.size ≤ b) ∧ Below w.heap.size w w' ∧ (n = 0 → w = w')
set_option maxHeartbeats 400000 in
theorem in_any (s : ByteArray) {w : World} {v : Value} {n : Nat} {E : List Nat} (h : Err w v n E) : Calls Tryz.prog 89 #[.string s, v] w (InPost w n E) := by
  by_cases hn : n = 0
  · obtain ⟨rfl, rfl⟩ := h.isNil hn
    subst hn
    go_enter Tryz.func89, Tryz.ntmps89
    go_wp2
    go_ret
    exact ⟨_, [], rfl, .none, by simp, Below.refl _ _, fun _ => rfl⟩
  · obtain ⟨t, x, rfl⟩ := h.iface hn
    have hb := (Below.refl w.heap.size w).alloc (Nat.le_refl _) (.cells #[.string s, .iface t x] 214)
    have HE := Lib.hid (show InPost w n E (.returned (.iface 212 (.pointer (some ⟨w.heap.size, 0, none⟩)))) (w.alloc (.cells #[.string s, .iface t x] 214)) from
      ⟨_, w.heap.size :: E, rfl, .doing _ _ _ _ _ hn (Cells.new w _ _) (h.heldBy (R := E) (HeldBy.of_below hb h.lt) (fun _ h => h)), by
        intro b hb'
        rcases List.mem_cons.1 hb' with e | e
        · exact .inr (by omega)
        · exact .inl e, hb, fun e => absurd e hn⟩)
    clear h hn hb
    have eN := eqlNil t x
    go_enter Tryz.func89, Tryz.ntmps89
    go_wp2
    go_ret
    exact HE.out
/-- in, by a Ctx. -/
theorem Came.in' (s : ByteArray) {W : World} {R E : List Nat} {pa pb pc n : Nat} {c : CS} {v : Value} {wr w : World} (h : Ctx W (E ++ R) pa pb pc c w) (hh : HeldBy R wr w) (he : Err w v n E) (hE : ∀ b ∈ E, wr.heap.size ≤ b) (hz : wr.heap.size ≤ w.heap.size) :
    Calls Tryz.prog 89 #[.string s, v] w (Came W R pa pb pc wr n c id) := by
  refine (in_any s he).mono ?_
  rintro e w' ⟨v', E', rfl, he', hE', hb, _⟩
  have hl := he'.lt
  refine ⟨v', E', rfl, he', ?_, hh.trans (HeldBy.of_below hb fun b hb' => h.heldR b (by simp [hb'])), fun b hb' => ?_⟩
  · refine h.step (Kept.mono (Kept.of_below hb) fun b hb1 hb2 => by omega) (h.below.trans (hb.mono h.below.size)) fun b hb' => ?_
    rcases List.mem_append.1 hb' with e | e
    · rcases hE' b e with q | q
      · exact ⟨.inl (by simp [q]), hl b e⟩
      · exact ⟨.inr q, hl b e⟩
    · exact ⟨.inl (by simp [e]), Nat.lt_of_lt_of_le (h.heldR b (by simp [e])) hb.size⟩
  · rcases hE' b hb' with q | q
    · exact hE b q
    · omega
end Go.Proofs.YtmdganpealbmpaaGreatDoor
