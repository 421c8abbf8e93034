/- Layer 10 (text): statements in memory. -/
import Derived.Test.YtikgbgminhgpdaaGreatDoorTxtNext
import Derived.Test.YtikgbgminhgpdaaGreatDoorTextJoinW
import Derived.Test.YtikgbgminhgpdaaGreatDoorTextFuel
import Derived.Deep.AppendLies
namespace Go.Proofs.YtikgbgminhgpdaaGreatDoor
open Go.RowKit Tx
set_option maxRecDepth 10000

/-- A statement's cells. -/
def shL (s : Sh) (body els : Value) : List Value := [.int .i64 (s.kind : Int), .int .i64 s.coll, .int .i64 s.reg, .int .i64 s.a.1, .int .i64 s.a.2, .int .i64 s.b.1, .int .i64 s.b.2, body, els]
/-- A row of statements in a block of A. -/
def RowIn (A : Nat → Prop) (w : World) (v : Value) (n : Nat) (xs : List Value) : Prop := w.ownsRow 0 45 9 v n xs ∧ ∀ b, v.ownBlock = some b → A b
mutual
def StC (A : Nat → Prop) (w : World) : St → List Value → Prop
  | .mk h b e, c => ∃ bv ev cb ce, c = shL h bv ev ∧ StCs A w b cb ∧ RowIn A w bv b.length cb.flatten ∧ StCs A w e ce ∧ RowIn A w ev e.length ce.flatten
def StCs (A : Nat → Prop) (w : World) : List St → List (List Value) → Prop
  | [], cs => cs = []
  | s :: l, cs => ∃ c cs', cs = c :: cs' ∧ StC A w s c ∧ StCs A w l cs'
end
/-- A list of statements in memory, in blocks from B on; what is inside them lies elsewhere than the list's own row. -/
def SlV (B : Nat) (w : World) (l : List St) (v : Value) : Prop := ∃ cs, StCs (fun b => B ≤ b ∧ v.ownBlock ≠ some b) w l cs ∧ w.ownsRow B 45 9 v l.length cs.flatten
theorem row_kept {S : Nat → Prop} {w w' : World} {B B' : Nat} {e : TypeId} {size : Nat} {v : Value} {n : Nat} {xs : List Value} (h : w.ownsRow B e size v n xs) (hB : B' ≤ B) (k : Kept S w w') (hs : ∀ b, v.ownBlock = some b → b < w.heap.size → ¬ S b) : w'.ownsRow B' e size v n xs := by
  refine ⟨h.1, ?_⟩
  rcases h.2 with hn | ⟨g, cap, cur, rfl, h1, h2, h3⟩
  · exact Or.inl hn
  · exact Or.inr ⟨g, cap, cur, rfl, Nat.le_trans hB h1, (k.block g (lt_of_block h2) (hs g rfl (lt_of_block h2))).trans h2, h3⟩
theorem RowIn.kept {S A A' : Nat → Prop} {w w' : World} {v : Value} {n : Nat} {xs : List Value} (h : RowIn A w v n xs) (k : Kept S w w') (hs : ∀ b, A b → b < w.heap.size → ¬ S b ∧ A' b) : RowIn A' w' v n xs :=
  ⟨row_kept h.1 (Nat.le_refl _) k (fun b hb hl => (hs b (h.2 b hb) hl).1), fun b hb => (hs b (h.2 b hb) (h.1.lt b hb).2).2⟩
mutual
theorem StC.kept {S A A' : Nat → Prop} {w w' : World} (k : Kept S w w') (hs : ∀ b, A b → b < w.heap.size → ¬ S b ∧ A' b) : ∀ (s : St) (c : List Value), StC A w s c → StC A' w' s c
  | .mk h b e, c, hc => by
    unfold StC at hc ⊢
    obtain ⟨bv, ev, cb, ce, h1, h2, h3, h4, h5⟩ := hc
    exact ⟨bv, ev, cb, ce, h1, StCs.kept k hs b cb h2, h3.kept k hs, StCs.kept k hs e ce h4, h5.kept k hs⟩
theorem StCs.kept {S A A' : Nat → Prop} {w w' : World} (k : Kept S w w') (hs : ∀ b, A b → b < w.heap.size → ¬ S b ∧ A' b) : ∀ (l : List St) (cs : List (List Value)), StCs A w l cs → StCs A' w' l cs
  | [], cs, hc => by unfold StCs at hc ⊢; exact hc
  | s :: l, cs, hc => by
    unfold StCs at hc ⊢
    obtain ⟨c, cs', h1, h2, h3⟩ := hc
    exact ⟨c, cs', h1, StC.kept k hs s c h2, StCs.kept k hs l cs' h3⟩
end
theorem SlV.kept {S : Nat → Prop} {w w' : World} {B B' : Nat} {l : List St} {v : Value} (h : SlV B w l v) (hB : B' ≤ B) (k : Kept S w w') (hs : ∀ b, B ≤ b → b < w.heap.size → ¬ S b) : SlV B' w' l v := by
  obtain ⟨cs, h1, h2⟩ := h
  exact ⟨cs, StCs.kept k (fun b hb hl => ⟨hs b hb.1 hl, Nat.le_trans hB hb.1, hb.2⟩) l cs h1, row_kept h2 hB k (fun b hb hl => hs b (h2.lt b hb).1 hl)⟩
theorem SlV.nil (B : Nat) (w : World) : SlV B w [] (.slice none 0 0) := ⟨[], by unfold StCs; rfl, World.ownsRow_nil _ _ _ _⟩
theorem SlV.one {B : Nat} {w : World} {l : List St} {v : Value} (h : SlV B w l v) : v.oneCell' = true := by
  obtain ⟨cs, _, _, ⟨rfl, _⟩ | ⟨g, cap, cur, rfl, _⟩⟩ := h <;> rfl
theorem SlV.shape {B : Nat} {w : World} {l : List St} {v : Value} (h : SlV B w l v) : ∃ p n c, v = .slice p n c ∧ ∀ b, v.ownBlock = some b → B ≤ b ∧ b < w.heap.size := by
  obtain ⟨cs, _, h2⟩ := h
  refine (?_ : (∃ p n c, v = .slice p n c) ∧ _).elim fun ⟨p, n, c, e⟩ q => ⟨p, n, c, e, q⟩
  refine ⟨?_, fun b hb => h2.lt b hb⟩
  rcases h2.2 with ⟨rfl, _⟩ | ⟨g, cap, cur, rfl, _⟩
  · exact ⟨_, _, _, rfl⟩
  · exact ⟨_, _, _, rfl⟩
theorem StCs.app {A : Nat → Prop} {w : World} {s : St} {c : List Value} (hc : StC A w s c) : ∀ (l : List St) (cs : List (List Value)), StCs A w l cs → StCs A w (l ++ [s]) (cs ++ [c])
  | [], cs, h => by
    unfold StCs at h
    subst h
    simp only [List.nil_append]
    unfold StCs
    exact ⟨c, [], rfl, hc, by unfold StCs; rfl⟩
  | x :: l, cs, h => by
    unfold StCs at h
    obtain ⟨c', cs', rfl, h2, h3⟩ := h
    simp only [List.cons_append]
    unfold StCs
    exact ⟨c', cs' ++ [c], rfl, h2, StCs.app hc l cs' h3⟩
theorem SlV.row {A : Nat → Prop} {B : Nat} {w : World} {l : List St} {v : Value} (h : SlV B w l v) (hA : ∀ b, B ≤ b → b < w.heap.size → A b) : ∃ cs, StCs A w l cs ∧ RowIn A w v l.length cs.flatten := by
  obtain ⟨cs, h1, h2⟩ := h
  exact ⟨cs, StCs.kept (Kept.refl (fun _ => False) w) (fun b hb hl => ⟨id, hA b hb.1 hl⟩) l cs h1, row_kept h2 (Nat.zero_le _) (Kept.refl (fun _ => False) w) (fun _ _ _ => id), fun b hb => hA b (h2.lt b hb).1 (h2.lt b hb).2⟩
theorem StC.mk {A : Nat → Prop} {B : Nat} {w : World} {h : Sh} {b e : List St} {bv ev : Value} (hb : SlV B w b bv) (he : SlV B w e ev) (hA : ∀ b, B ≤ b → b < w.heap.size → A b) : StC A w (.mk h b e) (shL h bv ev) := by
  obtain ⟨cb, h1, h2⟩ := hb.row hA
  obtain ⟨ce, h3, h4⟩ := he.row hA
  unfold StC
  exact ⟨bv, ev, cb, ce, rfl, h1, h2, h3, h4⟩
theorem StC.len {A : Nat → Prop} {w : World} {s : St} {c : List Value} (h : StC A w s c) : c.length = 9 := by
  cases s with
  | mk h0 b e =>
    unfold StC at h
    obtain ⟨bv, ev, cb, ce, rfl, _⟩ := h
    rfl
/-- One more statement: what append left. -/
theorem SlV.app {B D : Nat} {w w8 : World} {p : List St} {v v8 : Value} {c : List Value} {s : St} {cs : List (List Value)} (h1 : StCs (fun b => B ≤ b ∧ v.ownBlock ≠ some b) w p cs) (hs : StC (fun b => D ≤ b ∧ b < w.heap.size) w s c) (hBD : B ≤ D) (hvD : ∀ b, v.ownBlock = some b → b < D)
    (hk : Kept (fun b => some b = v.ownBlock) w w8) (h8 : ∀ g, v8.ownBlock = some g → v.ownBlock = some g ∨ w.heap.size ≤ g) (hrow : w8.ownsRow B 45 9 v8 (p.length + 1) (cs.flatten ++ c)) : SlV B w8 (p ++ [s]) v8 := by
  have hx : ∀ b, b < w.heap.size → v.ownBlock ≠ some b → v8.ownBlock ≠ some b := fun b hb hn e => by
    rcases h8 b e with q | q
    · exact hn q
    · omega
  have k1 : StCs (fun b => B ≤ b ∧ v8.ownBlock ≠ some b) w8 p cs := StCs.kept hk (fun b hb hl => ⟨fun e => hb.2 e.symm, hb.1, hx b hl hb.2⟩) p cs h1
  have k2 : StC (fun b => B ≤ b ∧ v8.ownBlock ≠ some b) w8 s c := StC.kept hk (fun b hb hl => by
    have hn : v.ownBlock ≠ some b := fun e => by have := hvD b e; omega
    exact ⟨fun e => hn e.symm, Nat.le_trans hBD hb.1, hx b hl hn⟩) s c hs
  refine ⟨cs ++ [c], StCs.app k2 p cs k1, ?_⟩
  simpa using hrow
theorem shL_one {h : Sh} {bv ev : Value} (hb : bv.oneCell' = true) (he : ev.oneCell' = true) : ∀ u ∈ shL h bv ev, u.oneCell' = true := by
  intro u hu
  simp only [shL, List.mem_cons, List.not_mem_nil, or_false] at hu
  rcases hu with rfl | rfl | rfl | rfl | rfl | rfl | rfl | rfl | rfl
  all_goals first | rfl | assumption
theorem stmtInfo : (Tryz.prog.info? 45).map (fun i => (i.zero, i.size, i.bytes)) = some (some (.agg #[.int .i64 0, .int .i64 0, .int .i64 0, .int .i64 0, .int .i64 0, .int .i64 0, .int .i64 0, .slice none 0 0, .slice none 0 0]), 9, 104) := by kernel_rfl

/-! What block and blocks answer. -/
def badAt (L : List ByteArray) : Bad → Int
  | none => (L.length : Int) + 1
  | some k => ((L.length - k : Nat) : Int)
def finI : Fin → Int
  | .text => 0
  | .block => 1
  | .els => 2
def BlkPost (rb lb : Nat) (L : List ByteArray) (cap : Nat) (w : World) (a : Nat) (e : Ending) (w' : World) : Prop :=
  Kept (fun k => k = rb) w w' ∧ match Blk (lsAt L a) with
    | .error x => ∃ v, e = .returned (.tuple #[.slice none 0 0, .int .i64 0, v]) ∧ Flt w.heap.size w' v (badAt L x) 9
    | .ok (p, f, r) => ∃ v, e = .returned (.tuple #[v, .int .i64 (finI f), .nilIface]) ∧ SlV w.heap.size w' p v ∧
      ((f = .text ∧ r = [] ∧ Rd rb lb L cap w' (L.length + 1)) ∨ (f ≠ .text ∧ ∃ b, Rd rb lb L cap w' b ∧ r = lsAt L b ∧ a ≤ b ∧ b ≤ L.length))
def BlksPost (rb sb lb : Nat) (L : List ByteArray) (cap : Nat) (h : Sh) (w : World) (a : Nat) (e : Ending) (w' : World) : Prop :=
  Kept (fun k => k = rb ∨ k = sb) w w' ∧ match Blks h (lsAt L a) with
    | .error x => ∃ v, e = .returned v ∧ Flt w.heap.size w' v (badAt L x) 9
    | .ok (.mk _ b els, r) => e = .returned .nilIface ∧ ∃ bv ev b', Cells w' sb (shL h bv ev) 45 ∧ SlV w.heap.size w' b bv ∧ SlV w.heap.size w' els ev ∧ Rd rb lb L cap w' b' ∧ r = lsAt L b' ∧ a ≤ b' ∧ b' ≤ L.length
theorem Flt.low {B B' : Nat} {w : World} {v : Value} {a n : Int} (h : Flt B w v a n) (hB : B' ≤ B) : Flt B' w v a n := by
  obtain ⟨f, h1, h2, h3⟩ := h
  exact ⟨f, h1, h2, Nat.le_trans hB h3⟩
theorem Flt.form {B : Nat} {w : World} {v : Value} {a n : Int} (h : Flt B w v a n) : ∃ f, v = .iface 60 (.pointer (some ⟨f, 0, none⟩)) := by
  obtain ⟨f, h1, _⟩ := h
  exact ⟨f, h1⟩
/-- Blks keeps what it was given. -/
theorem Blks_head {h : Sh} {r : List (List Bs)} {s : St} {r' : List (List Bs)} (hb : Blks h r = .ok (s, r')) : ∃ b e, s = .mk h b e := by
  rw [Blks_eq] at hb
  by_cases c0 : opens h.kind = false
  · rw [if_pos c0] at hb
    simp only [Except.ok.injEq, Prod.mk.injEq] at hb
    exact ⟨[], [], hb.1.symm⟩
  · rw [if_neg c0] at hb
    cases h1 : Blk r with
    | error x => rw [h1] at hb; cases hb
    | ok x =>
      obtain ⟨b, e1, r1⟩ := x
      rw [h1] at hb
      simp only at hb
      by_cases c1 : e1 = .els ∧ (h.kind = 11 ∨ h.kind = 14)
      · rw [if_pos c1] at hb
        cases h2 : Blk r1 with
        | error x => rw [h2] at hb; cases hb
        | ok x =>
          obtain ⟨b2, e2, r2⟩ := x
          rw [h2] at hb
          simp only at hb
          by_cases c2 : e2 = .block
          · rw [if_pos c2] at hb
            simp only [Except.ok.injEq, Prod.mk.injEq] at hb
            exact ⟨b, b2, hb.1.symm⟩
          · rw [if_neg c2] at hb; cases hb
      · rw [if_neg c1] at hb
        by_cases c2 : e1 = .block
        · rw [if_pos c2] at hb
          simp only [Except.ok.injEq, Prod.mk.injEq] at hb
          exact ⟨b, [], hb.1.symm⟩
        · rw [if_neg c2] at hb; cases hb
end Go.Proofs.YtikgbgminhgpdaaGreatDoor
