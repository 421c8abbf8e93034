/- Body13a: Body13, Body13a. -/
import Derived.Test.YtmdganpealbmpaaGreatDoorScene
import Derived.Test.YtmdganpealbmpaaGreatDoorRef5
import Derived.Test.YtmdganpealbmpaaGreatDoorRefPlain

/- Layer 13's laws: a transaction as a body: what it reads, what it keeps, what holds along its way. -/
namespace Go.Proofs.YtmdganpealbmpaaGreatDoor
open Go.RowKit Bl Th
set_option maxRecDepth 10000

def encO (o : Op13) : List Value := [.int .i64 o.kind, .int .i64 o.a, .int .u64 (o.x : Int)]
/-- A slice of operations lies in a block that is held, or in one that was there in W. -/
structure OpsIn (W w : World) (v : Value) (Q : List Nat) (l : List Op13) : Prop where
  shape : ∃ p cap, v = .slice p l.length cap ∧ (l ≠ [] → ∃ g o, p = some ⟨g, o, none⟩ ∧ ∀ (k : Nat) m, l[k]? = some m → ∀ j, j < 3 → (g ∈ Q ∧ w.cell? ⟨g, o + k * 3 + j, none⟩ = (encO m)[j]?) ∨ (g < W.heap.size ∧ W.cell? ⟨g, o + k * 3 + j, none⟩ = (encO m)[j]?))
  few : l.length ≤ 1000
  fit : ∀ m ∈ l, m.x < 18446744073709551616
theorem OpsIn.heldBy {W w w' : World} {v : Value} {Q R : List Nat} {l : List Op13} (h : OpsIn W w v Q l) (k : HeldBy R w w') (hs : ∀ b ∈ Q, b ∈ R) : OpsIn W w' v Q l := by
  obtain ⟨p, cap, hv, hp⟩ := h.shape
  refine ⟨⟨p, cap, hv, fun hn => ?_⟩, h.few, h.fit⟩
  obtain ⟨g, o, hg, hc⟩ := hp hn
  refine ⟨g, o, hg, fun i m hi j hj => ?_⟩
  rcases hc i m hi j hj with ⟨hm, q⟩ | q
  · exact .inl ⟨hm, (k.cell (a := ⟨g, o + i * 3 + j, none⟩) (hs g hm)).trans q⟩
  · exact .inr q
theorem OpsIn.at {W w : World} {p : Option Addr} {n cap : Nat} {Q : List Nat} {l : List Op13} (h : OpsIn W w (.slice p n cap) Q l) (hb : Below W.heap.size W w) {k : Nat} {m : Op13} (hk : l[k]? = some m) :
    ∃ g o, p = some ⟨g, o, none⟩ ∧ w.cell? ⟨g, o + k * 3, none⟩ = some (.int .i64 m.kind) ∧ w.cell? ⟨g, o + k * 3 + 1, none⟩ = some (.int .i64 m.a) ∧ w.cell? ⟨g, o + k * 3 + 2, none⟩ = some (.int .u64 (m.x : Int)) := by
  obtain ⟨p', cap', hv, hp⟩ := h.shape
  simp only [Value.slice.injEq] at hv
  obtain ⟨rfl, -, -⟩ := hv
  obtain ⟨g, o, hg, hc⟩ := hp (fun e => by simp [e] at hk)
  have key : ∀ j, j < 3 → w.cell? ⟨g, o + k * 3 + j, none⟩ = (encO m)[j]? := by
    intro j hj
    rcases hc k m hk j hj with ⟨_, q⟩ | ⟨h1, q⟩
    · exact q
    · exact (hb.cell (p := ⟨g, o + k * 3 + j, none⟩) h1).trans q
  exact ⟨g, o, hg, key 0 (by omega), key 1 (by omega), key 2 (by omega)⟩

/-- What such a body reads: its boxes, its cells, its operations. -/
structure Shared (W : World) (bc bo bl bs bt po g : Nat) (lv : Value) (Qo : List Nat) (l : List Op13) (clock : Nat) (cells : List Nat) (owner : Int) (w : World) : Prop where
  clock' : Cells w bc [.int .u64 (clock : Int)] 41
  owner' : Cells w bo [.int .i64 owner] 3
  ops : Cells w bl [lv] 35
  cells' : Cells w bs [.slice (some ⟨g, 0, none⟩) cells.length cells.length] 31
  out : Cells w bt [.pointer (some ⟨po, 0, none⟩)] 39
  arr : Cells w g (cells.map fun x : Nat => .int .u64 (x : Int)) 41
  lies : OpsIn W w lv Qo l
def shOf (bc bo bl bs bt g : Nat) (Qo : List Nat) : List Nat := [bc, bo, bl, bs, bt, g] ++ Qo
theorem Shared.heldBy {W : World} {bc bo bl bs bt po g : Nat} {lv : Value} {Qo : List Nat} {l : List Op13} {clock : Nat} {cells : List Nat} {owner : Int} {w w' : World} {R : List Nat} (h : Shared W bc bo bl bs bt po g lv Qo l clock cells owner w) (k : HeldBy R w w') (hs : ∀ b ∈ shOf bc bo bl bs bt g Qo, b ∈ R) : Shared W bc bo bl bs bt po g lv Qo l clock cells owner w' := by
  have m : ∀ b, b = bc ∨ b = bo ∨ b = bl ∨ b = bs ∨ b = bt ∨ b = g ∨ b ∈ Qo → b ∈ R := fun b hb => hs b (by simpa [shOf, or_assoc] using hb)
  exact ⟨h.clock'.heldBy k (m bc (by simp)), h.owner'.heldBy k (m bo (by simp)), h.ops.heldBy k (m bl (by simp)), h.cells'.heldBy k (m bs (by simp)), h.out.heldBy k (m bt (by simp)), h.arr.heldBy k (m g (by simp)), h.lies.heldBy k (fun b hb => m b (by simp [hb]))⟩
def encT (l : List Nat) : List Value := l.map fun x : Nat => .int .u64 (x : Int)
/-- What it keeps: what came of it. -/
def outAux (W : World) (po : Nat) : Aux Out13 where
  at' s Q w := ∃ tv, Q = po :: tv.ownBlock.toList ∧ po ∉ tv.ownBlock.toList ∧ W.heap.size ≤ po ∧ Cells w po [tv, .bool s.done, .bool s.wrote, .int .i64 s.stamp] 38 ∧ w.ownsRow W.heap.size 41 1 tv s.told.length (encT s.told)
  loc := by
    rintro s Q w w' ⟨tv, rfl, h1, h2, h3, h4⟩ k
    exact ⟨tv, rfl, h1, h2, h3.heldBy k (by simp), ownsRow_heldBy h4 k (fun b hb => by simp [hb])⟩

theorem ownsRow_mono {w : World} {base base' : Nat} {e : TypeId} {size : Nat} {v : Value} {n : Nat} {xs : List Value} (h : w.ownsRow base e size v n xs) (hb : base' ≤ base) : w.ownsRow base' e size v n xs := by
  refine ⟨h.1, ?_⟩
  rcases h.2 with q | ⟨g, cap, cur, h1, h2, h3⟩
  · exact .inl q
  · exact .inr ⟨g, cap, cur, h1, Nat.le_trans hb h2, h3⟩
/-- What holds along its way, behind Begin. -/
structure Way (W : World) (Y : List Nat) (pa pb pc pt bx : Nat) (wi : World) (t : Tx) (told : List Nat) (tv : Value) (rest : List Value) (B E : List Nat) (c : CS) (w : World) : Prop where
  ctx : Ctx W (E ++ (B ++ (bx :: (tv.ownBlock.toList ++ Y)))) pa pb pc c w
  held : HeldBy Y wi w
  tx : TxAt W pt t B w
  box : Cells w bx (tv :: rest) 38
  row : w.ownsRow wi.heap.size 41 1 tv told.length (encT told)
  newB : ∀ b ∈ B, wi.heap.size ≤ b ∧ b ≠ bx ∧ b ∉ tv.ownBlock.toList
  newE : ∀ b ∈ E, wi.heap.size ≤ b ∧ b ≠ bx
  newX : wi.heap.size ≤ bx ∧ bx ∉ tv.ownBlock.toList
  loY : (∀ b ∈ Y, b < wi.heap.size) ∧ W.heap.size ≤ wi.heap.size
theorem Way.apart {W : World} {Y B E : List Nat} {pa pb pc pt bx : Nat} {wi w : World} {t : Tx} {told : List Nat} {tv : Value} {rest : List Value} {c : CS} (h : Way W Y pa pb pc pt bx wi t told tv rest B E c w) : ∀ b ∈ B, b ∉ bx :: (tv.ownBlock.toList ++ Y) := by
  intro b hb hm
  obtain ⟨h1, h2, h3⟩ := h.newB b hb
  rcases List.mem_cons.1 hm with e | e
  · exact h2 e
  · rcases List.mem_append.1 e with e | e
    · exact h3 e
    · have := h.loY.1 b e; omega
theorem Way.fine {W : World} {Y B E : List Nat} {pa pb pc pt bx : Nat} {wi w : World} {t : Tx} {told : List Nat} {tv : Value} {rest : List Value} {c : CS} (h : Way W Y pa pb pc pt bx wi t told tv rest B E c w) : Way W Y pa pb pc pt bx wi t told tv rest B [] c w :=
  { h with ctx := h.ctx.less (fun b hb => by simp only [List.nil_append] at hb; exact List.mem_append_right _ hb), newE := by simp }
/-- A call of the transaction. -/
theorem Way.call {W : World} {Y B B' E : List Nat} {pa pb pc pt bx n : Nat} {wi w w' : World} {t t' : Tx} {told : List Nat} {tv v : Value} {rest : List Value} {c c' : CS} (h : Way W Y pa pb pc pt bx wi t told tv rest B [] c w)
    (ht : TxAt W pt t' B' w') (hc : Ctx W (E ++ (B' ++ (bx :: (tv.ownBlock.toList ++ Y)))) pa pb pc c' w') (hh : HeldBy (bx :: (tv.ownBlock.toList ++ Y)) w w') (hB : ∀ b ∈ E ++ B', b ∈ B ∨ w.heap.size ≤ b) (_ : Err w' v n E) :
    Way W Y pa pb pc pt bx wi t' told tv rest B' E c' w' := by
  have hz := h.held.1
  have hx := h.box.lt
  have ho : ∀ b, tv.ownBlock = some b → b < w.heap.size := fun b hb => (h.row.lt b hb).2
  have key : ∀ b ∈ E ++ B', wi.heap.size ≤ b ∧ b ≠ bx ∧ b ∉ tv.ownBlock.toList := by
    intro b hb
    rcases hB b hb with q | q
    · exact h.newB b q
    · exact ⟨Nat.le_trans hz q, fun e => by omega, fun hm => by have := ho b (by simpa using hm); omega⟩
  exact ⟨hc, h.held.trans (hh.less fun b hb => by simp [hb]), ht, h.box.heldBy hh (by simp), ownsRow_heldBy h.row hh (fun b hb => by simp [hb]), fun b hb => key b (by simp [hb]), fun b hb => ⟨(key b (by simp [hb])).1, (key b (by simp [hb])).2.1⟩, h.newX, h.loY⟩
/-- New blocks beside it. -/
theorem Way.under {W : World} {Y B E : List Nat} {pa pb pc pt bx : Nat} {wi w w' : World} {t : Tx} {told : List Nat} {tv : Value} {rest : List Value} {c : CS} (h : Way W Y pa pb pc pt bx wi t told tv rest B E c w) (hb : Below w.heap.size w w') : Way W Y pa pb pc pt bx wi t told tv rest B E c w' := by
  have hh := HeldBy.of_below (R := E ++ (B ++ (bx :: (tv.ownBlock.toList ++ Y)))) hb h.ctx.heldR
  exact { h with ctx := h.ctx.under hb, held := h.held.trans (hh.less fun b hb => by simp [hb]), tx := h.tx.heldBy hh (fun b hb => by simp [hb]), box := h.box.heldBy hh (by simp), row := ownsRow_heldBy h.row hh (fun b hb => by simp [hb]) }
/-- A store into the box. -/
theorem Way.put {W : World} {Y B E : List Nat} {pa pb pc pt bx : Nat} {wi w : World} {t : Tx} {told : List Nat} {tv : Value} {rest : List Value} {c : CS} (h : Way W Y pa pb pc pt bx wi t told tv rest B E c w) (i : Nat) (x : Value) : Way W Y pa pb pc pt bx wi t told tv (rest.set i x) B E c (w.setCell ⟨bx, i + 1, none⟩ x) := by
  have k : Kept (fun b => b = bx) w (w.setCell ⟨bx, i + 1, none⟩ x) := Kept.setCell (S := fun b => b = bx) (Kept.refl _ w) (fun _ => rfl) _
  have hWX := h.loY.2
  have hX := h.newX.1
  obtain ⟨e1, e2⟩ := Ctx.objs (B := [bx]) (B' := [bx]) (R := E ++ (B ++ (tv.ownBlock.toList ++ Y))) (h.ctx.less fun b hb => by simp only [List.mem_append, List.mem_cons, List.not_mem_nil, or_false] at hb ⊢; rcases hb with q | q | q | q | q <;> simp [q]) (k.mono fun b _ e => by simp [e]) (by simp; omega) (by
    intro b hb hm
    simp only [List.mem_singleton] at hb
    subst hb
    simp only [List.mem_append] at hm
    rcases hm with q | q | q | q
    · exact (h.newE _ q).2 rfl
    · exact (h.newB _ q).2.1 rfl
    · exact h.newX.2 q
    · have := h.loY.1 _ q; omega) (by intro b hb; simp only [List.mem_singleton] at hb; subst hb; exact ⟨.inl (by simp), Nat.lt_of_lt_of_le h.box.lt k.size⟩)
  exact { h with ctx := e1.less (fun b hb => by simp only [List.mem_append, List.mem_cons, List.not_mem_nil, or_false] at hb ⊢; rcases hb with q | q | q | q | q <;> simp [q]), held := h.held.trans (e2.less fun b hb => by simp [hb]), tx := h.tx.heldBy e2 (fun b hb => by simp [hb]), box := (h.box.set (i + 1) x).cast (by simp), row := ownsRow_heldBy h.row e2 (fun b hb => by simp [hb]) }
/-- It was told one more. -/
theorem Way.tell {W : World} {Y B : List Nat} {pa pb pc pt bx : Nat} {wi w w' : World} {t : Tx} {told : List Nat} {tv tv' : Value} {rest : List Value} {c : CS} (h : Way W Y pa pb pc pt bx wi t told tv rest B [] c w) (hb : Below w.heap.size w w') {x : Nat} (hr : w'.ownsRow w.heap.size 41 1 tv' (told.length + 1) (encT (told ++ [x]))) :
    Way W Y pa pb pc pt bx wi t (told ++ [x]) tv' rest B [] c (w'.setCell ⟨bx, 0, none⟩ tv') := by
  have hz := h.held.1
  have hx := h.box.lt
  have k1 : Kept (fun b => b = bx) w (w'.setCell ⟨bx, 0, none⟩ tv') := Kept.setCell ((Kept.of_below hb).mono (T := fun b => b = bx) fun b h1 h2 => absurd h1 (Nat.not_lt.2 h2)) (fun _ => rfl) _
  have hWX := h.loY.2
  have hX := h.newX.1
  have ht : ∀ b ∈ tv'.ownBlock.toList, w.heap.size ≤ b ∧ b < w'.heap.size := fun b hb => hr.lt b (by simpa using hb)
  obtain ⟨e1, e2⟩ := Ctx.objs (B := [bx]) (B' := bx :: tv'.ownBlock.toList) (R := B ++ (tv.ownBlock.toList ++ Y)) (h.ctx.less fun b hb => by simp only [List.nil_append, List.mem_append, List.mem_cons, List.not_mem_nil, or_false] at hb ⊢; rcases hb with q | q | q | q <;> simp [q]) (k1.mono fun b _ e => by simp [e]) (by simp; omega) (by
    intro b hb hm
    simp only [List.mem_singleton] at hb
    subst hb
    simp only [List.mem_append] at hm
    rcases hm with q | q | q
    · exact (h.newB _ q).2.1 rfl
    · exact h.newX.2 q
    · have := h.loY.1 _ q; omega) (by
    intro b hb
    rcases List.mem_cons.1 hb with e | e
    · subst e; exact ⟨.inl (by simp), Nat.lt_of_lt_of_le hx k1.size⟩
    · exact ⟨.inr (ht b e).1, by simpa using (ht b e).2⟩)
  refine ⟨e1.less (fun b hb => ?_), h.held.trans (e2.less fun b hb => by simp [hb]), h.tx.heldBy e2 (fun b hb => by simp [hb]), ?_, ?_, fun b hb => ?_, by simp, ⟨hX, fun hm => ?_⟩, h.loY⟩
  · simp only [List.nil_append, List.mem_append, List.mem_cons] at hb ⊢
    rcases hb with q | q | q | q <;> simp [q]
  · have := (h.box.heldBy (R := [bx]) (HeldBy.of_below hb (by simpa using hx)) (by simp)).set 0 tv'
    exact this.cast (by simp)
  · have := ownsRow_kept hr (Kept.setCell (S := fun b => b = bx) (Kept.refl _ w') (fun _ => rfl) tv' (p := ⟨bx, 0, none⟩)) (fun b hb e => by have := (hr.lt b hb).1; omega)
    rw [List.length_append]
    exact ownsRow_mono this hz
  · refine ⟨(h.newB b hb).1, (h.newB b hb).2.1, fun hm => ?_⟩
    have := (ht b hm).1
    have := h.tx.lt b hb
    omega
  · have := (ht bx hm).1
    omega
/-- Where it goes out to. -/
def OutBox (W : World) (po : Nat) (w : World) : Prop := ∃ a b c d, W.heap.size ≤ po ∧ Cells w po [a, b, c, d] 38
/-- It is over: what came of it goes out. -/
theorem out_fin {W : World} {X E : List Nat} {tv v : Value} {pa pb pc bx po n : Nat} {wi w w' : World} {told : List Nat} {c : CS} {d1 d2 : Bool} {st : Int} (ha : OutBox W po wi) (hXQ : ∀ b ∈ X, b ∉ [po]) (hX : ∀ b ∈ X, b < wi.heap.size)
    (hc : Ctx W (E ++ (bx :: (tv.ownBlock.toList ++ (po :: X)))) pa pb pc c w) (hh : HeldBy (po :: X) wi w) (hr : w.ownsRow wi.heap.size 41 1 tv told.length (encT told)) (hE : ∀ b ∈ E, wi.heap.size ≤ b ∧ b ≠ bx) (hbx : wi.heap.size ≤ bx ∧ bx ∉ tv.ownBlock.toList) (hW : W.heap.size ≤ wi.heap.size) (he : Err w v n E)
    (k : Kept (fun b => b = bx ∨ b = po) w w') (hp : Cells w' po [tv, .bool d1, .bool d2, .int .i64 st] 38) :
    BodyPost W pa pb pc (outAux W po) X [po] wi (n, c, ⟨told, d1, d2, st⟩) (.returned v) w' := by
  obtain ⟨_, _, _, _, a3, a4⟩ := ha
  have lpo := a4.lt
  have hro : ∀ b ∈ tv.ownBlock.toList, wi.heap.size ≤ b ∧ b < w.heap.size := fun b hb => hr.lt b (by simpa using hb)
  obtain ⟨e1, e2⟩ := Ctx.objs (B := [bx, po]) (B' := [bx, po]) (R := E ++ (tv.ownBlock.toList ++ X)) (hc.less fun b hb => by simp only [List.mem_append, List.mem_cons, List.not_mem_nil, or_false] at hb ⊢; rcases hb with (q | q) | q | q | q <;> simp [q]) (k.mono fun b _ e => by simpa using e) (by simp; omega) (by
    intro b hb hm
    simp only [List.mem_append] at hm
    simp only [List.mem_cons, List.not_mem_nil, or_false] at hb
    rcases hb with rfl | rfl
    · rcases hm with q | q | q
      · exact (hE _ q).2 rfl
      · exact hbx.2 q
      · have := hX _ q; omega
    · rcases hm with q | q | q
      · have := (hE _ q).1; omega
      · have := (hro _ q).1; omega
      · exact hXQ _ q (by simp)) (by
    intro b hb
    refine ⟨.inl hb, Nat.lt_of_lt_of_le (hc.heldR b ?_) k.size⟩
    simp only [List.mem_cons, List.not_mem_nil, or_false] at hb
    rcases hb with q | q <;> simp [q])
  refine ⟨v, E, po :: tv.ownBlock.toList, rfl, he.heldBy e2 (fun b hb => by simp [hb]), ⟨tv, rfl, fun hm => by have := (hro po hm).1; omega, a3, hp, ownsRow_mono (ownsRow_kept hr k (fun b hb e => ?_)) hW⟩, e1.less fun b hb => ?_, (hh.less fun b hb => by simp [hb]).trans (e2.less fun b hb => by simp [hb]), fun b hb => ?_⟩
  · have h1 := hro b (by simpa using hb)
    rcases e with e | e
    · subst e; exact hbx.2 (by simpa using hb)
    · omega
  · simp only [List.cons_append, List.mem_append, List.mem_cons, List.nil_append] at hb ⊢
    rcases hb with q | q | q | q <;> simp [q]
  · simp only [List.mem_append, List.mem_cons] at hb ⊢
    rcases hb with q | q | q
    · exact .inr (hE b q).1
    · exact .inl (.inl q)
    · exact .inr (hro b q).1

theorem four_set {w : World} {b : Nat} {t : TypeId} {x0 x1 x2 x3 : Value} (h : Cells w b [x0, x1, x2, x3] t) (v0 v1 v2 v3 : Value) : Cells ((((w.setCell ⟨b, 0, none⟩ v0).setCell ⟨b, 1, none⟩ v1).setCell ⟨b, 2, none⟩ v2).setCell ⟨b, 3, none⟩ v3) b [v0, v1, v2, v3] t := (((h.set 0 v0).set 1 v1).set 2 v2).set 3 v3
/-- The same, to the letter of the walk's end. -/
theorem out_end {W : World} {X E : List Nat} {tv v : Value} {pa pb pc bx po n : Nat} {wi w w1 : World} {told : List Nat} {c : CS} {d1 d2 : Bool} {st : Int} (ha : OutBox W po wi) (hXQ : ∀ b ∈ X, b ∉ [po]) (hX : ∀ b ∈ X, b < wi.heap.size)
    (hc : Ctx W (E ++ (bx :: (tv.ownBlock.toList ++ (po :: X)))) pa pb pc c w) (hh : HeldBy (po :: X) wi w) (hr : w.ownsRow wi.heap.size 41 1 tv told.length (encT told)) (hE : ∀ b ∈ E, wi.heap.size ≤ b ∧ b ≠ bx) (hbx : wi.heap.size ≤ bx ∧ bx ∉ tv.ownBlock.toList) (hW : W.heap.size ≤ wi.heap.size) (he : Err w v n E)
    (k : Kept (fun b => b = bx) w w1) :
    BodyPost W pa pb pc (outAux W po) X [po] wi (n, c, ⟨told, d1, d2, st⟩) (.returned v) ((((w1.setCell ⟨po, 0, none⟩ tv).setCell ⟨po, 1, none⟩ (.bool d1)).setCell ⟨po, 2, none⟩ (.bool d2)).setCell ⟨po, 3, none⟩ (.int .i64 st)) := by
  have ha' := ha
  obtain ⟨_, _, _, _, a3, a4⟩ := ha'
  have lpo := a4.lt
  exact out_fin ha hXQ hX hc hh hr hE hbx hW he ((k.mono fun b _ e => .inl e).trans ((four_kept w1 po).mono fun b _ e => .inr e)) (four_set ((a4.heldBy hh (by simp)).kept k (fun e => by omega)) _ _ _ _)
theorem Way.out {W : World} {X E B : List Nat} {tv v : Value} {rest : List Value} {pa pb pc pt bx po n : Nat} {wi w w1 : World} {t : Tx} {told : List Nat} {c : CS} {d1 d2 : Bool} {st : Int} (h : Way W (po :: X) pa pb pc pt bx wi t told tv rest B E c w) (ha : OutBox W po wi) (hXQ : ∀ b ∈ X, b ∉ [po]) (he : Err w v n E) (k : Kept (fun b => b = bx) w w1) :
    BodyPost W pa pb pc (outAux W po) X [po] wi (n, c, ⟨told, d1, d2, st⟩) (.returned v) ((((w1.setCell ⟨po, 0, none⟩ tv).setCell ⟨po, 1, none⟩ (.bool d1)).setCell ⟨po, 2, none⟩ (.bool d2)).setCell ⟨po, 3, none⟩ (.int .i64 st)) :=
  out_end ha hXQ (fun b hb => h.loY.1 b (by simp [hb])) (h.ctx.less fun b hb => by simp only [List.mem_append, List.mem_cons] at hb ⊢; rcases hb with q | q | q | q | q <;> simp [q]) h.held h.row h.newE h.newX h.loY.2 he k
/-- What holds at each operation's head. -/
def BodyJ (W : World) (Y : List Nat) (pa pb pc pt bx : Nat) (wi : World) (cells : List Nat) (l : List Op13) (len : Nat) (t0 : Tx) (c0 : CS) (v a i : Value) (wr : World) : Prop :=
  ∃ (k n acc : Nat) (t : Tx) (told : List Nat) (tv : Value) (B E : List Nat) (c1 : CS), k ≤ len ∧ i = .int .i64 (k : Int) ∧ a = .int .u64 (acc : Int) ∧ acc < 18446744073709551616 ∧ told.length ≤ k ∧ t.sets.log.length ≤ k ∧ Err wr v n E ∧ Way W Y pa pb pc pt bx wi t told tv [.bool false, .bool false, .int .i64 0] B E c1 wr ∧
    exec (bodyOps cells l t0 0 []) c0 = if n = 0 then exec (bodyOps cells (l.drop k) t acc told) c1 else ((n, t, told), c1)
theorem Sets.read_log (s : Sets) (cell : Nat) (ver : Int) : (s.read cell ver).2.log = s.log := by
  unfold Sets.read
  repeat' split
  all_goals rfl
theorem tRead_log (t : Tx) (cell : Nat) (c : CS) : (exec (tRead t cell) c).1.2.2.sets.log = t.sets.log := by
  unfold tRead
  cases wget cell t.sets.writes with
  | some v => rfl
  | none =>
    simp only [exec_bind]
    split
    · split
      · split
        · exact Sets.read_log _ _ _
        · simp only [exec_bind]
          split
          · simp only [exec_bind, exec]
            split <;> exact Sets.read_log _ _ _
          · exact Sets.read_log _ _ _
      · exact Sets.read_log _ _ _
    · rfl
theorem tWrite_log (t : Tx) (cell x : Nat) : (tWrite t cell x).2.sets.log.length ≤ t.sets.log.length + 1 := by
  unfold tWrite Sets.write
  simp only
  split
  · exact Nat.le_succ _
  · simp only
    split
    · exact Nat.le_succ _
    · simp

set_option maxHeartbeats 400000 in
theorem cell13_ok (a : Int) (n : Nat) (h1 : 1 ≤ n) (h4 : n ≤ 100) (w : World) : Calls Tryz.prog 36 #[.int .i64 a, .int .i64 (n : Int)] w fun e w' => e = .returned (.int .i64 (((a % (n : Int)).toNat : Nat) : Int)) ∧ w = w' := by
  have g1 : -(n : Int) < a.tmod n := Int.lt_tmod_of_pos a (by omega)
  have g2 : a.tmod n < n := Int.tmod_lt_of_pos a (by omega)
  have g3 : 0 ≤ (a.tmod n + n).tmod n := Int.tmod_nonneg _ (by omega)
  have g4 : (((a % (n : Int)).toNat : Nat) : Int) = (a.tmod n + n).tmod n := by
    rw [Int.toNat_of_nonneg (Int.emod_nonneg a (by omega)), Int.tmod_eq_emod_of_nonneg (by omega), Int.add_emod_right]
    rw [Int.tmod_eq_emod]
    split
    · simp
    · simp
  have G4 := Lib.hid g4
  have g5 : (n : Int) ≠ 0 := by omega
  clear g4
  go_enter Tryz.func36, Tryz.ntmps36
  go_wp2
  go_ret
  refine ⟨ret_one ?_, rfl⟩
  rw [G4.out]
  exact (Int.tmod_eq_emod_of_nonneg (by omega)).symm
theorem ef_body13 (args : Array Value) (w : World) : (callFunc 59 args).run Tryz.prog w = .ok (.enter 59 args) w := enters_of Tryz.func59 (by kernel_rfl) rfl args w
set_option maxHeartbeats 400000 in
theorem body13_ok (p : Option Addr) (n cap : Nat) (clock : Nat) (g : Nat) (m : Nat) (owner : Int) (po : Nat) (w : World) : Calls Tryz.prog 31 #[.slice p n cap, .int .u64 (clock : Int), .slice (some ⟨g, 0, none⟩) m m, .int .i64 owner, .pointer (some ⟨po, 0, none⟩)] w fun e w' =>
    ∃ fv, e = .returned fv ∧ fv = .func (.func 59) #[] #[.pointer (some ⟨w.heap.size + 1, 0, none⟩), .pointer (some ⟨w.heap.size + 3, 0, none⟩), .pointer (some ⟨w.heap.size, 0, none⟩), .pointer (some ⟨w.heap.size + 2, 0, none⟩), .pointer (some ⟨w.heap.size + 4, 0, none⟩)] ∧
      w' = ((((w.alloc (.cells #[.slice p n cap] 35)).alloc (.cells #[.int .u64 (clock : Int)] 41)).alloc (.cells #[.slice (some ⟨g, 0, none⟩) m m] 31)).alloc (.cells #[.int .i64 owner] 3)).alloc (.cells #[.pointer (some ⟨po, 0, none⟩)] 39) := by
  have hmf : ∀ (fn : Fn) (first cap : Array Value) (w : World), (Instr.makeFunc fn first cap).run Tryz.prog w = .ok (.func fn first cap) w := fun _ _ _ _ => rfl
  go_enter Tryz.func31, Tryz.ntmps31
  go_wp2
  go_ret
  exact ⟨_, rfl, rfl, rfl⟩
end Go.Proofs.YtmdganpealbmpaaGreatDoor

/- Layer 13's laws: a transaction as a body: the walk. -/
namespace Go.Proofs.YtmdganpealbmpaaGreatDoor
open Go.RowKit Bl Th
set_option maxRecDepth 10000

theorem hs2 {W : World} {X : List Nat} {bc bo bl bs bt po g : Nat} {lv : Value} {Qo : List Nat} {l : List Op13} {clock : Nat} {cells : List Nat} {owner : Int} {wi w : World} (h : Shared W bc bo bl bs bt po g lv Qo l clock cells owner wi) (k : HeldBy (po :: X) wi w) (hs : ∀ b ∈ shOf bc bo bl bs bt g Qo, b ∈ X) : Shared W bc bo bl bs bt po g lv Qo l clock cells owner w := h.heldBy k fun b hb => by simp [hs b hb]

theorem ops_read {cells : List Nat} {l : List Op13} {t t2 : Tx} {acc n rv ox : Nat} {oa : Int} {told : List Nat} {c c3 : CS} (h : exec (tRead t (cellAt cells oa)) c = ((n, rv, t2), c3)) : exec (bodyOps cells (⟨1, oa, ox⟩ :: l) t acc told) c = if n = 0 then exec (bodyOps cells l t2 ((acc + rv) % 18446744073709551616) (told ++ [rv])) c3 else ((n, t2, told), c3) := by
  rw [bodyOps, if_pos rfl, exec_bind, h]
  simp only
  split <;> rfl
theorem ops_write {cells : List Nat} {l : List Op13} {t t2 : Tx} {acc n ox : Nat} {oa : Int} {told : List Nat} {c : CS} (h : tWrite t (cellAt cells oa) ((acc + ox) % 18446744073709551616) = (n, t2)) : exec (bodyOps cells (⟨2, oa, ox⟩ :: l) t acc told) c = if n = 0 then exec (bodyOps cells l t2 acc told) c else ((n, t2, told), c) := by
  rw [bodyOps, if_neg (by simp), if_pos rfl, h]
  simp only
  split <;> rfl
theorem ops_check {cells : List Nat} {l : List Op13} {t : Tx} {acc n ox : Nat} {oa : Int} {told : List Nat} {u : Unit} {c c3 : CS} (h : exec (tCheck t) c = ((n, u), c3)) : exec (bodyOps cells (⟨3, oa, ox⟩ :: l) t acc told) c = if n = 0 then exec (bodyOps cells l t acc told) c3 else ((n, t, told), c3) := by
  rw [bodyOps, if_neg (by simp), if_neg (by simp), if_pos rfl, exec_bind, h]
  simp only
  split <;> rfl
theorem ops_else {cells : List Nat} {l : List Op13} {t : Tx} {acc ox : Nat} {kd oa : Int} {told : List Nat} {c : CS} (h1 : kd ≠ 1) (h2 : kd ≠ 2) (h3 : kd ≠ 3) : exec (bodyOps cells (⟨kd, oa, ox⟩ :: l) t acc told) c = exec (bodyOps cells l t acc told) c := by
  rw [bodyOps, if_neg h1, if_neg h2, if_neg h3]
theorem wrap_sum (a b : Nat) : IntKind.u64.wrap ((a : Int) + (b : Int)) = (((a + b) % 18446744073709551616 : Nat) : Int) := by
  rw [show ((a : Int) + (b : Int)) = ((a + b : Nat) : Int) by omega]
  simp [IntKind.wrap, IntKind.signed, IntKind.bits]

set_option maxHeartbeats 4000000 in
theorem body131w_ok {W : World} {X : List Nat} {pa pb pc bc bo bl bs bt po g round : Nat} {lp : Option Addr} {lcap : Nat} {Qo : List Nat} {l : List Op13} {clock : Nat} {cells : List Nat} {owner : Int} {c : CS} {s : Out13} {wi : World} (hg : Handle W) (hn1 : 1 ≤ cells.length) (hn4 : cells.length ≤ 100) (hclock : clock < 18446744073709551616) (hcells : ∀ x ∈ cells, x < 18446744073709551616)
    (hs : Shared W bc bo bl bs bt po g (.slice lp l.length lcap) Qo l clock cells owner wi) (hSh : ∀ b ∈ shOf bc bo bl bs bt g Qo, b ∈ X) (ha : OutBox W po wi) (h : Ctx W (po :: X) pa pb pc c wi) (hXQ : ∀ b ∈ X, b ∉ [po]) :
    Calls Tryz.prog 59 #[.pointer (some ⟨pc, 0, none⟩), .int .i64 (round : Int), .pointer (some ⟨bc, 0, none⟩), .pointer (some ⟨bo, 0, none⟩), .pointer (some ⟨bl, 0, none⟩), .pointer (some ⟨bs, 0, none⟩), .pointer (some ⟨bt, 0, none⟩)] wi (BodyPost W pa pb pc (outAux W po) X [po] wi (treeBody (fun _ => bodyT l clock cells owner) s round c)) := by
  have B1 := (Below.refl wi.heap.size wi).alloc (Nat.le_refl _) (.cells #[.slice none 0 0, .bool false, .bool false, .int .i64 0] 38)
  have C1 := Cells.new wi [.slice none 0 0, .bool false, .bool false, .int .i64 0] 38
  have H := Lib.hid h; have HG := Lib.hid hg; have HS := Lib.hid hs; have HSH := Lib.hid hSh; have HA := Lib.hid ha; have HXQ := Lib.hid hXQ; have HN1 := Lib.hid hn1; have HN4 := Lib.hid hn4; have HCF := Lib.hid hcells
  have HB1 := Lib.hid B1; have HC1 := Lib.hid C1
  have HBEG := Lib.hid (begin_ok (h.came B1 [wi.heap.size] (by simp)) hg hclock owner)
  have q0 := (hs.clock'.alloc (.cells #[.slice none 0 0, .bool false, .bool false, .int .i64 0] 38)).cell 0
  have q1 := (hs.owner'.alloc (.cells #[.slice none 0 0, .bool false, .bool false, .int .i64 0] 38)).cell 0
  simp only [List.getElem?_cons_zero] at q0 q1
  clear h hg hs hSh ha hXQ hn1 hn4 hclock hcells B1 C1
  go_enter Tryz.func59, Tryz.ntmps59
  go_wp2_with fail
  refine HBEG.out.mono ?_
  obtain ⟨bx, hbx⟩ : ∃ bx, wi.heap.size = bx := ⟨_, rfl⟩
  have HBX := Lib.hid hbx
  rw [hbx] at HC1
  rintro e w2 ⟨n, t, c1, hx, hh, ⟨rfl, pt, B, rfl, ht, hc, hB⟩ | ⟨h0, v, E, rfl, he, hc, hE⟩⟩
  · have HY := Lib.hid (show (∀ b ∈ (po :: X), b < wi.heap.size) ∧ W.heap.size ≤ wi.heap.size from ⟨H.out.heldR, H.out.below.size⟩)
    have HXLT := Lib.hid HY.out.1
    have hz1 := hh.1
    have hlt2 := ht.lt
    have hway : Way W (po :: X) pa pb pc pt bx wi t [] (.slice none 0 0) [.bool false, .bool false, .int .i64 0] B [] c1 w2 := by
      subst hbx
      refine ⟨hc, (HeldBy.of_below HB1.out HY.out.1).trans (hh.less fun b hb => by simp [hb]), ht, HC1.out.heldBy hh (by simp), World.ownsRow_nil _ _ _ _, fun b hb => ?_, by simp, ⟨Nat.le_refl _, by simp [Value.ownBlock]⟩, HY.out⟩
      have := hB b hb
      simp at this
      exact ⟨by omega, by omega, by simp [Value.ownBlock]⟩
    have HWAY := Lib.hid hway
    have HX := Lib.hid (show exec (bodyT l clock cells owner) c = exec ((bodyOps cells l t 0 []).bind bodyEnd) c1 by simp only [bodyT, exec_bind, hx, if_true])
    have HLOG := Lib.hid (show t.sets.log.length ≤ 0 by
      simp only [tBegin, exec_bind] at hx
      have := (Prod.ext_iff.1 (Prod.ext_iff.1 hx).1).2
      simp only [exec] at this
      rw [← this]
      simp [Sets.empty])
    obtain ⟨len, hlen⟩ : ∃ len, l.length = len := ⟨_, rfl⟩
    have HLEN := Lib.hid hlen
    rw [hlen] at HS
    rw [hbx]
    have hfew : len ≤ 1000 := by rw [← hlen]; exact HS.out.lies.few
    have q2 := (hs2 HS.out hway.held HSH.out).ops.cell 0
    simp only [List.getElem?_cons_zero] at q2
    clear hx hh ht hc hB hway hlen hz1 hlt2 HBEG q0 q1
    go_wp2
    go_loopw [12, 13, 14] (BodyJ W (po :: X) pa pb pc pt bx wi cells l len t c1) (fun _ _ i _ => len - (intOf i).toNat)
    case atStart => exact ⟨0, 0, 0, t, [], _, B, [], c1, by omega, rfl, rfl, by omega, by simp, HLOG.out, .none, HWAY.out, rfl⟩
    case round =>
      clear HWAY
      obtain ⟨k, n, acc, t1, told, tv, B1, E1, c2, hk, rfl, rfl, hacc, htl, hlg, he, hw, hx⟩ := hrel
      obtain ⟨tp, tcap, htv⟩ := ownsRow_shape hw.row
      have HE := Lib.hid he
      have HX1 := Lib.hid hx
      have HW1 := Lib.hid hw
      have q2 := (hs2 HS.out hw.held HSH.out).ops.cell 0
      simp only [List.getElem?_cons_zero] at q2
      clear he hx hw
      by_cases h0 : n = 0
      · subst h0
        obtain ⟨rfl, rfl⟩ := HE.out.isNil rfl
        by_cases hlt : k < len
        · have hlen' : k < l.length := by rw [HLEN.out]; exact hlt
          obtain ⟨o, hxk⟩ : ∃ o, l[k]? = some o := ⟨l[k], List.getElem?_eq_getElem hlen'⟩
          have hdrop : l.drop k = o :: l.drop (k + 1) := by
            rw [List.drop_eq_getElem_cons hlen']
            rw [List.getElem?_eq_getElem hlen'] at hxk
            rw [Option.some.inj hxk]
          have hx := HX1.out
          rw [if_pos rfl, hdrop] at hx
          have hs3 := hs2 HS.out HW1.out.held HSH.out
          obtain ⟨go, oo, rfl, o0, o1, o2⟩ := hs3.lies.at HW1.out.ctx.below hxk
          have hof := hs3.lies.fit o (List.mem_of_getElem? hxk)
          obtain ⟨kd, oa, ox⟩ := o
          simp only at o0 o1 o2 hof
          have q3 := hs3.cells'.cell 0
          have qa := hs3.arr.cell (oa % (cells.length : Int)).toNat
          have hia : (oa % (cells.length : Int)).toNat < cells.length := by
            have h1 := Int.emod_lt_of_pos oa (b := (cells.length : Int)) (by have := HN1.out; omega)
            have h2 := Int.emod_nonneg oa (b := (cells.length : Int)) (by have := HN1.out; omega)
            omega
          rw [List.getElem?_map, List.getElem?_eq_getElem hia] at qa
          simp only [Option.map_some, List.getElem?_cons_zero] at qa q3
          have hci : cellAt cells oa = cells[(oa % (cells.length : Int)).toNat] := by simp [cellAt, List.getD, List.getElem?_eq_getElem hia]
          have hcf : cells[(oa % (cells.length : Int)).toNat] < 18446744073709551616 := HCF.out _ (List.getElem_mem hia)
          rw [← hci] at qa hcf
          have HCELL := Lib.hid (cell13_ok oa cells.length HN1.out HN4.out)
          obtain ⟨ci, hce⟩ : ∃ ci, cellAt cells oa = ci := ⟨_, rfl⟩
          obtain ⟨ia, hie⟩ : ∃ ia, (oa % (cells.length : Int)).toNat = ia := ⟨_, rfl⟩
          obtain ⟨nc, hnc⟩ : ∃ nc, cells.length = nc := ⟨_, rfl⟩
          rw [hce] at qa hcf
          rw [hie] at qa hia HCELL
          rw [hnc] at q3 hia HCELL
          have HCE := Lib.hid hce
          have HHX := Lib.hid hx
          have hki : (k : Int) < (len : Int) := by omega
          have hii : (ia : Int) < (nc : Int) := by omega
          have HN := Lib.hid HN4.out
          rw [hnc] at HN
          have hnc4 := HN.out
          clear hx hdrop hxk hlen' hci hce hie hnc hs3 HX1
          subst htv
          go_wp2
          go_quiet ((go_at_call 36; exact quiet_left (HCELL.out _)))
          have hw2 := HW1.out.under (below_drewN (Below.refl wr.heap.size wr) nq)
          have HW2 := Lib.hid hw2
          have hlog9 : t1.sets.log.length < 1000000000 := by omega
          by_cases hk1 : kd = 1
          · subst hk1
            have HRD := Lib.hid (tread_ok (R := bx :: ((Value.slice tp told.length tcap).ownBlock.toList ++ (po :: X))) hw2.ctx HG.out hw2.tx hw2.apart hcf)
            clear hw2 HW1
            go_wp2_with fail
            refine HRD.out.mono ?_
            rintro e w3 ⟨n, ⟨rv, t2⟩, c3, v, E, B2, hx2, hrv, rfl, he, ht, hc, hh, hB, -⟩
            have HW3 := Lib.hid (HW2.out.call ht hc hh hB he)
            have hlg2 : t2.sets.log.length ≤ k := by
              have := tRead_log t1 ci c2
              rw [hx2] at this
              simp only at this
              rw [this]; exact hlg
            rw [← HCE.out] at hx2
            have HX2 := Lib.hid (HHX.out.trans (ops_read hx2))
            have HE2 := Lib.hid he
            clear hx2 he ht hc hh hB HHX HRD HW2
            by_cases h0 : n = 0
            · subst h0
              obtain ⟨rfl, rfl⟩ := HE2.out.isNil rfl
              have gs := wrap_sum acc rv
              obtain ⟨i0, hi0, hz0, hz1, hz2⟩ := info_parts u64info
              have hbl := HW3.out.box.lt
              have b0 := (HW3.out.box.alloc (.cells #[] 41)).cell 0
              simp only [List.getElem?_cons_zero] at b0
              have HRW := Lib.hid HW3.out.row
              have HOW := Lib.hid (show (w3.alloc (.cells #[] 41)).ownsRow w3.heap.size 41 1 (.slice (some ⟨w3.heap.size, 0, none⟩) 0 0) 0 [] from ⟨rfl, .inr ⟨w3.heap.size, 0, #[], rfl, Nat.le_refl _, heap_alloc_new w3 _, Nat.le_refl _, Nat.zero_le _, rfl, rfl⟩⟩)
              have HB4 := Lib.hid ((Below.refl w3.heap.size w3).alloc (Nat.le_refl _) (.cells #[] 41))
              have hrv' : rv < 18446744073709551616 := hrv
              have HR2 := Lib.hid (show exec (bodyOps cells l t 0 []) c1 = exec (bodyOps cells (l.drop (k + 1)) t2 ((acc + rv) % 18446744073709551616) (told ++ [rv])) c3 by rw [HX2.out, if_pos rfl])
              have HAF := Lib.hid (Nat.mod_lt (acc + rv) (show 18446744073709551616 > 0 by omega))
              obtain ⟨na, hna⟩ : ∃ na, (acc + rv) % 18446744073709551616 = na := ⟨_, rfl⟩
              rw [hna] at gs HR2 HAF
              clear HX2 hrv hna
              have HFIN := Lib.hid (fun (v2 : Value) (w5 : World) (hb : Below w3.heap.size w3 w5) (hr : w5.ownsRow w3.heap.size 41 1 v2 (told.length + 1) (encT told ++ [.int .u64 (rv : Int)])) => (show BodyJ W (po :: X) pa pb pc pt bx wi cells l len t c1 .nilIface (.int .u64 (na : Int)) (.int .i64 ((k : Int) + 1)) (w5.setCell ⟨bx, 0, none⟩ v2) from ⟨k + 1, 0, na, t2, told ++ [rv], v2, B2, [], c3, by omega, by go_num, rfl, HAF.out, by simp; omega, by omega, .none, HW3.out.tell hb (by rw [encT, List.map_append]; exact hr), by rw [HR2.out, if_pos rfl]⟩))
              rcases HRW.out.2 with ⟨hnil, hlen0⟩ | ⟨gt, capt, cur, hsl, hbg, hgt, hnc1, hcm, hcs, htk⟩
              · simp only [Value.slice.injEq] at hnil
                obtain ⟨rfl, hl0, rfl⟩ := hnil
                have htold : told = [] := List.eq_nil_of_length_eq_zero hl0
                subst htold
                simp only [List.length_nil] at b0
                have HNW := Lib.hid (show ∀ j u, [Value.int .u64 (rv : Int)][j]? = some u → ((w3.alloc (.cells #[] 41)).alloc (.cells #[.int .u64 (rv : Int)] 41)).cell? ((⟨w3.heap.size + 1, 0, none⟩ : Addr).add j) = some u by
                  have := cells_news (w3.alloc (.cells #[] 41)) [Value.int .u64 (rv : Int)] 41
                  rw [World.size_alloc] at this
                  exact this)
                go_wp2_with (first
                  | (at_builtin; refine wpList_append_own _ rfl _ _ 31 rfl w3.heap.size 41 i0 (.int .u64 0) 1 8 Tryz.underlying31 hi0 hz0 hz1 hz2 rfl (by omega) (.slice (some ⟨w3.heap.size, 0, none⟩) 0 0) 0 [] rfl (HOW.out.alloc _) ⟨w3.heap.size + 1, 0, none⟩ 1 1 [.int .u64 (rv : Int)] rfl rfl HNW.out (by intro u hu; simp at hu; subst hu; rfl) (by unfold maxLen; omega) (by omega) (by simp; omega) ?_; intro v2 w5 hown5 hgrow5 hnil5; have hB5 := (HB4.out.alloc (by simp) _).grown hgrow5 (by simp; omega) (by intro b hb; simp [Value.ownBlock] at hb; omega); have b5 := (HW3.out.box.heldBy (R := [bx]) (HeldBy.of_below hB5 (by simpa using hbl)) (by simp)).cell 0; have f5 := (HW3.out.box.heldBy (R := [bx]) (HeldBy.of_below hB5 (by simpa using hbl)) (by simp)).free 0; simp only [List.getElem?_cons_zero] at b5; obtain ⟨p5, cap5, hv5⟩ := ownsRow_shape hown5; subst hv5)
                  | go_in)
                go_roundw
                case rel => exact HFIN.out _ w5 hB5 hown5
                case measure => simp [intOf]; omega
              · simp only [Value.slice.injEq] at hsl
                obtain ⟨rfl, -, rfl⟩ := hsl
                have hcells : ∀ j u, (encT told)[j]? = some u → (w3.alloc (.cells #[] 41)).cell? ((⟨gt, 0, none⟩ : Addr).add j) = some u := by
                  intro j u hj
                  have e : (⟨gt, 0, none⟩ : Addr).add j = ⟨gt, j, none⟩ := by unfold Addr.add; split <;> simp_all
                  have hj' : j < told.length * 1 := by have := (List.getElem?_eq_some_iff.1 hj).1; simpa [encT] using this
                  rw [e, World.cell?_alloc_lt _ _ ⟨gt, j, none⟩ (lt_of_block hgt), cell_of_row w3 gt j cur 41 (0, 0) hgt]
                  rw [← htk, List.getElem?_take, if_pos hj'] at hj
                  simpa using hj
                have hone : ∀ u ∈ encT told, u.oneCell' = true := by
                  intro u hu
                  obtain ⟨x, _, rfl⟩ := List.mem_map.1 hu
                  rfl
                have hel : (encT told).length = told.length * 1 := by simp [encT]
                obtain ⟨m, hm⟩ : ∃ m, told.length = m := ⟨_, rfl⟩
                rw [hm] at htl b0 hel HFIN
                have HCE2 := Lib.hid hcells; have HONE := Lib.hid hone; have HEL := Lib.hid hel
                clear hcells hone hel hgt hcs htk hnc1 hcm hbg
                go_wp2_with (first
                  | (at_builtin; refine wpList_append_own _ rfl _ _ 31 rfl w3.heap.size 41 i0 (.int .u64 0) 1 8 Tryz.underlying31 hi0 hz0 hz1 hz2 rfl (by omega) (.slice (some ⟨w3.heap.size, 0, none⟩) 0 0) 0 [] rfl HOW.out ⟨gt, 0, none⟩ m tcap (encT told) rfl HEL.out HCE2.out HONE.out (by unfold maxLen; omega) (by omega) (by simp) ?_; intro v2 w5 hown5 hgrow5 hnil5; have hB5 := HB4.out.grown hgrow5 (by simp) (by intro b hb; simp [Value.ownBlock] at hb; omega); obtain ⟨p5, cap5, hv5⟩ := ownsRow_shape hown5; rw [Nat.zero_add] at hv5 hown5; rw [List.nil_append] at hown5; subst hv5; have hz5 := hB5.size)
                  | (at_builtin; refine wpList_append_own _ rfl _ _ 31 rfl w3.heap.size 41 i0 (.int .u64 0) 1 8 Tryz.underlying31 hi0 hz0 hz1 hz2 rfl (by omega) (.slice p5 m cap5) m (encT told) rfl (hown5.alloc _) ⟨w5.heap.size, 0, none⟩ 1 1 [.int .u64 (rv : Int)] rfl rfl (cells_news w5 [.int .u64 (rv : Int)] _) (by intro u hu; simp at hu; subst hu; rfl) (by unfold maxLen; omega) (by omega) (by simp; omega) ?_; intro v6 w6 hown6 hgrow6 hnil6; have hB6 := (hB5.alloc hz5 _).grown hgrow6 (by simp; omega) (fun b hb => (hown5.lt b hb).1); have b6 := (HW3.out.box.heldBy (R := [bx]) (HeldBy.of_below hB6 (by simpa using hbl)) (by simp)).cell 0; have f6 := (HW3.out.box.heldBy (R := [bx]) (HeldBy.of_below hB6 (by simpa using hbl)) (by simp)).free 0; simp only [List.getElem?_cons_zero] at b6; obtain ⟨p6, cap6, hv6⟩ := ownsRow_shape hown6; subst hv6)
                  | go_in)
                go_roundw
                case rel => exact HFIN.out _ w6 hB6 hown6
                case measure => simp [intOf]; omega
            · obtain ⟨tt, xx, rfl⟩ := HE2.out.iface h0
              go_wp2
              go_roundw
              case rel => exact ⟨k + 1, n, acc, t2, told, _, B2, E, c3, by omega, by go_num, rfl, hacc, by omega, by omega, HE2.out, HW3.out, by rw [HX2.out, if_neg h0, if_neg h0]⟩
              case measure => simp [intOf]; omega
          · have g1 : (kd == 1) = false := by simpa using hk1
            by_cases hk2 : kd = 2
            · subst hk2
              have gs := wrap_sum acc ox
              obtain ⟨n, t2, hwr⟩ : ∃ n t2, tWrite t1 ci ((acc + ox) % 18446744073709551616) = (n, t2) := ⟨_, _, rfl⟩
              have hwc := twrite_ok hw2.tx hcf (Nat.mod_lt (acc + ox) (by omega)) hw2.ctx.below.size hlog9
              rw [hwr] at hwc
              have HWC := Lib.hid hwc
              have hlg2 : t2.sets.log.length ≤ k + 1 := by
                have := tWrite_log t1 ci ((acc + ox) % 18446744073709551616)
                rw [hwr] at this
                simp only at this
                omega
              rw [← HCE.out] at hwr
              have HX2 := Lib.hid (HHX.out.trans (ops_write hwr))
              clear hw2 HW1 hwc hwr HHX
              generalize (acc + ox) % 18446744073709551616 = nv at *
              go_wp2_with fail
              refine HWC.out.mono ?_
              rintro e w3 ⟨v, E, B2, rfl, he, ht, hkk, hB, hE, -⟩
              obtain ⟨e1, e2⟩ := TxSet.ctx (R := bx :: ((Value.slice tp told.length tcap).ownBlock.toList ++ (po :: X))) HW2.out.ctx HW2.out.tx.new HW2.out.apart he ht hkk hB hE
              have HW3 := Lib.hid (HW2.out.call ht e1 e2 (fun b hb => by
                rcases List.mem_append.1 hb with q | q
                · exact .inr (hE b q)
                · exact hB b q) he)
              have HE2 := Lib.hid he
              have hsh := he.shape
              clear he ht hkk hB hE e1 e2 HWC HW2
              have HREL := Lib.hid (show BodyJ W (po :: X) pa pb pc pt bx wi cells l len t c1 v (.int .u64 (acc : Int)) (.int .i64 ((k : Int) + 1)) w3 from ⟨k + 1, n, acc, t2, told, _, B2, E, c2, by omega, by go_num, rfl, hacc, by omega, hlg2, HE2.out, HW3.out, HX2.out⟩)
              rcases hsh with rfl | ⟨tt, xx, rfl⟩
              all_goals
                go_wp2
                go_roundw
                case rel => exact HREL.out
                case measure => simp [intOf]; omega
            · have g2 : (kd == 2) = false := by simpa using hk2
              by_cases hk3 : kd = 3
              · subst hk3
                have HCK := Lib.hid (tcheck_ok hw2.ctx HG.out hw2.tx)
                clear hw2 HW1
                go_wp2_with fail
                refine HCK.out.mono ?_
                rintro e w3 ⟨n, u, c3, v, E, hx2, -, rfl, he, hc, hh, hE⟩
                have HW3 := Lib.hid (HW2.out.call (HW2.out.tx.heldBy hh (fun b hb => by simp [hb])) hc (hh.less fun b hb => by simp only [List.nil_append]; exact List.mem_append_right _ hb) (fun b hb => by
                  rcases List.mem_append.1 hb with q | q
                  · exact .inr (hE b q)
                  · exact .inl q) he)
                have HX2 := Lib.hid (HHX.out.trans (ops_check hx2))
                have HE2 := Lib.hid he
                have hsh := he.shape
                clear hx2 he hc hh hE HCK HW2
                have HREL := Lib.hid (show BodyJ W (po :: X) pa pb pc pt bx wi cells l len t c1 v (.int .u64 (acc : Int)) (.int .i64 ((k : Int) + 1)) w3 from ⟨k + 1, n, acc, t1, told, _, B1, E, c3, by omega, by go_num, rfl, hacc, by omega, by omega, HE2.out, HW3.out, HX2.out⟩)
                rcases hsh with rfl | ⟨tt, xx, rfl⟩
                all_goals
                  go_wp2
                  go_roundw
                  case rel => exact HREL.out
                  case measure => simp [intOf]; omega
              · have g3 : (kd == 3) = false := by simpa using hk3
                have HREL := Lib.hid (show BodyJ W (po :: X) pa pb pc pt bx wi cells l len t c1 .nilIface (.int .u64 (acc : Int)) (.int .i64 ((k : Int) + 1)) (wr.drewN nq) from ⟨k + 1, 0, acc, t1, told, _, B1, [], c2, by omega, by go_num, rfl, hacc, by omega, by omega, .none, HW2.out, by rw [HHX.out, ops_else hk1 hk2 hk3, if_pos rfl]⟩)
                clear hw2 HW1
                go_wp2
                go_roundw
                case rel => exact HREL.out
                case measure => simp [intOf]; omega
        · obtain rfl : k = len := by omega
          have hki : decide ((k : Int) < (k : Int)) = false := by simp
          have hx := HX1.out
          rw [if_pos rfl, ← HLEN.out, List.drop_length] at hx
          have HXE := Lib.hid (show exec (bodyT l clock cells owner) c = exec (bodyEnd (0, t1, told)) c2 by rw [HX.out, exec_bind, hx]; rfl)
          have HST := Lib.hid (tstamp_ok HW1.out.tx)
          have hS : Way W (po :: X) pa pb pc pt bx wi t1 told tv [.bool false, .bool false, .int .i64 t1.stamp] B1 [] c2 (wr.setCell ⟨bx, 3, none⟩ (.int .i64 t1.stamp)) := HW1.out.put 2 _
          have HS1 := Lib.hid hS
          have HWR := Lib.hid (twrites_ok hS.tx)
          obtain ⟨b0, b1, b2, b3, f0, f1, f2, f3⟩ := four HW1.out.box
          clear hx hS HX1
          go_wp2_with (go_at_call 62; refine HST.out.mono ?_; rintro e w' ⟨rfl, rfl⟩)
          clear b0 b1 b2 b3 f0 f1 f2 f3 q2
          generalize wr.setCell ⟨bx, 3, none⟩ (.int .i64 t1.stamp) = w3 at *
          refine HWR.out.mono ?_
          rintro e w4 ⟨v', rfl, ⟨pp, capp, rfl, -⟩, hb⟩
          have hS4 := HS1.out.under hb
          obtain ⟨wb, hwb⟩ : ∃ wb, decide (t1.sets.writes ≠ []) = wb := ⟨_, rfl⟩
          have HWB := Lib.hid hwb
          have gb : decide ((0 : Int) < (t1.sets.writes.length : Int)) = wb := by
            rw [← hwb]
            cases t1.sets.writes <;> simp
          have hS5 : Way W (po :: X) pa pb pc pt bx wi t1 told tv [.bool false, .bool wb, .int .i64 t1.stamp] B1 [] c2 (w4.setCell ⟨bx, 2, none⟩ (.bool wb)) := hS4.put 1 _
          have HS5 := Lib.hid hS5
          have HCM := Lib.hid (tcommit_ok (R := bx :: (tv.ownBlock.toList ++ (po :: X))) hS5.ctx HG.out hS5.tx hS5.apart)
          obtain ⟨b0, b1, b2, b3, f0, f1, f2, f3⟩ := four hS4.box
          obtain ⟨wl, hwl⟩ : ∃ wl, t1.sets.writes.length = wl := ⟨_, rfl⟩
          rw [hwl] at gb ⊢
          replace gb : decide (0 < wl) = wb := by rw [← gb]; simp
          clear hS4 hS5 hb hwb HS1 HWR hwl
          go_wp2_with fail
          clear b0 b1 b2 b3 f0 f1 f2 f3
          generalize w4.setCell ⟨bx, 2, none⟩ (.bool wb) = w5 at *
          refine HCM.out.mono ?_
          rintro e w6 ⟨n, ⟨st, wt, t6⟩, c6, v, E, B6, hx6, -, rfl, he, ht, hc, hh, hB, -⟩
          have hS6 := HS5.out.call ht hc hh hB he
          have HS6 := Lib.hid hS6
          have HE6 := Lib.hid he
          have HST7 := Lib.hid (tstamp_ok (hS6.put 2 (.int .i64 st)).tx)
          have HXE6 := Lib.hid (show exec (bodyT l clock cells owner) c = ((n, fun _ => if n = 0 then ⟨told, true, wb, st⟩ else ⟨told, false, wb, t6.stamp⟩), c6) by rw [HXE.out, ← HWB.out]; simp only [bodyEnd, if_true, exec_bind, hx6, exec])
          obtain ⟨b0, b1, b2, b3, f0, f1, f2, f3⟩ := four hS6.box
          have hs6 := hs2 HS.out hS6.held HSH.out
          have nbt : bt ≠ bx := fun e => by have := HXLT.out bt (by simp [HSH.out bt (by simp [shOf])]); have := hS6.newX.1; omega
          have npo : po ≠ bx := fun e => by have := HXLT.out po (by simp); have := hS6.newX.1; omega
          have qt := hs6.out.cell 0
          simp only [List.getElem?_cons_zero] at qt
          obtain ⟨_, _, _, _, -, a4⟩ := HA.out
          obtain ⟨p0, p1, p2, p3, fp0, fp1, fp2, fp3⟩ := four (a4.heldBy hS6.held (by simp))
          clear hx6 he ht hc hh hB hS6 hs6 a4 HS5 HCM HXE HWB gb
          by_cases h0 : n = 0
          · subst h0
            obtain ⟨rfl, rfl⟩ := HE6.out.isNil rfl
            have HF := Lib.hid (fun (w7 : World) (k : Kept (fun b => b = bx) w6 w7) => HS6.out.out (d1 := true) (d2 := wb) (st := st) HA.out HXQ.out HE6.out k)
            subst htv
            go_wp2
            go_ret
            unfold treeBody
            rw [HXE6.out]
            simp only [if_true]
            exact HF.out _ ((Kept.setCell (S := fun b => b = bx) (Kept.refl _ w6) (fun _ => rfl) _).setCell (fun _ => rfl) _)
          · have HF := Lib.hid (fun (w7 : World) (k : Kept (fun b => b = bx) w6 w7) => HS6.out.out (d1 := false) (d2 := wb) (st := t6.stamp) HA.out HXQ.out HE6.out k)
            obtain ⟨tt, xx, rfl⟩ := HE6.out.iface h0
            subst htv
            go_wp2_with (go_at_call 62; refine HST7.out.mono ?_; rintro e w' ⟨rfl, rfl⟩)
            go_ret
            unfold treeBody
            rw [HXE6.out]
            simp only [if_neg h0]
            exact HF.out _ ((Kept.setCell (S := fun b => b = bx) (Kept.refl _ w6) (fun _ => rfl) _).setCell (fun _ => rfl) _)
      · have hx := HX1.out
        rw [if_neg h0] at hx
        have HXE := Lib.hid (show exec (bodyT l clock cells owner) c = ((n, fun _ => ⟨told, false, false, t1.stamp⟩), c2) by rw [HX.out, exec_bind, hx]; simp only [bodyEnd, if_neg h0, exec])
        have HST := Lib.hid (tstamp_ok HW1.out.tx)
        have HF := Lib.hid (fun (w7 : World) (k : Kept (fun b => b = bx) wr w7) => HW1.out.out (d1 := false) (d2 := false) (st := t1.stamp) HA.out HXQ.out HE.out k)
        obtain ⟨tt, xx, rfl⟩ := HE.out.iface h0
        obtain ⟨b0, b1, b2, b3, f0, f1, f2, f3⟩ := four HW1.out.box
        have hs6 := hs2 HS.out HW1.out.held HSH.out
        have nbt : bt ≠ bx := fun e => by have := HXLT.out bt (by simp [HSH.out bt (by simp [shOf])]); have := HW1.out.newX.1; omega
        have npo : po ≠ bx := fun e => by have := HXLT.out po (by simp); have := HW1.out.newX.1; omega
        have qt := hs6.out.cell 0
        simp only [List.getElem?_cons_zero] at qt
        obtain ⟨_, _, _, _, -, a4⟩ := HA.out
        obtain ⟨p0, p1, p2, p3, fp0, fp1, fp2, fp3⟩ := four (a4.heldBy HW1.out.held (by simp))
        clear hx hs6 a4 HX1
        subst htv
        go_wp2_with (go_at_call 62; refine HST.out.mono ?_; rintro e w' ⟨rfl, rfl⟩)
        go_ret
        unfold treeBody
        rw [HXE.out]
        exact HF.out _ (Kept.setCell (S := fun b => b = bx) (Kept.refl _ wr) (fun _ => rfl) _)
  · have HXE := Lib.hid (show exec (bodyT l clock cells owner) c = ((n, fun _ => ⟨[], false, false, 0⟩), c1) by simp only [bodyT, exec_bind, hx, if_neg h0, exec])
    have box2 := HC1.out.heldBy hh (by simp [hbx])
    have held2 : HeldBy (po :: X) wi w2 := (HeldBy.of_below HB1.out H.out.heldR).trans (hh.less fun b hb => List.mem_append_right _ hb)
    have HF := Lib.hid (fun (w7 : World) (k : Kept (fun b => b = bx) w2 w7) => out_end (bx := bx) (tv := .slice none 0 0) (told := []) (d1 := false) (d2 := false) (st := 0) (X := X) HA.out HXQ.out (fun b hb => H.out.heldR b (by simp [hb])) (hc.less (fun b hb => by simpa [hbx, Value.ownBlock] using hb)) held2 (World.ownsRow_nil _ _ _ _) (fun b hb => by have := hE b hb; simp at this; omega) ⟨by omega, by simp [Value.ownBlock]⟩ H.out.below.size he k)
    obtain ⟨tt, xx, rfl⟩ := he.iface h0
    obtain ⟨b0, b1, b2, b3, f0, f1, f2, f3⟩ := four box2
    have hs6 := hs2 HS.out held2 HSH.out
    have nbt : bt ≠ bx := fun e => by have := H.out.heldR bt (by simp [HSH.out bt (by simp [shOf])]); omega
    have npo : po ≠ bx := fun e => by have := H.out.heldR po (by simp); omega
    have qt := hs6.out.cell 0
    simp only [List.getElem?_cons_zero] at qt
    obtain ⟨_, _, _, _, -, a4⟩ := HA.out
    obtain ⟨p0, p1, p2, p3, fp0, fp1, fp2, fp3⟩ := four (a4.heldBy held2 (by simp))
    clear hx hh he hc hE hs6 a4 box2 held2 HBEG q0 q1
    rw [hbx]
    go_wp2
    go_loopw [12, 13, 14] (fun v' _ i wr => v' = .iface tt xx ∧ i = .int .i64 0 ∧ wr = w2) (fun _ _ _ _ => 0)
    case atStart => exact ⟨rfl, rfl, rfl⟩
    case round =>
      obtain ⟨rfl, rfl, rfl⟩ := hrel
      go_wp2_with (go_at_call 62; refine (tstamp_nil _).mono ?_; rintro e w' ⟨rfl, rfl⟩)
      go_ret
      unfold treeBody
      rw [HXE.out]
      exact HF.out _ (Kept.setCell (S := fun b => b = bx) (Kept.refl _ _) (fun _ => rfl) _)

/-- What lies in blocks beside it and goes along. -/
structure Pass where
  Q : List Nat
  P : World → Prop
  loc : ∀ w w', HeldBy Q w w' → P w → P w'
def pass0 : Pass := ⟨[], fun _ => True, fun _ _ _ _ => trivial⟩
/-- What it keeps: what came of it, and what goes along. -/
def outS (W : World) (K : Pass) (po : Nat) : Aux Out13 where
  at' s Q w := ∃ tv, Q = po :: (tv.ownBlock.toList ++ K.Q) ∧ po ∉ tv.ownBlock.toList ∧ po ∉ K.Q ∧ W.heap.size ≤ po ∧ Cells w po [tv, .bool s.done, .bool s.wrote, .int .i64 s.stamp] 38 ∧ w.ownsRow W.heap.size 41 1 tv s.told.length (encT s.told) ∧ K.P w
  loc := by
    rintro s Q w w' ⟨tv, rfl, h1, h2, h3, h4, h5, h6⟩ k
    exact ⟨tv, rfl, h1, h2, h3, h4.heldBy k (by simp), ownsRow_heldBy h5 k (fun b hb => by simp [hb]), K.loc _ _ (k.less fun b hb => by simp [hb]) h6⟩
theorem outS_of {W : World} {po : Nat} {s : Out13} {Q : List Nat} {w : World} (h : (outAux W po).at' s Q w) : (outS W pass0 po).at' s Q w := by
  obtain ⟨tv, rfl, h1, h2, h3, h4⟩ := h
  exact ⟨tv, by simp [pass0], h1, by simp [pass0], h2, h3, h4, trivial⟩
/-- A body that needs but its box, with what stands beside it. -/
theorem BodyPost.beside {W : World} {pa pb pc po : Nat} {X Q : List Nat} {wi : World} {r : Nat × CS × Out13} {e : Ending} {w' : World} {K : Pass} (h : BodyPost W pa pb pc (outAux W po) (X ++ Q) [po] wi r e w') (hr : K.P wi) (hs : ∀ b ∈ K.Q, b ∈ Q) (hp : po ∉ K.Q) : BodyPost W pa pb pc (outS W K po) X (po :: Q) wi r e w' := by
  obtain ⟨v, E, Q', rfl, he, ⟨tv, rfl, h1, h2, h3, h4⟩, hc, hh, hb⟩ := h
  refine ⟨v, E, po :: (tv.ownBlock.toList ++ K.Q), rfl, he, ⟨tv, rfl, h1, hp, h2, h3, h4, K.loc _ _ (hh.less fun b hb => List.mem_append_right _ (hs b hb)) hr⟩, hc.less fun b hb => ?_, hh.less fun b hb => List.mem_append_left _ hb, fun b hb' => ?_⟩
  · simp only [List.mem_append, List.mem_cons] at hb ⊢
    rcases hb with q | q | q | q | q
    · exact .inl (.inl q)
    · exact .inr (.inl q)
    · exact .inr (.inr (.inl q))
    · exact .inr (.inr (.inr q))
    · exact .inl (.inr (hs b q))
  · simp only [List.mem_append, List.mem_cons] at hb'
    rcases hb' with q | q | q | q
    · rcases hb b (by simp [q]) with z | z
      · exact .inl (by simp only [List.mem_singleton] at z; simp [z])
      · exact .inr z
    · exact .inl (by simp [q])
    · rcases hb b (by simp [q]) with z | z
      · exact .inl (by simp only [List.mem_singleton] at z; simp [z])
      · exact .inr z
    · exact .inl (List.mem_cons_of_mem _ (hs b q))
theorem body13_bodyS {W : World} {pa pb bc bo bl bs bt po g : Nat} {lp : Option Addr} {lcap : Nat} {Qo : List Nat} {l : List Op13} {clock : Nat} {cells : List Nat} {owner : Int} (K : Pass) (hg : Handle W) (hn1 : 1 ≤ cells.length) (hn4 : cells.length ≤ 100) (hclock : clock < 18446744073709551616) (hcells : ∀ x ∈ cells, x < 18446744073709551616) :
    BodyOk W pa pb 59 #[.pointer (some ⟨bc, 0, none⟩), .pointer (some ⟨bo, 0, none⟩), .pointer (some ⟨bl, 0, none⟩), .pointer (some ⟨bs, 0, none⟩), .pointer (some ⟨bt, 0, none⟩)] (outS W K po) (treeBody fun _ => bodyT l clock cells owner) (shOf bc bo bl bs bt g Qo) (Shared W bc bo bl bs bt po g (.slice lp l.length lcap) Qo l clock cells owner) where
  enters := ef_body13
  keeps _ _ k h := h.heldBy k fun _ hb => hb
  does s X Q wr pc c round hP hSh ha h hx _ := by
    obtain ⟨tv, rfl, h1, h2, h3, h4, h5, h6⟩ := ha
    refine (body131w_ok (X := X ++ (tv.ownBlock.toList ++ K.Q)) (s := s) hg hn1 hn4 hclock hcells hP (fun b hb => List.mem_append_left _ (hSh b hb)) ⟨_, _, _, _, h3, h4⟩ (h.less fun b hb => by simp only [List.mem_append, List.mem_cons] at hb ⊢; rcases hb with q | q | q | q <;> simp [q]) (fun b hb hm => ?_)).mono fun e w' hp => hp.beside h6 (fun b hb => List.mem_append_right _ hb) h2
    simp only [List.mem_singleton] at hm
    subst hm
    rcases List.mem_append.1 hb with q | q
    · exact hx _ q (by simp)
    · rcases List.mem_append.1 q with q | q
      · exact h1 q
      · exact h2 q
theorem body13_body {W : World} {pa pb bc bo bl bs bt po g : Nat} {lp : Option Addr} {lcap : Nat} {Qo : List Nat} {l : List Op13} {clock : Nat} {cells : List Nat} {owner : Int} (hg : Handle W) (hn1 : 1 ≤ cells.length) (hn4 : cells.length ≤ 100) (hclock : clock < 18446744073709551616) (hcells : ∀ x ∈ cells, x < 18446744073709551616) :
    BodyOk W pa pb 59 #[.pointer (some ⟨bc, 0, none⟩), .pointer (some ⟨bo, 0, none⟩), .pointer (some ⟨bl, 0, none⟩), .pointer (some ⟨bs, 0, none⟩), .pointer (some ⟨bt, 0, none⟩)] (outAux W po) (treeBody fun _ => bodyT l clock cells owner) (shOf bc bo bl bs bt g Qo) (Shared W bc bo bl bs bt po g (.slice lp l.length lcap) Qo l clock cells owner) where
  enters := ef_body13
  keeps _ _ k h := h.heldBy k fun _ hb => hb
  does s X Q wr pc c round hP hSh ha h hx _ := by
    obtain ⟨tv, rfl, h1, h3, h4, h5⟩ := ha
    refine (body131w_ok (X := X ++ tv.ownBlock.toList) (s := s) hg hn1 hn4 hclock hcells hP (fun b hb => List.mem_append_left _ (hSh b hb)) ⟨_, _, _, _, h3, h4⟩ (h.less fun b hb => by simp only [List.mem_append, List.mem_cons] at hb ⊢; rcases hb with q | q | q <;> simp [q]) (fun b hb hm => ?_)).mono fun e w' hp => ?_
    · simp only [List.mem_singleton] at hm
      subst hm
      rcases List.mem_append.1 hb with q | q
      · exact hx _ q (by simp)
      · exact h1 q
    · obtain ⟨v, E, Q', rfl, he, ha', hc, hh, hb⟩ := hp
      refine ⟨v, E, Q', rfl, he, ha', hc.less fun b hb => ?_, hh.less fun b hb => List.mem_append_left _ hb, fun b hb' => ?_⟩
      · rcases List.mem_append.1 hb with q | q
        · exact List.mem_append_left _ (List.mem_append_left _ q)
        · exact List.mem_append_right _ q
      · rcases hb b hb' with z | z
        · exact .inl (by simp only [List.mem_singleton] at z; simp [z])
        · exact .inr z
end Go.Proofs.YtmdganpealbmpaaGreatDoor
