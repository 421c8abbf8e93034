/- Layer 5 (thread): access, where it is done now. -/
import Derived.Test.YtfehonejcambgaaGreatDoorAccess
import Derived.Shelf.Abstract
import Derived.Deep.RegionLaw
namespace Go.Proofs.YtfehonejcambgaaGreatDoor
open Go.RowKit Bl Th
set_option maxRecDepth 10000

theorem entryInfo : (Tryz.prog.info? 70).map (fun i => (i.zero, i.size, i.bytes)) = some (some (.agg #[.int .i64 0, .int .u64 0, .int .i64 0, .int .u64 0, .bool false, .int .i64 0]), 6, 48) := by kernel_rfl

theorem ownsRow_heldBy {w w' : World} {R : List Nat} {base : Nat} {e : TypeId} {size : Nat} {v : Value} {n : Nat} {xs : List Value} (h : w.ownsRow base e size v n xs) (k : HeldBy R w w') (hs : ∀ b, v.ownBlock = some b → b ∈ R) : w'.ownsRow base e size v n xs := by
  refine ⟨h.1, ?_⟩
  rcases h.2 with hn | ⟨g, cap, cur, rfl, h1, h2, h3⟩
  · exact Or.inl hn
  · exact Or.inr ⟨g, cap, cur, rfl, h1, (k g (hs g rfl)).trans h2, h3⟩
theorem six_other_d {w : World} {b c : Nat} {o : Nat} {x0 x1 x2 x3 x4 x5 : Value} (h : c ≠ b) :
    ((((((w.setCell ⟨b, 0, none⟩ x0).setCell ⟨b, 1, none⟩ x1).setCell ⟨b, 2, none⟩ x2).setCell ⟨b, 3, none⟩ x3).setCell ⟨b, 4, none⟩ x4).setCell ⟨b, 5, none⟩ x5).drew.cell? ⟨c, o, none⟩ = w.cell? ⟨c, o, none⟩ := by
  rw [show ∀ (u : World) (a : Addr), u.drew.cell? a = u.cell? a from fun _ _ => rfl]
  exact six_other h
theorem access_end {W : World} {R : List Nat} {pa pb pc : Nat} {log : List Ntry} {nx len gg cap : Nat} {did : Bool} {bs bs' : BS} {x : Ntry} {lv : Value} {wr w2 w7 : World} (h : CtxLies W R pa pb pc ⟨log, nx, did, bs⟩ lv wr) (hlen : log.length = len) (hfew : log.length < 6000) (hs : wr.heap.size < w2.heap.size)
    (hg : Held W (wr.heap.size :: (pc :: (lv.ownBlock.toList ++ R))) pa pb bs' w2) (hh : HeldBy R wr w2) (hk : Kept (fun b => b = pc ∨ b = wr.heap.size ∨ some b = lv.ownBlock) w2 w7)
    (hc : Cells w7 pc [.pointer (some ⟨pb, 0, none⟩), .slice (some ⟨gg, 0, none⟩) (len + 1) cap, .int .i64 ((nx : Int) + 1), .bool true] 87)
    (hown : w7.ownsRow W.heap.size 70 6 (.slice (some ⟨gg, 0, none⟩) (len + 1) cap) (len + 1) (log.flatMap encE ++ encE x)) (hat : lv.ownBlock = some gg ∨ w2.heap.size ≤ gg) (hlt : gg < w7.heap.size) (hfit : Fit x) (hnx : log.length ≤ nx) :
    CtxLies W R pa pb pc ⟨log ++ [x], nx + 1, true, bs'⟩ (.slice (some ⟨gg, 0, none⟩) (len + 1) cap) w7 ∧ HeldBy R wr w7 := by
  have hpc : pc < wr.heap.size := h.cells.lt
  have hn := h.next
  simp only at hn
  have hR (b : Nat) (hb : b ∈ R) : ¬ (b = pc ∨ b = wr.heap.size ∨ some b = lv.ownBlock) := by
    rintro (e | e | e)
    · exact h.pcR (by simp [← e, hb])
    · have := h.heldR b hb; omega
    · exact h.logR b (by simp [← e]) hb
  have hgR : gg ∉ R := fun hm => by
    rcases hat with e | e
    · exact h.logR gg (by simp [e]) hm
    · have := h.heldR gg hm; omega
  have hgp : pc ≠ gg := fun e => by
    rcases hat with q | q
    · exact h.pcR (by simp [q, e])
    · omega
  have hlv : ∀ b, lv.ownBlock = some b → W.heap.size ≤ b := fun b hb => (h.row.lt b hb).1
  have hW := h.held.below.size
  refine ⟨⟨?_, ?_, ?_, ?_, ?_, h.new, ?_, ?_, ?_⟩, fun b hb => ?_⟩
  · simpa using hc
  · simpa [hlen] using hown
  · refine hg.step (hk.mono ?_) (hg.below.trans (hk.below hg.below.size ?_)) fun b hb => ?_
    · rintro b _ (e | e | e)
      · simp [e]
      · simp [e]
      · simp [← e]
    · rintro k hk' (e | e | e)
      · have := h.new; omega
      · omega
      · have := hlv k e.symm; omega
    · simp only [Value.ownBlock, Option.toList_some, List.mem_cons, List.mem_append, List.not_mem_nil, or_false] at hb
      rcases hb with rfl | rfl | hb
      · exact ⟨.inl (by simp), Nat.lt_of_lt_of_le (Nat.lt_trans hpc hs) hk.size⟩
      · refine ⟨?_, hlt⟩
        rcases hat with e | e
        · exact .inl (by simp [e])
        · exact .inr e
      · exact ⟨.inl (by simp [hb]), Nat.lt_of_lt_of_le (hg.held b (by simp [hb])) hk.size⟩
  · simp only [Value.ownBlock, Option.toList_some, List.mem_cons, List.mem_append, List.not_mem_nil, or_false]
    rintro (e | e)
    · exact hgp e
    · exact h.pcR (by simp [e])
  · intro b hb
    simp only [Value.ownBlock, Option.toList_some, List.mem_singleton] at hb
    subst hb; exact hgR
  · simp; omega
  · simp; omega
  · intro y hy
    rcases List.mem_append.1 hy with e | e
    · exact h.fit y e
    · simp only [List.mem_singleton] at e
      subst e; exact hfit
  · rw [hk.block b (hg.held b (by simp [hb])) (hR b hb)]
    exact hh b hb

set_option maxHeartbeats 2000000 in
theorem access_new {W : World} {R : List Nat} {pa pb pc : Nat} {c : CS} {wr : World} (h : Ctx W R pa pb pc c wr) (f : Nat) (ef : ∀ (args : Array Value) (w : World), (callFunc f args).run Tryz.prog w = .ok (.enter f args) w) (caps : Array Value) (op : BS → Ntry × BS) (hfit : Fit (op c.bs).1) (h1 : c.log.length ≤ c.next) (h2 : c.did = false) (h3 : c.log.length < 6000)
    (hdo : ∀ (w1 : World) (R' : List Nat), Held W R' pa pb c.bs w1 → HeldBy (pc :: R) wr w1 → (∀ b ∈ pc :: R, b ∈ R') → Calls Tryz.prog f caps w1 (Gave W R' pa pb w1 (op c.bs).1 (op c.bs).2)) :
    Calls Tryz.prog 39 #[.pointer (some ⟨pc, 0, none⟩), .func (.func f) #[] caps] wr (After W R pa pb pc wr ((op c.bs).1.err, (op c.bs).1, ⟨c.log ++ [(op c.bs).1], c.next + 1, true, (op c.bs).2⟩)) := by
  obtain ⟨log, nx, did, bs⟩ := c
  simp only at h1 h2 h3 hfit hdo ⊢
  subst h2
  obtain ⟨lv, hl⟩ := h
  obtain ⟨p, cap, hlv⟩ := ownsRow_shape hl.row
  simp only at hlv
  subst hlv
  have HNX := Lib.hid h1
  have HLN := Lib.hid h3
  obtain ⟨len, hlen⟩ : ∃ len, log.length = len := ⟨_, rfl⟩
  rw [hlen] at hl h1 h3
  have b1 : len ≤ 6000 := by rw [← hlen]; exact hl.few
  have b2 : nx ≤ 6000 := Nat.le_trans hl.next (by rw [hlen]; exact b1)
  have H := Lib.hid hl
  obtain ⟨p0, p1, p2, p3, z0, z1, z2, z3⟩ := four hl.cells
  simp only at p2 p3
  have g1 : decide ((nx : Int) < (len : Int)) = false := by simp; omega
  have g2 : decide (nx < len) = false := by simp; omega
  have g3 : decide ((6000 : Int) ≤ (len : Int)) = false := by simp; omega
  have lp := hl.cells.lt
  have HD := Lib.hid hdo
  have HFIT := Lib.hid hfit
  have HLEN := Lib.hid hlen
  clear hl h1 h3 hdo hfit hlen
  go_enter Tryz.func39, Tryz.ntmps39
  go_wp2
  go_quiet (fail)
  have B1 := Lib.hid (below_drewN ((Below.refl wr.heap.size wr).alloc (Nat.le_refl _) (.cells #[.int .i64 0, .int .u64 0, .int .i64 0, .int .u64 0, .bool false, .int .i64 0] 70)) nq)
  have K1 := Lib.hid (H.out.below B1.out)
  have Z1 : Cells ((wr.alloc (.cells #[.int .i64 0, .int .u64 0, .int .i64 0, .int .u64 0, .bool false, .int .i64 0] 70)).drewN nq) wr.heap.size [.int .i64 0, .int .u64 0, .int .i64 0, .int .u64 0, .bool false, .int .i64 0] 70 := Cells.new wr _ _
  have HZ1 := Lib.hid Z1
  clear Z1
  have L1 : wr.heap.size < ((wr.alloc (.cells #[.int .i64 0, .int .u64 0, .int .i64 0, .int .u64 0, .bool false, .int .i64 0] 70)).drewN nq).heap.size := by simp
  go_wp2_with fail
  generalize (wr.alloc (.cells #[.int .i64 0, .int .u64 0, .int .i64 0, .int .u64 0, .bool false, .int .i64 0] 70)).drewN nq = w1 at *
  have HR : Held W (wr.heap.size :: (pc :: ((Value.slice p len cap).ownBlock.toList ++ R))) pa pb bs w1 := H.out.held.came B1.out [wr.heap.size] (by simpa using L1)
  refine (HD.out w1 _ HR ?_ ?_).mono ?_
  · exact HeldBy.of_below B1.out (fun b hb => by
      rcases List.mem_cons.1 hb with e | e
      · rw [e]; exact lp
      · exact H.out.heldR b e)
  · intro b hb
    simp only [List.mem_cons, List.mem_append] at hb ⊢
    rcases hb with e | e
    · exact .inr (.inl e)
    · exact .inr (.inr (.inr e))
  rintro e w2 ⟨he, hg2, hh2⟩
  obtain ⟨x, hx⟩ : ∃ x, (op bs).1 = x := ⟨_, rfl⟩
  rw [hx] at he HFIT
  have HX := Lib.hid hx
  rw [show (encE x).toArray = #[.int .i64 (x.kind : Int), .int .u64 (x.ref : Int), .int .i64 x.i, .int .u64 (x.word : Int), .bool x.done, .int .i64 (x.err : Int)] from rfl] at he
  subst he
  have HH2 := Lib.hid hh2
  have HG2 := Lib.hid hg2
  have C2 : Cells w2 pc [.pointer (some ⟨pb, 0, none⟩), .slice p len cap, .int .i64 (nx : Int), .bool false] 87 := K1.out.cells.heldBy hh2 (by simp)
  have Z2 : Cells w2 wr.heap.size [.int .i64 0, .int .u64 0, .int .i64 0, .int .u64 0, .bool false, .int .i64 0] 70 := HZ1.out.heldBy hh2 (by simp)
  have X2 := Cells.new w2 [.int .i64 (x.kind : Int), .int .u64 (x.ref : Int), .int .i64 x.i, .int .u64 (x.word : Int), .bool x.done, .int .i64 (x.err : Int)] 70
  have R2 : w2.ownsRow W.heap.size 70 6 (.slice p len cap) len (log.flatMap encE) := ownsRow_heldBy (HLEN.out ▸ K1.out.row) hh2 (fun b hb => by simp [hb])
  have HC2 := Lib.hid C2; have HZ2 := Lib.hid Z2; have HX2 := Lib.hid X2; have HR2 := Lib.hid R2
  have lp2 := C2.lt
  have lz2 := Z2.lt
  obtain ⟨a0, a1, a2, a3, y0, y1, y2, y3⟩ := four C2
  obtain ⟨u0, u1, u2, u3, u4, u5, -⟩ := six X2
  have L2 := Lib.hid lz2
  clear hh2 hg2 C2 Z2 X2 R2 hx p0 p1 p2 p3 z0 z1 z2 z3
  go_wp2
  obtain ⟨i0, hi0, hz0, hz1, hz2⟩ := info_parts entryInfo
  have hownlt : ∀ b, (Value.slice p len cap).ownBlock = some b → b < wr.heap.size := fun b hb => H.out.held.held b (by simp [hb])
  have nz : some wr.heap.size ≠ (Value.slice p len cap).ownBlock := fun e => Nat.lt_irrefl _ (hownlt _ e.symm)
  have nx2 : some w2.heap.size ≠ (Value.slice p len cap).ownBlock := fun e => by have := hownlt _ e.symm; omega
  clear hownlt
  have npc : some pc ≠ (Value.slice p len cap).ownBlock := fun e => H.out.pcR (by simp [← e])
  have hnews : ∀ j u, (encE x)[j]? = some u → (((w2.alloc (.cells #[.int .i64 (x.kind : Int), .int .u64 (x.ref : Int), .int .i64 x.i, .int .u64 (x.word : Int), .bool x.done, .int .i64 (x.err : Int)] 70)).alloc (.cells #[.int .i64 (x.kind : Int), .int .u64 (x.ref : Int), .int .i64 x.i, .int .u64 (x.word : Int), .bool x.done, .int .i64 (x.err : Int)] 70)).drew).cell? ((⟨w2.heap.size + 1, 0, none⟩ : Addr).add j) = some u := by
    have := World.news_of_block (w := ((w2.alloc (.cells #[.int .i64 (x.kind : Int), .int .u64 (x.ref : Int), .int .i64 x.i, .int .u64 (x.word : Int), .bool x.done, .int .i64 (x.err : Int)] 70)).alloc (.cells #[.int .i64 (x.kind : Int), .int .u64 (x.ref : Int), .int .i64 x.i, .int .u64 (x.word : Int), .bool x.done, .int .i64 (x.err : Int)] 70)).drew) (B := w2.heap.size + 1) (cs := (encE x).toArray) (t := 70) (fr := (0, 0)) (by
      have := heap_alloc_new (w2.alloc (.cells #[.int .i64 (x.kind : Int), .int .u64 (x.ref : Int), .int .i64 x.i, .int .u64 (x.word : Int), .bool x.done, .int .i64 (x.err : Int)] 70)) (.cells #[.int .i64 (x.kind : Int), .int .u64 (x.ref : Int), .int .i64 x.i, .int .u64 (x.word : Int), .bool x.done, .int .i64 (x.err : Int)] 70)
      rw [World.size_alloc] at this
      exact this)
    simpa using this
  have HNEWS := Lib.hid hnews
  have HONE := Lib.hid (show ∀ u ∈ encE x, u.oneCell' = true by intro u hu; simp [encE] at hu; rcases hu with rfl | rfl | rfl | rfl | rfl | rfl <;> rfl)
  have HBASE := Lib.hid (show W.heap.size ≤ (((w2.alloc (.cells #[.int .i64 (x.kind : Int), .int .u64 (x.ref : Int), .int .i64 x.i, .int .u64 (x.word : Int), .bool x.done, .int .i64 (x.err : Int)] 70)).alloc (.cells #[.int .i64 (x.kind : Int), .int .u64 (x.ref : Int), .int .i64 x.i, .int .u64 (x.word : Int), .bool x.done, .int .i64 (x.err : Int)] 70)).drew).heap.size by have := HG2.out.below.size; simp; omega)
  clear hnews
  go_region_law (first | (refine step_append_lies _ (by rfl) _ _ _ (by rfl) W.heap.size 70 i0 _ 6 48 Tryz.underlying41 hi0 hz0 hz1 hz2 rfl (by omega) (.slice p len cap) len (log.flatMap encE) (by rfl) (((HR2.out.alloc _).alloc _).drew) ⟨w2.heap.size + 1, 0, none⟩ 1 1 (encE x) (by rfl) (by rfl) HNEWS.out HONE.out (by omega) (by unfold maxLen; omega) (by omega) HBASE.out (w2.heap.size + 1 + 1) (by simp) ?_; intro gg cap3 w3 hown3 hgrow3 hat3 hlt3; have k1 := (hgrow3.cell_far ⟨pc, 1, none⟩ (by simp; omega) npc); have k2 := (hgrow3.frozen_far ⟨pc, 1, none⟩ (by simp; omega) npc)))
  all_goals
    have gk : Kept (fun b => some b = (Value.slice p len cap).ownBlock) w2 w3 := ((((Kept.refl _ w2).alloc _).alloc _).drew).trans (Kept.of_grown hgrow3)
    have kk : Kept (fun b => b = pc ∨ b = wr.heap.size ∨ some b = (Value.slice p len cap).ownBlock) w2 (w3.setCell ⟨pc, 1, none⟩ (.slice (some ⟨gg, 0, none⟩) (len + 1) cap3)) := Kept.setCell (gk.mono fun b _ e => .inr (.inr e)) (fun _ => .inl rfl) _
    have C4 : Cells (w3.setCell ⟨pc, 1, none⟩ (.slice (some ⟨gg, 0, none⟩) (len + 1) cap3)) pc [.pointer (some ⟨pb, 0, none⟩), .slice (some ⟨gg, 0, none⟩) (len + 1) cap3, .int .i64 (nx : Int), .bool false] 87 := (HC2.out.kept gk (fun e => npc e)).set 1 _
    have X4 : Cells (w3.setCell ⟨pc, 1, none⟩ (.slice (some ⟨gg, 0, none⟩) (len + 1) cap3)) w2.heap.size [.int .i64 (x.kind : Int), .int .u64 (x.ref : Int), .int .i64 x.i, .int .u64 (x.word : Int), .bool x.done, .int .i64 (x.err : Int)] 70 := by
      refine Cells.set_other ?_ (a := ⟨pc, 1, none⟩) (by simp; omega) _
      exact (hgrow3.block w2.heap.size (by simp; omega) nx2).trans ((HX2.out.alloc _).drew)
    have Z4 : Cells (w3.setCell ⟨pc, 1, none⟩ (.slice (some ⟨gg, 0, none⟩) (len + 1) cap3)) wr.heap.size [.int .i64 0, .int .u64 0, .int .i64 0, .int .u64 0, .bool false, .int .i64 0] 70 := (HZ2.out.kept gk (fun e => nz e)).set_other (a := ⟨pc, 1, none⟩) (by simp; omega) _
    have O4 : (w3.setCell ⟨pc, 1, none⟩ (.slice (some ⟨gg, 0, none⟩) (len + 1) cap3)).ownsRow W.heap.size 70 6 (.slice (some ⟨gg, 0, none⟩) (len + 1) cap3) (len + 1) (log.flatMap encE ++ encE x) := by
      refine ownsRow_kept hown3 (Kept.setCell (S := fun b => b = pc) (Kept.refl _ w3) (fun _ => rfl) _) ?_
      intro b hb e
      simp only [Value.ownBlock, Option.some.injEq] at hb
      rcases hat3 with q | q
      · exact npc (by rw [q, hb, e])
      · omega
    have NG := Lib.hid (show ∀ b, (Value.slice (some ⟨gg, 0, none⟩) (len + 1) cap3).ownBlock = some b → ¬ b = wr.heap.size from fun b hb e => by
      simp only [Value.ownBlock, Option.some.injEq] at hb
      rcases hat3 with q | q
      · exact nz (by rw [q, hb, e])
      · omega)
    have hat4 : (Value.slice p len cap).ownBlock = some gg ∨ w2.heap.size ≤ gg := by
      rcases hat3 with q | q
      · exact .inl q
      · exact .inr (by omega)
    have lt4 : gg < (w3.setCell ⟨pc, 1, none⟩ (.slice (some ⟨gg, 0, none⟩) (len + 1) cap3)).heap.size := by simpa using hlt3
    generalize w3.setCell ⟨pc, 1, none⟩ (.slice (some ⟨gg, 0, none⟩) (len + 1) cap3) = w4 at *
    clear k1 k2 hown3 hgrow3 hat3 hlt3 gk a0 a1 a2 a3 y0 y1 y2 y3 u0 u1 u2 u3 u4 u5
    obtain ⟨a0, a1, a2, a3, y0, y1, y2, y3⟩ := four C4
    obtain ⟨u0, u1, u2, u3, u4, u5, -⟩ := six X4
    obtain ⟨v0, v1, v2, v3, v4, v5, f0, f1, f2, f3, f4, f5⟩ := six Z4
    have HKK := Lib.hid kk; have HC4 := Lib.hid C4; have HX4 := Lib.hid X4; have HZ4 := Lib.hid Z4; have HO4 := Lib.hid O4; have HAT := Lib.hid hat4; have HLT := Lib.hid lt4
    clear kk C4 X4 Z4 O4 hat4 lt4
    go_wp2
    have K5 : Kept (fun b => b = pc) w4 ((w4.setCell ⟨pc, 2, none⟩ (.int .i64 ((nx : Int) + 1))).setCell ⟨pc, 3, none⟩ (.bool true)) := (Kept.setCell (S := fun b => b = pc) (Kept.refl _ w4) (fun _ => rfl) _).setCell (fun _ => rfl) _
    have C5 : Cells ((w4.setCell ⟨pc, 2, none⟩ (.int .i64 ((nx : Int) + 1))).setCell ⟨pc, 3, none⟩ (.bool true)) pc [.pointer (some ⟨pb, 0, none⟩), .slice (some ⟨gg, 0, none⟩) (len + 1) cap3, .int .i64 ((nx : Int) + 1), .bool true] 87 := (HC4.out.set 2 _).set 3 _
    generalize (w4.setCell ⟨pc, 2, none⟩ (.int .i64 ((nx : Int) + 1))).setCell ⟨pc, 3, none⟩ (.bool true) = w5 at *
    have X5 := HX4.out.kept K5 (by omega)
    have Z5 := HZ4.out.kept K5 (by omega)
    have O5 := ownsRow_kept HO4.out K5 (by
      intro b hb e
      simp only [Value.ownBlock, Option.some.injEq] at hb
      rcases HAT.out with q | q
      · exact npc (by rw [q, hb, e])
      · omega)
    have lt5 : gg < w5.heap.size := Nat.lt_of_lt_of_le HLT.out K5.size
    have kk5 := HKK.out.then K5 (fun b _ e => .inl e)
    clear a0 a1 a2 a3 y0 y1 y2 y3 u0 u1 u2 u3 u4 u5 v0 v1 v2 v3 v4 v5 f0 f1 f2 f3 f4 f5
    obtain ⟨u0, u1, u2, u3, u4, u5, -⟩ := six X5
    obtain ⟨v0, v1, v2, v3, v4, v5, f0, f1, f2, f3, f4, f5⟩ := six Z5
    have HKK5 := Lib.hid kk5; have HC5 := Lib.hid C5; have HO5 := Lib.hid O5; have HLT5 := Lib.hid lt5
    have nwz : w2.heap.size ≠ wr.heap.size := by omega
    clear kk5 C5 X5 Z5 O5 lt5 K5
    go_region_held3 (fun w' => w'.cell? ⟨w2.heap.size, 0, none⟩ = some (.int .i64 (x.kind : Int)) ∧ w'.cell? ⟨w2.heap.size, 1, none⟩ = some (.int .u64 (x.ref : Int)) ∧ w'.cell? ⟨w2.heap.size, 2, none⟩ = some (.int .i64 x.i) ∧ w'.cell? ⟨w2.heap.size, 3, none⟩ = some (.int .u64 (x.word : Int)) ∧ w'.cell? ⟨w2.heap.size, 4, none⟩ = some (.bool x.done) ∧ w'.cell? ⟨w2.heap.size, 5, none⟩ = some (.int .i64 (x.err : Int)))
      (first | with_reducible exact ⟨u0, u1, u2, u3, u4, u5⟩ | with_reducible exact ⟨(six_other_d nwz).trans u0, (six_other_d nwz).trans u1, (six_other_d nwz).trans u2, (six_other_d nwz).trans u3, (six_other_d nwz).trans u4, (six_other_d nwz).trans u5⟩ | go_keep)
      (first | (go_at_call 55; refine (told_any x.err (by have := HFIT.out.err; omega) _).mono ?_; rintro e w' ⟨rfl, rfl⟩))
    go_wp2
    have hEnd := Lib.hid (access_end (x := x) H.out HLEN.out HLN.out L2.out HG2.out (HeldBy.trans (HeldBy.of_below B1.out H.out.heldR) (HH2.out.less (fun b hb => by simp [hb]))) (HKK5.out.then (six_kept w5 wr.heap.size (x0 := .int .i64 (x.kind : Int)) (x1 := .int .u64 (x.ref : Int)) (x2 := .int .i64 x.i) (x3 := .int .u64 (x.word : Int)) (x4 := .bool x.done) (x5 := .int .i64 (x.err : Int))) (fun i hi e => .inr (.inl e))).drew
      (Cells.kept HC5.out (six_kept _ _) (by omega)).drew (ownsRow_kept (ownsRow_kept HO5.out (six_kept _ _) NG.out) ((Kept.refl (fun _ => False) _).drew) (fun _ _ h => h)) HAT.out (by simpa using HLT5.out) HFIT.out HNX.out)
    refine bodyPost_ret (v := .tuple #[.agg #[.int .i64 (x.kind : Int), .int .u64 (x.ref : Int), .int .i64 x.i, .int .u64 (x.word : Int), .bool x.done, .int .i64 (x.err : Int)], errV x.err]) (by simp [results, Tryz.results39, go_sem, v0, v1, v2, v3, v4, v5]) rfl ?_
    rw [HX.out]
    exact ⟨rfl, ⟨_, hEnd.out.1⟩, hEnd.out.2⟩
end Go.Proofs.YtfehonejcambgaaGreatDoor
