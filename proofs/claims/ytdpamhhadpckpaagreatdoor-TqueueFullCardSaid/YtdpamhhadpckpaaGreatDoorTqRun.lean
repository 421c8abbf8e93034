/- Layer 29's laws: one transaction of calls that runs alone (run). -/
import Derived.Test.YtdpamhhadpckpaaGreatDoorTqBody
namespace Go.Proofs.YtdpamhhadpckpaaGreatDoor
open Go.RowKit Bl Th
set_option maxRecDepth 10000

/-- Two rings, as one value. -/
def ringsV (r0 : Ring) (g0 n0 cap0 : Nat) (r1 : Ring) (g1 n1 cap1 : Nat) : Value := .agg #[.int .u64 (r0.ins : Int), .int .u64 (r0.outs : Int), .slice (some ⟨g0, 0, none⟩) n0 cap0, .int .u64 (r1.ins : Int), .int .u64 (r1.outs : Int), .slice (some ⟨g1, 0, none⟩) n1 cap1]
/-- The world behind body. -/
def bodyWQ (w : World) (clock : Nat) (r0 : Ring) (g0 n0 cap0 : Nat) (r1 : Ring) (g1 n1 cap1 : Nat) (lv : Value) (po pe : Nat) : World := ((((w.alloc (.cells #[.int .u64 (clock : Int)] 23)).alloc (.cells #[.int .u64 (r0.ins : Int), .int .u64 (r0.outs : Int), .slice (some ⟨g0, 0, none⟩) n0 cap0, .int .u64 (r1.ins : Int), .int .u64 (r1.outs : Int), .slice (some ⟨g1, 0, none⟩) n1 cap1] 27)).alloc (.cells #[lv] 30)).alloc (.cells #[.pointer (some ⟨po, 0, none⟩)] 95)).alloc (.cells #[.pointer (some ⟨pe, 0, none⟩)] 96)
theorem body29_ok (clock : Nat) (r0 : Ring) (g0 n0 cap0 : Nat) (r1 : Ring) (g1 n1 cap1 : Nat) (lp : Option Addr) (n lcap : Nat) (po pe : Nat) (w : World) : Calls Tryz.prog 36 #[.int .u64 (clock : Int), ringsV r0 g0 n0 cap0 r1 g1 n1 cap1, .slice lp n lcap, .pointer (some ⟨po, 0, none⟩), .pointer (some ⟨pe, 0, none⟩)] w fun e w' =>
    ∃ fv, e = .returned fv ∧ fv = .func (.func 62) #[] #[.pointer (some ⟨w.heap.size, 0, none⟩), .pointer (some ⟨w.heap.size + 1, 0, none⟩), .pointer (some ⟨w.heap.size + 2, 0, none⟩), .pointer (some ⟨w.heap.size + 3, 0, none⟩), .pointer (some ⟨w.heap.size + 4, 0, none⟩)] ∧ w' = bodyWQ w clock r0 g0 n0 cap0 r1 g1 n1 cap1 (.slice lp n lcap) po pe := by
  have hmf : ∀ (fn : Fn) (first cap : Array Value) (w : World), (Instr.makeFunc fn first cap).run Tryz.prog w = .ok (.func fn first cap) w := fun _ _ _ _ => rfl
  unfold ringsV
  go_enter Tryz.func36, Tryz.ntmps36
  go_wp2
  go_ret
  exact ⟨_, rfl, rfl, rfl⟩
theorem body29_set {W : World} {R : List Nat} {pa pb g0 n0 cap0 g1 n1 cap1 po pe clock : Nat} {r0 r1 : Ring} {S : BS} {w : World} {lv : Value} {Qo : List Nat} {l : List ActQ} (h : Held W R pa pb S w) (hg0 : g0 ∈ R) (hg1 : g1 ∈ R) (hQ : ∀ b ∈ Qo, b ∈ R) (a0 : CellsIn w g0 r0.places) (a1 : CellsIn w g1 r1.places) (hl : ActsIn W w lv Qo l) :
    Below w.heap.size w (bodyWQ w clock r0 g0 n0 cap0 r1 g1 n1 cap1 lv po pe) ∧ Held W ([w.heap.size, w.heap.size + 1, w.heap.size + 2, w.heap.size + 3, w.heap.size + 4] ++ R) pa pb S (bodyWQ w clock r0 g0 n0 cap0 r1 g1 n1 cap1 lv po pe) ∧ SharedQ W w.heap.size (w.heap.size + 1) (w.heap.size + 2) (w.heap.size + 3) (w.heap.size + 4) po pe g0 n0 cap0 g1 n1 cap1 lv Qo l r0 r1 clock (bodyWQ w clock r0 g0 n0 cap0 r1 g1 n1 cap1 lv po pe) := by
  have B : Below w.heap.size w (bodyWQ w clock r0 g0 n0 cap0 r1 g1 n1 cap1 lv po pe) := (((((Below.refl w.heap.size w).alloc (Nat.le_refl _) _).alloc (by simp) _).alloc (by simp; omega) _).alloc (by simp; omega) _).alloc (by simp; omega) _
  have k := HeldBy.of_below (R := R) B h.held
  have hz : (bodyWQ w clock r0 g0 n0 cap0 r1 g1 n1 cap1 lv po pe).heap.size = w.heap.size + 5 := by simp [bodyWQ]
  refine ⟨B, h.came B _ (by intro b hb; rw [hz]; simp at hb; omega), ?_, ?_, ?_, ?_, ?_, a0.heldBy k hg0, a1.heldBy k hg1, hl.heldBy k hQ⟩
  · exact (((((Cells.new w [.int .u64 (clock : Int)] 23).alloc _).alloc _).alloc _).alloc _)
  · have := (((Cells.new (w.alloc (.cells #[.int .u64 (clock : Int)] 23)) (ringV r0 g0 n0 cap0 ++ ringV r1 g1 n1 cap1) 27).alloc (.cells #[lv] 30)).alloc (.cells #[.pointer (some ⟨po, 0, none⟩)] 95)).alloc (.cells #[.pointer (some ⟨pe, 0, none⟩)] 96)
    simpa [bodyWQ, ringV] using this
  · have := ((Cells.new ((w.alloc (.cells #[.int .u64 (clock : Int)] 23)).alloc (.cells #[.int .u64 (r0.ins : Int), .int .u64 (r0.outs : Int), .slice (some ⟨g0, 0, none⟩) n0 cap0, .int .u64 (r1.ins : Int), .int .u64 (r1.outs : Int), .slice (some ⟨g1, 0, none⟩) n1 cap1] 27)) [lv] 30).alloc (.cells #[.pointer (some ⟨po, 0, none⟩)] 95)).alloc (.cells #[.pointer (some ⟨pe, 0, none⟩)] 96)
    simpa [bodyWQ] using this
  · have := (Cells.new (((w.alloc (.cells #[.int .u64 (clock : Int)] 23)).alloc (.cells #[.int .u64 (r0.ins : Int), .int .u64 (r0.outs : Int), .slice (some ⟨g0, 0, none⟩) n0 cap0, .int .u64 (r1.ins : Int), .int .u64 (r1.outs : Int), .slice (some ⟨g1, 0, none⟩) n1 cap1] 27)).alloc (.cells #[lv] 30)) [.pointer (some ⟨po, 0, none⟩)] 95).alloc (.cells #[.pointer (some ⟨pe, 0, none⟩)] 96)
    simpa [bodyWQ] using this
  · have := Cells.new ((((w.alloc (.cells #[.int .u64 (clock : Int)] 23)).alloc (.cells #[.int .u64 (r0.ins : Int), .int .u64 (r0.outs : Int), .slice (some ⟨g0, 0, none⟩) n0 cap0, .int .u64 (r1.ins : Int), .int .u64 (r1.outs : Int), .slice (some ⟨g1, 0, none⟩) n1 cap1] 27)).alloc (.cells #[lv] 30)).alloc (.cells #[.pointer (some ⟨po, 0, none⟩)] 95)) [.pointer (some ⟨pe, 0, none⟩)] 96
    simpa [bodyWQ] using this
/-- The scene's state between transactions: at most K were put in. -/
structure Play (pl : Bool → Nat) (K clk : Nat) (q : Bool → List Nat) (S : BS) : Prop where
  sc : ∃ ver val : Nat → Nat, Sc (cellsQ pl) S clk (fun i => rest (ver i)) val ∧ (∀ i, i < cellsQ pl → ver i ≤ clk) ∧ QsAt val pl K q
  few : cellsQ pl ≤ 60
  pos : ∀ k, 1 ≤ pl k
  ck : clk ≤ K + 10
/-- What one transaction leaves. -/
def RunPost (W : World) (R : List Nat) (pa pb : Nat) (pl : Bool → Nat) (K : Nat) (l : List ActQ) (q : Bool → List Nat) (w : World) (e : Ending) (w' : World) : Prop :=
  ∃ (S' : BS) (clk' : Nat) (lv : Value), e = .returned (.tuple #[lv, .int .i64 (if (mdl pl l [] q).2.2 = true then 1 else 3), .int .i64 0]) ∧ Held W (lv.ownBlock.toList ++ R) pa pb S' w' ∧ HeldBy R w w' ∧ w'.ownsRow W.heap.size 23 1 lv (mdl pl l [] q).1.length (encU (mdl pl l [] q).1) ∧ Play pl (K + l.length + 1) clk' (if (mdl pl l [] q).2.2 = true then (mdl pl l [] q).2.1 else q) S'
theorem ringQ_ok {pl : Bool → Nat} (hf : cellsQ pl ≤ 60) (hp : ∀ k, 1 ≤ pl k) (k : Bool) : RingOk (ringQ pl k) (pl k) := by
  have hb := baseQ_le pl k
  refine ⟨by simp [ringQ, ringAt], hp k, by omega, by simp only [ringQ, ringAt]; omega, by simp only [ringQ, ringAt]; omega, fun x hx => ?_⟩
  simp only [ringQ, ringAt, List.mem_map, List.mem_range] at hx
  obtain ⟨i, hi, rfl⟩ := hx
  omega
set_option maxHeartbeats 8000000 in
theorem run_ok {W : World} (hg : Handle W) {R : List Nat} {pa pb g0 cap0 g1 cap1 lcap K M clk : Nat} {pl : Bool → Nat} {lp : Option Addr} {S : BS} {w : World} {Qo : List Nat} {l : List ActQ} {q : Bool → List Nat} (h : Held W R pa pb S w) (hg0 : g0 ∈ R) (hg1 : g1 ∈ R) (hQ : ∀ b ∈ Qo, b ∈ R) (a0 : CellsIn w g0 (ringQ pl false).places) (a1 : CellsIn w g1 (ringQ pl true).places) (hl : ActsIn W w (.slice lp l.length lcap) Qo l) (hp : Play pl K clk q S) (hM : ∀ k, pl k ≤ M) (hK : K ≤ 9000) (hlen : l.length ≤ 100) (hcost : (l.map (costA M)).sum ≤ 1500) (h9 : ∀ a ∈ l, a.kind ≠ 9) :
    Calls Tryz.prog 9 #[.pointer (some ⟨pb, 0, none⟩), .int .u64 1, ringsV (ringQ pl false) g0 (pl false) cap0 (ringQ pl true) g1 (pl true) cap1, .slice lp l.length lcap] w (RunPost W R pa pb pl K l q w) := by
  obtain ⟨ver, val, hsc, hv, hqs⟩ := hp.sc
  have hck := hp.ck
  obtain ⟨S', clk', ver', val', f, hgo, hf, hsc', hv', hclk, hqs'⟩ := bodyQ_goes hsc hv hp.few hp.pos hM hqs (l := l) (by omega) (by omega) hcost
  obtain ⟨s', L, nn, erun⟩ := goes_run hgo (by omega) 7000 (by omega) (by omega) (([] : List Nat), (0 : Int))
  have hmid := goes_mid hgo (by omega) (([] : List Nat), (0 : Int))
  obtain ⟨r0, hr0⟩ : ∃ r0, ringQ pl false = r0 := ⟨_, rfl⟩
  obtain ⟨r1, hr1⟩ : ∃ r1, ringQ pl true = r1 := ⟨_, rfl⟩
  have ok0 := ringQ_ok hp.few hp.pos false
  have ok1 := ringQ_ok hp.few hp.pos true
  rw [hr0] at a0 hgo erun hmid ok0 ⊢
  rw [hr1] at a1 hgo erun hmid ok1 ⊢
  obtain ⟨n0, hn0⟩ : ∃ n0, pl false = n0 := ⟨_, rfl⟩
  obtain ⟨n1, hn1⟩ : ∃ n1, pl true = n1 := ⟨_, rfl⟩
  rw [hn0] at ok0 ⊢
  rw [hn1] at ok1 ⊢
  obtain ⟨told, htold⟩ : ∃ told, (mdl pl l [] q).1 = told := ⟨_, rfl⟩
  obtain ⟨fin, hfin⟩ : ∃ fin : Int, (if (mdl pl l [] q).2.2 = true then 1 else 3) = fin := ⟨_, rfl⟩
  obtain ⟨rb, hrb⟩ : ∃ rb, w.heap.size = rb := ⟨_, rfl⟩
  have B0 := (((Below.refl w.heap.size w).alloc (Nat.le_refl _) (.cells #[.int .u64 (r0.ins : Int), .int .u64 (r0.outs : Int), .slice (some ⟨g0, 0, none⟩) n0 cap0, .int .u64 (r1.ins : Int), .int .u64 (r1.outs : Int), .slice (some ⟨g1, 0, none⟩) n1 cap1] 27)).alloc (by simp) (.cells #[.slice none 0 0] 24)).alloc (by simp; omega) (.cells #[.int .i64 0] 3)
  have C0 := ((Cells.new w (ringV r0 g0 n0 cap0 ++ ringV r1 g1 n1 cap1) 27).alloc (.cells #[.slice none 0 0] 24)).alloc (.cells #[.int .i64 0] 3)
  have C1 := (Cells.new (w.alloc (.cells #[.int .u64 (r0.ins : Int), .int .u64 (r0.outs : Int), .slice (some ⟨g0, 0, none⟩) n0 cap0, .int .u64 (r1.ins : Int), .int .u64 (r1.outs : Int), .slice (some ⟨g1, 0, none⟩) n1 cap1] 27)) [.slice none 0 0] 24).alloc (.cells #[.int .i64 0] 3)
  have C2 := Cells.new ((w.alloc (.cells #[.int .u64 (r0.ins : Int), .int .u64 (r0.outs : Int), .slice (some ⟨g0, 0, none⟩) n0 cap0, .int .u64 (r1.ins : Int), .int .u64 (r1.outs : Int), .slice (some ⟨g1, 0, none⟩) n1 cap1] 27)).alloc (.cells #[.slice none 0 0] 24)) [.int .i64 0] 3
  simp only [World.size_alloc] at C1 C2
  obtain ⟨w0, hw0⟩ : ∃ w0, ((w.alloc (.cells #[.int .u64 (r0.ins : Int), .int .u64 (r0.outs : Int), .slice (some ⟨g0, 0, none⟩) n0 cap0, .int .u64 (r1.ins : Int), .int .u64 (r1.outs : Int), .slice (some ⟨g1, 0, none⟩) n1 cap1] 27)).alloc (.cells #[.slice none 0 0] 24)).alloc (.cells #[.int .i64 0] 3) = w0 := ⟨_, rfl⟩
  have hz0 : w0.heap.size = rb + 3 := by rw [← hw0, ← hrb]; simp
  rw [hw0] at B0 C1 C2
  have C0' : Cells w0 rb (ringV r0 g0 n0 cap0 ++ ringV r1 g1 n1 cap1) 27 := by rw [← hw0, ← hrb]; exact C0
  have hk0 := HeldBy.of_below (R := R) B0 h.held
  have h0 := h.came B0 [rb, rb + 1, rb + 1 + 1] (by intro b hb; simp at hb; omega)
  have hW := h.below.size
  rw [hrb] at C1 C2 hW
  obtain ⟨S1, S2, S3⟩ := body29_set (po := rb + 1) (pe := rb + 1 + 1) (clock := 1) (n0 := n0) (cap0 := cap0) (n1 := n1) (cap1 := cap1) h0 (by simp [hg0]) (by simp [hg1]) (fun b hb => by simp [hQ b hb]) (a0.heldBy hk0 hg0) (a1.heldBy hk0 hg1) (hl.heldBy hk0 hQ)
  have hq : (toldAux W (rb + 1) (rb + 1 + 1)).at' ([], 0) [rb + 1, rb + 1 + 1] (bodyWQ w0 1 r0 g0 n0 cap0 r1 g1 n1 cap1 (.slice lp l.length lcap) (rb + 1) (rb + 1 + 1)) := ⟨.slice none 0 0, rfl, by omega, by simp [Value.ownBlock], by simp [Value.ownBlock], by omega, by omega, C1.heldBy (R := [rb + 1]) (HeldBy.of_below S1 (by simp; omega)) (by simp), C2.heldBy (R := [rb + 1 + 1]) (HeldBy.of_below S1 (by simp; omega)) (by simp), World.ownsRow_nil _ _ _ _⟩
  have HN := Lib.hid (tnew_newC S2 (toldAux W (rb + 1) (rb + 1 + 1)) _ hq (by simp) 62 #[.pointer (some ⟨w0.heap.size, 0, none⟩), .pointer (some ⟨w0.heap.size + 1, 0, none⟩), .pointer (some ⟨w0.heap.size + 2, 0, none⟩), .pointer (some ⟨w0.heap.size + 3, 0, none⟩), .pointer (some ⟨w0.heap.size + 4, 0, none⟩)])
  have hz1 : (bodyWQ w0 1 r0 g0 n0 cap0 r1 g1 n1 cap1 (.slice lp l.length lcap) (rb + 1) (rb + 1 + 1)).heap.size = rb + 8 := by simp [bodyWQ, hz0]
  have hF : ∀ k, k < 7000 → (Th.run (treeBody fun _ => bodyQ r0 r1 l 1) k ((Th.start (([] : List Nat), (0 : Int))).err, Th.start (([] : List Nat), (0 : Int)), S)).2.1.done = false → StepBody W pa pb 62 #[.pointer (some ⟨w0.heap.size, 0, none⟩), .pointer (some ⟨w0.heap.size + 1, 0, none⟩), .pointer (some ⟨w0.heap.size + 2, 0, none⟩), .pointer (some ⟨w0.heap.size + 3, 0, none⟩), .pointer (some ⟨w0.heap.size + 4, 0, none⟩)] (toldAux W (rb + 1) (rb + 1 + 1)) (treeBody fun _ => bodyQ r0 r1 l 1) (shQ w0.heap.size (w0.heap.size + 1) (w0.heap.size + 2) (w0.heap.size + 3) (w0.heap.size + 4) g0 g1 Qo) (SharedQ W w0.heap.size (w0.heap.size + 1) (w0.heap.size + 2) (w0.heap.size + 3) (w0.heap.size + 4) (rb + 1) (rb + 1 + 1) g0 n0 cap0 g1 n1 cap1 (.slice lp l.length lcap) Qo l r0 r1 1) (Th.run (treeBody fun _ => bodyQ r0 r1 l 1) k ((Th.start (([] : List Nat), (0 : Int))).err, Th.start (([] : List Nat), (0 : Int)), S)).2.1.aux (Th.run (treeBody fun _ => bodyQ r0 r1 l 1) k ((Th.start (([] : List Nat), (0 : Int))).err, Th.start (([] : List Nat), (0 : Int)), S)).2.1.round ⟨(Th.run (treeBody fun _ => bodyQ r0 r1 l 1) k ((Th.start (([] : List Nat), (0 : Int))).err, Th.start (([] : List Nat), (0 : Int)), S)).2.1.log, 0, false, (Th.run (treeBody fun _ => bodyQ r0 r1 l 1) k ((Th.start (([] : List Nat), (0 : Int))).err, Th.start (([] : List Nat), (0 : Int)), S)).2.2⟩ := fun k _ hd => bodyQ_step hg ok0 ok1 (by omega) hlen h9 (hmid k hd)
  have HFB := Lib.hid hF
  have HER := Lib.hid (show Th.run (treeBody fun _ => bodyQ r0 r1 l 1) 7000 ((Th.start (([] : List Nat), (0 : Int))).err, Th.start (([] : List Nat), (0 : Int)), S) = (0, ⟨L, 0, nn, true, 0, f s'⟩, S') from erun)
  have HFF := Lib.hid (show f s' = (told, fin) by rw [hf s', htold, hfin])
  have HPL := Lib.hid (show Play pl (K + l.length + 1) clk' (if (mdl pl l [] q).2.2 = true then (mdl pl l [] q).2.1 else q) S' from ⟨⟨ver', val', hsc', hv', fun k => (hqs' k).more (by omega)⟩, hp.few, hp.pos, by omega⟩)
  have HS1 := Lib.hid S1; have HS2 := Lib.hid S2; have HS3 := Lib.hid S3; have HK0 := Lib.hid hk0; have HLT := Lib.hid (show ∀ b ∈ R, b < rb by rw [← hrb]; exact h.held); have HZ0 := Lib.hid hz0; have HG0 := Lib.hid hg0; have HG1 := Lib.hid hg1; have HQ := Lib.hid hQ; have HRB := Lib.hid hrb; have HW0 := Lib.hid hw0; have HTOLD := Lib.hid htold; have HFIN := Lib.hid hfin; have HZ1 := Lib.hid hz1
  have k0 : w0.cell? ⟨rb, 0, none⟩ = some (.int .u64 (r0.ins : Int)) := C0'.cell 0
  have k1 : w0.cell? ⟨rb, 1, none⟩ = some (.int .u64 (r0.outs : Int)) := C0'.cell 1
  have k2 : w0.cell? ⟨rb, 2, none⟩ = some (.slice (some ⟨g0, 0, none⟩) n0 cap0) := C0'.cell 2
  have k3 : w0.cell? ⟨rb, 3, none⟩ = some (.int .u64 (r1.ins : Int)) := C0'.cell 3
  have k4 : w0.cell? ⟨rb, 4, none⟩ = some (.int .u64 (r1.outs : Int)) := C0'.cell 4
  have k5 : w0.cell? ⟨rb, 5, none⟩ = some (.slice (some ⟨g1, 0, none⟩) n1 cap1) := C0'.cell 5
  obtain ⟨len, hll⟩ : ∃ len, l.length = len := ⟨_, rfl⟩
  rw [hll] at HN HS1 HS2 HS3 HFB HZ1 ⊢
  clear hsc hv hqs hck hgo hf hsc' hv' hclk hqs' erun hmid hp ok0 ok1 B0 C0 C1 C2 C0' hz0 hk0 h0 hW S1 S2 S3 hq h hg0 hg1 hQ a0 a1 hl hM hK hlen hcost h9 hg hz1 hF hr0 hr1 hn0 hn1 htold hfin hrb hw0
  unfold ringsV
  go_enter Tryz.func9, Tryz.ntmps9
  go_wp2_with fail
  rw [HW0.out, HRB.out]
  refine (body29_ok 1 r0 g0 n0 cap0 r1 g1 n1 cap1 lp len lcap (rb + 1) (rb + 1 + 1) w0).mono ?_
  rintro e w1 ⟨fv, rfl, rfl, rfl⟩
  clear k0 k1 k2 k3 k4 k5
  go_wp2_with fail
  refine HN.out.mono ?_
  rintro e w2 ⟨pt, rfl, ht, hh2, hb2, hpt⟩
  rw [HZ1.out] at hpt
  have hk2 := HeldBy.of_below hb2 HS2.out.held
  have hP := HS3.out.heldBy hk2 (by
    intro b hb
    have := HG0.out
    have := HG1.out
    have := HQ.out b
    simp [shQ] at hb ⊢
    rcases hb with q | q | q | q | q | q | q | q <;> simp_all)
  obtain ⟨z, hz⟩ : ∃ z, w0.heap.size = z := ⟨_, rfl⟩
  have hze : z = rb + 3 := by rw [← hz, HZ0.out]
  rw [hz] at ht hh2 hP hk2
  rw [hz] at HFB
  have hR := trun_at (R := [z, z + 1, z + 2, z + 3, z + 4] ++ (rb :: R)) (S := S) ht (hh2.less (by
    intro b hb
    simp at hb ⊢
    rcases hb with q | q | q | q | q | q | q | q | q | q <;> simp [q])) (by
    intro b hb hm
    simp at hb hm
    rcases hm with q | q | q | q | q | q | q
    all_goals first
      | omega
      | (have := HLT.out b q; omega)) (by
    intro b hb
    have := HG0.out
    have := HG1.out
    have := HQ.out b
    simp [shQ] at hb ⊢
    rcases hb with q | q | q | q | q | q | q | q <;> simp_all) hP 7000 HFB.out (by show 0 + 7000 ≤ 3000000000; omega)
  rw [HER.out] at hR
  have HR := Lib.hid hR
  have hlo : ∀ b ∈ rb :: R, b < rb + 1 := fun b hb => by
    rcases List.mem_cons.1 hb with q | q
    · omega
    · have := HLT.out b q
      omega
  have HKW := Lib.hid (show HeldBy R w0 w2 from (HeldBy.of_below HS1.out (fun b hb => by have := HLT.out b hb; have := HZ0.out; omega)).trans (HeldBy.of_below hb2 (fun b hb => by have := HLT.out b hb; have := HZ1.out; omega)))
  clear ht hh2 hb2 hpt hk2 hP hR HN HS1 HS2 HS3 hlo HER HFB
  go_wp2_with fail
  refine HR.out.mono ?_
  rintro e w3 ⟨v, E, B', rfl, he, ht3, hh3, hk3, -, hB3⟩
  simp only at he ht3 hh3
  obtain ⟨rfl, rfl⟩ := he.isNil rfl
  obtain ⟨lv, ev, E2, Q2, rfl, hl⟩ := ht3
  have hau := hl.aux
  rw [HFF.out] at hau
  obtain ⟨lvt, rfl, -, -, -, -, -, b1, b2, b3⟩ := hau
  obtain ⟨pr, cr, rfl⟩ := ownsRow_shape b3
  have q1 : w3.cell? ⟨rb + 1, 0, none⟩ = some (.slice pr told.length cr) := b1.cell 0
  have q2 : w3.cell? ⟨rb + 1 + 1, 0, none⟩ = some (.int .i64 fin) := b2.cell 0
  have HF := Lib.hid (show RunPost W R pa pb pl K l q w (.returned (.tuple #[.slice pr told.length cr, .int .i64 fin, .int .i64 0])) w3.drew from ⟨S', clk', .slice pr told.length cr, by rw [HFIN.out], (hh3.less (R' := (Value.slice pr told.length cr).ownBlock.toList ++ R) (fun b hb => by
      simp only [List.mem_append, List.mem_cons] at hb ⊢
      rcases hb with q | q <;> simp [q])).drewN 1, HK0.out.trans (HKW.out.trans (hk3.less fun b hb => by simp [hb])), by rw [HTOLD.out]; exact b3, HPL.out⟩)
  clear he hl hh3 hk3 hB3 b1 b2 b3 HR
  go_wp2_with (go_at_call 23; refine (no_nil _).mono ?_; rintro e w' ⟨rfl, rfl⟩)
  go_region_held3 (fun w' => w'.cell? ⟨rb + 1, 0, none⟩ = some (.slice pr told.length cr) ∧ w'.cell? ⟨rb + 1 + 1, 0, none⟩ = some (.int .i64 fin))
    (first | with_reducible exact ⟨q1, q2⟩ | go_keep)
    (fail)
  go_wp2
  go_ret3
  exact HF.out
end Go.Proofs.YtdpamhhadpckpaaGreatDoor
