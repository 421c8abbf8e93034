/- Layer 6's laws: Scene. -/
import Derived.Test.YtmdganpealbmpaaGreatDoorRun
import Derived.Test.YtmdganpealbmpaaGreatDoorMeta4
import Derived.Test.YtmdganpealbmpaaGreatDoorSets3
namespace Go.Proofs.YtmdganpealbmpaaGreatDoor
open Go.RowKit Bl Th
set_option maxRecDepth 10000

/-- The scene's body: a clock, and cells. -/
def sceneN : Nat → Nat → (Nat × List Nat → Nat × List Nat) → Tree (Nat × (Nat × List Nat → Nat × List Nat))
  | 0, _, f => .ret (0, f)
  | m + 1, i, f => (mNewCell (10 + i)).bind fun q => if q.1 = 0 then sceneN m (i + 1) (fun s => ((f s).1, (f s).2.set i q.2)) else .ret (q.1, f)
def sceneT (n : Nat) : Tree (Nat × (Nat × List Nat → Nat × List Nat)) := (al 1).bind fun r => if r.1 = 0 then sceneN n 0 (fun s => (r.2, s.2)) else .ret (r.1, id)
/-- What it keeps: the variables. -/
def sceneAux (W : World) (bk bl g n : Nat) : Aux (Nat × List Nat) where
  at' s Q w := Q = [bk, bl, g] ∧ [bk, bl, g].Nodup ∧ (∀ b ∈ [bk, bl, g], W.heap.size ≤ b) ∧ Cells w bk [.int .u64 (s.1 : Int)] 41 ∧ Cells w bl [.slice (some ⟨g, 0, none⟩) n n] 31 ∧ Cells w g (s.2.map fun x : Nat => .int .u64 (x : Int)) 41 ∧ s.2.length = n
  loc := by
    rintro s Q w w' ⟨rfl, h1, h2, h3, h4, h5, h6⟩ k
    exact ⟨rfl, h1, h2, h3.heldBy k (by simp), h4.heldBy k (by simp), h5.heldBy k (by simp), h6⟩
theorem body_fin {σ : Type} {W : World} {X Q E : List Nat} {pa pb pc n : Nat} {A : Aux σ} {s' : σ} {c' : CS} {v : Value} {wr w' : World} (ha : A.at' s' Q w') (he : Err w' v n E) (hc : Ctx W (E ++ (Q ++ X)) pa pb pc c' w') (hh : HeldBy X wr w') (hE : ∀ b ∈ E, wr.heap.size ≤ b) : BodyPost W pa pb pc A X Q wr (n, c', s') (.returned v) w' := by
  refine ⟨v, E, Q, rfl, he, ha, hc.less (fun b hb => ?_), hh, fun b hb => ?_⟩
  · simp only [List.mem_append] at hb ⊢
    rcases hb with q | q | q
    · exact .inr (.inr q)
    · exact .inl q
    · exact .inr (.inl q)
  · rcases List.mem_append.1 hb with q | q
    · exact .inr (hE b q)
    · exact .inl q
theorem ef_scene1 (args : Array Value) (w : World) : (callFunc 57 args).run Tryz.prog w = .ok (.enter 57 args) w := enters_of Tryz.func57 (by kernel_rfl) rfl args w
set_option maxHeartbeats 4000000 in
theorem scene1_ok {W : World} {X Q : List Nat} {pa pb pc bk bl g n round : Nat} {c : CS} {s : Nat × List Nat} {wi : World} (hg : Handle W) (hn : n ≤ 4) (ha : (sceneAux W bk bl g n).at' s Q wi) (h : Ctx W (X ++ Q) pa pb pc c wi) (hXQ : ∀ b ∈ X, b ∉ Q) :
    Calls Tryz.prog 57 #[.pointer (some ⟨pc, 0, none⟩), .int .i64 (round : Int), .pointer (some ⟨bk, 0, none⟩), .pointer (some ⟨bl, 0, none⟩)] wi (BodyPost W pa pb pc (sceneAux W bk bl g n) X Q wi (treeBody (fun _ => sceneT n) s round c)) := by
  have H := Lib.hid (show Ctx W (Q ++ X) pa pb pc c wi from h.less (fun b hb => by simp only [List.mem_append] at hb ⊢; exact hb.symm))
  have HG := Lib.hid hg; have HA := Lib.hid ha; have HXQ := Lib.hid (show ∀ b ∈ Q, b ∉ X from fun b hb hx => hXQ b hx hb)
  have HL := Lib.hid (newClock_ok H.out hg)
  clear hg ha h hXQ
  go_enter Tryz.func57, Tryz.ntmps57
  go_wp2_with fail
  refine HL.out.mono ?_
  rintro e w1 ⟨nn, x, c1, v, E, hx, hu, rfl, he, hc, hh, hE⟩
  have HH1 := Lib.hid (show HeldBy X wi w1 from hh.less (fun b hb => by simp [hb]))
  have HA1 := Lib.hid ((sceneAux W bk bl g n).loc _ _ _ _ HA.out (hh.less (fun b hb => by simp [hb])))
  by_cases h0 : nn = 0
  · subst h0
    obtain ⟨rfl, rfl⟩ := he.isNil rfl
    have HC1 := Lib.hid (show Ctx W (Q ++ X) pa pb pc c1 w1 from hc)
    have HX1 := Lib.hid (show exec (sceneT n) c = exec (sceneN n 0 (fun s => (x, s.2))) c1 by simp only [sceneT, exec_bind, hx, if_true])
    have hA1 := HA1.out
    obtain ⟨rfl, n1, n2, a1, a2, a3, a4⟩ := hA1
    have N1 := Lib.hid n1; have N2 := Lib.hid n2; have A1 := Lib.hid a1; have A2 := Lib.hid a2; have A3 := Lib.hid a3; have A4 := Lib.hid a4
    have hd := n1
    simp only [List.nodup_cons, List.mem_cons, List.not_mem_nil, or_false, not_or] at hd
    have q0 := a1.cell 0
    have f0 := a1.free 0
    have kk : Kept (fun b => b = bk) w1 (w1.setCell ⟨bk, 0, none⟩ (.int .u64 (x : Int))) := Kept.setCell (S := fun b => b = bk) (Kept.refl _ w1) (fun _ => rfl) _
    obtain ⟨e1, e2⟩ := HC1.out.objs (B' := [bk, bl, g]) (kk.mono fun b _ e => by simp [e]) n2 HXQ.out (fun b hb => ⟨.inl hb, Nat.lt_of_lt_of_le (HC1.out.heldR b (by simp only [List.mem_append]; exact .inl hb)) kk.size⟩)
    have HC2 := Lib.hid e1
    have HH2 := Lib.hid (HH1.out.trans e2)
    have HA2 := Lib.hid (show (sceneAux W bk bl g n).at' (x, s.2) [bk, bl, g] (w1.setCell ⟨bk, 0, none⟩ (.int .u64 (x : Int))) from ⟨rfl, n1, n2, a1.set 0 _, a2.kept kk (fun e => hd.1.1 e.symm), a3.kept kk (fun e => hd.1.2 e.symm), a4⟩)
    have q1 := (a2.kept kk (fun e => hd.1.1 e.symm)).cell 0
    simp only [List.getElem?_cons_zero] at q0 q1
    clear hx hu he hc hh hE HL n1 n2 a1 a2 a3 a4 hd e1 e2 kk
    go_wp2
    generalize w1.setCell ⟨bk, 0, none⟩ (.int .u64 (x : Int)) = w2 at *
    go_loopw [23] (fun i wr => ∃ (k : Nat) (c3 : CS) (f : Nat × List Nat → Nat × List Nat), k ≤ n ∧ i = .int .i64 (k : Int) ∧ Ctx W ([bk, bl, g] ++ X) pa pb pc c3 wr ∧ HeldBy X wi wr ∧ (sceneAux W bk bl g n).at' (f s) [bk, bl, g] wr ∧ exec (sceneT n) c = exec (sceneN (n - k) k f) c3) (fun i _ => n - (intOf i).toNat)
    case atStart => exact ⟨0, c1, fun s => (x, s.2), by omega, rfl, HC2.out, HH2.out, HA2.out, HX1.out⟩
    case round =>
      clear HC2 HH2 HA2 HX1 HC1 HH1 HA1 A1 A2 A3 A4
      obtain ⟨k, c3, f, hk, rfl, hc, hh, ha, hx⟩ := hrel
      by_cases hlt : k < n
      · obtain ⟨m, hm⟩ : ∃ m, n - k = m + 1 := ⟨n - k - 1, by omega⟩
        have HM := Lib.hid (show n - (k + 1) = m by omega)
        rw [hm] at hx
        have hki : (k : Int) < (n : Int) := by omega
        have g1 : IntKind.i64.wrap (10 + (k : Int)) = 10 + (k : Int) := IntWalk.i64_in _ (by omega)
        have HX := Lib.hid hx; have HH := Lib.hid hh; have HA := Lib.hid ha
        have hnc := newCell_ok hc HG.out (value := 10 + k) (by omega)
        rw [show ((10 + k : Nat) : Int) = 10 + (k : Int) by omega] at hnc
        have HNC := Lib.hid hnc
        clear hx hc hh ha hm hnc
        go_wp2_with fail
        refine HNC.out.mono ?_
        rintro e w3 ⟨nn, y, c4, v, E, hx2, hy, rfl, he, hc, hh, hE⟩
        have HH3 := Lib.hid (HH.out.trans (hh.less (fun b hb => by simp only [List.mem_append]; exact .inr hb)))
        have HA3 := Lib.hid ((sceneAux W bk bl g n).loc _ _ _ _ HA.out (hh.less (fun b hb => by simp only [List.mem_append]; exact .inl hb)))
        by_cases h0 : nn = 0
        · subst h0
          obtain ⟨rfl, rfl⟩ := he.isNil rfl
          have HC3 := Lib.hid (show Ctx W ([bk, bl, g] ++ X) pa pb pc c4 w3 from hc)
          have HXN := Lib.hid (show exec (sceneT n) c = exec (sceneN (n - (k + 1)) (k + 1) (fun s => ((f s).1, (f s).2.set k y))) c4 by rw [HX.out, HM.out]; simp only [sceneN, exec_bind, hx2, if_true])
          obtain ⟨-, n1, n2, a1, a2, a3, a4⟩ := HA3.out
          have hd := n1
          simp only [List.nodup_cons, List.mem_cons, List.not_mem_nil, or_false, not_or] at hd
          have r0 := a2.cell 0
          have hk' : k < (f s).2.length := by rw [a4]; exact hlt
          obtain ⟨z, hz⟩ : ∃ z, (f s).2[k]? = some z := ⟨_, List.getElem?_eq_getElem hk'⟩
          have r1 : w3.cell? ⟨g, k, none⟩ = some (.int .u64 (z : Int)) := by rw [a3.cell k, List.getElem?_map, hz]; rfl
          have r2 := a3.free k
          simp only [List.getElem?_cons_zero] at r0
          have kk : Kept (fun b => b = g) w3 (w3.setCell ⟨g, k, none⟩ (.int .u64 (y : Int))) := Kept.setCell (S := fun b => b = g) (Kept.refl _ w3) (fun _ => rfl) _
          obtain ⟨e1, e2⟩ := HC3.out.objs (B' := [bk, bl, g]) (kk.mono fun b _ e => by simp [e]) n2 HXQ.out (fun b hb => ⟨.inl hb, Nat.lt_of_lt_of_le (HC3.out.heldR b (by simp only [List.mem_append]; exact .inl hb)) kk.size⟩)
          have HC4 := Lib.hid e1
          have HH4 := Lib.hid (HH3.out.trans e2)
          have HA4 := Lib.hid (show (sceneAux W bk bl g n).at' ((f s).1, (f s).2.set k y) [bk, bl, g] (w3.setCell ⟨g, k, none⟩ (.int .u64 (y : Int))) from ⟨rfl, n1, n2, a1.kept kk hd.1.2, a2.kept kk hd.2.1, by rw [List.map_set]; exact a3.set k _, by rw [List.length_set]; exact a4⟩)
          clear hx2 hy he hc hh hE HNC n1 n2 a1 a2 a3 a4 hd e1 e2 kk hk' hz q1
          go_wp2
          go_roundw
          case rel => exact ⟨k + 1, c4, _, by omega, by go_num, HC4.out, HH4.out, HA4.out, HXN.out⟩
          case measure => simp [intOf]; omega
        · have HX3 := Lib.hid (show exec (sceneT n) c = ((nn, f), c4) by rw [HX.out]; simp only [sceneN, exec_bind, hx2, if_neg h0, exec])
          have HF := Lib.hid (body_fin (A := sceneAux W bk bl g n) HA3.out he hc HH3.out (fun b hb => Nat.le_trans HH.out.1 (hE b hb)))
          obtain ⟨tt, xx, rfl⟩ := he.iface h0
          clear hx2 hy he hc hh hE HNC h0 q1
          go_wp2
          go_ret
          unfold treeBody
          rw [HX3.out]
          exact HF.out
      · obtain rfl : k = n := by omega
        have g1 : decide ((k : Int) < (k : Int)) = false := by simp
        have HX3 := Lib.hid (show exec (sceneT k) c = ((0, f), c3) by rw [hx, Nat.sub_self]; rfl)
        have HF := Lib.hid (body_fin (A := sceneAux W bk bl g k) (E := []) (v := .nilIface) ha .none hc hh (by simp))
        clear hx hc hh ha
        go_wp2
        go_ret
        unfold treeBody
        rw [HX3.out]
        exact HF.out
  · have HX1 := Lib.hid (show exec (sceneT n) c = ((nn, id), c1) by simp only [sceneT, exec_bind, hx, if_neg h0, exec])
    have HF := Lib.hid (body_fin (A := sceneAux W bk bl g n) HA1.out he hc HH1.out hE)
    obtain ⟨tt, xx, rfl⟩ := he.iface h0
    clear hx hu he hc hh hE HL h0
    go_wp2
    go_ret
    unfold treeBody
    rw [HX1.out]
    exact HF.out

theorem scene_body {W : World} (hg : Handle W) {pa pb bk bl g n : Nat} (hn : n ≤ 4) : BodyOk W pa pb 57 #[.pointer (some ⟨bk, 0, none⟩), .pointer (some ⟨bl, 0, none⟩)] (sceneAux W bk bl g n) (treeBody fun _ => sceneT n) :=
  ⟨ef_scene1, fun _ _ _ _ => trivial, fun _ _ _ _ _ _ _ _ _ ha h hx _ => scene1_ok hg hn ha h hx⟩

/-- The scene: what it comes to. -/
def sceneRun (n : Nat) : Nat × TS (Nat × List Nat) × BS := Th.run (treeBody fun _ => sceneT n) 100 (0, Th.start (0, List.replicate n 0), ⟨List.replicate 300 0, 1, [], []⟩)
def sceneS (n : Nat) : BS := (sceneRun n).2.2
def sceneCells (n : Nat) : List Nat := (List.range n).map fun i => 3 + 3 * i
theorem sceneRun_1 : (sceneRun 1).1 = 0 ∧ (sceneRun 1).2.1.done = true ∧ (sceneRun 1).2.1.aux = (1, sceneCells 1) := ⟨by kernel_rfl, by kernel_rfl, by kernel_rfl⟩
theorem sceneRun_2 : (sceneRun 2).1 = 0 ∧ (sceneRun 2).2.1.done = true ∧ (sceneRun 2).2.1.aux = (1, sceneCells 2) := ⟨by kernel_rfl, by kernel_rfl, by kernel_rfl⟩
theorem sceneRun_3 : (sceneRun 3).1 = 0 ∧ (sceneRun 3).2.1.done = true ∧ (sceneRun 3).2.1.aux = (1, sceneCells 3) := ⟨by kernel_rfl, by kernel_rfl, by kernel_rfl⟩
theorem sceneRun_4 : (sceneRun 4).1 = 0 ∧ (sceneRun 4).2.1.done = true ∧ (sceneRun 4).2.1.aux = (1, sceneCells 4) := ⟨by kernel_rfl, by kernel_rfl, by kernel_rfl⟩
theorem sceneRun_ok {n : Nat} (h1 : 1 ≤ n) (h4 : n ≤ 4) : (sceneRun n).1 = 0 ∧ (sceneRun n).2.1.done = true ∧ (sceneRun n).2.1.aux = (1, sceneCells n) := by
  rcases (by omega : n = 1 ∨ n = 2 ∨ n = 3 ∨ n = 4) with rfl | rfl | rfl | rfl
  · exact sceneRun_1
  · exact sceneRun_2
  · exact sceneRun_3
  · exact sceneRun_4
theorem run_make (n : Nat) (h1 : 1 ≤ n) (h4 : n ≤ 4) (w : World) : (Instr.makeSlice 31 (.int .i64 (n : Int)) (.int .i64 (n : Int))).run Tryz.prog w = .ok (.slice (some ⟨w.heap.size, 0, none⟩) n n) (w.alloc (.cells (Array.replicate n (.int .u64 0)) 41)) := by
  rcases (by omega : n = 1 ∨ n = 2 ∨ n = 3 ∨ n = 4) with rfl | rfl | rfl | rfl
  all_goals kernel_rfl
set_option maxHeartbeats 2000000 in
theorem scene_ok {W : World} (hg : Handle W) {n : Nat} (h1 : 1 ≤ n) (h4 : n ≤ 4) (w : World) (hW : W = w) :
    Calls Tryz.prog 30 #[.int .i64 (n : Int)] w fun e w' => ∃ pa pb g, e = .returned (.tuple #[.pointer (some ⟨pb, 0, none⟩), .int .u64 1, .slice (some ⟨g, 0, none⟩) n n]) ∧ Held W [g] pa pb (sceneS n) w' ∧ Cells w' g ((sceneCells n).map fun x : Nat => .int .u64 (x : Int)) 41 ∧ w.heap.size ≤ g := by
  subst hW
  have HG := Lib.hid hg
  have hmk := run_make n h1 h4
  have hmf : ∀ (fn : Fn) (first cap : Array Value) (w : World), (Instr.makeFunc fn first cap).run Tryz.prog w = .ok (.func fn first cap) w := fun _ _ _ _ => rfl
  have HRUN := Lib.hid (sceneRun_ok h1 h4)
  have H4 := Lib.hid h4
  clear hg h1
  go_enter Tryz.func30, Tryz.ntmps30
  go_wp2_with fail
  refine (on_held 300 1 (by omega) (by omega) (by omega) _).mono ?_
  rintro e w1 ⟨pa, pb, rfl, hh⟩
  have HH := Lib.hid hh
  clear hh
  have B3 : Below w1.heap.size w1 (((w1.alloc (.cells #[.int .u64 0] 41)).alloc (.cells (Array.replicate n (.int .u64 0)) 41)).alloc (.cells #[.slice (some ⟨w1.heap.size + 1, 0, none⟩) n n] 31)) := (((Below.refl _ _).alloc (Nat.le_refl _) _).alloc (by simp) _).alloc (by simp; omega) _
  have c0 := ((Cells.new w1 [.int .u64 0] 41).alloc (.cells (Array.replicate n (.int .u64 0)) 41)).alloc (.cells #[.slice (some ⟨w1.heap.size + 1, 0, none⟩) n n] 31)
  have c1 := (Cells.new (w1.alloc (.cells #[.int .u64 0] 41)) (List.replicate n (.int .u64 0)) 41).alloc (.cells #[.slice (some ⟨w1.heap.size + 1, 0, none⟩) n n] 31)
  have c2 := Cells.new ((w1.alloc (.cells #[.int .u64 0] 41)).alloc (.cells (Array.replicate n (.int .u64 0)) 41)) [.slice (some ⟨w1.heap.size + 1, 0, none⟩) n n] 31
  simp only [World.size_alloc, List.toArray_replicate] at c1 c2
  have hW := HH.out.below.size
  have hq : (sceneAux W w1.heap.size (w1.heap.size + 1 + 1) (w1.heap.size + 1) n).at' (0, List.replicate n 0) [w1.heap.size, w1.heap.size + 1 + 1, w1.heap.size + 1] (((w1.alloc (.cells #[.int .u64 0] 41)).alloc (.cells (Array.replicate n (.int .u64 0)) 41)).alloc (.cells #[.slice (some ⟨w1.heap.size + 1, 0, none⟩) n n] 31)) :=
    ⟨rfl, by simp; omega, by intro b hb; simp at hb; omega, c0, c2, by rw [List.map_replicate]; exact c1, by simp⟩
  have hheld := HH.out.came B3 [w1.heap.size, w1.heap.size + 1 + 1, w1.heap.size + 1] (by intro b hb; simp at hb ⊢; omega)
  have HN := Lib.hid (tnew_ok hheld _ _ hq (fun b hb => by simpa using hb) 57 #[.pointer (some ⟨w1.heap.size, 0, none⟩), .pointer (some ⟨w1.heap.size + 1 + 1, 0, none⟩)])
  have HBK := Lib.hid (show W.heap.size ≤ w1.heap.size + 1 by omega)
  clear B3 c0 c1 c2 hW hq hheld
  go_wp2_with fail
  generalize ((w1.alloc (.cells #[.int .u64 0] 41)).alloc (.cells (Array.replicate n (.int .u64 0)) 41)).alloc (.cells #[.slice (some ⟨w1.heap.size + 1, 0, none⟩) n n] 31) = w2 at *
  obtain ⟨bk, hbk⟩ : ∃ bk, w1.heap.size = bk := ⟨_, rfl⟩
  rw [hbk] at HN HBK ⊢
  clear hbk hmk
  refine HN.out.mono ?_
  rintro e w3 ⟨pt, rfl, ht, hh3, -⟩
  have hnd : ∀ b ∈ pt :: [bk, bk + 1 + 1, bk + 1], b ∉ ([] : List Nat) := by simp
  have HR := Lib.hid (trun_ok (scene_body HG.out H4.out) ht (R := []) (S := ⟨List.replicate 300 0, 1, [], []⟩) (by simpa using hh3) hnd (by simp) trivial 100 (by show 0 + 100 ≤ 3000000000; omega))
  clear ht hh3 hnd HN
  go_wp2_with fail
  refine HR.out.mono ?_
  rintro e w4 ⟨v, E, B', rfl, he, ht, hh4, -, -, -⟩
  change Err w4 v (sceneRun n).1 E at he
  change Thr _ _ _ _ _ (sceneRun n).2.1 B' w4 at ht
  change Held _ _ _ _ (sceneRun n).2.2 w4 at hh4
  obtain ⟨r1, r2, r3⟩ := HRUN.out
  rw [r1] at he
  obtain ⟨rfl, rfl⟩ := he.isNil rfl
  have hd := tdone_ok ht
  rw [r2] at hd
  have HD := Lib.hid hd
  obtain ⟨lv, ev, E2, Q2, hB, hl⟩ := ht
  have hau := hl.aux
  rw [r3] at hau
  obtain ⟨hQ2, -, -, a1, a2, a3, -⟩ := hau
  subst hQ2 hB
  have HHF := Lib.hid (show Held W [bk + 1] pa pb (sceneS n) w4 from hh4.less (fun b hb => by
    simp only [List.mem_singleton] at hb
    subst hb
    simp))
  have HC := Lib.hid a3
  have q0 := a1.cell 0
  have q1 := a2.cell 0
  simp only [List.getElem?_cons_zero] at q0 q1
  clear he hd hl hh4 a1 a2 a3 r1 r2 r3 HR
  go_wp2_with (first | (go_at_call 17; refine (no_nil _).mono ?_; rintro e w' ⟨rfl, rfl⟩) | (go_at_call 32; refine HD.out.mono ?_; rintro e w' ⟨rfl, rfl⟩))
  go_quiet (fail)
  go_wp2
  go_ret3
  exact ⟨pa, pb, bk + 1, rfl, HHF.out.drewN _, HC.out, HBK.out⟩
end Go.Proofs.YtmdganpealbmpaaGreatDoor
