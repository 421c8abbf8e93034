/- Layer 10: the document's text of right statements. -/
import Derived.Test.YtikgbgminhgpdaaGreatDoorDoc1
import Derived.Test.YtikgbgminhgpdaaGreatDoorTxtPrint2
import Derived.Test.YtikgbgminhgpdaaGreatDoorTxtSame
import Derived.Deep.RegionHeld3
import Derived.Deep.CutRange
namespace Go.Proofs.YtikgbgminhgpdaaGreatDoor
open Go.RowKit Tx
set_option maxRecDepth 10000

theorem join_flat : ∀ (x : Bs) (l : List Bs), Go.Lib.join (x :: l) [32] = x ++ l.flatMap (fun p => 32 :: p)
  | x, [] => by simp [Go.Lib.join]
  | x, y :: l => by
    rw [join_cons2, join_flat y l]
    simp
theorem line_flat (h : Sh) : lineT h = wordB h.kind ++ (form h.kind).flatMap (fun c => 32 :: piece h c) := by
  unfold lineT lineW
  rw [join_flat, List.flatMap_map]
theorem form_open {k : Nat} (h : k ≤ 16) : (form k).contains 123 = opens k := by
  have : ∀ k : _root_.Fin 17, (form k.1).contains 123 = opens k.1 := by decide +kernel
  exact this ⟨k, by omega⟩
theorem word_len {k : Nat} (h : k ≤ 16) : (wordB k).length ≤ 44 := by
  have : ∀ k : _root_.Fin 17, (wordB k.1).length ≤ 44 := by decide +kernel
  exact this ⟨k, by omega⟩
theorem tellS_open {h : Sh} {b e : List St} {ah : Bs} (ho : opens h.kind = true) : tellS (.mk h b e) ah = ah ++ lineT h ++ [10] ++ (tellL b (ah ++ [32, 32]) ++ (if e.isEmpty then [] else ah ++ elseT ++ [10] ++ tellL e (ah ++ [32, 32])) ++ (ah ++ [125] ++ [10])) := by
  unfold tellS
  rw [if_neg (by rw [ho]; decide)]
theorem tellS_shut {h : Sh} {b e : List St} {ah : Bs} (ho : opens h.kind = false) : tellS (.mk h b e) ah = ah ++ lineT h ++ [10] := by
  unfold tellS
  rw [if_pos ho, List.append_nil]
theorem else_list (O2 TB TE ah : ByteArray) : (O2 ++ ⟨#[10]⟩ ++ TB ++ ah ++ ⟨#[125, 32, 101, 108, 115, 101, 32, 123, 10]⟩ ++ TE ++ ah ++ ⟨#[125, 10]⟩).data.toList = O2.data.toList ++ [10] ++ TB.data.toList ++ ah.data.toList ++ (elseT ++ [10]) ++ TE.data.toList ++ ah.data.toList ++ [125, 10] := by
  simp only [ByteArray.data_append, Array.toList_append]
  rfl
theorem then_list (O2 TB ah : ByteArray) : (O2 ++ ⟨#[10]⟩ ++ TB ++ ah ++ ⟨#[125, 10]⟩).data.toList = O2.data.toList ++ [10] ++ TB.data.toList ++ ah.data.toList ++ [125, 10] := by
  simp only [ByteArray.data_append, Array.toList_append]
def LtJ (l : List St) (ah : ByteArray) (w0 : World) (gf : Nat) (o i : Value) (wx : World) : Prop :=
  ∃ (k : Nat) (O : ByteArray), o = .string O ∧ i = .int .i64 (k : Int) ∧ k ≤ l.length ∧ l.length + 1 ≤ k + gf ∧ Below w0.heap.size w0 wx ∧ O.data.toList ++ tellL (l.drop k) ah.data.toList = tellL l ah.data.toList
/-- Is a block's brace among a form's first letters? -/
def opn (h : Sh) (m : Nat) : Bool := ((form h.kind).take m).contains 123
def InJ (h : Sh) (O0 : Bs) (w0 : World) (gf : Nat) (o bl j : Value) (wx : World) : Prop :=
  ∃ (m : Nat) (O : ByteArray), o = .string O ∧ bl = .bool (opn h m) ∧ j = .int .i64 (m : Int) ∧ m ≤ (form h.kind).length ∧ (form h.kind).length + 1 ≤ m + gf ∧ Below w0.heap.size w0 wx ∧ O.data.toList = O0 ++ ((form h.kind).take m).flatMap (fun c => 32 :: piece h c) ∧ O.size ≤ O0.length + m * 60
theorem in_next {h : Sh} {m : Nat} {c : UInt8} {O X : ByteArray} {O0 : Bs} (hc : (form h.kind)[m]? = some c) (hX : X.data.toList = piece h c) (hO : O.data.toList = O0 ++ ((form h.kind).take m).flatMap (fun c => 32 :: piece h c)) :
    (O ++ ⟨#[32]⟩ ++ X).data.toList = O0 ++ ((form h.kind).take (m + 1)).flatMap (fun c => 32 :: piece h c) := by
  rw [List.take_add_one, hc, ByteArray.data_append, ByteArray.data_append, Array.toList_append, Array.toList_append, hO, hX]
  simp
theorem in_open {h : Sh} {m : Nat} {c : UInt8} (hc : (form h.kind)[m]? = some c) (hn : c ≠ 123) : opn h (m + 1) = opn h m := by
  unfold opn
  rw [List.take_add_one, hc]
  simp only [Option.toList_some, List.contains_append]
  simp [Ne.symm hn]
/-- lines' contract, for fewer than N statements. -/
def LinesAt (B N : Nat) : Prop := ∀ (l : List St) (v : Value) (ah : ByteArray) (w : World), cntL l < N → goodL l = true → SlR B w l v → B ≤ w.heap.size → (tellL l ah.data.toList).length ≤ 1000000 → ah.size + 2 * cntL l ≤ 1000000 →
    Calls Tryz.prog 23 #[v, .string ah] w fun e w' => e = .returned (.string ⟨(tellL l ah.data.toList).toArray⟩) ∧ Below w.heap.size w w'
set_option maxHeartbeats 20000000 in
theorem linesD_step {B N : Nat} (hIH : LinesAt B N) : LinesAt B (N + 1) := by
    intro l v ah w hN hg hl hB hlen hah
    have IH := Lib.hid hIH
    clear hIH
    have hlc := len_cnt l
    have hahd : ah.data.toList.length = ah.size := Array.length_toList
    obtain ⟨pt, cp, rfl⟩ := hl.shape
    have HL := Lib.hid hl; have HG := Lib.hid hg
    clear hl hg
    go_enter Tryz.func23, Tryz.ntmps23
    go_wp2
    go_loopg [5, 6] (l.length + 1) (fun gf o i wx => LtJ l ah w gf o i wx)
    case atStart => exact ⟨0, ⟨#[]⟩, rfl, rfl, Nat.zero_le _, by omega, Below.refl _ _, rfl⟩
    case round =>
      obtain ⟨k, O, rfl, rfl, hk, hfu, hb, hO⟩ := hrel
      obtain ⟨wo, rfl⟩ : ∃ wo : World, wo = wr := ⟨_, rfl⟩
      have hOs : O.size ≤ 1000000 := by
        have h1 := congrArg List.length hO
        rw [List.length_append, Array.length_toList] at h1
        have h2 : O.data.size = O.size := rfl
        omega
      have HB := Lib.hid hb; have HO := Lib.hid hO
      have hbs := hb.size
      by_cases hlt : k < l.length
      · obtain ⟨gk', rfl⟩ : ∃ g', gk = g' + 1 := ⟨gk - 1, by omega⟩
        obtain ⟨⟨h, b, e⟩, hs⟩ : ∃ s, l[k]? = some s := ⟨_, List.getElem?_eq_getElem hlt⟩
        have hgs := good_get HG.out hs
        unfold goodS at hgs
        simp only [Bool.and_eq_true] at hgs
        obtain ⟨⟨hone, hgb⟩, hge⟩ := hgs
        obtain ⟨q1, q2, q3, q4, q5, q6, q7, -, -⟩ := oneR_parts hone
        have hreg : 0 ≤ h.reg ∧ h.reg ≤ 8 := by
          cases hk : hasReg h.kind with
          | true => have := reg_in q7 hk; omega
          | false => have := reg_out q7 hk; omega
        have hcoll : 0 ≤ h.coll ∧ h.coll ≤ 999 := by
          cases hk : hasColl h.kind with
          | true => exact coll_in q3 hk
          | false => have := coll_out q3 hk; omega
        have HA := Lib.hid (fun (w : World) => argD_ok q4 w)
        have HAB := Lib.hid (fun (w : World) => argD_ok q5 w)
        have HCO := Lib.hid (fun (w : World) => dec_ok' (n := h.coll) (by omega) (by omega) w)
        have HRG := Lib.hid (fun (w : World) => dec_ok' (n := h.reg) (by omega) (by omega) w)
        have ha1 := argT_len q4
        have ha2 := argT_len q5
        have hi1 := itoa_short (n := h.coll) (by omega) (by omega)
        have hi2 := itoa_short (n := h.reg) (by omega) (by omega)
        have hcg := cnt_get hs
        have htd := tellL_drop hs ah.data.toList
        have hlr := HL.out.below hb hB
        obtain ⟨g, off, cp', z, bv, ev, hv, hgB, hgl, hz, hcell, hbb, hee⟩ := hlr.get hs
        simp only [Value.slice.injEq] at hv
        obtain ⟨rfl, -, rfl⟩ := hv
        obtain ⟨bp, bc, rfl⟩ := hbb.shape
        obtain ⟨ep, ec, rfl⟩ := hee.shape
        obtain rfl : z = (h.kind : Int) := by omega
        have g1 : decide ((k : Int) < (l.length : Int)) = true := decide_eq_true (by omega)
        have g1' : (k : Int) < (l.length : Int) := by omega
        have y0 : wo.cell? ⟨g, off + k * 9, none⟩ = _ := hcell 0 _ rfl
        have y1 := hcell 1 _ rfl; have y2 := hcell 2 _ rfl; have y3 := hcell 3 _ rfl; have y4 := hcell 4 _ rfl; have y5 := hcell 5 _ rfl; have y6 := hcell 6 _ rfl; have y7 := hcell 7 _ rfl; have y8 := hcell 8 _ rfl
        have HBB := Lib.hid hbb; have HEE := Lib.hid hee; have HGB := Lib.hid hgb; have HGE := Lib.hid hge; have HTD := Lib.hid htd
        have HQ2 := Lib.hid q2
        have hk17 : h.kind < 17 := by omega
        have hki0 : (0 : Int) ≤ (h.kind : Int) := by omega
        have hki : (h.kind : Int) < 17 := by omega
        have hki' : (h.kind : Int) ≤ 16 := by omega
        clear hb hO hcell hbb hee hgb hge htd hone q3 q4 q5 q6 q7 hlr hs hreg hcoll
        go_upto_region 6 with (fail)
        obtain ⟨W, hW⟩ : ∃ W, wo.alloc (.cells #[.int .i64 (h.kind : Int), .int .i64 h.coll, .int .i64 h.reg, .int .i64 h.a.1, .int .i64 h.a.2, .int .i64 h.b.1, .int .i64 h.b.2, .slice bp b.length bc, .slice ep e.length ec] 45) = W := ⟨_, rfl⟩
        obtain ⟨bx, hbx⟩ : ∃ bx, wo.heap.size = bx := ⟨_, rfl⟩
        rw [hW, hbx]
        have HC := Lib.hid (show Cells W bx [.int .i64 (h.kind : Int), .int .i64 h.coll, .int .i64 h.reg, .int .i64 h.a.1, .int .i64 h.a.2, .int .i64 h.b.1, .int .i64 h.b.2, .slice bp b.length bc, .slice ep e.length ec] 45 by rw [← hW, ← hbx]; exact Cells.new _ _ _)
        have HBW := Lib.hid (show Below wo.heap.size wo W by rw [← hW]; exact (Below.refl _ wo).alloc (Nat.le_refl _) _)
        have hxl : bx < W.heap.size := HC.out.lt
        clear hW y0 y1 y2 y3 y4 y5 y6 y7 y8
        obtain ⟨⟨y0, y1, y2, y3, y4, y5, y6, y7, y8⟩, -⟩ := nine_cells HC.out
        obtain ⟨Wd, hWd⟩ : ∃ Wd : ByteArray, (⟨(wordB h.kind).toArray⟩ : ByteArray) = Wd := ⟨_, rfl⟩
        have HWDD := Lib.hid (show Wd.data.toList = wordB h.kind by rw [← hWd])
        have hWs : Wd.size ≤ 44 := by
          have : Wd.size = (wordB h.kind).length := by rw [← hWd]; exact List.size_toArray ..
          have := word_len q2
          omega
        have HWO := Lib.hid (fun (w : World) => (show Calls Tryz.prog 40 #[] w fun e w' => ∃ g, e = .returned (.slice (some ⟨g, 0, none⟩) 17 17) ∧ w'.cell? ⟨g, h.kind, none⟩ = some (.string Wd) ∧ Below w.heap.size w w' from (wordsD_ok w).mono (by
          rintro e w' ⟨g, rfl, h1, h2⟩
          exact ⟨g, rfl, by rw [← hWd]; exact h1 _ q1 q2, h2⟩)))
        obtain ⟨F, hF⟩ : ∃ F : ByteArray, (⟨(form h.kind).toArray⟩ : ByteArray) = F := ⟨_, rfl⟩
        have HFO := Lib.hid (fun (w : World) => (show Calls Tryz.prog 41 #[] w fun e w' => ∃ g, e = .returned (.slice (some ⟨g, 0, none⟩) 17 17) ∧ w'.cell? ⟨g, h.kind, none⟩ = some (.string F) ∧ Below w.heap.size w w' from (formsD_ok w).mono (by
          rintro e w' ⟨g, rfl, h1, h2⟩
          exact ⟨g, rfl, by rw [← hF]; exact h1 _ q1 q2, h2⟩)))
        have hFs : F.size = (form h.kind).length := by rw [← hF]; exact List.size_toArray ..
        have hFd : F.data.toList = form h.kind := by rw [← hF]
        have hF4 : (form h.kind).length ≤ 4 := form_len q2
        have HFD := Lib.hid hFd
        have g5 : ¬ 9223372036854775807 < O.size + ah.size := by omega
        have g6 : ¬ 9223372036854775807 < O.size + ah.size + Wd.size := by omega
        clear hWd hF hFd
        go_cut [5] from 12 to 99 (fun s5 wx => s5 = .string (O ++ ah ++ Wd) ∧ Below W.heap.size W wx)
        case first =>
          refine wp_region_held_drew (S := fun w' => w'.cell? ⟨bx, 0, none⟩ = some (.int .i64 (h.kind : Int))) (by kernel_rfl) y0 (fun hHeld => ?_)
          refine wpAnyH_take (i := 0) (oi := ?oi0s) (v := ?v0s) ?hi0s ?hs0s ?hf0s ?hr0s ?hQ0s ?hy0s hHeld ?rest0s
          case hi0s =>
            (try simp only [List.getElem?_toArray, List.getElem?_cons_zero])
            exact rfl
          case hs0s => kernel_rfl
          case hf0s => kernel_rfl
          case hr0s => kernel_rfl
          case hQ0s => exact fun _ _ _ h => h
          case hy0s =>
            refine Or.inl ⟨?hw0s, ?hrun0s⟩
            case hw0s => kernel_rfl
            case hrun0s =>
              intro w hSw
              (try dsimp only at hSw)
              go_simp
              try with_reducible rfl
          try simp only [Act.put, List.setIfInBounds_toArray, List.set_cons_zero, List.set_cons_succ]
          refine wpAnyH_take (i := 1) (oi := ?oi1s) (v := ?v1s) ?hi1s ?hs1s ?hf1s ?hr1s ?hQ1s ?hy1s hHeld ?rest1s
          case hi1s =>
            (try simp only [List.getElem?_toArray, List.getElem?_cons_succ, List.getElem?_cons_zero])
            exact rfl
          case hs1s => kernel_rfl
          case hf1s => kernel_rfl
          case hr1s => kernel_rfl
          case hQ1s => exact fun _ _ _ h => h
          case hy1s =>
            refine Or.inl ⟨?hw1s, ?hrun1s⟩
            case hw1s => kernel_rfl
            case hrun1s =>
              intro w hSw
              (try dsimp only at hSw)
              go_simp
              try with_reducible rfl
          try simp only [Act.put, List.setIfInBounds_toArray, List.set_cons_zero, List.set_cons_succ]
          refine wpAnyH_take (i := 2) (oi := ?oi2s) (v := ?v2s) ?hi2s ?hs2s ?hf2s ?hr2s ?hQ2s ?hy2s hHeld ?rest2s
          case hi2s =>
            (try simp only [List.getElem?_toArray, List.getElem?_cons_succ, List.getElem?_cons_zero])
            exact rfl
          case hs2s => kernel_rfl
          case hf2s => kernel_rfl
          case hr2s => kernel_rfl
          case hQ2s => exact fun _ _ _ h => h
          case hy2s =>
            refine Or.inl ⟨?hw2s, ?hrun2s⟩
            case hw2s => kernel_rfl
            case hrun2s =>
              intro w hSw
              (try dsimp only at hSw)
              go_simp
              try with_reducible rfl
          try simp only [Act.put, List.setIfInBounds_toArray, List.set_cons_zero, List.set_cons_succ]
          refine wpAnyH_take (i := 4) (oi := ?oi4s) (v := ?v4s) ?hi4s ?hs4s ?hf4s ?hr4s ?hQ4s ?hy4s hHeld ?rest4s
          case hi4s =>
            (try simp only [List.getElem?_toArray, List.getElem?_cons_succ, List.getElem?_cons_zero])
            exact rfl
          case hs4s => kernel_rfl
          case hf4s => kernel_rfl
          case hr4s => kernel_rfl
          case hQ4s => exact fun _ _ _ h => h
          case hy4s =>
            refine Or.inl ⟨?hw4s, ?hrun4s⟩
            case hw4s => kernel_rfl
            case hrun4s =>
              intro w hSw
              (try dsimp only at hSw)
              go_simp
              try with_reducible rfl
          try simp only [Act.put, List.setIfInBounds_toArray, List.set_cons_zero, List.set_cons_succ]
          refine wpAnyH_take (i := 5) (oi := ?oi5s) (v := ?v5s) ?hi5s ?hs5s ?hf5s ?hr5s ?hQ5s ?hy5s hHeld ?rest5s
          case hi5s =>
            (try simp only [List.getElem?_toArray, List.getElem?_cons_succ, List.getElem?_cons_zero])
            exact rfl
          case hs5s => kernel_rfl
          case hf5s => kernel_rfl
          case hr5s => kernel_rfl
          case hQ5s => exact fun _ _ _ h => h
          case hy5s =>
            refine Or.inl ⟨?hw5s, ?hrun5s⟩
            case hw5s => kernel_rfl
            case hrun5s =>
              intro w hSw
              (try dsimp only at hSw)
              go_simp
              try with_reducible rfl
          try simp only [Act.put, List.setIfInBounds_toArray, List.set_cons_zero, List.set_cons_succ]
          refine wpAnyH_ready (rs := [3]) (by kernel_rfl) (by simp) ?_
          refine AllReadyH.cons (o := ?o3s) ?ho3s (fun K hK => ?st3s) AllReadyH.nil
          case ho3s =>
            (try simp only [List.getElem?_toArray, List.getElem?_cons_succ, List.getElem?_cons_zero])
            exact rfl
          go_simp
          go_at_call 40
          refine (HWO.out _).mono ?_
          rintro e1 w1 ⟨g1, rfl, hg1, hb1⟩
          have hb1' : Below W.heap.size W w1 := ⟨hb1.os, hb1.tape, hb1.output, hb1.size, hb1.block⟩
          have z0 := (hb1'.cell (p := ⟨bx, 0, none⟩) hxl).trans y0
          have HB1 := Lib.hid hb1'
          clear hb1 hb1'
          go_wp2
          refine hK.out _ _ ?_ (fun hHeld => ?_)
          · exact z0
          clear hK K
          try simp only [Act.put, List.setIfInBounds_toArray, List.set_cons_zero, List.set_cons_succ]
          refine wpAnyH_take (i := 6) (oi := ?oi6s) (v := ?v6s) ?hi6s ?hs6s ?hf6s ?hr6s ?hQ6s ?hy6s hHeld ?rest6s
          case hi6s =>
            (try simp only [List.getElem?_toArray, List.getElem?_cons_succ, List.getElem?_cons_zero])
            exact rfl
          case hs6s => kernel_rfl
          case hf6s => kernel_rfl
          case hr6s => kernel_rfl
          case hQ6s => exact fun _ _ _ h => h
          case hy6s =>
            refine Or.inl ⟨?hw6s, ?hrun6s⟩
            case hw6s => kernel_rfl
            case hrun6s =>
              intro w hSw
              (try dsimp only at hSw)
              go_simp
              try with_reducible rfl
          try simp only [Act.put, List.setIfInBounds_toArray, List.set_cons_zero, List.set_cons_succ]
          refine wpAnyH_ready (rs := [7]) (by kernel_rfl) (by simp) ?_
          refine AllReadyH.cons (o := ?o7s) ?ho7s (fun K hK => ?st7s) AllReadyH.nil
          case ho7s =>
            (try simp only [List.getElem?_toArray, List.getElem?_cons_succ, List.getElem?_cons_zero])
            exact rfl
          go_simp
          refine hK.out _ _ ?_ (fun hHeld => ?_)
          · exact hHeld
          clear hK K
          try simp only [Act.put, List.setIfInBounds_toArray, List.set_cons_zero, List.set_cons_succ]
          refine wpAnyH_take (i := 8) (oi := ?oi8s) (v := ?v8s) ?hi8s ?hs8s ?hf8s ?hr8s ?hQ8s ?hy8s hHeld ?rest8s
          case hi8s =>
            (try simp only [List.getElem?_toArray, List.getElem?_cons_succ, List.getElem?_cons_zero])
            exact rfl
          case hs8s => kernel_rfl
          case hf8s => kernel_rfl
          case hr8s => kernel_rfl
          case hQ8s => exact fun _ _ _ h => h
          case hy8s =>
            refine Or.inl ⟨?hw8s, ?hrun8s⟩
            case hw8s => kernel_rfl
            case hrun8s =>
              intro w hSw
              (try dsimp only at hSw)
              go_simp
              try with_reducible rfl
          try simp only [Act.put, List.setIfInBounds_toArray, List.set_cons_zero, List.set_cons_succ]
          refine wpAnyH_take (i := 9) (oi := ?oi9s) (v := ?v9s) ?hi9s ?hs9s ?hf9s ?hr9s ?hQ9s ?hy9s hHeld ?rest9s
          case hi9s =>
            (try simp only [List.getElem?_toArray, List.getElem?_cons_succ, List.getElem?_cons_zero])
            exact rfl
          case hs9s => kernel_rfl
          case hf9s => kernel_rfl
          case hr9s => kernel_rfl
          case hQ9s => exact fun _ _ _ h => h
          case hy9s =>
            refine Or.inl ⟨?hw9s, ?hrun9s⟩
            case hw9s => kernel_rfl
            case hrun9s =>
              intro w hSw
              (try dsimp only at hSw)
              go_simp
              try with_reducible rfl
          try simp only [Act.put, List.setIfInBounds_toArray, List.set_cons_zero, List.set_cons_succ]
          refine wpAnyH_done (by kernel_rfl) ?_ _
          go_wp2
          go_meet
          exact ⟨rfl, HB1.out⟩
        case rest =>
          obtain ⟨rfl, hb1⟩ := hcut
          obtain ⟨wd, rfl⟩ : ∃ wd : World, wd = wc := ⟨_, rfl⟩
          have HCd := Lib.hid (HC.out.below hb1)
          have HBd := Lib.hid (HBW.out.trans (hb1.mono HBW.out.size))
          have hxd : bx < wd.heap.size := HCd.out.lt
          clear hb1 y0 y1 y2 y3 y4 y5 y6 y7 y8
          obtain ⟨⟨y0, y1, y2, y3, y4, y5, y6, y7, y8⟩, -⟩ := nine_cells HCd.out
          go_upto_region 7 with (fail)
          go_cut [8] from 12 to 99 (fun s8 wx => s8 = .string F ∧ Below wd.heap.size wd wx)
          case first =>
            refine wp_region_held_drew (S := fun w' => w'.cell? ⟨bx, 0, none⟩ = some (.int .i64 (h.kind : Int))) (by kernel_rfl) y0 (fun hHeld => ?_)
            refine wpAnyH_take (i := 1) (oi := ?oi1f) (v := ?v1f) ?hi1f ?hs1f ?hf1f ?hr1f ?hQ1f ?hy1f hHeld ?rest1f
            case hi1f =>
              (try simp only [List.getElem?_toArray, List.getElem?_cons_succ, List.getElem?_cons_zero])
              exact rfl
            case hs1f => kernel_rfl
            case hf1f => kernel_rfl
            case hr1f => kernel_rfl
            case hQ1f => exact fun _ _ _ h => h
            case hy1f =>
              refine Or.inl ⟨?hw1f, ?hrun1f⟩
              case hw1f => kernel_rfl
              case hrun1f =>
                intro w hSw
                (try dsimp only at hSw)
                go_simp
                try with_reducible rfl
            try simp only [Act.put, List.setIfInBounds_toArray, List.set_cons_zero, List.set_cons_succ]
            refine wpAnyH_take (i := 2) (oi := ?oi2f) (v := ?v2f) ?hi2f ?hs2f ?hf2f ?hr2f ?hQ2f ?hy2f hHeld ?rest2f
            case hi2f =>
              (try simp only [List.getElem?_toArray, List.getElem?_cons_succ, List.getElem?_cons_zero])
              exact rfl
            case hs2f => kernel_rfl
            case hf2f => kernel_rfl
            case hr2f => kernel_rfl
            case hQ2f => exact fun _ _ _ h => h
            case hy2f =>
              refine Or.inl ⟨?hw2f, ?hrun2f⟩
              case hw2f => kernel_rfl
              case hrun2f =>
                intro w hSw
                (try dsimp only at hSw)
                go_simp
                try with_reducible rfl
            try simp only [Act.put, List.setIfInBounds_toArray, List.set_cons_zero, List.set_cons_succ]
            refine wpAnyH_ready (rs := [0]) (by kernel_rfl) (by simp) ?_
            refine AllReadyH.cons (o := ?o0f) ?ho0f (fun K hK => ?st0f) AllReadyH.nil
            case ho0f =>
              (try simp only [List.getElem?_toArray, List.getElem?_cons_zero])
              exact rfl
            go_simp
            go_at_call 41
            refine (HFO.out _).mono ?_
            rintro e1 w1 ⟨g1, rfl, hg1, hb1⟩
            have hb1' : Below wd.heap.size wd w1 := ⟨hb1.os, hb1.tape, hb1.output, hb1.size, hb1.block⟩
            have z0 := (hb1'.cell (p := ⟨bx, 0, none⟩) hxd).trans y0
            have HB1 := Lib.hid hb1'
            clear hb1 hb1'
            go_wp2
            refine hK.out _ _ ?_ (fun hHeld => ?_)
            · exact z0
            clear hK K
            try simp only [Act.put, List.setIfInBounds_toArray, List.set_cons_zero, List.set_cons_succ]
            refine wpAnyH_take (i := 3) (oi := ?oi3f) (v := ?v3f) ?hi3f ?hs3f ?hf3f ?hr3f ?hQ3f ?hy3f hHeld ?rest3f
            case hi3f =>
              (try simp only [List.getElem?_toArray, List.getElem?_cons_succ, List.getElem?_cons_zero])
              exact rfl
            case hs3f => kernel_rfl
            case hf3f => kernel_rfl
            case hr3f => kernel_rfl
            case hQ3f => exact fun _ _ _ h => h
            case hy3f =>
              refine Or.inl ⟨?hw3f, ?hrun3f⟩
              case hw3f => kernel_rfl
              case hrun3f =>
                intro w hSw
                (try dsimp only at hSw)
                go_simp
                try with_reducible rfl
            try simp only [Act.put, List.setIfInBounds_toArray, List.set_cons_zero, List.set_cons_succ]
            refine wpAnyH_ready (rs := [4]) (by kernel_rfl) (by simp) ?_
            refine AllReadyH.cons (o := ?o4f) ?ho4f (fun K hK => ?st4f) AllReadyH.nil
            case ho4f =>
              (try simp only [List.getElem?_toArray, List.getElem?_cons_succ, List.getElem?_cons_zero])
              exact rfl
            go_simp
            refine hK.out _ _ ?_ (fun hHeld => ?_)
            · exact hHeld
            clear hK K
            try simp only [Act.put, List.setIfInBounds_toArray, List.set_cons_zero, List.set_cons_succ]
            refine wpAnyH_take (i := 5) (oi := ?oi5f) (v := ?v5f) ?hi5f ?hs5f ?hf5f ?hr5f ?hQ5f ?hy5f hHeld ?rest5f
            case hi5f =>
              (try simp only [List.getElem?_toArray, List.getElem?_cons_succ, List.getElem?_cons_zero])
              exact rfl
            case hs5f => kernel_rfl
            case hf5f => kernel_rfl
            case hr5f => kernel_rfl
            case hQ5f => exact fun _ _ _ h => h
            case hy5f =>
              refine Or.inl ⟨?hw5f, ?hrun5f⟩
              case hw5f => kernel_rfl
              case hrun5f =>
                intro w hSw
                (try dsimp only at hSw)
                go_simp
                try with_reducible rfl
            try simp only [Act.put, List.setIfInBounds_toArray, List.set_cons_zero, List.set_cons_succ]
            refine wpAnyH_done (by kernel_rfl) ?_ _
            go_wp2
            go_meet
            exact ⟨rfl, HB1.out⟩
          case rest =>
            obtain ⟨rfl, hb2⟩ := hcut
            obtain ⟨we, rfl⟩ : ∃ we : World, we = wc := ⟨_, rfl⟩
            have HCe := Lib.hid (HCd.out.below hb2)
            have HBe := Lib.hid (HBd.out.trans (hb2.mono HBd.out.size))
            have hO0 : (O ++ ah ++ Wd).size ≤ 2000050 := by rw [ByteArray.size_append, ByteArray.size_append]; omega
            obtain ⟨O1, hO1⟩ : ∃ O1, O ++ ah ++ Wd = O1 := ⟨_, rfl⟩
            have HO1 := Lib.hid (show O1.data.toList = O.data.toList ++ ah.data.toList ++ wordB h.kind by rw [← hO1, ByteArray.data_append, ByteArray.data_append, Array.toList_append, Array.toList_append, HWDD.out])
            rw [hO1] at hO0 ⊢
            have hO1l : O1.data.toList.length = O1.size := Array.length_toList
            clear hb2 hO1 y0 y1 y2 y3 y4 y5 y6 y7 y8
            go_wp2
            go_loopg [5, 9, 10, 11] ((form h.kind).length + 1) (fun gf o bl j _ wx => InJ h O1.data.toList we gf o bl j wx)
            case atStart => exact ⟨0, O1, rfl, rfl, rfl, Nat.zero_le _, by omega, Below.refl _ _, by simp, by omega⟩
            case round =>
              obtain ⟨m, O2, rfl, rfl, rfl, hm, hfm, hb3, hO2, hO2s⟩ := hrel
              rw [hO1l] at hO2s
              have HB3 := Lib.hid hb3
              have hbs3 := hb3.size
              by_cases hmf : m < (form h.kind).length
              · obtain ⟨gm, rfl⟩ : ∃ g', gk = g' + 1 := ⟨gk - 1, by omega⟩
                obtain ⟨c, hcf⟩ : ∃ c, (form h.kind)[m]? = some c := ⟨_, List.getElem?_eq_getElem hmf⟩
                have hps : m < F.size := by omega
                have hcx : (F[m]'hps) = c := at_of HFD.out hcf hps
                have hch := form_chars HQ2.out c (List.mem_of_getElem? hcf)
                have HCr := Lib.hid (HCe.out.below hb3)
                have HO2 := Lib.hid hO2
                have g2 : decide ((m : Int) < (F.size : Int)) = true := decide_eq_true (by omega)
                have g2' : (m : Int) < (F.size : Int) := by omega
                obtain ⟨⟨y0, y1, y2, y3, y4, y5, y6, y7, y8⟩, -⟩ := nine_cells HCr.out
                have hxr : bx < wr.heap.size := HCr.out.lt
                have g3 : ¬ 9223372036854775807 < O2.size + 1 := by omega
                clear hb3 hO2
                rcases hch with rfl | rfl | rfl | rfl | rfl | rfl
                · have HCF := Lib.hid hcf
                  have HOP := Lib.hid (in_open hcf (by decide))
                  obtain ⟨X, hX⟩ : ∃ X : ByteArray, (⟨(Lib.itoa h.coll).toArray⟩ : ByteArray) = X := ⟨_, rfl⟩
                  have hXs : X.size = (Lib.itoa h.coll).length := by rw [← hX]; exact List.size_toArray ..
                  have HXD := Lib.hid (show X.data.toList = Lib.itoa h.coll by rw [← hX])
                  rw [hX] at HCO
                  have g4 : ¬ 9223372036854775807 < O2.size + 1 + X.size := by omega
                  have g4' : ¬ 9223372036854775807 < 1 + X.size := by omega
                  have g4'' : ¬ 9223372036854775807 < O2.size + 1 + (1 + X.size) := by omega
                  clear hcf hX
                  go_wp2_with fail
                  refine (HCO.out _).mono ?_
                  rintro _ w5 ⟨rfl, hb5⟩
                  have HB5 := Lib.hid (HB3.out.trans (hb5.mono hbs3))
                  clear hb5 y0 y1 y2 y3 y4 y5 y6 y7 y8
                  go_wp2
                  go_roundg gm
                  case measure => omega
                  case rel => exact ⟨m + 1, O2 ++ ⟨#[32]⟩ ++ X, rfl, congrArg Value.bool HOP.out.symm, by go_num, by omega, by omega, HB5.out, in_next HCF.out (by rw [HXD.out]; rfl) HO2.out, by simp only [ByteArray.size_append]; rw [show (⟨#[32]⟩ : ByteArray).size = 1 from rfl, hO1l]; omega⟩
                · have HCF := Lib.hid hcf
                  have HOP := Lib.hid (in_open hcf (by decide))
                  obtain ⟨X, hX⟩ : ∃ X : ByteArray, (⟨(argT h.a).toArray⟩ : ByteArray) = X := ⟨_, rfl⟩
                  have hXs : X.size = (argT h.a).length := by rw [← hX]; exact List.size_toArray ..
                  have HXD := Lib.hid (show X.data.toList = argT h.a by rw [← hX])
                  rw [hX] at HA
                  have g4 : ¬ 9223372036854775807 < O2.size + 1 + X.size := by omega
                  have g4' : ¬ 9223372036854775807 < 1 + X.size := by omega
                  have g4'' : ¬ 9223372036854775807 < O2.size + 1 + (1 + X.size) := by omega
                  clear hcf hX
                  go_wp2_with fail
                  refine (HA.out _).mono ?_
                  rintro _ w5 ⟨rfl, hb5⟩
                  have HB5 := Lib.hid (HB3.out.trans (hb5.mono hbs3))
                  clear hb5 y0 y1 y2 y3 y4 y5 y6 y7 y8
                  go_wp2
                  go_roundg gm
                  case measure => omega
                  case rel => exact ⟨m + 1, O2 ++ ⟨#[32]⟩ ++ X, rfl, congrArg Value.bool HOP.out.symm, by go_num, by omega, by omega, HB5.out, in_next HCF.out (by rw [HXD.out]; rfl) HO2.out, by simp only [ByteArray.size_append]; rw [show (⟨#[32]⟩ : ByteArray).size = 1 from rfl, hO1l]; omega⟩
                · have HCF := Lib.hid hcf
                  have HOP := Lib.hid (in_open hcf (by decide))
                  obtain ⟨X, hX⟩ : ∃ X : ByteArray, (⟨(argT h.b).toArray⟩ : ByteArray) = X := ⟨_, rfl⟩
                  have hXs : X.size = (argT h.b).length := by rw [← hX]; exact List.size_toArray ..
                  have HXD := Lib.hid (show X.data.toList = argT h.b by rw [← hX])
                  rw [hX] at HAB
                  have g4 : ¬ 9223372036854775807 < O2.size + 1 + X.size := by omega
                  have g4' : ¬ 9223372036854775807 < 1 + X.size := by omega
                  have g4'' : ¬ 9223372036854775807 < O2.size + 1 + (1 + X.size) := by omega
                  clear hcf hX
                  go_wp2_with fail
                  refine (HAB.out _).mono ?_
                  rintro _ w5 ⟨rfl, hb5⟩
                  have HB5 := Lib.hid (HB3.out.trans (hb5.mono hbs3))
                  clear hb5 y0 y1 y2 y3 y4 y5 y6 y7 y8
                  go_wp2
                  go_roundg gm
                  case measure => omega
                  case rel => exact ⟨m + 1, O2 ++ ⟨#[32]⟩ ++ X, rfl, congrArg Value.bool HOP.out.symm, by go_num, by omega, by omega, HB5.out, in_next HCF.out (by rw [HXD.out]; rfl) HO2.out, by simp only [ByteArray.size_append]; rw [show (⟨#[32]⟩ : ByteArray).size = 1 from rfl, hO1l]; omega⟩
                · have HCF := Lib.hid hcf
                  have HOP := Lib.hid (in_open hcf (by decide))
                  obtain ⟨X, hX⟩ : ∃ X : ByteArray, (⟨(argT h.a).toArray⟩ : ByteArray) = X := ⟨_, rfl⟩
                  have hXs : X.size = (argT h.a).length := by rw [← hX]; exact List.size_toArray ..
                  have HXD := Lib.hid (show X.data.toList = argT h.a by rw [← hX])
                  rw [hX] at HA
                  have g4 : ¬ 9223372036854775807 < O2.size + 1 + X.size := by omega
                  have g4' : ¬ 9223372036854775807 < 1 + X.size := by omega
                  have g4'' : ¬ 9223372036854775807 < O2.size + 1 + (1 + X.size) := by omega
                  clear hcf hX
                  go_wp2_with fail
                  refine (HA.out _).mono ?_
                  rintro _ w5 ⟨rfl, hb5⟩
                  have HB5 := Lib.hid (HB3.out.trans (hb5.mono hbs3))
                  clear hb5 y0 y1 y2 y3 y4 y5 y6 y7 y8
                  go_wp2
                  go_roundg gm
                  case measure => omega
                  case rel => exact ⟨m + 1, O2 ++ ⟨#[32]⟩ ++ X, rfl, congrArg Value.bool HOP.out.symm, by go_num, by omega, by omega, HB5.out, in_next HCF.out (by rw [HXD.out]; rfl) HO2.out, by simp only [ByteArray.size_append]; rw [show (⟨#[32]⟩ : ByteArray).size = 1 from rfl, hO1l]; omega⟩
                · have HCF := Lib.hid hcf
                  have HOP := Lib.hid (in_open hcf (by decide))
                  obtain ⟨X, hX⟩ : ∃ X : ByteArray, (⟨(Lib.itoa h.reg).toArray⟩ : ByteArray) = X := ⟨_, rfl⟩
                  have hXs : X.size = (Lib.itoa h.reg).length := by rw [← hX]; exact List.size_toArray ..
                  have HXD := Lib.hid (show X.data.toList = Lib.itoa h.reg by rw [← hX])
                  rw [hX] at HRG
                  have g4 : ¬ 9223372036854775807 < O2.size + 1 + X.size := by omega
                  have g4' : ¬ 9223372036854775807 < 1 + X.size := by omega
                  have g4'' : ¬ 9223372036854775807 < O2.size + 1 + (1 + X.size) := by omega
                  clear hcf hX
                  go_wp2_with fail
                  refine (HRG.out _).mono ?_
                  rintro _ w5 ⟨rfl, hb5⟩
                  have HB5 := Lib.hid (HB3.out.trans (hb5.mono hbs3))
                  clear hb5 y0 y1 y2 y3 y4 y5 y6 y7 y8
                  go_wp2
                  go_roundg gm
                  case measure => omega
                  case rel => exact ⟨m + 1, O2 ++ ⟨#[32]⟩ ++ (⟨#[114]⟩ ++ X), rfl, congrArg Value.bool HOP.out.symm, by go_num, by omega, by omega, HB5.out, in_next HCF.out (by rw [ByteArray.data_append, Array.toList_append, HXD.out]; rfl) HO2.out, by simp only [ByteArray.size_append]; rw [show (⟨#[32]⟩ : ByteArray).size = 1 from rfl, show (⟨#[114]⟩ : ByteArray).size = 1 from rfl, hO1l]; omega⟩
                · have HCF := Lib.hid hcf
                  have HOP := Lib.hid (show opn h (m + 1) = true by unfold opn; rw [List.take_add_one, hcf]; simp)
                  have g4 : ¬ 9223372036854775807 < O2.size + 1 + 1 := by omega
                  clear hcf
                  go_wp2
                  go_roundg gm
                  case measure => omega
                  case rel => exact ⟨m + 1, O2 ++ ⟨#[32]⟩ ++ ⟨#[123]⟩, rfl, congrArg Value.bool HOP.out.symm, by go_num, by omega, by omega, HB3.out, in_next HCF.out rfl HO2.out, by simp only [ByteArray.size_append]; rw [show (⟨#[32]⟩ : ByteArray).size = 1 from rfl, show (⟨#[123]⟩ : ByteArray).size = 1 from rfl, hO1l]; omega⟩
              · obtain rfl : m = (form h.kind).length := by omega
                have HO2 := Lib.hid (show O2.data.toList = O.data.toList ++ (ah.data.toList ++ lineT h) by
                  rw [hO2, List.take_length, HO1.out, line_flat]
                  simp)
                have HOPN := Lib.hid (show opn h (form h.kind).length = opens h.kind by unfold opn; rw [List.take_length, form_open q2])
                have g2 : decide (((form h.kind).length : Int) < (F.size : Int)) = false := decide_eq_false (by omega)
                have g2' : ¬ ((form h.kind).length : Int) < (F.size : Int) := by omega
                have g3 : ¬ 9223372036854775807 < O2.size + 1 := by omega
                have HCr := Lib.hid (HCe.out.below hb3)
                have HBr := Lib.hid (HBe.out.trans (hb3.mono HBe.out.size))
                have HO9 := HO.out
                have hlS : (tellS (.mk h b e) ah.data.toList).length ≤ 1000000 := by
                  have h1 := congrArg List.length HO9
                  rw [HTD.out, List.length_append, List.length_append] at h1
                  omega
                clear hb3 hO2
                rw [HOPN.out]
                cases hop : opens h.kind with
                | false =>
                  have HTS := Lib.hid (tellS_shut (b := b) (e := e) (ah := ah.data.toList) hop)
                  go_wp2
                  go_roundg gk'
                  case measure => omega
                  case rel => exact ⟨k + 1, O2 ++ ⟨#[10]⟩, rfl, by go_num, hlt, by omega, HB.out.trans (HBr.out.mono hbs), by
                    rw [HTD.out] at HO9
                    rw [← HO9, HTS.out]
                    simp only [ByteArray.data_append, Array.toList_append, HO2.out]
                    simp⟩
                | true =>
                  have HTS := Lib.hid (tellS_open (b := b) (e := e) (ah := ah.data.toList) hop)
                  obtain ⟨⟨y0, y1, y2, y3, y4, y5, y6, y7, y8⟩, -⟩ := nine_cells HCr.out
                  have hxr : bx < wr.heap.size := HCr.out.lt
                  have hah2 : (ah ++ ⟨#[32, 32]⟩ : ByteArray).size = ah.size + 2 := by
                    rw [ByteArray.size_append]
                    rfl
                  have hahd2 : (ah ++ ⟨#[32, 32]⟩ : ByteArray).data.toList = ah.data.toList ++ [32, 32] := by rw [ByteArray.data_append, Array.toList_append]
                  have hlb : (tellL b (ah.data.toList ++ [32, 32])).length ≤ 1000000 := by
                    have := hlS
                    rw [HTS.out] at this
                    simp only [List.length_append] at this
                    omega
                  obtain ⟨TB, hTB⟩ : ∃ TB : ByteArray, (⟨(tellL b (ah.data.toList ++ [32, 32])).toArray⟩ : ByteArray) = TB := ⟨_, rfl⟩
                  have HTB := Lib.hid (show TB.data.toList = tellL b (ah.data.toList ++ [32, 32]) by rw [← hTB])
                  have hTBs : TB.size ≤ 1000000 := by
                    have : TB.size = (tellL b (ah.data.toList ++ [32, 32])).length := by rw [← hTB]; exact List.size_toArray ..
                    omega
                  have HCB := IH.out b (.slice bp b.length bc) (ah ++ ⟨#[32, 32]⟩) wr (by omega) HGB.out (HBB.out.below HBr.out (Nat.le_trans hB hbs)) (Nat.le_trans (Nat.le_trans hB hbs) HBr.out.size) (by rw [hahd2]; exact hlb) (by omega)
                  rw [hahd2, hTB] at HCB
                  have HCB := Lib.hid HCB
                  have g4 : ¬ 9223372036854775807 < ah.size + 2 := by omega
                  have g5 : ¬ 9223372036854775807 < O2.size + 1 + TB.size := by omega
                  clear hTB
                  go_wp2_with fail
                  refine HCB.out.mono ?_
                  rintro _ w5 ⟨rfl, hb5⟩
                  have HBf := Lib.hid (HBr.out.trans (hb5.mono HBr.out.size))
                  have HCf := Lib.hid (HCr.out.below hb5)
                  clear hb5 y0 y1 y2 y3 y4 y5 y6 y7 y8 HCB
                  obtain ⟨⟨y0, y1, y2, y3, y4, y5, y6, y7, y8⟩, -⟩ := nine_cells HCf.out
                  have hxf : bx < w5.heap.size := HCf.out.lt
                  by_cases he0 : e.length = 0
                  · have g6 : decide ((0 : Int) < (e.length : Int)) = false := decide_eq_false (by omega)
                    have g6' : ¬ (0 : Int) < (e.length : Int) := by omega
                    have g7 : ¬ 9223372036854775807 < O2.size + 1 + TB.size + ah.size := by omega
                    have g8 : ¬ 9223372036854775807 < O2.size + 1 + TB.size + ah.size + 2 := by omega
                    have HE0 := Lib.hid (show e.isEmpty = true by
                      cases e with
                      | nil => rfl
                      | cons a r => simp at he0)
                    clear he0
                    go_wp2
                    go_roundg gk'
                    case measure => omega
                    case rel => exact ⟨k + 1, O2 ++ ⟨#[10]⟩ ++ TB ++ ah ++ ⟨#[125, 10]⟩, rfl, by go_num, hlt, by omega, HB.out.trans (HBf.out.mono hbs), by
                      rw [HTD.out] at HO9
                      rw [← HO9, HTS.out, HE0.out]
                      simp only [ByteArray.data_append, Array.toList_append, HO2.out, HTB.out]
                      simp⟩
                  · have g6 : decide ((0 : Int) < (e.length : Int)) = true := decide_eq_true (by omega)
                    have g6' : (0 : Int) < (e.length : Int) := by omega
                    have HE0 := Lib.hid (show e.isEmpty = false by
                      cases e with
                      | nil => simp at he0
                      | cons a r => rfl)
                    have hle : (tellL e (ah.data.toList ++ [32, 32])).length ≤ 1000000 := by
                      have := hlS
                      rw [HTS.out, HE0.out, if_neg (by decide)] at this
                      simp only [List.length_append] at this
                      omega
                    obtain ⟨TE, hTE⟩ : ∃ TE : ByteArray, (⟨(tellL e (ah.data.toList ++ [32, 32])).toArray⟩ : ByteArray) = TE := ⟨_, rfl⟩
                    have HTE := Lib.hid (show TE.data.toList = tellL e (ah.data.toList ++ [32, 32]) by rw [← hTE])
                    have hTEs : TE.size ≤ 1000000 := by
                      have : TE.size = (tellL e (ah.data.toList ++ [32, 32])).length := by rw [← hTE]; exact List.size_toArray ..
                      omega
                    have HCE := IH.out e (.slice ep e.length ec) (ah ++ ⟨#[32, 32]⟩) w5 (by omega) HGE.out (HEE.out.below HBf.out (Nat.le_trans hB hbs)) (Nat.le_trans (Nat.le_trans hB hbs) HBf.out.size) (by rw [hahd2]; exact hle) (by omega)
                    rw [hahd2, hTE] at HCE
                    have HCE := Lib.hid HCE
                    have g7 : ¬ 9223372036854775807 < O2.size + 1 + TB.size + ah.size := by omega
                    have g8 : ¬ 9223372036854775807 < O2.size + 1 + TB.size + ah.size + 9 := by omega
                    have g9 : ¬ 9223372036854775807 < O2.size + 1 + TB.size + ah.size + 9 + TE.size := by omega
                    have g10 : ¬ 9223372036854775807 < O2.size + 1 + TB.size + ah.size + 9 + TE.size + ah.size := by omega
                    have g11 : ¬ 9223372036854775807 < O2.size + 1 + TB.size + ah.size + 9 + TE.size + ah.size + 2 := by omega
                    clear hTE
                    go_wp2_with fail
                    refine HCE.out.mono ?_
                    rintro _ w6 ⟨rfl, hb6⟩
                    have HBg := Lib.hid (HBf.out.trans (hb6.mono HBf.out.size))
                    clear hb6 y0 y1 y2 y3 y4 y5 y6 y7 y8 HCE
                    go_wp2
                    go_roundg gk'
                    case measure => omega
                    case rel =>
                      refine ⟨k + 1, _, rfl, by go_num, hlt, by omega, HB.out.trans (HBg.out.mono hbs), ?_⟩
                      rw [HTD.out] at HO9
                      rw [← HO9, HTS.out, HE0.out, if_neg Bool.false_ne_true, else_list, HO2.out, HTB.out, HTE.out]
                      simp only [List.append_assoc, List.cons_append, List.nil_append]
      · obtain rfl : k = l.length := by omega
        have g1 : decide ((l.length : Int) < (l.length : Int)) = false := decide_eq_false (by omega)
        have HR := Lib.hid (show O = ⟨(tellL l ah.data.toList).toArray⟩ from ba_list (by
          rw [← hO, List.drop_eq_nil_of_le (Nat.le_refl _)]
          unfold tellL
          simp))
        clear hb hO HO
        go_wp2
        go_ret
        exact ⟨by rw [← HR.out]; rfl, HB.out⟩
theorem linesD_all (B : Nat) : ∀ N, LinesAt B N
  | 0 => fun l _ _ _ hN => absurd hN (by omega)
  | N + 1 => linesD_step (linesD_all B N)
end Go.Proofs.YtikgbgminhgpdaaGreatDoor
