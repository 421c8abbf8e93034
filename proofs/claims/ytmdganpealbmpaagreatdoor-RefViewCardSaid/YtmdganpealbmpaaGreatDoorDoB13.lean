/- Layer 13's laws: the document's Do. -/
import Derived.Test.YtmdganpealbmpaaGreatDoorDo13
import Derived.Maps.AppendAt
namespace Go.Proofs.YtmdganpealbmpaaGreatDoor
open Go.RowKit Bl Th
set_option maxRecDepth 10000

/-- The cells as a function. -/
def listFn (l : List Nat) : Nat → Nat := fun i => l.getD i 0
theorem upd_listFn {l : List Nat} {k x : Nat} (hk : k < l.length) : Th.upd (listFn l) k x = listFn (l.set k x) := by
  funext i
  unfold Th.upd listFn
  by_cases e : i = k
  · rw [if_pos e, e, Th.getD_set_same hk]
  · rw [if_neg e, Th.getD_set_ne e]
theorem encT_set (l : List Nat) (k x : Nat) : (encT l).set k (.int .u64 (x : Int)) = encT (l.set k x) := by
  simp [encT, List.map_set]
/-- What holds at each operation's head. -/
def DoJ (w : World) (l : List Op13) (now : List Nat) (len n : Nat) (nv : Value) (tv av i : Value) (wr : World) : Prop :=
  ∃ (k acc : Nat) (tl nl : List Nat), k ≤ len ∧ i = .int .i64 (k : Int) ∧ av = .int .u64 (acc : Int) ∧ tl.length ≤ k ∧ wr.ownsRow w.heap.size 41 1 tv tl.length (encT tl) ∧ wr.ownsRow w.heap.size 41 1 nv n (encT nl) ∧ nl.length = n ∧ (∀ b, tv.ownBlock = some b → nv.ownBlock ≠ some b) ∧ Below w.heap.size w wr ∧
    doOps n l 0 (listFn now) [] = doOps n (l.drop k) acc (listFn nl) tl
set_option maxHeartbeats 4000000 in
theorem do13_ok {W w : World} {p : Option Addr} {cap b0 : Nat} {Q : List Nat} {l : List Op13} {cv : Value} {now : List Nat} (h : OpsIn W w (.slice p l.length cap) Q l) (hb : Below W.heap.size W w) (hQ : ∀ b ∈ Q, b < w.heap.size) (hc : w.ownsRow b0 41 1 cv now.length (encT now)) (hn1 : 1 ≤ now.length) (hn4 : now.length ≤ 100) :
    Calls Tryz.prog 14 #[.slice p l.length cap, cv] w fun e w' => ∃ (v1 v2 : Value) (next : List Nat), e = .returned (.tuple #[v1, v2]) ∧ w'.ownsRow w.heap.size 41 1 v1 (doOps now.length l 0 (listFn now) []).1.length (encT (doOps now.length l 0 (listFn now) []).1) ∧ w'.ownsRow w.heap.size 41 1 v2 now.length (encT next) ∧ next.length = now.length ∧ (doOps now.length l 0 (listFn now) []).2 = listFn next ∧ Below w.heap.size w w' := by
  obtain ⟨i0, hi0, hz0, hz1, hz2⟩ := info_parts u64info
  obtain ⟨len, hlen⟩ : ∃ len, l.length = len := ⟨_, rfl⟩
  obtain ⟨n, hn⟩ : ∃ n, now.length = n := ⟨_, rfl⟩
  have hfew : len ≤ 1000 := by rw [← hlen]; exact h.few
  rw [hlen] at h ⊢
  rw [hn] at hc hn1 hn4 ⊢
  obtain ⟨pc, cc, rfl⟩ := ownsRow_shape hc
  have H := Lib.hid h; have HB := Lib.hid hb; have HQ := Lib.hid hQ
  have HLEN := Lib.hid hlen; have HN := Lib.hid hn
  obtain ⟨gc, rfl⟩ : ∃ gc, pc = some ⟨gc, 0, none⟩ := by
    rcases hc.2 with ⟨-, q⟩ | ⟨g, c, cur, hv, -, -⟩
    · omega
    · simp only [Value.slice.injEq] at hv
      exact ⟨g, hv.1⟩
  have HNEWS := Lib.hid (show ∀ j u, (encT now)[j]? = some u → (w.alloc (.cells #[] 41)).cell? ((⟨gc, 0, none⟩ : Addr).add j) = some u from (hc.alloc _).cells (g := gc) rfl)
  have HEL := Lib.hid (show (encT now).length = n * 1 by simp [encT, hn])
  have HONE := Lib.hid (show ∀ u ∈ encT now, u.oneCell' = true by
    intro u hu
    obtain ⟨x, _, rfl⟩ := List.mem_map.1 hu
    rfl)
  have HOW := Lib.hid (show (w.alloc (.cells #[] 41)).ownsRow w.heap.size 41 1 (.slice (some ⟨w.heap.size, 0, none⟩) 0 0) 0 [] from ⟨rfl, .inr ⟨w.heap.size, 0, #[], rfl, Nat.le_refl _, heap_alloc_new w _, Nat.le_refl _, Nat.zero_le _, rfl, rfl⟩⟩)
  have HB1 := Lib.hid ((Below.refl w.heap.size w).alloc (Nat.le_refl _) (.cells #[] 41))
  have HN1 := Lib.hid hn1; have HN4 := Lib.hid hn4
  clear h hb hQ hc hlen hn
  go_enter Tryz.func14, Tryz.ntmps14
  go_wp2_with (first
    | (at_builtin; refine wpList_append_own _ rfl _ _ 31 rfl w.heap.size 41 i0 (.int .u64 0) 1 8 Tryz.underlying31 hi0 hz0 hz1 hz2 rfl (by omega) (.slice (some ⟨w.heap.size, 0, none⟩) 0 0) 0 [] rfl HOW.out ⟨gc, 0, none⟩ n cc (encT now) rfl HEL.out HNEWS.out HONE.out (by unfold maxLen; omega) (by omega) (by simp) ?_; intro nv w1 hown1 hgrow1 hnil1; have hB1 := HB1.out.grown hgrow1 (by simp) (by intro b hb; simp [Value.ownBlock] at hb; omega))
    | go_in)
  rw [Nat.zero_add, List.nil_append] at hown1
  obtain ⟨pn, cn, rfl⟩ := ownsRow_shape hown1
  obtain ⟨gn, rfl⟩ : ∃ gn, pn = some ⟨gn, 0, none⟩ := by
    rcases hown1.2 with ⟨-, q⟩ | ⟨g, c, cur, hv, -, -⟩
    · omega
    · simp only [Value.slice.injEq] at hv
      exact ⟨g, hv.1⟩
  have HO1 := Lib.hid hown1; have HB2 := Lib.hid hB1
  clear hown1 hB1 hgrow1 hnil1 HNEWS HOW HB1 HEL HONE
  go_loopw [7, 8, 9] (DoJ w l now len n (.slice (some ⟨gn, 0, none⟩) n cn)) (fun _ _ i _ => len - (intOf i).toNat)
  case atStart => exact ⟨0, 0, [], now, Nat.zero_le _, rfl, rfl, Nat.zero_le _, World.ownsRow_nil _ _ _ _, HO1.out, HN.out, by intro b hb; simp [Value.ownBlock] at hb, HB2.out, rfl⟩
  case round =>
    clear HO1 HB2
    obtain ⟨k, acc, tl, nl, hk, rfl, rfl, htl, ho, hn, hnl, hap, hb, hx⟩ := hrel
    obtain ⟨pt, ct, rfl⟩ := ownsRow_shape ho
    by_cases hlt : k < len
    · have hlt' : (k : Int) < (len : Int) := by omega
      have hlen' : k < l.length := by rw [HLEN.out]; exact hlt
      obtain ⟨o, hxk⟩ : ∃ o, l[k]? = some o := ⟨l[k], List.getElem?_eq_getElem hlen'⟩
      have hdrop : l.drop k = o :: l.drop (k + 1) := by
        rw [List.drop_eq_getElem_cons hlen']
        rw [List.getElem?_eq_getElem hlen'] at hxk
        rw [Option.some.inj hxk]
      have hKB := fun (w' : World) (hb' : Below w.heap.size w w') => (H.out.heldBy (HeldBy.of_below hb' HQ.out) (fun b h => h)).at (HB.out.trans (hb'.mono HB.out.size)) hxk
      have hof := H.out.fit o (List.mem_of_getElem? hxk)
      obtain ⟨go, oo, hpe, o0, o1, o2⟩ := hKB wr hb
      subst hpe
      obtain ⟨kd, oa, ox⟩ := o
      simp only at o0 o1 o2 hof hKB
      have HKEEP := Lib.hid (show ∀ w', Below w.heap.size w w' → w'.cell? ⟨go, oo + k * 3, none⟩ = some (.int .i64 kd) from fun w' hb' => by
        obtain ⟨go', oo', he', a0, -, -⟩ := hKB w' hb'
        obtain ⟨rfl, rfl⟩ : go = go' ∧ oo = oo' := by simpa using he'
        exact a0)
      have hia : (oa % (n : Int)).toNat < n := by
        have h1 := Int.emod_lt_of_pos oa (b := (n : Int)) (by have := HN1.out; omega)
        have h2 := Int.emod_nonneg oa (b := (n : Int)) (by have := HN1.out; omega)
        omega
      obtain ⟨x, hx0⟩ : ∃ x, nl[(oa % (n : Int)).toNat]? = some x := ⟨_, List.getElem?_eq_getElem (by rw [hnl]; exact hia)⟩
      have hfx : listFn nl (oa % (n : Int)).toNat = x := by simp [listFn, List.getD_eq_getElem?_getD, hx0]
      obtain ⟨gn', hgn', qn⟩ := row_at hn hx0
      obtain rfl : gn = gn' := by simpa using hgn'
      have fn := hn.frozenAt (oa % (n : Int)).toNat
      have HCELL := Lib.hid (cell13_ok oa n HN1.out HN4.out)
      rw [hdrop] at hx
      obtain ⟨ia, hie⟩ : ∃ ia, (oa % (n : Int)).toNat = ia := ⟨_, rfl⟩
      have HIE := Lib.hid hie
      rw [hie] at hia hx0 hfx qn fn HCELL
      have hii : (ia : Int) < (n : Int) := by omega
      have HX := Lib.hid hx; have HO := Lib.hid ho; have HNR := Lib.hid hn; have HNL := Lib.hid hnl; have HAP := Lib.hid hap; have HBW := Lib.hid hb; have HFX := Lib.hid hfx
      obtain ⟨tln, htn⟩ : ∃ tln, tl.length = tln := ⟨_, rfl⟩
      have HTN := Lib.hid htn
      rw [htn] at htl HO HAP ⊢
      have htl' : tln ≤ 1000 := by omega
      clear hx hxk hdrop hlen' hKB ho hn hnl hap hb hfx hie hx0 hgn' htn
      by_cases hk1 : kd = 1
      · subst hk1
        have gs := wrap_sum acc x
        have HS := Lib.hid (show w.heap.size ≤ (wr.alloc (.cells #[.int .u64 (x : Int)] 41)).heap.size by have := HBW.out.size; simp; omega)
        have HX2 := Lib.hid (show doOps n l 0 (listFn now) [] = doOps n (l.drop (k + 1)) ((acc + x) % 18446744073709551616) (listFn nl) (tl ++ [x]) by rw [HX.out, doOps, if_pos rfl, HIE.out, HFX.out])
        obtain ⟨na, hna⟩ : ∃ na, (acc + x) % 18446744073709551616 = na := ⟨_, rfl⟩
        rw [hna] at gs HX2
        clear hna HX
        go_wp2_with (first
          | (go_at_call 36; refine (HCELL.out _).mono ?_; rintro e w' ⟨rfl, rfl⟩)
          | (at_builtin; refine wpList_append_own_at _ rfl _ _ 31 rfl w.heap.size 41 i0 (.int .u64 0) 1 8 Tryz.underlying31 hi0 hz0 hz1 hz2 rfl (by omega) (.slice pt tln ct) tln (encT tl) rfl (HO.out.alloc _) ⟨wr.heap.size, 0, none⟩ 1 1 [.int .u64 (x : Int)] rfl rfl (cells_news wr [.int .u64 (x : Int)] _) (by intro u hu; simp at hu; subst hu; rfl) (by unfold maxLen; omega) (by omega) HS.out ?_; intro v2 w5 hown5 hgrow5 hnil5 hat5; have hB5 := (HBW.out.alloc HBW.out.size (.cells #[.int .u64 (x : Int)] 41)).grown hgrow5 HS.out (fun b hb => (HO.out.lt b hb).1); have o0 := HKEEP.out w5 hB5)
          | go_in)
        have HN5 := Lib.hid ((HNR.out.alloc (.cells #[.int .u64 (x : Int)] 41)).kept hgrow5 (.inr fun e => by
          cases ht : (Value.slice pt tln ct).ownBlock with
          | none => rw [ht] at e; cases e
          | some b => exact HAP.out b ht (by rw [e, ht])))
        have HA5 := Lib.hid (show ∀ b, v2.ownBlock = some b → (Value.slice (some ⟨gn, 0, none⟩) n cn).ownBlock ≠ some b from fun b hb e => by
          rcases hat5 with q | q
          · exact HAP.out b (by rw [← q]; exact hb) e
          · have h1 := (HNR.out.lt b e).2
            rw [q] at hb
            simp at hb
            omega)
        have HO5 := Lib.hid hown5; have HB5 := Lib.hid hB5
        clear hown5 hgrow5 hnil5 hat5 hB5
        go_roundw
        case rel => exact ⟨k + 1, na, tl ++ [x], nl, by omega, by go_num, rfl, by rw [List.length_append, HTN.out]; simp; omega, by rw [List.length_append, HTN.out]; have := HO5.out; simpa [encT] using this, HN5.out, HNL.out, HA5.out, HB5.out, HX2.out⟩
        case measure => simp [intOf]; omega
      · have g1 : (kd == 1) = false := by simpa using hk1
        by_cases hk2 : kd = 2
        · subst hk2
          have gs := wrap_sum acc ox
          have HX2 := Lib.hid (show doOps n l 0 (listFn now) [] = doOps n (l.drop (k + 1)) acc (listFn (nl.set ia ((acc + ox) % 18446744073709551616))) tl by rw [HX.out, doOps, if_neg (by simp), if_pos rfl, HIE.out, upd_listFn (by rw [HNL.out]; exact hia)])
          obtain ⟨na, hna⟩ : ∃ na, (acc + ox) % 18446744073709551616 = na := ⟨_, rfl⟩
          rw [hna] at gs HX2
          clear hna HX
          obtain ⟨hst, hgr⟩ := HNR.out.stored ia (.int .u64 (na : Int))
          rw [encT_set] at hst
          have hgl := HNR.out.lt gn rfl
          have HO5 := Lib.hid (HO.out.kept hgr (by
            cases ht : (Value.slice pt tln ct).ownBlock with
            | none => exact .inl rfl
            | some b => exact .inr fun e => HAP.out b ht e.symm))
          have HB5 := Lib.hid (show Below w.heap.size w (wr.setCell ⟨gn, ia, none⟩ (.int .u64 (na : Int))) from HBW.out.grown hgr HBW.out.size (fun b hb => by simp only [Option.some.injEq] at hb; subst hb; exact hgl.1))
          have HST := Lib.hid hst
          clear hst hgr hgl
          go_wp2_with (first
            | (go_at_call 36; refine (HCELL.out _).mono ?_; rintro e w' ⟨rfl, rfl⟩)
            | go_in)
          go_roundw
          case rel => exact ⟨k + 1, acc, tl, nl.set ia na, by omega, by go_num, rfl, by rw [HTN.out]; omega, by rw [HTN.out]; exact HO5.out, HST.out, by rw [List.length_set]; exact HNL.out, HAP.out, HB5.out, HX2.out⟩
          case measure => simp [intOf]; omega
        · have g2 : (kd == 2) = false := by simpa using hk2
          have HX2 := Lib.hid (show doOps n l 0 (listFn now) [] = doOps n (l.drop (k + 1)) acc (listFn nl) tl by rw [HX.out, doOps, if_neg hk1, if_neg hk2])
          clear HX
          go_wp2_with (first
            | (go_at_call 36; refine (HCELL.out _).mono ?_; rintro e w' ⟨rfl, rfl⟩)
            | go_in)
          go_roundw
          case rel => exact ⟨k + 1, acc, tl, nl, by omega, by go_num, rfl, by rw [HTN.out]; omega, by rw [HTN.out]; exact HO.out, HNR.out, HNL.out, HAP.out, HBW.out, HX2.out⟩
          case measure => simp [intOf]; omega
    · obtain rfl : k = len := by omega
      have g3 : decide ((k : Int) < (k : Int)) = false := by simp
      have hdr : l.drop k = [] := by rw [← HLEN.out, List.drop_length]
      rw [hdr] at hx
      have HX := Lib.hid (show doOps n l 0 (listFn now) [] = (tl, listFn nl) from hx)
      have HO := Lib.hid ho; have HNR := Lib.hid hn; have HNL := Lib.hid hnl; have HBW := Lib.hid hb
      obtain ⟨tln, htn⟩ : ∃ tln, tl.length = tln := ⟨_, rfl⟩
      have HTN := Lib.hid htn
      rw [htn] at HO ⊢
      clear hdr hx ho hn hnl hap hb htl htn
      go_wp2
      go_ret2
      refine ⟨_, _, nl, rfl, ?_, HNR.out, HNL.out, ?_, HBW.out⟩
      · rw [HX.out, HTN.out]
        exact HO.out
      · rw [HX.out]
end Go.Proofs.YtmdganpealbmpaaGreatDoor
