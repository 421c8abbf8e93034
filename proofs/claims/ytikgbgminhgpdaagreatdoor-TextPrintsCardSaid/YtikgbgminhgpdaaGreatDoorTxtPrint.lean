/- Layers 9, 10: Right, tell's line, tell, Print. -/
import Derived.Test.YtikgbgminhgpdaaGreatDoorTxtWalk2
import Derived.Test.YtikgbgminhgpdaaGreatDoorTxtTellW
import Derived.Test.YtikgbgminhgpdaaGreatDoorTxtBuild
namespace Go.Proofs.YtikgbgminhgpdaaGreatDoor
open Go.RowKit Tx
set_option maxRecDepth 10000

/-- What Right answers, where all of eight collections are ordered. -/
def RightPost (l : List St) (w : World) (e : Ending) (w' : World) : Prop :=
  Below w.heap.size w w' ∧ match walkL l 1 0 with
    | .ok _ => e = .returned .nilIface
    | .error x => ∃ v, e = .returned v ∧ Flt w.heap.size w' v (x.2 : Int) x.1
set_option maxHeartbeats 2000000 in
theorem Right_ok {l : List St} {v : Value} {B : Nat} {w : World} (hl : SlR B w l v) (hB : B ≤ w.heap.size) {kb cap : Nat} (hk : KindsAt w kb) :
    Calls Tryz.prog 18 #[v, .slice (some ⟨kb, 0, none⟩) 8 cap] w (RightPost l w) := by
  obtain ⟨pt, cp, rfl⟩ := hl.shape
  have HL := Lib.hid hl; have HK := Lib.hid hk
  clear hl hk
  go_enter Tryz.func18, Tryz.ntmps18
  go_wp2_with fail
  obtain ⟨W, hW⟩ : ∃ W, ((w.alloc (.cells #[.slice (some ⟨kb, 0, none⟩) 8 cap] 57)).alloc (.cells #[.nilIface] 26)).alloc (.cells #[.int .i64 0, .func (.func 29) #[] #[.pointer (some ⟨w.heap.size + 1, 0, none⟩), .pointer (some ⟨w.heap.size, 0, none⟩)]] 76) = W := ⟨_, rfl⟩
  rw [hW]
  have c1 := Cells.new w [.slice (some ⟨kb, 0, none⟩) 8 cap] 57
  have c2 := Cells.new (w.alloc (.cells #[.slice (some ⟨kb, 0, none⟩) 8 cap] 57)) [.nilIface] 26
  have c3 := Cells.new ((w.alloc (.cells #[.slice (some ⟨kb, 0, none⟩) 8 cap] 57)).alloc (.cells #[.nilIface] 26)) [.int .i64 0, .func (.func 29) #[] #[.pointer (some ⟨w.heap.size + 1, 0, none⟩), .pointer (some ⟨w.heap.size, 0, none⟩)]] 76
  simp only [World.size_alloc] at c2 c3
  have hB1 : Below w.heap.size w W := by rw [← hW]; exact (((Below.refl _ w).alloc (Nat.le_refl _) _).alloc (by simp) _).alloc (by simp; omega) _
  have hKK : KindsAt W kb := HK.out.below hB1
  have hlt := HK.out.1
  have hWA : WalkAt W (w.heap.size + 1 + 1) (w.heap.size + 1) w.heap.size kb cap 0 :=
    ⟨by rw [← hW]; exact c3.cast (by rfl), by rw [← hW]; exact c2.alloc _, by rw [← hW]; exact (c1.alloc _).alloc _, hKK, by omega, by omega, by omega, by omega, by omega⟩
  have HWALK := Lib.hid (walk_ok (w.heap.size + 1 + 1) (w.heap.size + 1) w.heap.size kb cap (cntL l + 1) l _ B W 1 0 (by omega) (HL.out.below hB1 hB) (by omega) (by omega) (by omega) (by omega) hWA)
  have HB1 := Lib.hid hB1
  have hWs : W.heap.size = w.heap.size + 3 := by rw [← hW]; simp
  clear c1 c2 c3 hB1 hKK hWA hW
  refine HWALK.out.mono ?_
  rintro e w2 hp
  unfold WalkPost at hp
  obtain ⟨hk2, hp⟩ := hp
  have HB2 := Lib.hid (HB1.out.trans (hk2.below (B := w.heap.size) (by omega) (fun k h1 q => by rcases q with q | q <;> omega)))
  have hs2 := hk2.size
  clear hk2 HWALK
  cases hwl : walkL l 1 0 with
  | ok m =>
    rw [hwl] at hp
    obtain ⟨rfl, hwa, -⟩ := hp
    have r0 := hwa.er.cell 0
    simp only [List.getElem?_cons_zero] at r0
    have HWL := Lib.hid hwl
    clear hwa hwl
    go_wp2
    go_ret
    unfold RightPost
    refine ⟨HB2.out, ?_⟩
    rw [HWL.out]
    rfl
  | error x =>
    rw [hwl] at hp
    obtain ⟨rfl, v, hcv, hfl⟩ := hp
    obtain ⟨fb, rfl⟩ := hfl.form
    have r0 := hcv.cell 0
    simp only [List.getElem?_cons_zero] at r0
    have HWL := Lib.hid hwl; have HFL := Lib.hid hfl
    clear hcv hfl hwl
    go_wp2
    go_ret
    unfold RightPost
    refine ⟨HB2.out, ?_⟩
    rw [HWL.out]
    exact ⟨_, rfl, HFL.out.low (by omega)⟩

/-! tell. -/
def LinePost (B b : Nat) (l : Bs) (w : World) (e : Ending) (w' : World) : Prop := (∃ v, e = .returned v) ∧ BldAt B b l w' ∧ TK B b w w'
theorem line_ok {B b bb ab : Nat} {l : Bs} {ah s : ByteArray} {w : World} (h : BldAt B b l w) (hB : B ≤ w.heap.size) (hb : Cells w bb [.pointer (some ⟨b, 0, none⟩)] 47) (ha : Cells w ab [.string ah] 9) (hlen : l.length + ah.size + s.size + 1 ≤ 1048576) :
    Calls Tryz.prog 32 #[.string s, .pointer (some ⟨bb, 0, none⟩), .pointer (some ⟨ab, 0, none⟩)] w (LinePost B b (l ++ (ah.data.toList ++ s.data.toList ++ [10])) w) := by
  have b0 := hb.cell 0; have a0 := ha.cell 0
  simp only [List.getElem?_cons_zero] at b0 a0
  have g1 : ¬ 9223372036854775807 < ah.size + s.size := by omega
  have g2 : ¬ 9223372036854775807 < ah.size + s.size + 1 := by omega
  have HW := Lib.hid (fun (w' : World) (h : BldAt B b l w') (hB : B ≤ w'.heap.size) => write_ok B b l (ah ++ s ++ ⟨#[10]⟩) w' h (by rw [ByteArray.size_append, ByteArray.size_append]; show l.length + (ah.size + s.size + 1) ≤ _; omega) hB)
  have HH := Lib.hid h
  clear h hb ha
  go_enter Tryz.func32, Tryz.ntmps32
  go_wp2_with fail
  refine (HW.out _ HH.out hB).mono ?_
  rintro e w' ⟨rfl, h1, h2, h3⟩
  have HR := Lib.hid h1; have HT := Lib.hid (TK.mk h2 h3)
  clear h1 h2 h3
  go_wp2
  go_end0
  refine ⟨⟨_, rfl⟩, ?_, HT.out⟩
  have := HR.out
  simpa [ByteArray.data_append] using this
theorem join_lines {L : List ByteArray} {B : Nat} {w : World} {v : Value} (h : StrRow B w v L) (hne : L ≠ []) (hb : (Lib.join (L.map (·.data.toList)) [32]).length ≤ 1048576) (hn : L.length ≤ 1048576) :
    Calls Tryz.prog 34 #[v, .string ⟨#[32]⟩] w fun e w' => e = .returned (.string ⟨(Lib.join (L.map (·.data.toList)) [32]).toArray⟩) ∧ Below w.heap.size w w' := by
  obtain ⟨h1, h2⟩ := h
  rcases h2 with ⟨rfl, h2⟩ | ⟨g, cp, cur, rfl, q1, q2, q3, q4, q5, q6⟩
  · exact absurd (List.eq_nil_of_length_eq_zero h2) hne
  · refine Tryz.strings_Join g 0 cp L ⟨#[32]⟩ w (fun j x hx => ?_) (lt_of_block q2) (by omega) q3 (by simpa using Nat.le_trans hb (by decide))
    have : (L.map Value.string)[j]? = some (.string x) := by rw [List.getElem?_map, hx]; rfl
    rw [← q6, List.getElem?_take] at this
    split at this
    · rw [Nat.zero_add]
      simp only [World.cell?, q2]
      simpa using this
    · cases this
/-- What tell does. -/
def TellPost (B b : Nat) (l : Bs) (w : World) (e : Ending) (w' : World) : Prop := (∃ v, e = .returned v) ∧ BldAt B b l w' ∧ TK B b w w'
theorem ef_line (args : Array Value) (w : World) : (callFunc 32 args).run Tryz.prog w = .ok (.enter 32 args) w := enters_of Tryz.func32 (by kernel_rfl) rfl args w
theorem tellL_drop {p : List St} {k : Nat} {s : St} (hk : p[k]? = some s) (ah : Bs) : tellL (p.drop k) ah = tellS s ah ++ tellL (p.drop (k + 1)) ah := by
  obtain ⟨hl, he⟩ := List.getElem?_eq_some_iff.1 hk
  rw [List.drop_eq_getElem_cons hl, he]
  conv => lhs; unfold tellL
theorem good_get : ∀ {l : List St} {k : Nat} {s : St}, goodL l = true → l[k]? = some s → goodS s = true
  | [], _, _, _, h => by simp at h
  | s0 :: l, k, s, hg, h => by
    unfold goodL at hg
    simp only [Bool.and_eq_true] at hg
    cases k with
    | zero => simp only [List.getElem?_cons_zero, Option.some.injEq] at h; rw [← h]; exact hg.1
    | succ k => exact good_get (l := l) (k := k) hg.2 (by simpa using h)
/-- What lies about while tell runs. -/
structure TL (B b bb ab : Nat) (ah : ByteArray) (w0 : World) (l : Bs) (w : World) : Prop where
  cb : Cells w bb [.pointer (some ⟨b, 0, none⟩)] 47
  ca : Cells w ab [.string ah] 9
  bl : BldAt B b l w
  tk : TK B b w0 w
  ne : bb ≠ b ∧ ab ≠ b
  sz : w0.heap.size ≤ w.heap.size
theorem TL.below {B b bb ab : Nat} {ah : ByteArray} {w0 w w' : World} {l : Bs} (h : TL B b bb ab ah w0 l w) (hB : B ≤ w0.heap.size) (k : Below w.heap.size w w') : TL B b bb ab ah w0 l w' :=
  ⟨h.cb.below k, h.ca.below k, h.bl.below k, h.tk.trans (TK.of_below k (Nat.le_trans hB h.sz)), h.ne, Nat.le_trans h.sz k.size⟩
theorem TL.wrote {B b bb ab : Nat} {ah : ByteArray} {w0 w w' : World} {l l' : Bs} (h : TL B b bb ab ah w0 l w) (hbl : BldAt B b l' w') (k : TK B b w w') : TL B b bb ab ah w0 l' w' :=
  ⟨k.cells h.cb h.ne.1 (by decide), k.cells h.ca h.ne.2 (by decide), hbl, h.tk.trans k, h.ne, Nat.le_trans h.sz k.be.size⟩
theorem Base.low {B : Nat} {w w' : World} (h : Base w) (hB : 4 < B) (k : Below B w w') : Base w' := ⟨h.pow.below hB k, Nat.lt_of_lt_of_le h.lt k.size⟩
theorem suffix_opens {k : Nat} (h : k ≤ 16) : Lib.hasSuffix (form k) [123] = opens k := by
  have : ∀ k : _root_.Fin 17, Lib.hasSuffix (form k.1) [123] = opens k.1 := by decide +kernel
  exact this ⟨k, by omega⟩
theorem join_M (M : Nat) (l : List Bs) (h : ∀ p ∈ l, p.length ≤ M) : (Lib.join l [32]).length ≤ l.length * (M + 1) := join_len M l h
def TellJ (B b : Nat) (p : List St) (l : Bs) (ah : ByteArray) (w : World) (gf : Nat) (i : Value) (wx : World) : Prop :=
  ∃ (k : Nat) (l2 : Bs), i = .int .i64 (k : Int) ∧ k ≤ p.length ∧ k ≤ l2.length ∧ p.length + 1 ≤ k + gf ∧ TL B b w.heap.size (w.heap.size + 1) ah w l2 wx ∧ l ++ tellL p ah.data.toList = l2 ++ tellL (p.drop k) ah.data.toList
set_option maxHeartbeats 4000000 in
theorem tell_ok (B b : Nat) : ∀ (N : Nat) (p : List St) (v : Value) (l : Bs) (ah : ByteArray) (w : World), cntL p < N → goodL p = true → SlR B w p v → B ≤ w.heap.size → Base w → 4 < B → BldAt B b l w → l.length + (tellL p ah.data.toList).length ≤ 1000000 → ah.size + 2 * cntL p ≤ 1000 →
    Calls Tryz.prog 19 #[.pointer (some ⟨b, 0, none⟩), v, .string ah] w (TellPost B b (l ++ tellL p ah.data.toList) w)
  | 0, p, v, l, ah, w, hN, _, _, _, _, _, _, _, _ => by omega
  | N + 1, p, v, l, ah, w, hN, hg, hp, hBw, hbase, hpw, hbl, hlen, hah => by
    have IH := Lib.hid (tell_ok B b N)
    obtain ⟨pt, cp, rfl⟩ := hp.shape
    have HP := Lib.hid hp; have HBASE := Lib.hid hbase; have HBL := Lib.hid hbl; have HG := Lib.hid hg
    have hbw := hbl.lt
    clear hp hbase hbl hg
    go_enter Tryz.func19, Tryz.ntmps19
    go_wp2
    go_loopg [12] (p.length + 1) (fun gf i wx => TellJ B b p l ah w gf i wx)
    case atStart =>
      have c0 := Cells.new w [.pointer (some ⟨b, 0, none⟩)] 47
      have c1 := Cells.new (w.alloc (.cells #[.pointer (some ⟨b, 0, none⟩)] 47)) [.string ah] 9
      rw [World.size_alloc] at c1
      have hB : Below w.heap.size w ((w.alloc (.cells #[.pointer (some ⟨b, 0, none⟩)] 47)).alloc (.cells #[.string ah] 9)) := ((Below.refl _ w).alloc (Nat.le_refl _) _).alloc (by simp) _
      exact ⟨0, l, rfl, Nat.zero_le _, Nat.zero_le _, by omega, ⟨c0.alloc _, c1, HBL.out.below hB, TK.of_below hB hBw, ⟨by omega, by omega⟩, hB.size⟩, rfl⟩
    case round =>
      obtain ⟨k, l2, rfl, hk, hkl, hfu, htl, heq⟩ := hrel
      have hl2 := congrArg List.length heq
      rw [List.length_append, List.length_append] at hl2
      have hsz := htl.sz
      by_cases hlt : k < p.length
      · obtain ⟨gk', rfl⟩ : ∃ g', gk = g' + 1 := ⟨gk - 1, by omega⟩
        obtain ⟨⟨h, b1, e1⟩, hs⟩ : ∃ s, p[k]? = some s := ⟨_, List.getElem?_eq_getElem hlt⟩
        obtain ⟨g, off, cp', z, bv, ev, hv, hgB, hgl, hz, hcell0, hb, he⟩ := HP.out.get hs
        have hgl2 := Nat.lt_of_lt_of_le hgl htl.sz
        have hcell : ∀ j x, (stL z h bv ev)[j]? = some x → wr.cell? ⟨g, off + k * 9 + j, none⟩ = some x := fun j x hx => (htl.tk.be.cell (p := ⟨g, off + k * 9 + j, none⟩) hgB).trans (hcell0 j x hx)
        clear hcell0
        simp only [Value.slice.injEq] at hv
        obtain ⟨rfl, -, rfl⟩ := hv
        obtain ⟨bp, bc, rfl⟩ := hb.shape
        obtain ⟨ep, ec, rfl⟩ := he.shape
        have hgs := good_get HG.out hs
        unfold goodS at hgs
        simp only [Bool.and_eq_true] at hgs
        obtain ⟨⟨hone, hgb⟩, hge⟩ := hgs
        have hk1 := (oneR_parts hone).1
        have hk16 := (oneR_parts hone).2.1
        obtain rfl : z = (h.kind : Int) := by omega
        have hcn := cnt_get hs
        have g1 : decide ((k : Int) < (p.length : Int)) = true := decide_eq_true (by omega)
        have g1' : (k : Int) < (p.length : Int) := by omega
        have y0 : wr.cell? ⟨g, off + k * 9, none⟩ = _ := hcell 0 _ rfl
        have y1 := hcell 1 _ rfl; have y2 := hcell 2 _ rfl; have y3 := hcell 3 _ rfl; have y4 := hcell 4 _ rfl; have y5 := hcell 5 _ rfl; have y6 := hcell 6 _ rfl; have y7 := hcell 7 _ rfl; have y8 := hcell 8 _ rfl
        have HTL := Lib.hid htl; have HB := Lib.hid hb; have HE := Lib.hid he; have HONE := Lib.hid hone; have HGB := Lib.hid hgb; have HGE := Lib.hid hge
        have HDROP := Lib.hid (tellL_drop hs ah.data.toList); have HEQ := Lib.hid heq
        have hwr : IntKind.i64.wrap ((k : Int) + 1) = (k : Int) + 1 := IntWalk.i64_in _ (by omega)
        have HSUF := Lib.hid (fun w : World => show Calls Tryz.prog 36 #[.string ⟨(form h.kind).toArray⟩, .string ⟨#[123]⟩] w fun e w' => e = .returned (.bool (opens h.kind)) ∧ w = w' from by
          have := Tryz.strings_HasSuffix ⟨(form h.kind).toArray⟩ ⟨#[123]⟩ w (by have := form_len hk16; show (form h.kind).toArray.size ≤ _; simp; omega)
          rw [show Lib.hasSuffix (⟨(form h.kind).toArray⟩ : ByteArray).data.toList (⟨#[123]⟩ : ByteArray).data.toList = opens h.kind from suffix_opens hk16] at this
          exact this.mono fun e w' q => ⟨q.1, q.2.symm⟩)
        have hTS : tellS (.mk h b1 e1) ah.data.toList = ah.data.toList ++ lineT h ++ [10] ++ if opens h.kind = false then [] else
            tellL b1 (ah.data.toList ++ [32, 32]) ++ (if e1.isEmpty then [] else ah.data.toList ++ elseT ++ [10] ++ tellL e1 (ah.data.toList ++ [32, 32])) ++ (ah.data.toList ++ [125] ++ [10]) := by
          conv => lhs; unfold tellS
        have hTL := congrArg List.length (HDROP.out)
        rw [List.length_append, hTS, List.length_append, List.length_append, List.length_append, List.length_singleton] at hTL
        have hahl : ah.data.toList.length = ah.size := by simp
        have hfit : l2.length + ah.size + (lineT h).length + 1 ≤ 1000000 := by omega
        have HTS := Lib.hid hTS
        obtain ⟨W1, hW1⟩ : ∃ W1, wr.alloc (.cells #[.int .i64 (h.kind : Int), .int .i64 h.coll, .int .i64 h.reg, .int .i64 h.a.1, .int .i64 h.a.2, .int .i64 h.b.1, .int .i64 h.b.2, .slice bp b1.length bc, .slice ep e1.length ec] 45) = W1 := ⟨_, rfl⟩
        obtain ⟨sb, hsb⟩ : ∃ sb, wr.heap.size = sb := ⟨_, rfl⟩
        have hbW1 : Below wr.heap.size wr W1 := by rw [← hW1]; exact (Below.refl _ wr).alloc (Nat.le_refl _) _
        have hcs1 : Cells W1 sb (stL (h.kind : Int) h (.slice bp b1.length bc) (.slice ep e1.length ec)) 45 := by rw [← hW1, ← hsb]; exact Cells.new wr _ _
        have hTL1 := htl.below hBw hbW1
        have hsbb : sb ≠ b := by have := htl.bl.lt; omega
        have hbase1 : Base W1 := HBASE.out.low hpw hTL1.tk.be
        have HT1 := Lib.hid hTL1; have HC1 := Lib.hid hcs1; have HBS1 := Lib.hid hbase1
        have HW1 := Lib.hid hW1; have HSB := Lib.hid hsb
        clear hcell hb he hone hgb hge htl heq hl2 hz hTS hTL hTL1 hcs1 hbase1 hbW1 hahl hW1 hsb
        go_wp2_with fail
        rw [HW1.out, HSB.out]
        clear HW1 HSB y0 y1 y2 y3 y4 y5 y6 y7 y8
        refine (twords_ok HONE.out HBS1.out bp ep b1.length bc e1.length ec).mono ?_
        rintro _ w2 ⟨hb2, v2, L, rfl, hrow, hL⟩
        have HT2 := Lib.hid (HT1.out.below hBw hb2); have HC2 := Lib.hid (HC1.out.below hb2); have HROW := Lib.hid hrow; have HLL := Lib.hid hL
        clear hb2 hrow hL
        go_wp2_with fail
        refine (join_lines HROW.out (fun q => by have := HLL.out; rw [q] at this; exact absurd this.symm (line_ne h)) (by rw [HLL.out]; show (lineT h).length ≤ _; omega) (by have := congrArg List.length HLL.out; rw [List.length_map] at this; rw [this]; unfold lineW; rw [List.length_cons, List.length_map]; have := form_len hk16; omega)).mono ?_
        rw [HLL.out]
        rintro _ w3 ⟨rfl, hb3⟩
        have HT3 := Lib.hid (HT2.out.below hBw hb3); have HC3 := Lib.hid (HC2.out.below hb3)
        clear hb3 HROW HLL
        go_wp2_with fail
        refine (line_ok HT3.out.bl (Nat.le_trans hBw HT3.out.sz) HT3.out.cb HT3.out.ca (by show _ + _ + (lineT h).toArray.size + 1 ≤ _; simp; omega)).mono ?_
        rintro _ w4 ⟨⟨v4, rfl⟩, hbl4, htk4⟩
        have HT4 := Lib.hid (show TL B b w.heap.size (w.heap.size + 1) ah w (l2 ++ (ah.data.toList ++ lineT h ++ [10])) w4 from HT3.out.wrote hbl4 htk4); have HC4 := Lib.hid (htk4.cells HC3.out hsbb (by decide))
        clear hbl4 htk4
        obtain ⟨⟨s0, s1, s2, s3, s4, s5, s6, s7, s8⟩, -⟩ := nine_cells HC4.out
        go_wp2_with fail
        refine (form_ok hk16 _).mono ?_
        rintro _ w' ⟨rfl, rfl⟩
        go_wp2_with fail
        refine (HSUF.out _).mono ?_
        rintro _ w' ⟨rfl, rfl⟩
        have hkk : k + 1 ≤ 1000001 := by omega
        have HK1 := Lib.hid (show k + 1 ≤ p.length from hlt)
        have HFU := Lib.hid (show p.length + 1 ≤ k + 1 + gk' by omega)
        have hahl : ah.data.toList.length = ah.size := by simp
        have q1 := congrArg List.length HEQ.out
        have q2 := congrArg List.length HDROP.out
        have q3 := congrArg List.length HTS.out
        rw [List.length_append, List.length_append] at q1
        rw [List.length_append] at q2
        cases hO : opens h.kind with
        | false =>
          rw [hO] at HTS
          have HE2 := Lib.hid (show l ++ tellL p ah.data.toList = l2 ++ (ah.data.toList ++ lineT h ++ [10]) ++ tellL (p.drop (k + 1)) ah.data.toList by
            rw [HEQ.out, HDROP.out, HTS.out, if_pos rfl]; simp)
          have HKL := Lib.hid (show k + 1 ≤ (l2 ++ (ah.data.toList ++ lineT h ++ [10])).length by simp; omega)
          clear q1 q2 q3 hahl HEQ HDROP HTS
          go_wp2
          go_roundg gk'
          case measure => omega
          case rel => exact ⟨k + 1, _, by go_num, HK1.out, HKL.out, HFU.out, HT4.out, HE2.out⟩
        | true =>
          rw [hO] at HTS q3
          rw [if_neg (by decide)] at q3
          have b0 := HT4.out.cb.cell 0; have a0 := HT4.out.ca.cell 0
          simp only [List.getElem?_cons_zero] at b0 a0
          simp only [List.length_append, List.length_singleton] at q3
          have ha2 : (ah ++ ⟨#[32, 32]⟩ : ByteArray).data.toList = ah.data.toList ++ [32, 32] := by simp [ByteArray.data_append]
          have hs2 : (ah ++ ⟨#[32, 32]⟩ : ByteArray).size = ah.size + 2 := by rw [ByteArray.size_append]; rfl
          have g5 : ¬ 9223372036854775807 < ah.size + 2 := by omega
          have hCB := IH.out b1 _ _ (ah ++ ⟨#[32, 32]⟩) w4 (by omega) HGB.out (HB.out.below HT4.out.tk.be (Nat.le_refl B)) (Nat.le_trans hBw HT4.out.sz) (HBASE.out.low hpw HT4.out.tk.be) hpw HT4.out.bl (by rw [ha2]; simp only [List.length_append, List.length_singleton]; omega) (by rw [hs2]; omega)
          rw [ha2] at hCB
          have HCB := Lib.hid hCB
          clear hCB
          go_wp2_with fail
          refine HCB.out.mono ?_
          rintro _ w5 ⟨⟨v5, rfl⟩, hbl5, htk5⟩
          have HT5 := Lib.hid (HT4.out.wrote hbl5 htk5); have HC5 := Lib.hid (htk5.cells HC4.out hsbb (by decide))
          clear hbl5 htk5 s0 s1 s2 s3 s4 s5 s6 s7 s8 b0 a0 HCB
          obtain ⟨⟨s0, s1, s2, s3, s4, s5, s6, s7, s8⟩, -⟩ := nine_cells HC5.out
          have b0 := HT5.out.cb.cell 0; have a0 := HT5.out.ca.cell 0
          simp only [List.getElem?_cons_zero] at b0 a0
          have hT : (l2 ++ (ah.data.toList ++ lineT h ++ [10]) ++ tellL b1 (ah.data.toList ++ [32, 32])).length = l2.length + (ah.size + (lineT h).length + 1) + (tellL b1 (ah.data.toList ++ [32, 32])).length := by simp; omega
          by_cases hE : e1 = []
          · subst hE
            have g6 : decide ((0 : Int) < (([] : List St).length : Int)) = false := rfl
            have HLN := Lib.hid (line_ok (s := ⟨#[125]⟩) HT5.out.bl (Nat.le_trans hBw HT5.out.sz) HT5.out.cb HT5.out.ca (by rw [hT]; show _ + _ + 1 + 1 ≤ _; omega))
            have HE2 := Lib.hid (show l ++ tellL p ah.data.toList = l2 ++ (ah.data.toList ++ lineT h ++ [10]) ++ tellL b1 (ah.data.toList ++ [32, 32]) ++ (ah.data.toList ++ (⟨#[125]⟩ : ByteArray).data.toList ++ [10]) ++ tellL (p.drop (k + 1)) ah.data.toList by
              rw [HEQ.out, HDROP.out, HTS.out, if_neg (by decide)]; simp)
            have HKL := Lib.hid (show k + 1 ≤ (l2 ++ (ah.data.toList ++ lineT h ++ [10]) ++ tellL b1 (ah.data.toList ++ [32, 32]) ++ (ah.data.toList ++ (⟨#[125]⟩ : ByteArray).data.toList ++ [10])).length by rw [List.length_append, hT]; omega)
            clear q1 q2 q3 hahl HEQ HDROP HTS hT ha2 hs2
            go_wp2_with fail
            refine HLN.out.mono ?_
            rintro _ w6 ⟨⟨v6, rfl⟩, hbl6, htk6⟩
            have HT6 := Lib.hid (HT5.out.wrote hbl6 htk6)
            clear hbl6 htk6 HLN
            go_wp2
            go_roundg gk'
            case measure => omega
            case rel => exact ⟨k + 1, _, by go_num, HK1.out, HKL.out, HFU.out, HT6.out, HE2.out⟩
          · have g6 : decide ((0 : Int) < (e1.length : Int)) = true := decide_eq_true (by have := List.length_pos_iff.2 hE; omega)
            have g6' : (0 : Int) < (e1.length : Int) := by have := List.length_pos_iff.2 hE; omega
            have hEE : e1.isEmpty = false := by cases e1 with
              | nil => exact absurd rfl hE
              | cons a b => rfl
            rw [hEE] at q3 HTS
            simp only [Bool.false_eq_true, if_false, List.length_append, List.length_singleton] at q3
            have HLN := Lib.hid (line_ok (s := ⟨#[125, 32, 101, 108, 115, 101, 32, 123]⟩) HT5.out.bl (Nat.le_trans hBw HT5.out.sz) HT5.out.cb HT5.out.ca (by rw [hT]; show _ + _ + 8 + 1 ≤ _; omega))
            go_wp2_with fail
            refine HLN.out.mono ?_
            rintro _ w6 ⟨⟨v6, rfl⟩, hbl6, htk6⟩
            have HT6 := Lib.hid (HT5.out.wrote hbl6 htk6); have HC6 := Lib.hid (htk6.cells HC5.out hsbb (by decide))
            clear hbl6 htk6 HLN s0 s1 s2 s3 s4 s5 s6 s7 s8 b0 a0
            obtain ⟨⟨s0, s1, s2, s3, s4, s5, s6, s7, s8⟩, -⟩ := nine_cells HC6.out
            have b0 := HT6.out.cb.cell 0; have a0 := HT6.out.ca.cell 0
            simp only [List.getElem?_cons_zero] at b0 a0
            have hel : elseT.length = 8 := by decide
            have hCE := IH.out e1 _ _ (ah ++ ⟨#[32, 32]⟩) w6 (by omega) HGE.out (HE.out.below HT6.out.tk.be (Nat.le_refl B)) (Nat.le_trans hBw HT6.out.sz) (HBASE.out.low hpw HT6.out.tk.be) hpw HT6.out.bl (by rw [ha2, List.length_append, hT]; show _ + (ah.data.toList ++ elseT ++ [10]).length + _ ≤ _; simp only [List.length_append, List.length_singleton]; omega) (by rw [hs2]; omega)
            rw [ha2] at hCE
            have HCE := Lib.hid hCE
            clear hCE
            go_wp2_with fail
            refine HCE.out.mono ?_
            rintro _ w7 ⟨⟨v7, rfl⟩, hbl7, htk7⟩
            have HT7 := Lib.hid (HT6.out.wrote hbl7 htk7); have HC7 := Lib.hid (htk7.cells HC6.out hsbb (by decide))
            clear hbl7 htk7 HCE s0 s1 s2 s3 s4 s5 s6 s7 s8 b0 a0
            have HLN := Lib.hid (line_ok (s := ⟨#[125]⟩) HT7.out.bl (Nat.le_trans hBw HT7.out.sz) HT7.out.cb HT7.out.ca (by rw [List.length_append, List.length_append, hT]; show _ + (ah.data.toList ++ elseT ++ [10]).length + _ + _ + 1 + 1 ≤ _; simp only [List.length_append, List.length_singleton]; omega))
            have HE2 := Lib.hid (show l ++ tellL p ah.data.toList = l2 ++ (ah.data.toList ++ lineT h ++ [10]) ++ tellL b1 (ah.data.toList ++ [32, 32]) ++ (ah.data.toList ++ (⟨#[125, 32, 101, 108, 115, 101, 32, 123]⟩ : ByteArray).data.toList ++ [10]) ++ tellL e1 (ah.data.toList ++ [32, 32]) ++ (ah.data.toList ++ (⟨#[125]⟩ : ByteArray).data.toList ++ [10]) ++ tellL (p.drop (k + 1)) ah.data.toList by
              rw [HEQ.out, HDROP.out, HTS.out, if_neg (by decide), if_neg (by decide)]; simp [elseT])
            have HKL := Lib.hid (show k + 1 ≤ (l2 ++ (ah.data.toList ++ lineT h ++ [10]) ++ tellL b1 (ah.data.toList ++ [32, 32]) ++ (ah.data.toList ++ (⟨#[125, 32, 101, 108, 115, 101, 32, 123]⟩ : ByteArray).data.toList ++ [10]) ++ tellL e1 (ah.data.toList ++ [32, 32]) ++ (ah.data.toList ++ (⟨#[125]⟩ : ByteArray).data.toList ++ [10])).length by rw [List.length_append, List.length_append, List.length_append, hT]; omega)
            clear q1 q2 q3 hahl HEQ HDROP HTS hT ha2 hs2
            go_wp2_with fail
            refine HLN.out.mono ?_
            rintro _ w8 ⟨⟨v8, rfl⟩, hbl8, htk8⟩
            have HT8 := Lib.hid (HT7.out.wrote hbl8 htk8)
            clear hbl8 htk8 HLN
            go_wp2
            go_roundg gk'
            case measure => omega
            case rel => exact ⟨k + 1, _, by go_num, HK1.out, HKL.out, HFU.out, HT8.out, HE2.out⟩
      · obtain rfl : k = p.length := by omega
        have g1 : decide ((p.length : Int) < (p.length : Int)) = false := decide_eq_false (by omega)
        have HTL := Lib.hid htl
        have HEQ := Lib.hid (show l ++ tellL p ah.data.toList = l2 by rw [heq, List.drop_length]; unfold tellL; simp)
        clear htl heq hl2
        go_wp2
        go_end0
        rw [HEQ.out]
        exact ⟨⟨_, rfl⟩, HTL.out.bl, HTL.out.tk⟩
end Go.Proofs.YtikgbgminhgpdaaGreatDoor
