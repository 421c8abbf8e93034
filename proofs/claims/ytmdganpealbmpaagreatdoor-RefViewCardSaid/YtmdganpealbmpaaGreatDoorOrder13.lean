/- Order13: Ord12, AppI, Sort12, CameL, Order13. -/
import Derived.Test.YtmdganpealbmpaaGreatDoorIlvEnd2
import Derived.Test.YtmdganpealbmpaaGreatDoorSets3
import Derived.Deep.RegionHeld3
import Derived.Test.YtmdganpealbmpaaGreatDoorPlayX
import Derived.Deep.AppendLies
import Derived.Laws.AppendOwn
import Derived.Test.YtmdganpealbmpaaGreatDoorFinX
import Derived.Test.YtmdganpealbmpaaGreatDoorChecked
import Derived.ProofKit
import Derived.OpenShut
import Derived.Below

/- Layer 12's document: Ahead, Check, Sort. -/
namespace Go.Proofs.YtmdganpealbmpaaGreatDoor
open Go.RowKit Bl Th
set_option maxRecDepth 10000

def encAtt (a : Att) : List Value := [.int .i64 0, .int .i64 0, .int .i64 a.stamp, .bool a.wrote, .int .i64 a.beg, .int .i64 a.fin]
/-- Attempts in a block of their own. -/
def AttsAt (W : World) (v : Value) (A : List Att) (w : World) : Prop := w.ownsRow W.heap.size 85 6 v A.length (A.flatMap encAtt)
theorem atts_get : ∀ (A : List Att) (k : Nat) (a : Att), A[k]? = some a → ∀ c, c < 6 → (A.flatMap encAtt)[k * 6 + c]? = (encAtt a)[c]?
  | [], _, _, h, _, _ => by simp at h
  | x :: A, 0, a, h, c, hc => by
    simp only [List.getElem?_cons_zero, Option.some.injEq] at h
    subst h
    rw [List.flatMap_cons, Nat.zero_mul, Nat.zero_add, List.getElem?_append_left (by simp [encAtt]; omega)]
  | x :: A, k + 1, a, h, c, hc => by
    rw [List.flatMap_cons, List.getElem?_append_right (by simp [encAtt]; omega)]
    have : (k + 1) * 6 + c - (encAtt x).length = k * 6 + c := by simp [encAtt]; omega
    rw [this]
    exact atts_get A k a (by simpa using h) c hc
theorem AttsAt.at {W w : World} {p : Option Addr} {n cap k : Nat} {A : List Att} (h : AttsAt W (.slice p n cap) A w) (hk : k < A.length) : ∃ g, p = some ⟨g, 0, none⟩ ∧ ∃ a, A.getD k .zero = a ∧
    w.cell? ⟨g, k * 6, none⟩ = some (.int .i64 0) ∧ w.cell? ⟨g, k * 6 + 1, none⟩ = some (.int .i64 0) ∧ w.cell? ⟨g, k * 6 + 2, none⟩ = some (.int .i64 a.stamp) ∧ w.cell? ⟨g, k * 6 + 3, none⟩ = some (.bool a.wrote) ∧ w.cell? ⟨g, k * 6 + 4, none⟩ = some (.int .i64 a.beg) ∧ w.cell? ⟨g, k * 6 + 5, none⟩ = some (.int .i64 a.fin) := by
  obtain ⟨a, ha⟩ : ∃ a, A[k]? = some a := ⟨A[k], List.getElem?_eq_getElem hk⟩
  rcases h.2 with ⟨-, q⟩ | ⟨g, c, cur, hv, -, -⟩
  · omega
  · simp only [Value.slice.injEq] at hv
    obtain ⟨rfl, rfl, rfl⟩ := hv
    refine ⟨g, rfl, a, by rw [List.getD_eq_getElem?_getD, ha]; rfl, ?_⟩
    have key : ∀ c, c < 6 → w.cell? ⟨g, k * 6 + c, none⟩ = (encAtt a)[c]? := fun c hc => by
      have := h.cellAt (k * 6 + c) (by omega)
      rw [this]
      exact atts_get A k a ha c hc
    exact ⟨key 0 (by omega), key 1 (by omega), key 2 (by omega), key 3 (by omega), key 4 (by omega), key 5 (by omega)⟩
set_option maxHeartbeats 4000000 in
theorem ahead_ok {W w : World} {p : Option Addr} {n cap : Nat} {A : List Att} (h : AttsAt W (.slice p n cap) A w) (hn : A.length = n) {i j : Nat} (hi : i < n) (hj : j < n) :
    Calls Tryz.prog 63 #[.slice p n cap, .int .i64 (i : Int), .int .i64 (j : Int)] w fun e w' => e = .returned (.bool (aheadA A i j)) ∧ Below w.heap.size w w' := by
  obtain ⟨g, rfl, a, ha, a0, a1, a2, a3, a4, a5⟩ := h.at (k := i) (by omega)
  obtain ⟨g', hg', b, hb, b0, b1, b2, b3, b4, b5⟩ := h.at (k := j) (by omega)
  obtain rfl : g = g' := by simpa using hg'
  have hi' : (i : Int) < (n : Int) := by omega
  have hj' : (j : Int) < (n : Int) := by omega
  have HV := Lib.hid (show aheadA A i j = aheadV a b i j by unfold aheadA; rw [ha, hb])
  have hgw : g < w.heap.size := World.block_lt_of_cell? w _ a0
  clear h hn ha hb hg'
  go_enter Tryz.func63, Tryz.ntmps63
  go_wp2_with fail
  go_region_held3 (fun wx => wx.cell? ⟨g, i * 6, none⟩ = some (.int .i64 0) ∧ wx.cell? ⟨g, i * 6 + 1, none⟩ = some (.int .i64 0) ∧ wx.cell? ⟨g, i * 6 + 2, none⟩ = some (.int .i64 a.stamp) ∧ wx.cell? ⟨g, i * 6 + 3, none⟩ = some (.bool a.wrote) ∧ wx.cell? ⟨g, i * 6 + 4, none⟩ = some (.int .i64 a.beg) ∧ wx.cell? ⟨g, i * 6 + 5, none⟩ = some (.int .i64 a.fin) ∧ wx.cell? ⟨g, j * 6, none⟩ = some (.int .i64 0) ∧ wx.cell? ⟨g, j * 6 + 1, none⟩ = some (.int .i64 0) ∧ wx.cell? ⟨g, j * 6 + 2, none⟩ = some (.int .i64 b.stamp) ∧ wx.cell? ⟨g, j * 6 + 3, none⟩ = some (.bool b.wrote) ∧ wx.cell? ⟨g, j * 6 + 4, none⟩ = some (.int .i64 b.beg) ∧ wx.cell? ⟨g, j * 6 + 5, none⟩ = some (.int .i64 b.fin))
    (first | exact ⟨a0, a1, a2, a3, a4, a5, b0, b1, b2, b3, b4, b5⟩ | go_keep) (fail)
  all_goals
    clear a0 a1 a2 a3 a4 a5 b0 b1 b2 b3 b4 b5
    by_cases h1 : a.stamp = b.stamp
    · have e1 : (a.stamp != b.stamp) = false := by simp [h1]
      cases hw1 : a.wrote <;> cases hw2 : b.wrote
      · by_cases h3 : a.fin = b.fin
        · have e3 : (a.fin != b.fin) = false := by simp [h3]
          go_wp2
          go_ret
          exact ⟨by rw [HV.out]; simp [aheadV, h1, hw1, hw2, h3], ((((Below.refl w.heap.size w).alloc (Nat.le_refl _) _).alloc (by simp) _).drew)⟩
        · have e3 : (a.fin != b.fin) = true := by simp [h3]
          go_wp2
          go_ret
          exact ⟨by rw [HV.out]; simp [aheadV, h1, hw1, hw2, h3], ((((Below.refl w.heap.size w).alloc (Nat.le_refl _) _).alloc (by simp) _).drew)⟩
      · go_wp2
        go_ret
        exact ⟨by rw [HV.out]; simp [aheadV, h1, hw1, hw2], ((((Below.refl w.heap.size w).alloc (Nat.le_refl _) _).alloc (by simp) _).drew)⟩
      · go_wp2
        go_ret
        exact ⟨by rw [HV.out]; simp [aheadV, h1, hw1, hw2], ((((Below.refl w.heap.size w).alloc (Nat.le_refl _) _).alloc (by simp) _).drew)⟩
      · by_cases h3 : a.fin = b.fin
        · have e3 : (a.fin != b.fin) = false := by simp [h3]
          go_wp2
          go_ret
          exact ⟨by rw [HV.out]; simp [aheadV, h1, hw1, hw2, h3], ((((Below.refl w.heap.size w).alloc (Nat.le_refl _) _).alloc (by simp) _).drew)⟩
        · have e3 : (a.fin != b.fin) = true := by simp [h3]
          go_wp2
          go_ret
          exact ⟨by rw [HV.out]; simp [aheadV, h1, hw1, hw2, h3], ((((Below.refl w.heap.size w).alloc (Nat.le_refl _) _).alloc (by simp) _).drew)⟩
    · have e1 : (a.stamp != b.stamp) = true := by simp [h1]
      go_wp2
      go_ret
      exact ⟨by rw [HV.out]; simp [aheadV, h1], ((((Below.refl w.heap.size w).alloc (Nat.le_refl _) _).alloc (by simp) _).drew)⟩
theorem AttsAt.below {W w w' : World} {v : Value} {A : List Att} (h : AttsAt W v A w) (hb : Below w.heap.size w w') : AttsAt W v A w' :=
  ownsRow_kept h (Kept.of_below hb) (fun b hb' e => by have := (h.lt b hb').2; omega)
set_option maxHeartbeats 8000000 in
theorem check12_ok {W w : World} {p : Option Addr} {n cap : Nat} {A : List Att} (h : AttsAt W (.slice p n cap) A w) (hn : A.length = n) (hF : FairA A) (h4 : n ≤ 1000) :
    Calls Tryz.prog 34 #[.slice p n cap] w fun e w' => e = .returned (.tuple #[.int .i64 0, .int .i64 0]) ∧ Below w.heap.size w w' := by
  have H := Lib.hid h; have HF := Lib.hid hF; have HN := Lib.hid hn
  clear h hF hn
  go_enter Tryz.func34, Tryz.ntmps34
  go_wp2
  go_loopw [4] (fun iv wr => ∃ i : Nat, i ≤ n ∧ iv = .int .i64 (i : Int) ∧ Below w.heap.size w wr) (fun i _ => n - (intOf i).toNat)
  case atStart => exact ⟨0, Nat.zero_le _, rfl, Below.refl _ _⟩
  case round =>
    obtain ⟨i, hi, rfl, hb⟩ := hrel
    by_cases hlt : i < n
    · have hlt' : (i : Int) < (n : Int) := by omega
      obtain ⟨g, rfl, a, ha, a0, a1, a2, a3, a4, a5⟩ := (H.out.below hb).at (k := i) (by rw [HN.out]; exact hlt)
      have gT : ¬ a.fin < a.beg := by
        have := HF.out.time i (by rw [HN.out]; exact hlt)
        rw [ha] at this
        omega
      have HA := Lib.hid ha; have HB := Lib.hid hb
      clear ha hb
      go_wp2
      go_quiet (fail)
      go_wp2
      obtain ⟨wi, hwi⟩ : ∃ wi, wr.drewN nq = wi := ⟨_, rfl⟩
      rw [hwi]
      have HB2 := Lib.hid (show Below w.heap.size w wi by rw [← hwi]; exact below_drewN HB.out nq)
      clear a0 a1 a2 a3 a4 a5 HB hwi
      go_loopw [5] (fun jv wr => ∃ j : Nat, j ≤ i ∧ jv = .int .i64 (j : Int) ∧ Below w.heap.size w wr) (fun j _ => i - (intOf j).toNat)
      case atStart => exact ⟨0, Nat.zero_le _, rfl, HB2.out⟩
      case round =>
        clear HB2
        obtain ⟨j, hj, rfl, hb⟩ := hrel
        by_cases hltj : j < i
        · have hltj' : (j : Int) < (i : Int) := by omega
          have hltn : (j : Int) < (n : Int) := by omega
          obtain ⟨g1, hg1, a', ha', a0, a1, a2, a3, a4, a5⟩ := (H.out.below hb).at (k := i) (by rw [HN.out]; exact hlt)
          obtain rfl : g = g1 := by simpa using hg1
          obtain rfl : a = a' := HA.out.symm.trans ha'
          obtain ⟨g2, hg2, b, hb', b0, b1, b2, b3, b4, b5⟩ := (H.out.below hb).at (k := j) (by rw [HN.out]; omega)
          obtain rfl : g = g2 := by simpa using hg2
          have HB := Lib.hid hb
          cases hwa : a.wrote with
          | false =>
            rw [hwa] at a3
            clear hg1 hg2 ha' hb hb'
            go_wp2
            go_quiet (fail)
            go_wp2
            go_roundw
            case rel => exact ⟨j + 1, by omega, by go_num, below_drewN HB.out _⟩
            case measure => simp [intOf]; omega
          | true =>
            rw [hwa] at a3
            cases hwb : b.wrote with
            | false =>
              rw [hwb] at b3
              clear hg1 hg2 ha' hb hb'
              go_wp2
              go_quiet (fail)
              go_wp2
              go_roundw
              case rel => exact ⟨j + 1, by omega, by go_num, below_drewN HB.out _⟩
              case measure => simp [intOf]; omega
            | true =>
              rw [hwb] at b3
              have gs : (a.stamp == b.stamp) = false := by
                have := HF.out.uniq i j (by rw [HN.out]; exact hlt) (by rw [HN.out]; omega) (by omega) (by rw [HA.out]; exact hwa) (by rw [hb']; exact hwb)
                rw [HA.out, hb'] at this
                simpa using this
              clear hg1 hg2 ha' hb hb'
              go_wp2
              go_quiet (fail)
              go_wp2
              go_roundw
              case rel => exact ⟨j + 1, by omega, by go_num, below_drewN HB.out _⟩
              case measure => simp [intOf]; omega
        · obtain rfl : j = i := by omega
          have g3 : decide ((j : Int) < (j : Int)) = false := by simp
          have HB := Lib.hid hb
          clear hb
          go_wp2
          go_loopw [6] (fun jv wr => ∃ m : Nat, m ≤ n ∧ jv = .int .i64 (m : Int) ∧ Below w.heap.size w wr) (fun j _ => n - (intOf j).toNat)
          case atStart => exact ⟨0, Nat.zero_le _, rfl, HB.out⟩
          case round =>
            clear HB
            obtain ⟨m, hm, rfl, hb⟩ := hrel
            by_cases hltm : m < n
            · have hltm' : (m : Int) < (n : Int) := by omega
              obtain ⟨g1, hg1, a', ha', a0, a1, a2, a3, a4, a5⟩ := (H.out.below hb).at (k := j) (by rw [HN.out]; exact hlt)
              obtain rfl : g = g1 := by simpa using hg1
              obtain rfl : a = a' := HA.out.symm.trans ha'
              obtain ⟨g2, hg2, b, hb', b0, b1, b2, b3, b4, b5⟩ := (H.out.below hb).at (k := m) (by rw [HN.out]; omega)
              obtain rfl : g = g2 := by simpa using hg2
              have HB := Lib.hid hb
              have HH := Lib.hid (H.out.below hb)
              by_cases emj : m = j
              · have ge : ((m : Int) != (j : Int)) = false := by simp [emj]
                clear hg1 hg2 ha' hb hb'
                go_wp2
                go_quiet (fail)
                go_wp2
                go_roundw
                case rel => exact ⟨m + 1, by omega, by go_num, below_drewN HB.out _⟩
                case measure => simp [intOf]; omega
              · have ge : ((m : Int) != (j : Int)) = true := by simp; omega
                by_cases hgt : b.fin < a.beg
                · have hah : aheadA A m j = true := HF.out.order j m (by rw [HN.out]; exact hlt) (by rw [HN.out]; omega) (fun e => emj e.symm) (by rw [HA.out, hb']; exact hgt)
                  clear hg1 hg2 ha' hb hb'
                  go_wp2
                  have HBX := Lib.hid (show Below w.heap.size w wr.drew from ⟨HB.out.1, HB.out.2, HB.out.3, HB.out.4, HB.out.5⟩)
                  have hgl : g < wr.drew.heap.size := World.block_lt_of_cell? wr _ a4
                  have hah' := Lib.hid hah
                  clear a0 a1 a2 a3 a5 b0 b1 b2 b3 b4 hah
                  go_region_held3 (fun wx => wx.cell? ⟨g, j * 6 + 4, none⟩ = some (.int .i64 a.beg) ∧ wx.cell? ⟨g, m * 6 + 5, none⟩ = some (.int .i64 b.fin))
                    (first | exact ⟨a4, b5⟩ | exact ⟨z4, z5⟩ | go_keep)
                    (first | (go_at_call 63; refine (ahead_ok (show AttsAt W _ A wr.drew from HH.out) HN.out (i := m) (j := j) hltm hlt).mono ?_; rintro e w' ⟨rfl, hb'⟩; rw [hah'.out]; have z4 := (World.cell?_of_block (a := ⟨g, j * 6 + 4, none⟩) (hb'.block g hgl)).trans a4; have z5 := (World.cell?_of_block (a := ⟨g, m * 6 + 5, none⟩) (hb'.block g hgl)).trans b5; have HB' := Lib.hid (HBX.out.trans (hb'.mono HBX.out.size)); clear hb'))
                  go_wp2
                  go_roundw
                  case rel => exact ⟨m + 1, by omega, by go_num, HB'.out⟩
                  case measure => simp [intOf]; omega
                · have gg : decide (b.fin < a.beg) = false := by simpa using hgt
                  have gg2 : decide (a.beg > b.fin) = false := gg
                  clear hg1 hg2 ha' hb hb'
                  go_wp2
                  go_quiet (fail)
                  go_wp2
                  go_roundw
                  case rel => exact ⟨m + 1, by omega, by go_num, below_drewN HB.out _⟩
                  case measure => simp [intOf]; omega
            · obtain rfl : m = n := by omega
              have g4 : decide ((m : Int) < (m : Int)) = false := by simp
              have HB := Lib.hid hb
              clear hb
              go_wp2
              go_roundw
              case rel => exact ⟨j + 1, by omega, by go_num, HB.out⟩
              case measure => simp [intOf]; omega
    · obtain rfl : i = n := by omega
      have g3 : decide ((i : Int) < (i : Int)) = false := by simp
      go_wp2
      (try simp only [Exit.inBlock, Exit.then]); refine bodyPost_ret (results_tmp2 rfl _ _ _) rfl ?_
      exact ⟨rfl, hb⟩
end Go.Proofs.YtmdganpealbmpaaGreatDoor

/- Rows of ints. -/
namespace Go.Proofs.YtmdganpealbmpaaGreatDoor
open Go.RowKit Bl Th
set_option maxRecDepth 10000

theorem i64info : (Tryz.prog.info? 3).map (fun i => (i.zero, i.size, i.bytes)) = some (some (.int .i64 0), 1, 8) := by kernel_rfl
/-- Ints in memory, wherever they begin. -/
def IntsAt (w : World) (v : Value) (x : List Nat) : Prop := ∃ p cap, v = .slice p x.length cap ∧ (x ≠ [] → ∃ g o, p = some ⟨g, o, none⟩ ∧ ∀ (k y : Nat), x[k]? = some y → w.cell? ⟨g, o + k, none⟩ = some (.int .i64 (y : Int)))
theorem IntsAt.of_cells {w : World} {g o : Nat} {x : List Nat} {n cap : Nat} (hn : x.length = n) (h : ∀ (k y : Nat), x[k]? = some y → w.cell? ⟨g, o + k, none⟩ = some (.int .i64 (y : Int))) : IntsAt w (.slice (some ⟨g, o, none⟩) n cap) x := ⟨_, cap, by rw [hn], fun _ => ⟨g, o, rfl, h⟩⟩
theorem IntsAt.nil (w : World) (p : Option Addr) (cap : Nat) : IntsAt w (.slice p 0 cap) [] := ⟨p, cap, rfl, fun h => absurd rfl h⟩
theorem IntsAt.kept {S : Nat → Prop} {w w' : World} {v : Value} {x : List Nat} (h : IntsAt w v x) (k : Kept S w w') (hs : ∀ b, v.ownBlock = some b → b < w.heap.size ∧ ¬ S b) : IntsAt w' v x := by
  obtain ⟨p, cap, rfl, hc⟩ := h
  refine ⟨p, cap, rfl, fun hn => ?_⟩
  obtain ⟨g, o, rfl, hg⟩ := hc hn
  obtain ⟨h1, h2⟩ := hs g rfl
  exact ⟨g, o, rfl, fun j y hy => (World.cell?_of_block (a := ⟨g, o + j, none⟩) (k.block g h1 h2)).trans (hg j y hy)⟩
/-- 'append(l, some...)'. -/
theorem run_append_ints {w : World} (ty : TypeId) {base : Nat} {v : Value} {n : Nat} {xs : List Value} (hown : w.ownsRow base 3 1 v n xs) {y : Value} {news : List Nat} (hy : IntsAt w y news) (hn : n + news.length ≤ 1000000) (hbase : base ≤ w.heap.size) :
    ∃ v' w', (Builtin.append_ #[23, 23] ty #[v, y]).run Tryz.prog w = .ok v' w' ∧ w'.ownsRow base 3 1 v' (n + news.length) (xs ++ encN news) ∧ w.grownBy w' v.ownBlock ∧ (v'.ownBlock = v.ownBlock ∨ v'.ownBlock = some w.heap.size) := by
  obtain ⟨i0, hi0, hz0, hz1, hz2⟩ := info_parts i64info
  obtain ⟨pt, cap, rfl, hc⟩ := hy
  cases news with
  | nil =>
    have hrun : (Builtin.append_ #[23, 23] ty #[v, .slice pt 0 cap]).run Tryz.prog w = .ok v w := by
      rcases hown.2 with ⟨rfl, rfl⟩ | ⟨g, c2, cur, rfl, -, -, hle, -⟩
      · cases pt <;> simp [Builtin.append_, run_underlying Tryz.underlying23, sizeOf, typeInfo, hi0, Builtin.lenOf, Builtin.firstCells, loadCells, loadCellsFrom]
      · cases pt <;> simp [Builtin.append_, run_underlying Tryz.underlying23, sizeOf, typeInfo, hi0, Builtin.lenOf, Builtin.firstCells, loadCells, loadCellsFrom, storeCells, hle]
    exact ⟨v, w, hrun, by simpa [encN] using hown, ⟨rfl, rfl, rfl, Nat.le_refl _, fun _ _ _ => rfl⟩, .inl rfl⟩
  | cons z l =>
    obtain ⟨g, o, rfl, hg⟩ := hc (by simp)
    obtain ⟨v', w', hr, h2, h3, -, h5⟩ := run_append_own_at (P := Tryz.prog) w base 23 ty 3 i0 _ 1 8 Tryz.underlying23 hi0 hz0 hz1 hz2 rfl (by omega) v n xs hown ⟨g, o, none⟩ (z :: l).length cap (encN (z :: l)) (by simp [encN]) (fun j u hu => by
      rw [show (⟨g, o, none⟩ : Addr).add j = ⟨g, o + j, none⟩ by unfold Addr.add; split <;> simp_all]
      simp only [encN, List.getElem?_map, Option.map_eq_some_iff] at hu
      obtain ⟨q, hq, rfl⟩ := hu
      exact hg j q hq) (fun u hu => by
      simp only [encN, List.mem_map] at hu
      obtain ⟨q, -, rfl⟩ := hu
      rfl) (by unfold maxLen; omega) (by omega) hbase
    exact ⟨v', w', hr, h2, h3, h5⟩
theorem wpList_append_ints {w : World} {ops : Array Oper} {rest : List Oper} {o : Oper} {a : Act} {Q : Exit → Act → World → Prop} (hgd : o.guard = none) (s x : Operand)
    (ho : o.op = .call { callee := .builtin .append, args := #[s, x], argTypes := #[23, 23] }) {base : Nat} {v : Value} {n : Nat} {xs : List Value} (hs : a.eval s = v) (hown : w.ownsRow base 3 1 v n xs)
    {y : Value} {news : List Nat} (hx : a.eval x = y) (hy : IntsAt w y news) (hn : n + news.length ≤ 1000000) (hbase : base ≤ w.heap.size)
    (h : ∀ p c w', w'.ownsRow base 3 1 (.slice p (n + news.length) c) (n + news.length) (xs ++ encN news) → w.grownBy w' v.ownBlock → ((Value.slice p (n + news.length) c).ownBlock = v.ownBlock ∨ (Value.slice p (n + news.length) c).ownBlock = some w.heap.size) → wpList Tryz.prog ops Q rest (a.put o.dst (.slice p (n + news.length) c)) w') :
    wpList Tryz.prog ops Q (o :: rest) a w := by
  obtain ⟨v', w', hrun, h1, h2, h3⟩ := run_append_ints o.type hown hy hn hbase
  refine wpList_plain hgd fun K hK => ?_
  unfold Oper.wp execOp
  simp only [ho, resolve, invoke, builtin, Sem.run_bind, Sem.run_pure, Result.andThen_ok, List.map_toArray, List.map_cons, List.map_nil, hs, hx, hrun]
  obtain ⟨p, c, rfl⟩ := ownsRow_shape h1
  exact hK _ _ (h p c w' h1 h2 h3)
theorem step_append_ints {w : World} {ops : Array Oper} {o : Oper} {a : Act} {K : Act → World → Prop} {Q : Exit → Act → World → Prop} {E : Prop} (hgd : o.guard = none) (s x : Operand)
    (ho : o.op = .call { callee := .builtin .append, args := #[s, x], argTypes := #[23, 23] }) {base : Nat} {v : Value} {n : Nat} {xs : List Value} (hs : a.eval s = v) (hown : w.ownsRow base 3 1 v n xs)
    {y : Value} {news : List Nat} (hx : a.eval x = y) (hy : IntsAt w y news) (hn : n + news.length ≤ 1000000) (hbase : base ≤ w.heap.size)
    (h : ∀ p c w', w'.ownsRow base 3 1 (.slice p (n + news.length) c) (n + news.length) (xs ++ encN news) → w.grownBy w' v.ownBlock → ((Value.slice p (n + news.length) c).ownBlock = v.ownBlock ∨ (Value.slice p (n + news.length) c).ownBlock = some w.heap.size) → K (a.put o.dst (.slice p (n + news.length) c)) w') :
    if Region.wanted o (yielded ops a.tmps) = true then Oper.wp Tryz.prog o a w K Q else E := by
  obtain ⟨v', w', hrun, h1, h2, h3⟩ := run_append_ints o.type hown hy hn hbase
  have hw : Region.wanted o (yielded ops a.tmps) = true := by simp [Region.wanted, hgd]
  rw [if_pos hw]
  unfold Oper.wp execOp
  simp only [ho, resolve, invoke, builtin, Sem.run_bind, Sem.run_pure, Result.andThen_ok, List.map_toArray, List.map_cons, List.map_nil, hs, hx, hrun]
  obtain ⟨p, c, rfl⟩ := ownsRow_shape h1
  exact h p c w' h1 h2 h3
/-- An empty slice that is not none. -/
theorem row_empty (w : World) {base : Nat} (h : base ≤ w.heap.size) : (w.alloc (.cells #[] 3)).ownsRow base 3 1 (.slice (some ⟨w.heap.size, 0, none⟩) 0 0) 0 [] :=
  ⟨rfl, .inr ⟨w.heap.size, 0, #[], rfl, h, heap_alloc_new w _, Nat.le_refl _, Nat.zero_le _, rfl, rfl⟩⟩
theorem row_head {w : World} {base n c y : Nat} {t : List Nat} {p : Option Addr} (h : w.ownsRow base 3 1 (.slice p n c) n (encN (y :: t))) : ∃ g, p = some ⟨g, 0, none⟩ ∧ w.cell? ⟨g, 0, none⟩ = some (.int .i64 (y : Int)) ∧ n ≤ c ∧ c ≤ maxLen := by
  have hn : n = t.length + 1 := by have := h.1; simp [encN] at this; omega
  obtain ⟨h1, h2, h3, h4⟩ := (show n ≤ c ∧ c ≤ maxLen ∧ (p = none → n = 0 ∧ c = 0) ∧ ∀ a, p = some a → ∃ g, a = ⟨g, 0, none⟩ by
    rcases h.2 with ⟨hv, h0⟩ | ⟨g, c', cur, hv, hb, hg, hn, hm, hc, ht⟩
    · omega
    · simp only [Value.slice.injEq] at hv
      obtain ⟨rfl, -, rfl⟩ := hv
      exact ⟨hn, hm, by simp, fun a ha => ⟨g, (Option.some.inj ha).symm⟩⟩)
  obtain ⟨a, ha⟩ : ∃ a, p = some a := by
    cases p with
    | none => have := (h3 rfl).1; omega
    | some a => exact ⟨a, rfl⟩
  obtain ⟨g, rfl⟩ := h4 a ha
  subst ha
  have := h.cellAt 0 (by omega)
  exact ⟨g, rfl, by simpa [encN] using this, h1, h2⟩
end Go.Proofs.YtmdganpealbmpaaGreatDoor

/- Layer 12's document: Sort. -/
namespace Go.Proofs.YtmdganpealbmpaaGreatDoor
open Go.RowKit Bl Th
set_option maxRecDepth 10000

theorem insK_go {A : List Att} {i : Nat} : ∀ (l : List Nat) (k : Nat), k ≤ insK A i l → (k = l.length → k = insK A i l) ∧ ∀ x, l[k]? = some x → (aheadA A x i = true → k + 1 ≤ insK A i l) ∧ (aheadA A x i = false → k = insK A i l)
  | [], k, hk => by
    simp only [insK] at hk ⊢
    exact ⟨fun _ => by omega, fun x hx => by simp at hx⟩
  | y :: l, k, hk => by
    unfold insK at hk ⊢
    by_cases e : aheadA A y i = true
    · rw [if_pos e] at hk ⊢
      cases k with
      | zero => exact ⟨fun h => by simp at h, fun x hx => by
          simp only [List.getElem?_cons_zero, Option.some.injEq] at hx
          subst hx
          exact ⟨fun _ => by omega, fun h => by rw [e] at h; cases h⟩⟩
      | succ k =>
        obtain ⟨h1, h2⟩ := insK_go (A := A) (i := i) l k (by omega)
        refine ⟨fun h => by have := h1 (by simpa using h); omega, fun x hx => ?_⟩
        obtain ⟨a, b⟩ := h2 x (by simpa using hx)
        exact ⟨fun h => by have := a h; omega, fun h => by have := b h; omega⟩
    · rw [if_neg e] at hk ⊢
      obtain rfl : k = 0 := by omega
      refine ⟨fun _ => rfl, fun x hx => ?_⟩
      simp only [List.getElem?_cons_zero, Option.some.injEq] at hx
      subst hx
      exact ⟨fun h => absurd h e, fun _ => rfl⟩
theorem encN_len (l : List Nat) : (encN l).length = l.length := by simp [encN]
/-- What holds at each round's head. -/
def SortJ (w : World) (A : List Att) (n : Nat) (ov iv : Value) (wr : World) : Prop := ∃ i : Nat, i ≤ n ∧ iv = .int .i64 (i : Int) ∧ Below w.heap.size w wr ∧ wr.ownsRow w.heap.size 3 1 ov i (encN (sortA A i))
theorem kz_grow {wz wA w1 : World} {B : Nat} {v : Value} (k : Kept (fun b => B ≤ b) wz wA) (hg : wA.grownBy w1 v.ownBlock) (hv : ∀ b, v.ownBlock = some b → B ≤ b) : Kept (fun b => B ≤ b) wz w1 := k.trans ((Kept.of_grown hg).mono fun b _ e => hv b e.symm)
theorem own_ge {v v' : Value} {m B : Nat} (hb : v'.ownBlock = v.ownBlock ∨ v'.ownBlock = some m) (hv : ∀ b, v.ownBlock = some b → B ≤ b) (hm : B ≤ m) : ∀ b, v'.ownBlock = some b → B ≤ b := fun b e => by
  rcases hb with q | q
  · exact hv b (by rw [← q]; exact e)
  · rw [q] at e; cases e; exact hm
set_option maxHeartbeats 8000000 in
theorem sort12_ok {W w : World} {p : Option Addr} {n cap : Nat} {A : List Att} (h : AttsAt W (.slice p n cap) A w) (hn : A.length = n) (h4 : n ≤ 1000) :
    Calls Tryz.prog 35 #[.slice p n cap] w fun e w' => ∃ v, e = .returned v ∧ w'.ownsRow w.heap.size 3 1 v n (encN (sortA A n)) ∧ Below w.heap.size w w' := by
  have H := Lib.hid h; have HN := Lib.hid hn
  clear h hn
  go_enter Tryz.func35, Tryz.ntmps35
  go_wp2
  go_loopw [3, 4] (SortJ w A n) (fun _ i _ => n - (intOf i).toNat)
  case atStart => exact ⟨0, Nat.zero_le _, rfl, Below.refl _ _, World.ownsRow_nil _ _ _ _⟩
  case round =>
    obtain ⟨i, hi, rfl, hb, hrow⟩ := hrel
    by_cases hlt : i < n
    · have hlt' : (i : Int) < (n : Int) := by omega
      obtain ⟨po, co, rfl⟩ := ownsRow_shape hrow
      obtain ⟨wo, hwo⟩ : ∃ wo, wo = wr := ⟨_, rfl⟩
      rw [← hwo] at hb hrow ⊢
      clear hwo
      have HB := Lib.hid hb; have HR := Lib.hid hrow
      obtain ⟨K, hK⟩ : ∃ K, insK A i (sortA A i) = K := ⟨_, rfl⟩
      have hKi : K ≤ i := by rw [← hK]; have := insK_le A i (sortA A i); rw [sort_len] at this; exact this
      have HK := Lib.hid hK
      clear hb hrow hK
      go_wp2
      go_loopw [5] (fun kv wx => ∃ k : Nat, k ≤ K ∧ kv = .int .i64 (k : Int) ∧ Below wo.heap.size wo wx) (fun k _ => i - (intOf k).toNat)
      case atStart => exact ⟨0, Nat.zero_le _, rfl, Below.refl _ _⟩
      case round =>
        obtain ⟨k, hk, rfl, hbx⟩ := hrel
        by_cases hki : k < i
        · have hki' : (k : Int) < (i : Int) := by omega
          obtain ⟨x, hx⟩ : ∃ x, (sortA A i)[k]? = some x := ⟨(sortA A i)[k]'(by rw [sort_len]; exact hki), List.getElem?_eq_getElem _⟩
          have hxi : x < i := sort_mem.1 (List.mem_of_getElem? hx)
          have hrx := ownsRow_kept HR.out (Kept.of_below hbx) (fun b hb e => by have := (HR.out.lt b hb).2; omega)
          obtain ⟨g, rfl, q⟩ := ptr_at (k := k) (x := .int .i64 (x : Int)) hrx (by simp [encN, hx])
          have HBX := Lib.hid hbx
          have HAT := Lib.hid (H.out.below (HB.out.trans (hbx.mono HB.out.size)))
          obtain ⟨s1, s2⟩ := (insK_go (A := A) (i := i) (sortA A i) k (by rw [HK.out]; exact hk)).2 x hx
          rw [HK.out] at s1 s2
          have HS1 := Lib.hid s1; have HS2 := Lib.hid s2
          clear hbx hrx hx s1 s2
          cases hah : aheadA A x i with
          | true =>
            go_wp2_with (go_at_call 63; refine (ahead_ok HAT.out HN.out (i := x) (j := i) (by omega) hlt).mono ?_; rintro e w' ⟨rfl, hb'⟩; rw [hah]; have HB' := Lib.hid (HBX.out.trans (hb'.mono HBX.out.size)); clear hb')
            go_roundw
            case rel => exact ⟨k + 1, HS1.out hah, by go_num, HB'.out⟩
            case measure => simp [intOf]; omega
          | false =>
            go_wp2_with (go_at_call 63; refine (ahead_ok HAT.out HN.out (i := x) (j := i) (by omega) hlt).mono ?_; rintro e w' ⟨rfl, hb'⟩; rw [hah]; have HB' := Lib.hid (HBX.out.trans (hb'.mono HBX.out.size)); clear hb')
            obtain rfl : k = K := HS2.out hah
            clear HBX HAT HS1 HS2 q hah
            obtain ⟨wz, hwz⟩ : ∃ wz, wz = w' := ⟨_, rfl⟩
            rw [← hwz] at HB' ⊢
            clear hwz
            have HZ := Lib.hid HB'.out
            clear HB'
            have hrz := ownsRow_kept HR.out (Kept.of_below HZ.out) (fun b hb e => by have := (HR.out.lt b hb).2; omega)
            have hic : i ≤ co := by
              rcases hrz.2 with ⟨q, -⟩ | ⟨g', c', cur, q, -, -, q2, -⟩
              · simp only [Value.slice.injEq] at q; omega
              · simp only [Value.slice.injEq] at q; omega
            have hkn : k ≤ i := by omega
            have hkc : k ≤ co := by omega
            have hkn' : (k : Int) ≤ (i : Int) := by omega
            have hkc' : (k : Int) ≤ (co : Int) := by omega
            obtain ⟨SA, hSA⟩ : ∃ SA, sortA A i = SA := ⟨_, rfl⟩
            have hSl : SA.length = i := by rw [← hSA]; exact sort_len i
            rw [hSA] at hrz
            have hgz : g < wz.heap.size := (hrz.lt g rfl).2
            have hcell : ∀ (j y : Nat), SA[j]? = some y → wz.cell? ⟨g, j, none⟩ = some (.int .i64 (y : Int)) := fun j y hj => by
              have hl := (List.getElem?_eq_some_iff.1 hj).1
              rw [hrz.cellAt j (by omega)]
              simp [encN, hj]
            have HT0 := Lib.hid (fun (wx : World) (kx : Kept (fun b => wz.heap.size ≤ b) wz wx) => (show IntsAt wx (.slice (some ⟨g, 0, none⟩) k co) (SA.take k) from
              (IntsAt.of_cells (by simp; omega) (fun j y hj => by
                rw [Nat.zero_add]
                rw [List.getElem?_take] at hj
                split at hj
                · exact hcell j y hj
                · cases hj)).kept kx (fun b hb => by cases hb; exact ⟨hgz, fun h => absurd hgz (Nat.not_lt.2 h)⟩)))
            have HD0 := Lib.hid (fun (wx : World) (kx : Kept (fun b => wz.heap.size ≤ b) wz wx) => (show IntsAt wx (.slice (if co = k then some ⟨g, 0, none⟩ else some ⟨g, k, none⟩) (i - k) (co - k)) (SA.drop k) from by
              by_cases e : co = k
              · rw [if_pos e]
                have : SA.drop k = [] := List.drop_eq_nil_of_le (by omega)
                rw [this, show (i - k) = 0 by omega]
                exact IntsAt.nil _ _ _
              · rw [if_neg e]
                exact (IntsAt.of_cells (by simp; omega) (fun j y hj => by rw [List.getElem?_drop] at hj; exact hcell _ y hj)).kept kx (fun b hb => by cases hb; exact ⟨hgz, fun h => absurd hgz (Nat.not_lt.2 h)⟩)))
            have HK0 := Lib.hid (Kept.refl (fun b => wz.heap.size ≤ b) wz)
            have HKA := Lib.hid ((HK0.out.alloc (.cells #[] 3)).drew)
            have HKB := Lib.hid (((HK0.out.alloc (.cells #[] 3)).alloc (.cells #[.int .i64 (i : Int)] 3)).drew)
            have HKC := Lib.hid (((HK0.out.alloc (.cells #[.int .i64 (i : Int)] 3)).alloc (.cells #[] 3)).drew)
            have hBW := HB.out.trans (HZ.out.mono HB.out.size)
            have hWz := hBW.size
            have HE := Lib.hid (fun (wx : World) (hx : w.heap.size ≤ wx.heap.size) => (show (wx.alloc (.cells #[] 3)).ownsRow w.heap.size 3 1 (.slice (some ⟨wx.heap.size, 0, none⟩) 0 0) 0 [] from ⟨rfl, .inr ⟨wx.heap.size, 0, #[], rfl, hx, heap_alloc_new wx _, Nat.le_refl _, Nat.zero_le _, rfl, rfl⟩⟩))
            have HO := Lib.hid (fun (wx : World) => (show IntsAt (wx.alloc (.cells #[.int .i64 (i : Int)] 3)) (.slice (some ⟨wx.heap.size, 0, none⟩) 1 1) [i] from
              IntsAt.of_cells rfl (fun j y hj => by
                have hc := (Cells.new wx [.int .i64 (i : Int)] 3).cell (0 + j)
                cases j with
                | zero => simp only [List.getElem?_cons_zero, Option.some.injEq] at hj; subst hj; exact hc
                | succ j => simp at hj)))
            have HLT := Lib.hid (show 0 + (SA.take k).length ≤ 1000000 by simp; try omega)
            have HL1 := Lib.hid (show 0 + (SA.take k).length = k by simp; try omega)
            have HLD := Lib.hid (show k + [i].length + (SA.drop k).length ≤ 1000000 by simp; try omega)
            have HL3 := Lib.hid (show k + [i].length + (SA.drop k).length = i + 1 by simp; try omega)
            have HBW := Lib.hid hBW; have HSA := Lib.hid hSA
            clear hrz hic hSl hgz hcell hSA hBW
            have HEA := Lib.hid (show ((wz.alloc (.cells #[] 3)).drew).ownsRow w.heap.size 3 1 (.slice (some ⟨wz.heap.size, 0, none⟩) 0 0) 0 [] from HE.out wz hWz)
            have HEB := Lib.hid (show (((wz.alloc (.cells #[] 3)).alloc (.cells #[.int .i64 (i : Int)] 3)).drew).ownsRow w.heap.size 3 1 (.slice (some ⟨wz.heap.size, 0, none⟩) 0 0) 0 [] from (HE.out wz hWz).alloc _)
            have HEC := Lib.hid (show (((wz.alloc (.cells #[.int .i64 (i : Int)] 3)).alloc (.cells #[] 3)).drew).ownsRow w.heap.size 3 1 (.slice (some ⟨wz.heap.size + 1, 0, none⟩) 0 0) 0 [] from by
              have h := HE.out (wz.alloc (.cells #[.int .i64 (i : Int)] 3)) (by simp; omega)
              rw [World.size_alloc] at h
              exact h)
            have HIB := Lib.hid (fun (w1 : World) (hg1 : (((wz.alloc (.cells #[] 3)).alloc (.cells #[.int .i64 (i : Int)] 3)).drew).grownBy w1 (some wz.heap.size)) => (show IntsAt w1 (.slice (some ⟨wz.heap.size + 1, 0, none⟩) 1 1) [i] from by
              have h := HO.out (wz.alloc (.cells #[] 3))
              rw [World.size_alloc] at h
              have h2 : IntsAt (((wz.alloc (.cells #[] 3)).alloc (.cells #[.int .i64 (i : Int)] 3)).drew) (.slice (some ⟨wz.heap.size + 1, 0, none⟩) 1 1) [i] := h
              refine h2.kept (Kept.of_grown hg1) (fun b hb => ?_)
              cases hb
              refine ⟨?_, by simp⟩
              show wz.heap.size + 1 < ((wz.alloc (.cells #[] 3)).alloc (.cells #[.int .i64 (i : Int)] 3)).heap.size
              simp))
            have HIC := Lib.hid (fun (w1 : World) (hg1 : (((wz.alloc (.cells #[.int .i64 (i : Int)] 3)).alloc (.cells #[] 3)).drew).grownBy w1 (some (wz.heap.size + 1))) => (show IntsAt w1 (.slice (some ⟨wz.heap.size, 0, none⟩) 1 1) [i] from by
              have h := (HO.out wz).kept ((Kept.refl (fun _ => False) _).alloc (.cells #[] 3)) (fun b hb => by cases hb; exact ⟨by simp, fun h => h⟩)
              have h2 : IntsAt (((wz.alloc (.cells #[.int .i64 (i : Int)] 3)).alloc (.cells #[] 3)).drew) (.slice (some ⟨wz.heap.size, 0, none⟩) 1 1) [i] := h
              refine h2.kept (Kept.of_grown hg1) (fun b hb => ?_)
              cases hb
              refine ⟨?_, by simp⟩
              show wz.heap.size < ((wz.alloc (.cells #[.int .i64 (i : Int)] 3)).alloc (.cells #[] 3)).heap.size
              simp
              omega))
            have HKZA := Lib.hid (show wz.heap.size ≤ ((wz.alloc (.cells #[] 3)).drew).heap.size from HKA.out.size)
            have HSZA := Lib.hid (Nat.le_trans hWz HKZA.out)
            have HKZB := Lib.hid (show wz.heap.size ≤ (((wz.alloc (.cells #[] 3)).alloc (.cells #[.int .i64 (i : Int)] 3)).drew).heap.size from HKB.out.size)
            have HSZB := Lib.hid (Nat.le_trans hWz HKZB.out)
            have HKZC := Lib.hid (show wz.heap.size ≤ (((wz.alloc (.cells #[.int .i64 (i : Int)] 3)).alloc (.cells #[] 3)).drew).heap.size from HKC.out.size)
            have HSZC := Lib.hid (Nat.le_trans hWz HKZC.out)
            go_region_law (first
              | (refine step_append_ints (by rfl) _ _ (by rfl) (base := w.heap.size) (v := .slice (some ⟨wz.heap.size, 0, none⟩) 0 0) (n := 0) (xs := []) (by rfl) HEA.out (news := SA.take k) (by rfl) (HT0.out _ HKA.out) HLT.out HSZA.out ?_; intro p1 c1 w1 ho1 hg1 hb1; rw [HL1.out, List.nil_append] at ho1; rw [HL1.out] at hb1 ⊢; have kz1 : Kept (fun b => wz.heap.size ≤ b) wz w1 := kz_grow HKA.out hg1 (fun b hb => by cases hb; exact Nat.le_refl _); have gz1 := own_ge hb1 (B := wz.heap.size) (fun b hb => by cases hb; exact Nat.le_refl _) HKZA.out)
              | (refine step_append_ints (by rfl) _ _ (by rfl) (base := w.heap.size) (v := .slice (some ⟨wz.heap.size, 0, none⟩) 0 0) (n := 0) (xs := []) (by rfl) HEB.out (news := SA.take k) (by rfl) (HT0.out _ HKB.out) HLT.out HSZB.out ?_; intro p1 c1 w1 ho1 hg1 hb1; rw [HL1.out, List.nil_append] at ho1; rw [HL1.out] at hb1 ⊢; have kz1 : Kept (fun b => wz.heap.size ≤ b) wz w1 := kz_grow HKB.out hg1 (fun b hb => by cases hb; exact Nat.le_refl _); have gz1 := own_ge hb1 (B := wz.heap.size) (fun b hb => by cases hb; exact Nat.le_refl _) HKZB.out; have hI1 := HIB.out w1 hg1)
              | (refine step_append_ints (by rfl) _ _ (by rfl) (base := w.heap.size) (v := .slice (some ⟨wz.heap.size + 1, 0, none⟩) 0 0) (n := 0) (xs := []) (by rfl) HEC.out (news := SA.take k) (by rfl) (HT0.out _ HKC.out) HLT.out HSZC.out ?_; intro p1 c1 w1 ho1 hg1 hb1; rw [HL1.out, List.nil_append] at ho1; rw [HL1.out] at hb1 ⊢; have kz1 : Kept (fun b => wz.heap.size ≤ b) wz w1 := kz_grow HKC.out hg1 (fun b hb => by cases hb; exact Nat.le_succ _); have gz1 := own_ge hb1 (B := wz.heap.size) (fun b hb => by cases hb; exact Nat.le_succ _) HKZC.out; have hI1 := HIC.out w1 hg1)
              | (refine step_append_ints (by rfl) _ _ (by rfl) (base := w.heap.size) (v := .slice p1 k c1) (n := k) (xs := encN (SA.take k)) (by rfl) (by first | exact ho1 | exact ho1.alloc _) (news := [i]) (by rfl) (by first | exact HO.out w1 | exact hI1) (by simp; try omega) (by have := kz1.size; first | omega | (simp; omega)) ?_; intro p2 c2 w2 ho2 hg2 hb2; have kz2 : Kept (fun b => wz.heap.size ≤ b) wz w2 := (by first | exact kz_grow kz1 hg2 gz1 | exact kz_grow (kz1.alloc _) hg2 gz1); have gz2 := own_ge hb2 gz1 (by have := kz1.size; first | omega | (simp; omega)))
              | (refine step_append_ints (by rfl) _ _ (by rfl) (base := w.heap.size) (v := .slice p2 (k + [i].length) c2) (n := k + [i].length) (xs := encN (SA.take k) ++ encN [i]) (by rfl) ho2 (news := SA.drop k) (by rfl) (HD0.out _ kz2) HLD.out (by have := kz2.size; omega) ?_; intro p3 c3 w3 ho3 hg3 hb3; rw [HL3.out] at ho3; rw [HL3.out] at hb3 ⊢; have kz3 := kz_grow kz2 hg3 gz2))
            all_goals
              have hsr : encN (SA.take k) ++ encN [i] ++ encN (SA.drop k) = encN (sortA A (i + 1)) := by
                conv => rhs; unfold sortA insA
                rw [HK.out, HSA.out]
                simp [encN]
              rw [hsr] at ho3
              have HO3 := Lib.hid ho3
              have HB3 := Lib.hid (HBW.out.trans ((kz3.below (Nat.le_refl _) fun b h1 e => by omega).mono hWz))
              clear ho3 hsr
              go_wp2
              go_roundw
              case rel => exact ⟨i + 1, by omega, by go_num, HB3.out, HO3.out⟩
              case measure => simp [intOf]; omega
        · obtain rfl : k = i := by omega
          have g3 : decide ((k : Int) < (k : Int)) = false := by simp
          have hkK : k = K := by rw [← HK.out]; exact (insK_go (A := A) (i := k) (sortA A k) k (by rw [HK.out]; exact hk)).1 (sort_len k).symm
          have HKK := Lib.hid hkK
          clear hkK
          have HZ := Lib.hid hbx
          clear hbx
          obtain ⟨wz, hwz⟩ : ∃ wz, wz = wr := ⟨_, rfl⟩
          rw [← hwz] at HZ ⊢
          clear hwz
          go_wp2_with fail
          clear hk
          rcases HR.out.2 with ⟨hnil, h0⟩ | ⟨g, c', cur, hv, -⟩
          · subst h0
            simp only [Value.slice.injEq] at hnil
            obtain ⟨rfl, -, rfl⟩ := hnil
            have hrz := ownsRow_kept HR.out (Kept.of_below HZ.out) (fun b hb e => by have := (HR.out.lt b hb).2; omega)
            obtain ⟨SA, hSA⟩ : ∃ SA, sortA A 0 = SA := ⟨_, rfl⟩
            have hSl : SA.length = 0 := by rw [← hSA]; exact sort_len 0
            rw [hSA] at hrz
            have hS0 : SA = [] := List.eq_nil_of_length_eq_zero hSl
            have HT0 := Lib.hid (fun (wx : World) (_ : Kept (fun b => wz.heap.size ≤ b) wz wx) => (show IntsAt wx (.slice none 0 0) (SA.take 0) from by rw [hS0]; exact IntsAt.nil _ _ _))
            have HD0 := Lib.hid (fun (wx : World) (_ : Kept (fun b => wz.heap.size ≤ b) wz wx) => (show IntsAt wx (.slice none 0 0) (SA.drop 0) from by rw [hS0]; exact IntsAt.nil _ _ _))
            have HK0 := Lib.hid (Kept.refl (fun b => wz.heap.size ≤ b) wz)
            have HKA := Lib.hid ((HK0.out.alloc (.cells #[] 3)).drew)
            have HKB := Lib.hid (((HK0.out.alloc (.cells #[] 3)).alloc (.cells #[.int .i64 0] 3)).drew)
            have HKC := Lib.hid (((HK0.out.alloc (.cells #[.int .i64 0] 3)).alloc (.cells #[] 3)).drew)
            have hBW := HB.out.trans (HZ.out.mono HB.out.size)
            have hWz := hBW.size
            have HE := Lib.hid (fun (wx : World) (hx : w.heap.size ≤ wx.heap.size) => (show (wx.alloc (.cells #[] 3)).ownsRow w.heap.size 3 1 (.slice (some ⟨wx.heap.size, 0, none⟩) 0 0) 0 [] from ⟨rfl, .inr ⟨wx.heap.size, 0, #[], rfl, hx, heap_alloc_new wx _, Nat.le_refl _, Nat.zero_le _, rfl, rfl⟩⟩))
            have HO := Lib.hid (fun (wx : World) => (show IntsAt (wx.alloc (.cells #[.int .i64 0] 3)) (.slice (some ⟨wx.heap.size, 0, none⟩) 1 1) [0] from
              IntsAt.of_cells rfl (fun j y hj => by
                have hc := (Cells.new wx [.int .i64 0] 3).cell (0 + j)
                cases j with
                | zero => simp only [List.getElem?_cons_zero, Option.some.injEq] at hj; subst hj; exact hc
                | succ j => simp at hj)))
            have HLT := Lib.hid (show 0 + (SA.take 0).length ≤ 1000000 by simp; try omega)
            have HL1 := Lib.hid (show 0 + (SA.take 0).length = 0 by simp; try omega)
            have HLD := Lib.hid (show 0 + [0].length + (SA.drop 0).length ≤ 1000000 by simp; try omega)
            have HL3 := Lib.hid (show 0 + [0].length + (SA.drop 0).length = 0 + 1 by simp; try omega)
            have HBW := Lib.hid hBW; have HSA := Lib.hid hSA
            clear hrz hSl hSA hBW hS0
            have HEA := Lib.hid (show ((wz.alloc (.cells #[] 3)).drew).ownsRow w.heap.size 3 1 (.slice (some ⟨wz.heap.size, 0, none⟩) 0 0) 0 [] from HE.out wz hWz)
            have HEB := Lib.hid (show (((wz.alloc (.cells #[] 3)).alloc (.cells #[.int .i64 0] 3)).drew).ownsRow w.heap.size 3 1 (.slice (some ⟨wz.heap.size, 0, none⟩) 0 0) 0 [] from (HE.out wz hWz).alloc _)
            have HEC := Lib.hid (show (((wz.alloc (.cells #[.int .i64 0] 3)).alloc (.cells #[] 3)).drew).ownsRow w.heap.size 3 1 (.slice (some ⟨wz.heap.size + 1, 0, none⟩) 0 0) 0 [] from by
              have h := HE.out (wz.alloc (.cells #[.int .i64 0] 3)) (by simp; omega)
              rw [World.size_alloc] at h
              exact h)
            have HIB := Lib.hid (fun (w1 : World) (hg1 : (((wz.alloc (.cells #[] 3)).alloc (.cells #[.int .i64 0] 3)).drew).grownBy w1 (some wz.heap.size)) => (show IntsAt w1 (.slice (some ⟨wz.heap.size + 1, 0, none⟩) 1 1) [0] from by
              have h := HO.out (wz.alloc (.cells #[] 3))
              rw [World.size_alloc] at h
              have h2 : IntsAt (((wz.alloc (.cells #[] 3)).alloc (.cells #[.int .i64 0] 3)).drew) (.slice (some ⟨wz.heap.size + 1, 0, none⟩) 1 1) [0] := h
              refine h2.kept (Kept.of_grown hg1) (fun b hb => ?_)
              cases hb
              refine ⟨?_, by simp⟩
              show wz.heap.size + 1 < ((wz.alloc (.cells #[] 3)).alloc (.cells #[.int .i64 0] 3)).heap.size
              simp))
            have HIC := Lib.hid (fun (w1 : World) (hg1 : (((wz.alloc (.cells #[.int .i64 0] 3)).alloc (.cells #[] 3)).drew).grownBy w1 (some (wz.heap.size + 1))) => (show IntsAt w1 (.slice (some ⟨wz.heap.size, 0, none⟩) 1 1) [0] from by
              have h := (HO.out wz).kept ((Kept.refl (fun _ => False) _).alloc (.cells #[] 3)) (fun b hb => by cases hb; exact ⟨by simp, fun h => h⟩)
              have h2 : IntsAt (((wz.alloc (.cells #[.int .i64 0] 3)).alloc (.cells #[] 3)).drew) (.slice (some ⟨wz.heap.size, 0, none⟩) 1 1) [0] := h
              refine h2.kept (Kept.of_grown hg1) (fun b hb => ?_)
              cases hb
              refine ⟨?_, by simp⟩
              show wz.heap.size < ((wz.alloc (.cells #[.int .i64 0] 3)).alloc (.cells #[] 3)).heap.size
              simp
              omega))
            have HKZA := Lib.hid (show wz.heap.size ≤ ((wz.alloc (.cells #[] 3)).drew).heap.size from HKA.out.size)
            have HSZA := Lib.hid (Nat.le_trans hWz HKZA.out)
            have HKZB := Lib.hid (show wz.heap.size ≤ (((wz.alloc (.cells #[] 3)).alloc (.cells #[.int .i64 0] 3)).drew).heap.size from HKB.out.size)
            have HSZB := Lib.hid (Nat.le_trans hWz HKZB.out)
            have HKZC := Lib.hid (show wz.heap.size ≤ (((wz.alloc (.cells #[.int .i64 0] 3)).alloc (.cells #[] 3)).drew).heap.size from HKC.out.size)
            have HSZC := Lib.hid (Nat.le_trans hWz HKZC.out)
            go_region_law (first
              | (refine step_append_ints (by rfl) _ _ (by rfl) (base := w.heap.size) (v := .slice (some ⟨wz.heap.size, 0, none⟩) 0 0) (n := 0) (xs := []) (by rfl) HEA.out (news := SA.take 0) (by rfl) (HT0.out _ HKA.out) HLT.out HSZA.out ?_; intro p1 c1 w1 ho1 hg1 hb1; rw [HL1.out, List.nil_append] at ho1; rw [HL1.out] at hb1 ⊢; have kz1 : Kept (fun b => wz.heap.size ≤ b) wz w1 := kz_grow HKA.out hg1 (fun b hb => by cases hb; exact Nat.le_refl _); have gz1 := own_ge hb1 (B := wz.heap.size) (fun b hb => by cases hb; exact Nat.le_refl _) HKZA.out)
              | (refine step_append_ints (by rfl) _ _ (by rfl) (base := w.heap.size) (v := .slice (some ⟨wz.heap.size, 0, none⟩) 0 0) (n := 0) (xs := []) (by rfl) HEB.out (news := SA.take 0) (by rfl) (HT0.out _ HKB.out) HLT.out HSZB.out ?_; intro p1 c1 w1 ho1 hg1 hb1; rw [HL1.out, List.nil_append] at ho1; rw [HL1.out] at hb1 ⊢; have kz1 : Kept (fun b => wz.heap.size ≤ b) wz w1 := kz_grow HKB.out hg1 (fun b hb => by cases hb; exact Nat.le_refl _); have gz1 := own_ge hb1 (B := wz.heap.size) (fun b hb => by cases hb; exact Nat.le_refl _) HKZB.out; have hI1 := HIB.out w1 hg1)
              | (refine step_append_ints (by rfl) _ _ (by rfl) (base := w.heap.size) (v := .slice (some ⟨wz.heap.size + 1, 0, none⟩) 0 0) (n := 0) (xs := []) (by rfl) HEC.out (news := SA.take 0) (by rfl) (HT0.out _ HKC.out) HLT.out HSZC.out ?_; intro p1 c1 w1 ho1 hg1 hb1; rw [HL1.out, List.nil_append] at ho1; rw [HL1.out] at hb1 ⊢; have kz1 : Kept (fun b => wz.heap.size ≤ b) wz w1 := kz_grow HKC.out hg1 (fun b hb => by cases hb; exact Nat.le_succ _); have gz1 := own_ge hb1 (B := wz.heap.size) (fun b hb => by cases hb; exact Nat.le_succ _) HKZC.out; have hI1 := HIC.out w1 hg1)
              | (refine step_append_ints (by rfl) _ _ (by rfl) (base := w.heap.size) (v := .slice p1 0 c1) (n := 0) (xs := encN (SA.take 0)) (by rfl) (by first | exact ho1 | exact ho1.alloc _) (news := [0]) (by rfl) (by first | exact HO.out w1 | exact hI1) (by simp; try omega) (by have := kz1.size; first | omega | (simp; omega)) ?_; intro p2 c2 w2 ho2 hg2 hb2; have kz2 : Kept (fun b => wz.heap.size ≤ b) wz w2 := (by first | exact kz_grow kz1 hg2 gz1 | exact kz_grow (kz1.alloc _) hg2 gz1); have gz2 := own_ge hb2 gz1 (by have := kz1.size; first | omega | (simp; omega)))
              | (refine step_append_ints (by rfl) _ _ (by rfl) (base := w.heap.size) (v := .slice p2 (0 + [0].length) c2) (n := 0 + [0].length) (xs := encN (SA.take 0) ++ encN [0]) (by rfl) ho2 (news := SA.drop 0) (by rfl) (HD0.out _ kz2) HLD.out (by have := kz2.size; omega) ?_; intro p3 c3 w3 ho3 hg3 hb3; rw [HL3.out] at ho3; rw [HL3.out] at hb3 ⊢; have kz3 := kz_grow kz2 hg3 gz2))
            all_goals
              have hsr : encN (SA.take 0) ++ encN [0] ++ encN (SA.drop 0) = encN (sortA A (0 + 1)) := by
                conv => rhs; unfold sortA insA
                rw [(HK.out.trans HKK.out.symm), HSA.out]
                simp [encN]
              rw [hsr] at ho3
              have HO3 := Lib.hid ho3
              have HB3 := Lib.hid (HBW.out.trans ((kz3.below (Nat.le_refl _) fun b h1 e => by omega).mono hWz))
              clear ho3 hsr
              go_wp2
              go_roundw
              case rel => exact ⟨0 + 1, by omega, by go_num, HB3.out, HO3.out⟩
              case measure => simp [intOf]; omega
          · simp only [Value.slice.injEq] at hv
            obtain ⟨rfl, -, -⟩ := hv
            have hrz := ownsRow_kept HR.out (Kept.of_below HZ.out) (fun b hb e => by have := (HR.out.lt b hb).2; omega)
            have hic : k ≤ co := by
              rcases hrz.2 with ⟨q, -⟩ | ⟨g', c', cur, q, -, -, q2, -⟩
              · simp only [Value.slice.injEq] at q; omega
              · simp only [Value.slice.injEq] at q; omega
            have hkn : k ≤ k := by omega
            have hkc : k ≤ co := by omega
            have hkn' : (k : Int) ≤ (k : Int) := by omega
            have hkc' : (k : Int) ≤ (co : Int) := by omega
            obtain ⟨SA, hSA⟩ : ∃ SA, sortA A k = SA := ⟨_, rfl⟩
            have hSl : SA.length = k := by rw [← hSA]; exact sort_len k
            rw [hSA] at hrz
            have hgz : g < wz.heap.size := (hrz.lt g rfl).2
            have hcell : ∀ (j y : Nat), SA[j]? = some y → wz.cell? ⟨g, j, none⟩ = some (.int .i64 (y : Int)) := fun j y hj => by
              have hl := (List.getElem?_eq_some_iff.1 hj).1
              rw [hrz.cellAt j (by omega)]
              simp [encN, hj]
            have HT0 := Lib.hid (fun (wx : World) (kx : Kept (fun b => wz.heap.size ≤ b) wz wx) => (show IntsAt wx (.slice (some ⟨g, 0, none⟩) k co) (SA.take k) from
              (IntsAt.of_cells (by simp; omega) (fun j y hj => by
                rw [Nat.zero_add]
                rw [List.getElem?_take] at hj
                split at hj
                · exact hcell j y hj
                · cases hj)).kept kx (fun b hb => by cases hb; exact ⟨hgz, fun h => absurd hgz (Nat.not_lt.2 h)⟩)))
            have HD0 := Lib.hid (fun (wx : World) (kx : Kept (fun b => wz.heap.size ≤ b) wz wx) => (show IntsAt wx (.slice (if co = k then some ⟨g, 0, none⟩ else some ⟨g, k, none⟩) (0) (co - k)) (SA.drop k) from by
              by_cases e : co = k
              · rw [if_pos e]
                have : SA.drop k = [] := List.drop_eq_nil_of_le (by omega)
                rw [this, show (0) = 0 by omega]
                exact IntsAt.nil _ _ _
              · rw [if_neg e]
                exact (IntsAt.of_cells (by simp; omega) (fun j y hj => by rw [List.getElem?_drop] at hj; exact hcell _ y hj)).kept kx (fun b hb => by cases hb; exact ⟨hgz, fun h => absurd hgz (Nat.not_lt.2 h)⟩)))
            have HK0 := Lib.hid (Kept.refl (fun b => wz.heap.size ≤ b) wz)
            have HKA := Lib.hid ((HK0.out.alloc (.cells #[] 3)).drew)
            have HKB := Lib.hid (((HK0.out.alloc (.cells #[] 3)).alloc (.cells #[.int .i64 (k : Int)] 3)).drew)
            have HKC := Lib.hid (((HK0.out.alloc (.cells #[.int .i64 (k : Int)] 3)).alloc (.cells #[] 3)).drew)
            have hBW := HB.out.trans (HZ.out.mono HB.out.size)
            have hWz := hBW.size
            have HE := Lib.hid (fun (wx : World) (hx : w.heap.size ≤ wx.heap.size) => (show (wx.alloc (.cells #[] 3)).ownsRow w.heap.size 3 1 (.slice (some ⟨wx.heap.size, 0, none⟩) 0 0) 0 [] from ⟨rfl, .inr ⟨wx.heap.size, 0, #[], rfl, hx, heap_alloc_new wx _, Nat.le_refl _, Nat.zero_le _, rfl, rfl⟩⟩))
            have HO := Lib.hid (fun (wx : World) => (show IntsAt (wx.alloc (.cells #[.int .i64 (k : Int)] 3)) (.slice (some ⟨wx.heap.size, 0, none⟩) 1 1) [k] from
              IntsAt.of_cells rfl (fun j y hj => by
                have hc := (Cells.new wx [.int .i64 (k : Int)] 3).cell (0 + j)
                cases j with
                | zero => simp only [List.getElem?_cons_zero, Option.some.injEq] at hj; subst hj; exact hc
                | succ j => simp at hj)))
            have HLT := Lib.hid (show 0 + (SA.take k).length ≤ 1000000 by simp; try omega)
            have HL1 := Lib.hid (show 0 + (SA.take k).length = k by simp; try omega)
            have HLD := Lib.hid (show k + [k].length + (SA.drop k).length ≤ 1000000 by simp; try omega)
            have HL3 := Lib.hid (show k + [k].length + (SA.drop k).length = k + 1 by simp; try omega)
            have HBW := Lib.hid hBW; have HSA := Lib.hid hSA
            clear hrz hic hSl hgz hcell hSA hBW
            have HEA := Lib.hid (show ((wz.alloc (.cells #[] 3)).drew).ownsRow w.heap.size 3 1 (.slice (some ⟨wz.heap.size, 0, none⟩) 0 0) 0 [] from HE.out wz hWz)
            have HEB := Lib.hid (show (((wz.alloc (.cells #[] 3)).alloc (.cells #[.int .i64 (k : Int)] 3)).drew).ownsRow w.heap.size 3 1 (.slice (some ⟨wz.heap.size, 0, none⟩) 0 0) 0 [] from (HE.out wz hWz).alloc _)
            have HEC := Lib.hid (show (((wz.alloc (.cells #[.int .i64 (k : Int)] 3)).alloc (.cells #[] 3)).drew).ownsRow w.heap.size 3 1 (.slice (some ⟨wz.heap.size + 1, 0, none⟩) 0 0) 0 [] from by
              have h := HE.out (wz.alloc (.cells #[.int .i64 (k : Int)] 3)) (by simp; omega)
              rw [World.size_alloc] at h
              exact h)
            have HIB := Lib.hid (fun (w1 : World) (hg1 : (((wz.alloc (.cells #[] 3)).alloc (.cells #[.int .i64 (k : Int)] 3)).drew).grownBy w1 (some wz.heap.size)) => (show IntsAt w1 (.slice (some ⟨wz.heap.size + 1, 0, none⟩) 1 1) [k] from by
              have h := HO.out (wz.alloc (.cells #[] 3))
              rw [World.size_alloc] at h
              have h2 : IntsAt (((wz.alloc (.cells #[] 3)).alloc (.cells #[.int .i64 (k : Int)] 3)).drew) (.slice (some ⟨wz.heap.size + 1, 0, none⟩) 1 1) [k] := h
              refine h2.kept (Kept.of_grown hg1) (fun b hb => ?_)
              cases hb
              refine ⟨?_, by simp⟩
              show wz.heap.size + 1 < ((wz.alloc (.cells #[] 3)).alloc (.cells #[.int .i64 (k : Int)] 3)).heap.size
              simp))
            have HIC := Lib.hid (fun (w1 : World) (hg1 : (((wz.alloc (.cells #[.int .i64 (k : Int)] 3)).alloc (.cells #[] 3)).drew).grownBy w1 (some (wz.heap.size + 1))) => (show IntsAt w1 (.slice (some ⟨wz.heap.size, 0, none⟩) 1 1) [k] from by
              have h := (HO.out wz).kept ((Kept.refl (fun _ => False) _).alloc (.cells #[] 3)) (fun b hb => by cases hb; exact ⟨by simp, fun h => h⟩)
              have h2 : IntsAt (((wz.alloc (.cells #[.int .i64 (k : Int)] 3)).alloc (.cells #[] 3)).drew) (.slice (some ⟨wz.heap.size, 0, none⟩) 1 1) [k] := h
              refine h2.kept (Kept.of_grown hg1) (fun b hb => ?_)
              cases hb
              refine ⟨?_, by simp⟩
              show wz.heap.size < ((wz.alloc (.cells #[.int .i64 (k : Int)] 3)).alloc (.cells #[] 3)).heap.size
              simp
              omega))
            have HKZA := Lib.hid (show wz.heap.size ≤ ((wz.alloc (.cells #[] 3)).drew).heap.size from HKA.out.size)
            have HSZA := Lib.hid (Nat.le_trans hWz HKZA.out)
            have HKZB := Lib.hid (show wz.heap.size ≤ (((wz.alloc (.cells #[] 3)).alloc (.cells #[.int .i64 (k : Int)] 3)).drew).heap.size from HKB.out.size)
            have HSZB := Lib.hid (Nat.le_trans hWz HKZB.out)
            have HKZC := Lib.hid (show wz.heap.size ≤ (((wz.alloc (.cells #[.int .i64 (k : Int)] 3)).alloc (.cells #[] 3)).drew).heap.size from HKC.out.size)
            have HSZC := Lib.hid (Nat.le_trans hWz HKZC.out)
            go_region_law (first
              | (refine step_append_ints (by rfl) _ _ (by rfl) (base := w.heap.size) (v := .slice (some ⟨wz.heap.size, 0, none⟩) 0 0) (n := 0) (xs := []) (by rfl) HEA.out (news := SA.take k) (by rfl) (HT0.out _ HKA.out) HLT.out HSZA.out ?_; intro p1 c1 w1 ho1 hg1 hb1; rw [HL1.out, List.nil_append] at ho1; rw [HL1.out] at hb1 ⊢; have kz1 : Kept (fun b => wz.heap.size ≤ b) wz w1 := kz_grow HKA.out hg1 (fun b hb => by cases hb; exact Nat.le_refl _); have gz1 := own_ge hb1 (B := wz.heap.size) (fun b hb => by cases hb; exact Nat.le_refl _) HKZA.out)
              | (refine step_append_ints (by rfl) _ _ (by rfl) (base := w.heap.size) (v := .slice (some ⟨wz.heap.size, 0, none⟩) 0 0) (n := 0) (xs := []) (by rfl) HEB.out (news := SA.take k) (by rfl) (HT0.out _ HKB.out) HLT.out HSZB.out ?_; intro p1 c1 w1 ho1 hg1 hb1; rw [HL1.out, List.nil_append] at ho1; rw [HL1.out] at hb1 ⊢; have kz1 : Kept (fun b => wz.heap.size ≤ b) wz w1 := kz_grow HKB.out hg1 (fun b hb => by cases hb; exact Nat.le_refl _); have gz1 := own_ge hb1 (B := wz.heap.size) (fun b hb => by cases hb; exact Nat.le_refl _) HKZB.out; have hI1 := HIB.out w1 hg1)
              | (refine step_append_ints (by rfl) _ _ (by rfl) (base := w.heap.size) (v := .slice (some ⟨wz.heap.size + 1, 0, none⟩) 0 0) (n := 0) (xs := []) (by rfl) HEC.out (news := SA.take k) (by rfl) (HT0.out _ HKC.out) HLT.out HSZC.out ?_; intro p1 c1 w1 ho1 hg1 hb1; rw [HL1.out, List.nil_append] at ho1; rw [HL1.out] at hb1 ⊢; have kz1 : Kept (fun b => wz.heap.size ≤ b) wz w1 := kz_grow HKC.out hg1 (fun b hb => by cases hb; exact Nat.le_succ _); have gz1 := own_ge hb1 (B := wz.heap.size) (fun b hb => by cases hb; exact Nat.le_succ _) HKZC.out; have hI1 := HIC.out w1 hg1)
              | (refine step_append_ints (by rfl) _ _ (by rfl) (base := w.heap.size) (v := .slice p1 k c1) (n := k) (xs := encN (SA.take k)) (by rfl) (by first | exact ho1 | exact ho1.alloc _) (news := [k]) (by rfl) (by first | exact HO.out w1 | exact hI1) (by simp; try omega) (by have := kz1.size; first | omega | (simp; omega)) ?_; intro p2 c2 w2 ho2 hg2 hb2; have kz2 : Kept (fun b => wz.heap.size ≤ b) wz w2 := (by first | exact kz_grow kz1 hg2 gz1 | exact kz_grow (kz1.alloc _) hg2 gz1); have gz2 := own_ge hb2 gz1 (by have := kz1.size; first | omega | (simp; omega)))
              | (refine step_append_ints (by rfl) _ _ (by rfl) (base := w.heap.size) (v := .slice p2 (k + [k].length) c2) (n := k + [k].length) (xs := encN (SA.take k) ++ encN [k]) (by rfl) ho2 (news := SA.drop k) (by rfl) (HD0.out _ kz2) HLD.out (by have := kz2.size; omega) ?_; intro p3 c3 w3 ho3 hg3 hb3; rw [HL3.out] at ho3; rw [HL3.out] at hb3 ⊢; have kz3 := kz_grow kz2 hg3 gz2))
            all_goals
              have hsr : encN (SA.take k) ++ encN [k] ++ encN (SA.drop k) = encN (sortA A (k + 1)) := by
                conv => rhs; unfold sortA insA
                rw [(HK.out.trans HKK.out.symm), HSA.out]
                simp [encN]
              rw [hsr] at ho3
              have HO3 := Lib.hid ho3
              have HB3 := Lib.hid (HBW.out.trans ((kz3.below (Nat.le_refl _) fun b h1 e => by omega).mono hWz))
              clear ho3 hsr
              go_wp2
              go_roundw
              case rel => exact ⟨k + 1, by omega, by go_num, HB3.out, HO3.out⟩
              case measure => simp [intOf]; omega
    · obtain rfl : i = n := by omega
      have g3 : decide ((i : Int) < (i : Int)) = false := by simp
      go_wp2
      go_ret
      exact ⟨_, rfl, hrow, hb⟩
end Go.Proofs.YtmdganpealbmpaaGreatDoor

/- A slice argument of one-cell elements, as a list of values. -/
namespace Go.Proofs.YtmdganpealbmpaaGreatDoor
open Go.ChangeShapes Go.WideShapes Go.ChangeAt Go.RowKit

/-- A slice that came in has these values. -/
def CameL (w : World) (v : Value) (l : List Value) : Prop :=
  (v = .slice none 0 0 ∧ l = []) ∨ ∃ a cap, v = .slice (some a) l.length cap ∧ l.length ≤ maxLen ∧ ∀ i x, l[i]? = some x → w.cell? (a.add i) = some x
theorem CameL.shape {w : World} {v : Value} {l : List Value} (h : CameL w v l) : ∃ p cap, v = .slice p l.length cap ∧ l.length ≤ maxLen := by
  rcases h with ⟨rfl, rfl⟩ | ⟨a, cap, rfl, hm, _⟩
  · exact ⟨_, _, rfl, Nat.zero_le _⟩
  · exact ⟨_, _, rfl, hm⟩
theorem CameL.cell {w w' : World} {p : Option Addr} {n cap : Nat} {l : List Value} (h : CameL w (.slice p n cap) l) (hb : Below w.heap.size w w') {i : Nat} {x : Value} (hx : l[i]? = some x) : ∃ a, p = some a ∧ w'.cell? (a.add i) = some x := by
  rcases h with ⟨h0, rfl⟩ | ⟨a, cap, hv, hm, hc⟩
  · simp at hx
  · obtain ⟨rfl, _, _⟩ := Value.slice.inj hv
    have h1 := hc i x hx
    exact ⟨a, rfl, (hb.cell (World.block_lt_of_cell? w _ h1)).trans h1⟩


theorem cameL_of {P : Program} {α H : Type} {enc : TypeId × Value → H} {W : World} {r : Reach} {b0 base : Nat} {sp : Nat → Bool} {held : Bool} {t e : TypeId} {v : Value} {d : DataW H} {ps : List MemPlace} (f : α → Value) (G : α → Prop) (ht : P.underlying t = some (.slice e)) (hc : P.cellsOf e = 1)
    (hval : Value.okWide P W r b0 t v) (hd : DataW.Trod enc P W base sp held t v d ps) (dec : ∀ n cs y, DataW.trod enc P W base sp held n e cs = some y → ∃ x, cs = [f x] ∧ G x) :
    ∃ l : List α, CameL W v (l.map f) ∧ ∀ x ∈ l, G x := by
  obtain ⟨a0, len0, cap0, rfl⟩ := okWide_slice ht hval
  obtain ⟨fuel, hf⟩ := hd
  rcases DataW.trod_slice ht hf with ⟨h0, _⟩ | ⟨a, len, cap, elems, rest, n, _, hcs, hx, hb, hl, hm, hlen, hel, _⟩
  · simp [Value.cells] at h0
    obtain ⟨rfl, rfl, rfl⟩ := h0
    exact ⟨[], Or.inl ⟨rfl, rfl⟩, by simp⟩
  · simp [Value.cells] at hcs
    obtain ⟨rfl, rfl, rfl⟩ := hcs
    have key : ∀ i, i < len0 → ∃ x, W.cell? (a.add i) = some (f x) ∧ G x := by
      intro i hi
      have h1 := hel i hi
      rw [hc, Nat.mul_one, List.getElem?_eq_getElem (by omega), Option.bind_eq_some_iff] at h1
      obtain ⟨cs', hcs', hy⟩ := h1
      obtain ⟨x, rfl, hg⟩ := dec _ _ _ hy
      exact ⟨x, cell_of_cells?_one hcs', hg⟩
    let g : Fin len0 → α := fun i => Classical.choose (key i i.2)
    have hg : ∀ i : Fin len0, W.cell? (a.add i) = some (f (g i)) ∧ G (g i) := fun i => Classical.choose_spec (key i i.2)
    refine ⟨List.ofFn g, Or.inr ⟨a, cap0, by simp, by simp; omega, ?_⟩, ?_⟩
    · intro i x hx
      rw [List.getElem?_map, Option.map_eq_some_iff] at hx
      obtain ⟨y, hy, rfl⟩ := hx
      rw [List.getElem?_ofFn] at hy
      split at hy
      · rename_i hi
        cases hy
        exact (hg ⟨i, hi⟩).1
      · cases hy
    · intro x hx
      rw [List.mem_ofFn] at hx
      obtain ⟨i, rfl⟩ := hx
      exact (hg i).2
theorem came_bools {P : Program} {H : Type} {enc : TypeId × Value → H} {W : World} {r : Reach} {b0 base : Nat} {sp : Nat → Bool} {held : Bool} {t e : TypeId} {v : Value} {d : DataW H} {ps : List MemPlace} (ht : P.underlying t = some (.slice e)) (he : P.underlying e = some .bool) (hc : P.cellsOf e = 1)
    (hval : Value.okWide P W r b0 t v) (hd : DataW.Trod enc P W base sp held t v d ps) : ∃ l : List Bool, CameL W v (l.map .bool) := by
  obtain ⟨l, h, _⟩ := cameL_of (α := Bool) .bool (fun _ => True) ht hc hval hd fun n cs y h => by
    obtain ⟨b, h1, _⟩ := DataW.trod_bool he h
    exact ⟨b, h1, trivial⟩
  exact ⟨l, h⟩
theorem came_ints {P : Program} {H : Type} {enc : TypeId × Value → H} {W : World} {r : Reach} {b0 base : Nat} {sp : Nat → Bool} {held : Bool} {t e : TypeId} {k : IntKind} {v : Value} {d : DataW H} {ps : List MemPlace} (ht : P.underlying t = some (.slice e)) (he : P.underlying e = some (.int k)) (hc : P.cellsOf e = 1)
    (hval : Value.okWide P W r b0 t v) (hd : DataW.Trod enc P W base sp held t v d ps) : ∃ l : List Int, CameL W v (l.map (.int k)) ∧ ∀ x ∈ l, (Lit.int k x).wf = true :=
  cameL_of (α := Int) (.int k) (fun x => (Lit.int k x).wf = true) ht hc hval hd fun n cs y h => by
    obtain ⟨b, h1, _, h3⟩ := DataW.trod_int he h
    exact ⟨b, h1, h3⟩
end Go.Proofs.YtmdganpealbmpaaGreatDoor

/- RefOrder, RefView: the order of those that are done. -/
namespace Go.Proofs.YtmdganpealbmpaaGreatDoor
open Go.RowKit Bl Th
set_option maxRecDepth 10000

theorem attinfo : (Tryz.prog.info? 85).map (fun i => (i.zero, i.size, i.bytes)) = some (some (.agg #[.int .i64 0, .int .i64 0, .int .i64 0, .bool false, .int .i64 0, .int .i64 0]), 6, 48) := by kernel_rfl
theorem which_succ (y : Th.Sys) (k : Nat) : whichK y (k + 1) = whichK y k ++ (if dnK y k = true then [k] else []) := by
  unfold whichK
  rw [List.range_succ, List.filter_append]
  cases h : dnK y k <;> simp [h]
theorem atts_succ (y : Th.Sys) (k : Nat) : attsK y (k + 1) = attsK y k ++ (if dnK y k = true then [attK y k] else []) := by
  unfold attsK
  rw [which_succ, List.map_append]
  split <;> rfl
theorem which_len (y : Th.Sys) (k : Nat) : (whichK y k).length ≤ k := by
  unfold whichK
  have := List.length_filter_le (dnK y) (List.range k)
  simpa using this
theorem atts_len (y : Th.Sys) (k : Nat) : (attsK y k).length = (whichK y k).length := by simp [attsK]
theorem sca {w : World} {a o : Nat} {x : Value} {ob : Obj} (h : a < w.heap.size) (e : w.cell? ⟨a, o, none⟩ = some x) : (w.alloc ob).cell? ⟨a, o, none⟩ = some x :=
  (World.cell?_of_block (a := ⟨a, o, none⟩) (Below.heap_alloc w ob a h)).trans e
theorem newsN {w : World} (l : List Value) (t : TypeId) : ∀ j u, l[j]? = some u → (w.alloc (.cells l.toArray t)).cell? ((⟨w.heap.size, 0, none⟩ : Addr).add j) = some u := by
  intro j u hj
  have h1 := (Cells.new w l t).cell j
  rw [hj] at h1
  rw [← h1]
  congr 1
  unfold Addr.add
  split <;> simp_all
/-- What came of one, in memory. -/
theorem PlayX.outAt {W : World} {X : List Nat} {pa pb pp g k : Nat} {cells : List Nat} {L : List (List Op13)} {lv bv ev tv ov : Value} {its : List It} {sn : Nat → Pass} {Bs : List (List Nat)} {y : Th.Sys} {w : World} {t : It} (h : PlayX W X pa pb pp g cells L lv bv ev tv ov its sn Bs y w) (ht : its[k]? = some t) :
    ∃ uv, Cells w t.po [uv, .bool (outK y k).done, .bool (outK y k).wrote, .int .i64 (outK y k).stamp] 38 ∧ w.ownsRow W.heap.size 41 1 uv (outK y k).told.length (encT (outK y k).told) := by
  obtain ⟨s, B, h1, h2, h3, h4⟩ := h.item k t ht
  obtain ⟨lv3, ev3, E3, Q3, -, hl3⟩ := h3
  obtain ⟨uv, -, -, -, -, a1, a2, -⟩ := hl3.aux
  have e : outK y k = s.aux := by unfold outK; rw [h1]
  rw [e]
  exact ⟨uv, a1, a2⟩
/-- What holds at the first loop's head. -/
def OrdJ (w : World) (y : Th.Sys) (N : Nat) (av wv kv : Value) (wr : World) : Prop := ∃ k : Nat, k ≤ N ∧ kv = .int .i64 (k : Int) ∧ Below w.heap.size w wr ∧ wr.ownsRow w.heap.size 85 6 av (whichK y k).length ((attsK y k).flatMap encAtt) ∧ wr.ownsRow w.heap.size 3 1 wv (whichK y k).length (encN (whichK y k)) ∧ ∀ b, av.ownBlock = some b → wv.ownBlock ≠ some b
set_option maxHeartbeats 8000000 in
theorem orderX_ok {W : World} {X : List Nat} {pa pb pp g : Nat} {cells : List Nat} {L : List (List Op13)} {lv bv ev tv ov : Value} {its : List It} {sn : Nat → Pass} {Bs : List (List Nat)} {y : Th.Sys} {w : World} (h : PlayX W X pa pb pp g cells L lv bv ev tv ov its sn Bs y w) (hF : FairA (attsK y L.length)) (hl1 : 1 ≤ L.length) (hl4 : L.length ≤ 4) :
    Calls Tryz.prog 12 #[.pointer (some ⟨pp, 0, none⟩)] w fun e w' => ∃ v, e = .returned (.tuple #[v, .bool true]) ∧ w'.ownsRow w.heap.size 3 1 v (orderK y L.length).length (encN (orderK y L.length)) ∧ Below w.heap.size w w' := by
  obtain ⟨i0, hi0, zi0, si0, bi0⟩ := info_parts attinfo
  obtain ⟨len, hlen⟩ : ∃ len, L.length = len := ⟨_, rfl⟩
  have hil : its.length = len := h.lens.1.trans hlen
  rw [hlen] at hF hl1 hl4 ⊢
  have HP := Lib.hid h; have HF := Lib.hid hF; have HIL := Lib.hid hil
  obtain ⟨pt', ct, etv⟩ := ownsRow_shape h.ts
  obtain ⟨po', co, eov⟩ := ownsRow_shape h.outs
  obtain ⟨pb', cb, ebv⟩ := ownsRow_shape h.begs
  obtain ⟨pe', ce, eev⟩ := ownsRow_shape h.fins
  subst etv eov ebv eev
  have q3 := h.main.cell 3
  simp only [List.getElem?_cons_succ, List.getElem?_cons_zero] at q3
  rw [hil] at q3
  clear h hF hil hlen
  go_enter Tryz.func12, Tryz.ntmps12
  go_wp2
  go_loopw [4, 5, 17] (OrdJ w y len) (fun _ _ k _ => len - (intOf k).toNat)
  case atStart => exact ⟨0, Nat.zero_le _, rfl, Below.refl _ _, World.ownsRow_nil _ _ _ _, World.ownsRow_nil _ _ _ _, fun b hb => by cases hb⟩
  case round =>
    obtain ⟨k, hk, rfl, hb, hra, hrw, hap⟩ := hrel
    by_cases hlt : k < len
    · have hlt' : (k : Int) < (len : Int) := by omega
      have hp := HP.out.under hb
      obtain ⟨t, ht⟩ : ∃ t, its[k]? = some t := ⟨its[k]'(by rw [HIL.out]; exact hlt), List.getElem?_eq_getElem _⟩
      obtain ⟨uv, hc, -⟩ := hp.outAt ht
      obtain ⟨c0, c1, c2, c3, -⟩ := four hc
      obtain ⟨gv, hgv, q2⟩ := ptr_at (k := k) (x := .pointer (some ⟨t.po, 0, none⟩)) hp.outs (by rw [outV, List.getElem?_map, ht]; rfl)
      subst hgv
      have hbl : k < y.beg.length := by have := hp.begs.1; simp [encN] at this; rw [HIL.out] at this; omega
      have hfl : k < y.fin.length := by have := hp.fins.1; simp [encN] at this; rw [HIL.out] at this; omega
      obtain ⟨vb, hvb⟩ : ∃ vb, y.beg.getD k 0 = vb := ⟨_, rfl⟩
      obtain ⟨vf, hvf⟩ : ∃ vf, y.fin.getD k 0 = vf := ⟨_, rfl⟩
      obtain ⟨gb, hgb, r2⟩ := ptr_at (k := k) (x := .int .i64 (vb : Int)) hp.begs (by rw [← hvb]; simp [encN, hbl, List.getD_eq_getElem?_getD])
      obtain ⟨ge, hge, e2⟩ := ptr_at (k := k) (x := .int .i64 (vf : Int)) hp.fins (by rw [← hvf]; simp [encN, hfl, List.getD_eq_getElem?_getD])
      subst hgb hge
      have hppw : pp < w.heap.size := HP.out.main.lt
      have hgvw : gv < w.heap.size := (HP.out.outs.lt gv rfl).2
      have hgbw : gb < w.heap.size := (HP.out.begs.lt gb rfl).2
      have hgew : ge < w.heap.size := (HP.out.fins.lt ge rfl).2
      have hpow : t.po < w.heap.size := by
        obtain ⟨uv', hc', -⟩ := HP.out.outAt ht
        exact hc'.lt
      have q4 := hp.main.cell 4
      have q6 := hp.main.cell 6
      have q7 := hp.main.cell 7
      simp only [List.getElem?_cons_succ, List.getElem?_cons_zero] at q4 q6 q7
      rw [HIL.out] at q4 q6 q7
      have hkl : (k : Int) < (its.length : Int) := by rw [HIL.out]; exact hlt'
      have HB := Lib.hid hb; have HRA := Lib.hid hra; have HRW := Lib.hid hrw; have HAP := Lib.hid hap
      have HSW := Lib.hid (which_succ y k); have HSA := Lib.hid (atts_succ y k)
      have HWL := Lib.hid (which_len y k)
      have HAK := Lib.hid (show attK y k = ⟨(outK y k).stamp, (outK y k).wrote, (vb : Int), (vf : Int)⟩ by unfold attK; rw [hvb, hvf])
      clear hvb hvf
      clear hp ht hc hb hra hrw hap
      cases hdn : dnK y k with
      | false =>
        have c1' : wr.cell? ⟨t.po, 1, none⟩ = some (.bool false) := by rw [c1]; unfold dnK at hdn; rw [hdn]
        clear c1
        go_wp2
        go_roundw
        case rel => exact ⟨k + 1, by omega, by go_num, HB.out, by rw [HSW.out, HSA.out, hdn]; simpa using HRA.out, by rw [HSW.out, hdn]; simpa using HRW.out, HAP.out⟩
        case measure => simp [intOf]; omega
      | true =>
        have c1' : wr.cell? ⟨t.po, 1, none⟩ = some (.bool true) := by rw [c1]; unfold dnK at hdn; rw [hdn]
        clear c1
        go_wp2_with fail
        obtain ⟨pav, cav, rfl⟩ := ownsRow_shape HRA.out
        have hnews := newsN (w := wr) (encAtt (attK y k)) 85
        rw [HAK.out] at hnews
        have HNEWS := Lib.hid (show ∀ j u, (encAtt ⟨(outK y k).stamp, (outK y k).wrote, (vb : Int), (vf : Int)⟩)[j]? = some u → ((wr.alloc (.cells #[.int .i64 0, .int .i64 0, .int .i64 (outK y k).stamp, .bool (outK y k).wrote, .int .i64 (vb : Int), .int .i64 (vf : Int)] 85)).drew).cell? ((⟨wr.heap.size, 0, none⟩ : Addr).add j) = some u from hnews)
        have HONE := Lib.hid (show ∀ u ∈ encAtt ⟨(outK y k).stamp, (outK y k).wrote, (vb : Int), (vf : Int)⟩, u.oneCell' = true by intro u hu; simp [encAtt] at hu; rcases hu with rfl | rfl | rfl | rfl | rfl <;> rfl)
        have HROW := Lib.hid (show ((wr.alloc (.cells #[.int .i64 0, .int .i64 0, .int .i64 (outK y k).stamp, .bool (outK y k).wrote, .int .i64 (vb : Int), .int .i64 (vf : Int)] 85)).drew).ownsRow w.heap.size 85 6 (.slice pav (whichK y k).length cav) (whichK y k).length ((attsK y k).flatMap encAtt) from HRA.out.alloc _)
        have HBZ := Lib.hid (show w.heap.size ≤ ((wr.alloc (.cells #[.int .i64 0, .int .i64 0, .int .i64 (outK y k).stamp, .bool (outK y k).wrote, .int .i64 (vb : Int), .int .i64 (vf : Int)] 85)).drew).heap.size from Nat.le_trans HB.out.size (by show wr.heap.size ≤ (wr.alloc _).heap.size; simp))
        have hwl := HWL.out
        clear hnews
        have HSK := Lib.hid (fun (w3 : World) (hg : ((wr.alloc (.cells #[.int .i64 0, .int .i64 0, .int .i64 (outK y k).stamp, .bool (outK y k).wrote, .int .i64 (vb : Int), .int .i64 (vf : Int)] 85)).drew).grownBy w3 (Value.slice pav (whichK y k).length cav).ownBlock) => (show w3.cell? ⟨pp, 4, none⟩ = some (.slice (some ⟨gv, 0, none⟩) len co) ∧ w3.cell? ⟨gv, k, none⟩ = some (.pointer (some ⟨t.po, 0, none⟩)) ∧ w3.cell? ⟨t.po, 2, none⟩ = some (.bool (outK y k).wrote) ∧ w3.cell? ⟨t.po, 3, none⟩ = some (.int .i64 (outK y k).stamp) ∧ w3.cell? ⟨pp, 6, none⟩ = some (.slice (some ⟨gb, 0, none⟩) len cb) ∧ w3.cell? ⟨gb, k, none⟩ = some (.int .i64 (vb : Int)) ∧ w3.cell? ⟨pp, 7, none⟩ = some (.slice (some ⟨ge, 0, none⟩) len ce) ∧ w3.cell? ⟨ge, k, none⟩ = some (.int .i64 (vf : Int)) from by
          have key : ∀ (b o : Nat) (v : Value), b < w.heap.size → wr.cell? ⟨b, o, none⟩ = some v → w3.cell? ⟨b, o, none⟩ = some v := fun b o v hbw hv => by
            have hbr : b < wr.heap.size := World.block_lt_of_cell? wr ⟨b, o, none⟩ hv
            have h1 : (wr.alloc (.cells #[.int .i64 0, .int .i64 0, .int .i64 (outK y k).stamp, .bool (outK y k).wrote, .int .i64 (vb : Int), .int .i64 (vf : Int)] 85)).cell? ⟨b, o, none⟩ = some v := sca hbr hv
            refine (World.cell?_of_block (a := ⟨b, o, none⟩) (hg.block b (Nat.lt_of_lt_of_le hbr (by show wr.heap.size ≤ (wr.alloc _).heap.size; simp)) (fun e => ?_))).trans h1
            have := (HRA.out.lt b e.symm).1
            omega
          exact ⟨key _ _ _ hppw q4, key _ _ _ hgvw q2, key _ _ _ hpow c2, key _ _ _ hpow c3, key _ _ _ hppw q6, key _ _ _ hgbw r2, key _ _ _ hppw q7, key _ _ _ hgew e2⟩))
        go_region_held3 (fun wx => wx.cell? ⟨pp, 4, none⟩ = some (.slice (some ⟨gv, 0, none⟩) len co) ∧ wx.cell? ⟨gv, k, none⟩ = some (.pointer (some ⟨t.po, 0, none⟩)) ∧ wx.cell? ⟨t.po, 2, none⟩ = some (.bool (outK y k).wrote) ∧ wx.cell? ⟨t.po, 3, none⟩ = some (.int .i64 (outK y k).stamp) ∧ wx.cell? ⟨pp, 6, none⟩ = some (.slice (some ⟨gb, 0, none⟩) len cb) ∧ wx.cell? ⟨gb, k, none⟩ = some (.int .i64 (vb : Int)) ∧ wx.cell? ⟨pp, 7, none⟩ = some (.slice (some ⟨ge, 0, none⟩) len ce) ∧ wx.cell? ⟨ge, k, none⟩ = some (.int .i64 (vf : Int)))
          (first | exact ⟨q4, q2, c2, c3, q6, r2, q7, e2⟩ | exact HS3.out | go_keep)
          (first | (refine step_append_lies _ (by rfl) _ _ _ (by rfl) w.heap.size 85 i0 _ 6 48 Tryz.underlying83 hi0 zi0 si0 bi0 rfl (by omega) (.slice pav (whichK y k).length cav) (whichK y k).length ((attsK y k).flatMap encAtt) (by rfl) HROW.out ⟨wr.heap.size, 0, none⟩ 1 1 (encAtt ⟨(outK y k).stamp, (outK y k).wrote, (vb : Int), (vf : Int)⟩) (by rfl) (by rfl) HNEWS.out HONE.out (by omega) (by unfold maxLen; omega) (by omega) HBZ.out (wr.heap.size + 1) (by show (wr.alloc _).heap.size = _; simp) ?_; intro ga capa w3 hoa hga hba hlta; have HS3 := Lib.hid (HSK.out w3 hga)))
        obtain ⟨pwv, cwv, rfl⟩ := ownsRow_shape HRW.out
        have hw3 : w3.ownsRow w.heap.size 3 1 (.slice pwv (whichK y k).length cwv) (whichK y k).length (encN (whichK y k)) := World.ownsRow.kept (show ((wr.alloc (.cells #[.int .i64 0, .int .i64 0, .int .i64 (outK y k).stamp, .bool (outK y k).wrote, .int .i64 (vb : Int), .int .i64 (vf : Int)] 85)).drew).ownsRow w.heap.size 3 1 (.slice pwv (whichK y k).length cwv) (whichK y k).length (encN (whichK y k)) from HRW.out.alloc _) hga (by
          cases hpw : (Value.slice pwv (whichK y k).length cwv).ownBlock with
          | none => exact .inl rfl
          | some b => exact .inr fun e => HAP.out b e.symm hpw)
        have k0 : Kept (fun b => w.heap.size ≤ b) w wr := Kept.of_below HB.out
        have k3 : Kept (fun b => w.heap.size ≤ b) w w3 := kz_grow ((k0.alloc (.cells #[.int .i64 0, .int .i64 0, .int .i64 (outK y k).stamp, .bool (outK y k).wrote, .int .i64 (vb : Int), .int .i64 (vf : Int)] 85)).drew) hga (fun b hb => (HRA.out.lt b hb).1)
        have hgax : ga = wr.heap.size + 1 ∨ (Value.slice pav (whichK y k).length cav).ownBlock = some ga := hba.symm
        have hrow : (attsK y k).flatMap encAtt ++ encAtt ⟨(outK y k).stamp, (outK y k).wrote, (vb : Int), (vf : Int)⟩ = (attsK y (k + 1)).flatMap encAtt := by
          rw [HSA.out, if_pos hdn, HAK.out]; simp
        rw [hrow] at hoa
        have hl1' : (whichK y (k + 1)).length = (whichK y k).length + 1 := by rw [HSW.out, if_pos hdn]; simp
        have HW3 := Lib.hid hw3; have HK3 := Lib.hid k3; have HOA := Lib.hid hoa; have HGA := Lib.hid hgax; have HLT := Lib.hid hlta; have HL1 := Lib.hid hl1'
        have HW3S := Lib.hid k3.size
        have HZL := Lib.hid (fun (wx : World) => (show IntsAt (wx.alloc (.cells #[.int .i64 (k : Int)] 3)) (.slice (some ⟨wx.heap.size, 0, none⟩) 1 1) [k] from
          IntsAt.of_cells rfl (fun j z hj => by
            have hc := (Cells.new wx [.int .i64 (k : Int)] 3).cell (0 + j)
            cases j with
            | zero => simp only [List.getElem?_cons_zero, Option.some.injEq] at hj; subst hj; exact hc
            | succ j => simp at hj)))
        clear hw3 k0 k3 hoa hga hba hlta hgax hrow HS3 HSK HNEWS HONE HROW HBZ q4 q2 c2 c3 q6 r2 q7 e2 c1' hl1'
        go_wp2_with (first | (at_builtin; refine wpList_append_ints rfl _ _ rfl (v := .slice pwv (whichK y k).length cwv) rfl (HW3.out.alloc _) rfl (HZL.out w3) (by have := HWL.out; simp; omega) (by have := HW3S.out; simp; omega) ?_; intro p5 c5 w5 ho5 hg5 hb5; have HO5 := Lib.hid ho5; have HG5 := Lib.hid hg5; have HB5 := Lib.hid hb5; clear ho5 hg5 hb5))
        have k5 : Kept (fun b => w.heap.size ≤ b) w w5 := kz_grow (HK3.out.alloc _) HG5.out (fun b hb => (HW3.out.lt b hb).1)
        have hoa5 : w5.ownsRow w.heap.size 85 6 (.slice (some ⟨ga, 0, none⟩) ((whichK y k).length + 1) capa) ((whichK y k).length + 1) ((attsK y (k + 1)).flatMap encAtt) := World.ownsRow.kept (HOA.out.alloc _) HG5.out (.inr fun e => by
          have e' : (Value.slice pwv (whichK y k).length cwv).ownBlock = some ga := e.symm
          rcases HGA.out with q | q
          · have := (HRW.out.lt ga e').2; omega
          · exact HAP.out ga q e')
        go_roundw
        case rel =>
          refine ⟨k + 1, by omega, by go_num, k5.below (Nat.le_refl _) (fun b h1 e => by omega), by rw [HL1.out]; exact hoa5, ?_, ?_⟩
          · rw [HL1.out, HSW.out, if_pos hdn]
            have := HO5.out
            simp only [List.length_singleton] at this
            simpa [encN] using this
          · intro b hb hb'
            cases hb
            have hq : (Value.slice p5 ((whichK y k).length + 1) c5).ownBlock = (Value.slice pwv (whichK y k).length cwv).ownBlock ∨ (Value.slice p5 ((whichK y k).length + 1) c5).ownBlock = _ := HB5.out
            rcases hq with q | q
            · rw [q] at hb'
              rcases HGA.out with z | z
              · have := (HRW.out.lt ga hb').2; omega
              · exact HAP.out ga z hb'
            · rw [q] at hb'
              have := HLT.out
              simp only [World.size_alloc, Option.some.injEq] at hb'
              omega
        case measure => simp [intOf]; omega
    · obtain rfl : k = len := by omega
      have g3 : decide ((k : Int) < (k : Int)) = false := by simp
      obtain ⟨pav, cav, rfl⟩ := ownsRow_shape hra
      obtain ⟨pwv, cwv, rfl⟩ := ownsRow_shape hrw
      obtain ⟨m, hm⟩ : ∃ m, (whichK y k).length = m := ⟨_, rfl⟩
      have hml : (attsK y k).length = m := (atts_len y k).trans hm
      have hm4 : m ≤ k := by rw [← hm]; exact which_len y k
      have hat : AttsAt w (.slice pav m cav) (attsK y k) wr := by
        unfold AttsAt
        rw [hml, ← hm]
        exact hra
      rw [hm] at hrw ⊢
      have HB := Lib.hid hb; have HAT := Lib.hid hat; have HRW := Lib.hid hrw; have HML := Lib.hid hml; have HM := Lib.hid hm
      clear hb hra hat hrw hap hml hm q3 hi0 zi0 si0 bi0
      go_wp2_with fail
      refine (check12_ok HAT.out HML.out HF.out (by omega)).mono ?_
      rintro e w2 ⟨rfl, hb2⟩
      have HAT2 := Lib.hid (HAT.out.below hb2)
      have HB2 := Lib.hid (HB.out.trans (hb2.mono HB.out.size))
      have HRW2 := Lib.hid (ownsRow_kept HRW.out (Kept.of_below hb2) (fun b hb e => by have := (HRW.out.lt b hb).2; omega))
      clear hb2
      go_wp2_with fail
      refine (sort12_ok HAT2.out HML.out (by omega)).mono ?_
      rintro e w3 ⟨sv, rfl, hs3, hb3⟩
      obtain ⟨psv, csv, rfl⟩ := ownsRow_shape hs3
      have HB3 := Lib.hid (HB2.out.trans (hb3.mono HB2.out.size))
      have HRW3 := Lib.hid (ownsRow_kept HRW2.out (Kept.of_below hb3) (fun b hb e => by have := (HRW2.out.lt b hb).2; omega))
      have HS3 := Lib.hid hs3
      clear hb3 hs3
      obtain ⟨SA, hSA⟩ : ∃ SA, sortA (attsK y k) m = SA := ⟨_, rfl⟩
      have HSA := Lib.hid hSA
      have HSL := Lib.hid (show SA.length = m by rw [← hSA]; exact sort_len m)
      have HOK := Lib.hid (show orderK y k = SA.map fun a => (whichK y k).getD a 0 by unfold orderK; rw [HML.out, hSA])
      clear hSA
      go_wp2
      go_loopw [9, 81] (fun ov jv wx => ∃ j : Nat, j ≤ m ∧ jv = .int .i64 (j : Int) ∧ Below w3.heap.size w3 wx ∧ wx.ownsRow w3.heap.size 3 1 ov j (encN ((SA.take j).map fun a => (whichK y k).getD a 0))) (fun _ j _ => m - (intOf j).toNat)
      case atStart => exact ⟨0, Nat.zero_le _, rfl, Below.refl _ _, World.ownsRow_nil _ _ _ _⟩
      case round =>
        obtain ⟨j, hj, rfl, hbx, hro⟩ := hrel
        by_cases hjm : j < m
        · have hjm' : (j : Int) < (m : Int) := by omega
          obtain ⟨a, ha⟩ : ∃ a, SA[j]? = some a := ⟨SA[j]'(by rw [HSL.out]; exact hjm), List.getElem?_eq_getElem _⟩
          have ham : a < m := by
            have := List.mem_of_getElem? ha
            rw [← HSA.out] at this
            exact sort_mem.1 this
          have ham' : (a : Int) < (m : Int) := by omega
          have hsx := ownsRow_kept HS3.out (Kept.of_below hbx) (fun b hb e => by have := (HS3.out.lt b hb).2; omega)
          have hwx := ownsRow_kept HRW3.out (Kept.of_below hbx) (fun b hb e => by have := (HRW3.out.lt b hb).2; omega)
          rw [HSA.out] at hsx
          obtain ⟨gs, rfl, q1⟩ := ptr_at (k := j) (x := .int .i64 (a : Int)) hsx (by simp [encN, ha])
          obtain ⟨x, hx⟩ : ∃ x, (whichK y k).getD a 0 = x := ⟨_, rfl⟩
          obtain ⟨gw, rfl, q2⟩ := ptr_at (k := a) (x := .int .i64 (x : Int)) hwx (by
            rw [← hx]
            have : a < (whichK y k).length := by rw [HM.out]; exact ham
            simp [encN, List.getD_eq_getElem?_getD, this])
          obtain ⟨pov, cov, rfl⟩ := ownsRow_shape hro
          have hnx : (SA.take (j + 1)).map (fun a => (whichK y k).getD a 0) = (SA.take j).map (fun a => (whichK y k).getD a 0) ++ [x] := by
            rw [List.take_add_one, ha, List.map_append, ← hx]; rfl
          have HNX := Lib.hid hnx; have HBX := Lib.hid hbx; have HRO := Lib.hid hro
          have HZL := Lib.hid (fun (wx : World) => (show IntsAt (wx.alloc (.cells #[.int .i64 (x : Int)] 3)) (.slice (some ⟨wx.heap.size, 0, none⟩) 1 1) [x] from
            IntsAt.of_cells rfl (fun j z hj => by
              have hc := (Cells.new wx [.int .i64 (x : Int)] 3).cell (0 + j)
              cases j with
              | zero => simp only [List.getElem?_cons_zero, Option.some.injEq] at hj; subst hj; exact hc
              | succ j => simp at hj)))
          have hbs := hbx.size
          clear ha hsx hwx hx hnx hbx hro
          go_wp2_with (first | (at_builtin; refine wpList_append_ints rfl _ _ rfl (v := .slice pov j cov) rfl (HRO.out.alloc _) rfl (HZL.out _) (by simp; omega) (by simp; omega) ?_; intro p5 c5 w5 ho5 hg5 hb5; have HO5 := Lib.hid ho5; have HG5 := Lib.hid hg5; clear ho5 hg5 hb5))
          have k5 : Kept (fun b => w3.heap.size ≤ b) w3 w5 := kz_grow ((Kept.of_below HBX.out).alloc _) HG5.out (fun b hb => (HRO.out.lt b hb).1)
          go_roundw
          case rel =>
            refine ⟨j + 1, by omega, by go_num, k5.below (Nat.le_refl _) (fun b h1 e => by omega), ?_⟩
            rw [HNX.out]
            have := HO5.out
            simp only [List.length_singleton] at this
            simpa [encN] using this
          case measure => simp [intOf]; omega
        · obtain rfl : j = m := by omega
          have g4 : decide ((j : Int) < (j : Int)) = false := by simp
          have hfin : (SA.take j).map (fun a => (whichK y k).getD a 0) = orderK y k := by
            rw [HOK.out, ← HSL.out, List.take_length]
          rw [hfin] at hro
          have hol : (orderK y k).length = j := by rw [HOK.out, List.length_map, HSL.out]
          have HRO := Lib.hid hro; have HBX := Lib.hid hbx
          clear hro hbx hfin
          go_wp2
          (try simp only [Exit.inBlock, Exit.then]); refine bodyPost_ret (results_tmp2 rfl _ _ _) rfl ?_
          refine ⟨_, rfl, ?_, HB3.out.trans (HBX.out.mono HB3.out.size)⟩
          rw [hol]
          exact ownsRow_mono HRO.out HB3.out.size
end Go.Proofs.YtmdganpealbmpaaGreatDoor
