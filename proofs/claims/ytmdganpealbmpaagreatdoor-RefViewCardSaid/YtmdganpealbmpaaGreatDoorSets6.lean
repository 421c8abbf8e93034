/- Layer 7 (sets): Writes, the loop. -/
import Derived.Test.YtmdganpealbmpaaGreatDoorSets5
namespace Go.Proofs.YtmdganpealbmpaaGreatDoor
open Go.RowKit Bl Th Go.Shelf Go.Sort
set_option maxRecDepth 10000

def encEnt (e : Ent) : List Value := [.int .u64 e.key, e.val]
def entPair (e : Ent) : Nat × Nat := (e.key.toNat, match e.val with | .int _ n => n.toNat | _ => 0)
theorem ent_look {es : List Ent} (hk : (es.map (·.key)).Nodup) : ∀ e ∈ es, look e.key es = some e.val := by
  induction es with
  | nil => simp
  | cons x es ih =>
    intro e he
    simp only [List.map_cons, List.nodup_cons] at hk
    unfold look
    rcases List.mem_cons.1 he with q | q
    · rw [if_pos (by rw [q]), q]
    · have : x.key ≠ e.key := fun c => hk.1 (by rw [c]; exact List.mem_map.2 ⟨e, q, rfl⟩)
      rw [if_neg this]
      exact ih hk.2 e q
theorem WMap.ent {ws : List (Nat × Nat)} {es : List Ent} {c : Nat} (h : WMap ws es c) {e : Ent} (he : e ∈ es) : ∃ k v : Nat, e.key = (k : Int) ∧ e.val = .int .u64 (v : Int) ∧ (k, v) ∈ ws := by
  obtain ⟨k, hk⟩ := h.nat e.key (List.mem_map.2 ⟨e, he, rfl⟩)
  have hl := ent_look h.keys e he
  rw [hk, h.look k] at hl
  cases hw : wget k ws with
  | none => rw [hw] at hl; simp at hl
  | some v =>
    rw [hw] at hl
    simp only [Option.map_some, Option.some.injEq] at hl
    exact ⟨k, v, hk, hl.symm, wget_mem k v ws hw⟩
theorem WMap.enc {ws : List (Nat × Nat)} {es : List Ent} {c : Nat} (h : WMap ws es c) {e : Ent} (he : e ∈ es) : encEnt e = encW (entPair e) := by
  obtain ⟨k, v, hk, hv, _⟩ := h.ent he
  simp [encEnt, encW, entPair, hk, hv]
theorem sorted_pairwise : ∀ l : List (Nat × Nat), Th.Sorted l → l.Pairwise (fun x y => x.1 < y.1)
  | [], _ => .nil
  | _ :: l, ⟨h1, h2⟩ => .cons h1 (sorted_pairwise l h2)
theorem WMap.perm {ws : List (Nat × Nat)} {es : List Ent} {c : Nat} (h : WMap ws es c) : (es.map entPair).Perm ws := by
  have n1 : ws.Nodup := (sorted_pairwise ws h.sorted).imp fun hxy e => by rw [e] at hxy; exact Nat.lt_irrefl _ hxy
  have n2 : (es.map entPair).Nodup := by
    have := h.keys
    have hp : es.Pairwise (fun a b => a.key ≠ b.key) := List.pairwise_map.1 this
    rw [List.Nodup, List.pairwise_map]
    refine hp.imp_of_mem fun {a b} ha hb hab e => hab ?_
    obtain ⟨k, _, hk, _⟩ := h.ent ha
    obtain ⟨j, _, hj, _⟩ := h.ent hb
    have := congrArg Prod.fst e
    simp only [entPair, hk, hj, Int.toNat_natCast] at this
    rw [hk, hj, this]
  rw [List.perm_ext_iff_of_nodup n2 n1]
  intro x
  constructor
  · intro hx
    obtain ⟨e, he, rfl⟩ := List.mem_map.1 hx
    obtain ⟨k, v, hk, hv, hm⟩ := h.ent he
    simpa [entPair, hk, hv] using hm
  · intro hx
    have hw := wget_of_mem ws h.sorted x hx
    have hl := h.look x.1
    rw [hw] at hl
    simp only [Option.map_some] at hl
    have hk : (x.1 : Int) ∈ es.map (·.key) := by
      by_cases q : (x.1 : Int) ∈ es.map (·.key)
      · exact q
      · rw [(look_key _ es).2 q] at hl; cases hl
    obtain ⟨e, he, hek⟩ := List.mem_map.1 hk
    have h2 := ent_look h.keys e he
    rw [hek, hl] at h2
    simp only [Option.some.injEq] at h2
    exact List.mem_map.2 ⟨e, he, by simp [entPair, hek, ← h2]⟩
theorem nodup_sub_len : ∀ (l m : List Nat), l.Nodup → (∀ x ∈ l, x ∈ m) → l.length ≤ m.length
  | [], _, _, _ => Nat.zero_le _
  | x :: l, m, hn, hs => by
    have hx := hs x (by simp)
    have := nodup_sub_len l (m.erase x) (List.nodup_cons.1 hn).2 fun y hy => by
      refine (List.mem_erase_of_ne ?_).2 (hs y (by simp [hy]))
      rintro rfl
      exact (List.nodup_cons.1 hn).1 hy
    rw [List.length_erase_of_mem hx] at this
    have hp : 0 < m.length := List.length_pos_of_mem hx
    simp only [List.length_cons]
    omega
theorem asc_unique {ws l : List (Nat × Nat)} (hs : Th.Sorted ws) (hp : l.Perm ws) (ha : AscW l) : l = ws := by
  have p1 : l.Pairwise (fun x y => x.1 ≤ y.1) := List.pairwise_iff_getElem.2 fun i j hi hj hij => ha i j _ _ hij (List.getElem?_eq_getElem hi) (List.getElem?_eq_getElem hj)
  have p2 : ws.Pairwise (fun x y => x.1 ≤ y.1) := (sorted_pairwise ws hs).imp fun h => Nat.le_of_lt h
  refine List.Perm.eq_of_pairwise ?_ p1 p2 hp
  intro x y hx hy h1 h2
  have e : x.1 = y.1 := Nat.le_antisymm h1 h2
  have w1 := wget_of_mem ws hs x (hp.mem_iff.1 hx)
  have w2 := wget_of_mem ws hs y hy
  rw [e, w2] at w1
  exact Prod.ext e (Option.some.inj w1).symm

/-- The frame of the loop of Writes. -/
structure GathW (bw : Nat) (ew : List Ent) (cw : Nat) (w : World) (out : Value) (wr : World) (done : List Ent) : Prop where
  below : Below w.heap.size w wr
  iter : IterAt wr w.heap.size bw cw (done.map (·.born)) cw
  row : wr.ownsRow (w.heap.size + 1) 159 2 out done.length (done.flatMap encEnt)
  mem : ∀ x ∈ done, x ∈ ew
  nodup : (done.map (·.born)).Nodup
def iterSeen (w : World) (r : Nat) : Nat := match w.heap[r]? with | some (.mapIter _ _ seen _) => seen.size | _ => 0
theorem IterAt.count {w : World} {r b s c : Nat} {seen : List Nat} (h : IterAt w r b s seen c) : iterSeen w r = seen.length := by
  unfold iterSeen; rw [show w.heap[r]? = _ from h]; simp
theorem GathW.few {bw : Nat} {ew : List Ent} {cw : Nat} {w wr : World} {out : Value} {done : List Ent} (h : GathW bw ew cw w out wr done) : done.length ≤ ew.length := by
  have := nodup_sub_len (done.map (·.born)) (ew.map (·.born)) h.nodup fun x hx => by
    obtain ⟨e, he, rfl⟩ := List.mem_map.1 hx
    exact List.mem_map.2 ⟨e, h.mem e he, rfl⟩
  simpa using this
theorem wroteInfo : (Tryz.prog.info? 159).map (fun i => (i.zero, i.size, i.bytes)) = some (some (.agg #[.int .u64 0, .int .u64 0]), 2, 16) := by kernel_rfl
/-- What Writes answers. -/
def WritesPost (s : Sets) (w : World) (e : Ending) (w' : World) : Prop := ∃ v, e = .returned v ∧ PairsAt w.heap.size w' v s.writes ∧ Below w.heap.size w w'

theorem swrites_nil (w : World) : Calls Tryz.prog 76 #[.pointer none] w fun e w' => e = .returned (.slice none 0 0) ∧ w = w' := by
  go_enter Tryz.func76, Tryz.ntmps76
  go_wp2_with (go_at_call 101; refine (smade_nil _).mono ?_; rintro e w' ⟨rfl, rfl⟩)
  go_ret
  exact ⟨rfl, rfl⟩
set_option maxHeartbeats 2000000 in
theorem swrites_ok {W : World} {ps : Nat} {s : Sets} {B : List Nat} {w : World} (h : SetsAt W ps s B w) : Calls Tryz.prog 76 #[.pointer (some ⟨ps, 0, none⟩)] w (WritesPost s w) := by
  have HM := Lib.hid (smade_ok h)
  obtain ⟨rv, lv, mv, ba, bw, ea, ew, ca, cw, rfl, h⟩ := h
  obtain ⟨p0, p1, p2, p3, p4, -⟩ := five h.main
  have HWR := Lib.hid h.wr; have HWM := Lib.hid h.wm; have HFEW := Lib.hid h.fewW
  have hsz := h.wr.lt
  clear h
  go_enter Tryz.func76, Tryz.ntmps76
  go_wp2_with (first
    | (go_at_call 101; refine HM.out.mono ?_; rintro e w' ⟨rfl, rfl⟩)
    | (at_range; refine wpList_range_at _ rfl _ 195 rfl 41 41 .u64 Tryz.underlying195 bw _ _ rfl HWR.out ?_; intro w0 hi0 hb0 hs0)
    | go_in)
  have G0 := Lib.hid (show GathW bw ew cw w (.slice none 0 0) w0 [] from ⟨hb0, hi0, World.ownsRow_nil _ _ _ _, by simp, by simp⟩)
  clear hb0 hi0 hs0 p0 p1 p2 p3 p4
  go_frame
  go_loopw [3] (fun out wr => ∃ done, GathW bw ew cw w out wr done) (fun _ wr => ew.length - iterSeen wr w.heap.size)
  case atStart => exact ⟨[], G0.out⟩
  case round =>
    obtain ⟨done, hg⟩ := hrel
    have HG := Lib.hid hg
    have hmap : MapAt wr bw .u64 ew cw := (hg.below.block _ hsz).trans HWR.out
    clear hg
    go_wp2_with (first
      | (at_next; refine wpList_next_at _ rfl _ rfl .u64 w.heap.size bw cw ew (done.map (·.born)) cw rfl HG.out.iter hmap ?c1 (Nat.le_refl _) HWM.out.born ?c3 ?c4)
      | go_in)
    case c1 => exact fun x hx => HWM.out.old _ (List.mem_map.2 ⟨x, hx, rfl⟩)
    case c3 =>
      intro hall
      have hperm : done.Perm ew := by
        have nb : done.Nodup := by
          have := List.pairwise_map.1 HG.out.nodup
          exact this.imp fun h e => h (by rw [e])
        have ne : ew.Nodup := by
          have := List.pairwise_map.1 HWM.out.born
          exact this.imp fun h e => h (by rw [e])
        rw [List.perm_ext_iff_of_nodup nb ne]
        intro x
        refine ⟨HG.out.mem x, fun hx => ?_⟩
        obtain ⟨y, hy, hyb⟩ := hall x hx
        have hp := List.pairwise_map.1 HWM.out.born
        have : y = x := by
          by_cases q : y = x
          · exact q
          · exfalso
            have hboth : ∀ (l : List Ent), l.Pairwise (fun a b => a.born ≠ b.born) → y ∈ l → x ∈ l → False := by
              intro l hl
              induction l with
              | nil => intro a; simp at a
              | cons z l ih =>
                intro h1 h2
                rw [List.pairwise_cons] at hl
                rcases List.mem_cons.1 h1 with e1 | e1
                · rcases List.mem_cons.1 h2 with e2 | e2
                  · exact q (e1.trans e2.symm)
                  · exact hl.1 x e2 (by rw [← e1]; exact hyb)
                · rcases List.mem_cons.1 h2 with e2 | e2
                  · exact hl.1 y e1 (by rw [← e2]; exact hyb.symm)
                  · exact ih hl.2 e1 e2
            exact hboth ew hp (HG.out.mem y hy) hx
        exact this ▸ hy
      have henc : done.flatMap encEnt = (done.map entPair).flatMap encW := by
        rw [List.flatMap_map]
        have : ∀ l : List Ent, (∀ x ∈ l, x ∈ ew) → l.flatMap encEnt = l.flatMap fun e => encW (entPair e) := by
          intro l hl
          induction l with
          | nil => rfl
          | cons z l ih => rw [List.flatMap_cons, List.flatMap_cons, HWM.out.enc (hl z (by simp)), ih fun x hx => hl x (by simp [hx])]
        exact this done HG.out.mem
      have hpw : (done.map entPair).Perm s.writes := (hperm.map entPair).trans HWM.out.perm
      have hrow := HG.out.row
      rw [henc, show done.length = (done.map entPair).length by simp] at hrow
      have hle : (done.map entPair).length < 4611686018427387904 := by
        rw [hpw.length_eq]; have := HFEW.out; omega
      have hsize : w.heap.size + 1 ≤ wr.heap.size := by have := lt_of_block HG.out.iter; omega
      have HS := Lib.hid (sortW_ok hle hrow hsize)
      have HPW := Lib.hid hpw
      clear hperm henc hpw hrow hle hsize hall hmap
      go_wp2_with fail
      refine HS.out.mono ?_
      rintro e w2 ⟨rfl, hb2, l', hp', hasc, hpairs⟩
      have hl' : l' = s.writes := asc_unique HWM.out.sorted (hp'.trans HPW.out) hasc
      subst hl'
      obtain ⟨p, cap, rfl, hcap, hcells⟩ := hpairs
      have HF := Lib.hid (show WritesPost s w (.returned (.slice p s.writes.length cap)) w2 from ⟨_, rfl, ⟨p, cap, rfl, hcap, fun j x hx => by
        obtain ⟨g, e1, e2, e3, e4⟩ := hcells j x hx
        exact ⟨g, e1, by omega, e3, e4⟩⟩, HG.out.below.trans (hb2.mono (Nat.le_succ _))⟩)
      clear hb2 hp' hasc hcells hcap
      go_wp2
      go_ret
      exact HF.out
    case c4 =>
      intro x w1 hx hns hi1 hk1 hs1 hen
      obtain ⟨k, v, hkey, hval, hmem⟩ := HWM.out.ent hx
      have hsz1 : w.heap.size < wr.heap.size := lt_of_block HG.out.iter
      have HB1 := Lib.hid (show Below w.heap.size w w1 from HG.out.below.trans (hk1.below (Nat.le_of_lt hsz1) (by omega)))
      have HI1 := Lib.hid hi1
      have HN := Lib.hid hns
      have HX := Lib.hid hx
      have HS1 := Lib.hid (show w.heap.size + 1 ≤ w1.heap.size by omega)
      have HRW := Lib.hid (ownsRow_kept HG.out.row hk1 (by intro b hb; have := (HG.out.row.lt b hb).1; omega))
      have hcnt : done.length ≤ 500 := by
        have h1 := HG.out.few
        have h2 := HWM.out.len
        have h3 := HFEW.out
        omega
      obtain ⟨cnt, hcn⟩ : ∃ cnt, done.length = cnt := ⟨_, rfl⟩
      have HCN := Lib.hid hcn
      rw [hcn] at hcnt
      have hshape := ownsRow_shape HRW.out
      obtain ⟨pp, capp, hpp⟩ := hshape
      rw [hcn] at hpp
      subst hpp
      have HKEY := Lib.hid hkey; have HVAL := Lib.hid hval
      rw [hkey, hval] at hen
      rw [hkey, hval]
      obtain ⟨i0, hi0, hz0, hz1, hz2⟩ := info_parts wroteInfo
      clear hi1 hx hns hk1 hs1 hcn hkey hval hmem hmap
      go_wp2_with (first
        | (at_builtin; refine wpList_append_own_at _ rfl _ _ 115 rfl (w.heap.size + 1) 159 i0 (.agg #[.int .u64 0, .int .u64 0]) 2 16 Tryz.underlying115 hi0 hz0 hz1 hz2 rfl (by omega) (.slice pp cnt capp) cnt _ rfl ((HCN.out ▸ HRW.out).alloc _) ⟨w1.heap.size, 0, none⟩ 1 1 (encW (k, v)) rfl rfl (cells_news w1 [.int .u64 (k : Int), .int .u64 (v : Int)] _) (by intro u hu; simp [encW] at hu; rcases hu with rfl | rfl <;> rfl) (by unfold maxLen; omega) (by omega) (by have := HS1.out; simp; omega) ?_; intro v' w2 hown2 hgrow2 hnil2 hob2)
        | go_in)
      have hnew : GathW bw ew cw w v' w2 (done ++ [x]) := by
        have hx2 : encEnt x = encW (k, v) := by simp [encEnt, encW, HKEY.out, HVAL.out]
        refine ⟨?_, ?_, ?_, ?_, ?_⟩
        · refine (HB1.out.alloc (by have := HS1.out; omega) _).grown hgrow2 (by have := HS1.out; simp; omega) ?_
          intro b hb
          have := (HRW.out.lt b hb).1
          omega
        · have : (done ++ [x]).map (·.born) = done.map (·.born) ++ [x.born] := by simp
          rw [this]
          refine (hgrow2.block w.heap.size (by have := HS1.out; simp; omega) ?_).trans ?_
          · intro hb
            have := (HRW.out.lt _ hb.symm).1
            omega
          · exact (Below.heap_alloc w1 _ _ (by have := HS1.out; omega)).trans HI1.out
        · rw [List.length_append, HCN.out, List.flatMap_append]
          simpa [hx2] using hown2
        · intro y hy
          rcases List.mem_append.1 hy with q | q
          · exact HG.out.mem y q
          · simp only [List.mem_singleton] at q
            exact q ▸ HX.out
        · rw [List.map_append, List.nodup_append]
          refine ⟨HG.out.nodup, by simp, ?_⟩
          intro a ha b hb
          simp only [List.map_cons, List.map_nil, List.mem_singleton] at hb
          intro e
          obtain ⟨y, hy, hyb⟩ := List.mem_map.1 ha
          exact HN.out y hy (by rw [hyb, e, hb])
      have HNEW := Lib.hid hnew
      have HSEEN := Lib.hid (show ew.length - iterSeen w2 w.heap.size < ew.length - iterSeen wr w.heap.size by
        rw [hnew.iter.count, HG.out.iter.count]
        have := hnew.few
        simp only [List.length_append, List.length_map, List.length_cons, List.length_nil] at this ⊢
        omega)
      clear hnew hown2 hgrow2 hnil2 hob2
      go_wp2
      go_roundw
      case rel => exact ⟨_, HNEW.out⟩
      case measure => exact HSEEN.out
end Go.Proofs.YtmdganpealbmpaaGreatDoor
