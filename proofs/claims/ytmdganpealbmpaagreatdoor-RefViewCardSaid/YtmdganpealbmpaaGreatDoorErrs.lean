/- The errors that the program makes: what they are in memory, errors.Is and No at any of them. -/
import Derived.Test.YtmdganpealbmpaaGreatDoorUniq
import Derived.Deep.LoopGhost
namespace Go.Proofs.YtmdganpealbmpaaGreatDoor
open Go.RowKit Go.Extern.Stop Go.Stop Go.Extern Bl
set_option maxRecDepth 10000

/-- An error of the lowest layers, by its number (0: there is none); E: the blocks in which it lies. -/
inductive Err0 (w : World) : Value → Nat → List Nat → Prop
  | none : Err0 w .nilIface 0 []
  | no (n : Nat) : 1 ≤ n → n ≤ 17 → Err0 w (.iface 99 (.int .i64 (n : Int))) n []
  | fault (f : Nat) (a : Int) (n : Nat) : 1 ≤ n → n ≤ 17 → Cells w f [.int .i64 a, .int .i64 (n : Int)] 136 → Err0 w (.iface 134 (.pointer (some ⟨f, 0, none⟩))) n [f]
/-- Any error. -/
inductive Err (w : World) : Value → Nat → List Nat → Prop
  | none : Err w .nilIface 0 []
  | no (n : Nat) : 1 ≤ n → n ≤ 17 → Err w (.iface 99 (.int .i64 (n : Int))) n []
  | fault (f : Nat) (a : Int) (n : Nat) : 1 ≤ n → n ≤ 17 → Cells w f [.int .i64 a, .int .i64 (n : Int)] 136 → Err w (.iface 134 (.pointer (some ⟨f, 0, none⟩))) n [f]
  | unfit (u : Nat) : u < w.heap.size → Err w (.iface 251 (.pointer (some ⟨u, 0, none⟩))) 2 [u]
  | doing (d : Nat) (s v : Value) (n : Nat) (E : List Nat) : n ≠ 0 → Cells w d [s, v] 214 → Err w v n E → Err w (.iface 212 (.pointer (some ⟨d, 0, none⟩))) n (d :: E)

theorem Err0.err {w : World} {v : Value} {n : Nat} {E : List Nat} (h : Err0 w v n E) : Err w v n E := by
  cases h with
  | none => exact .none
  | no n h1 h2 => exact .no n h1 h2
  | fault f a n h1 h2 hc => exact .fault f a n h1 h2 hc
theorem Err.heldBy {w w' : World} {v : Value} {n : Nat} {E R : List Nat} (h : Err w v n E) (k : HeldBy R w w') (hs : ∀ b ∈ E, b ∈ R) : Err w' v n E := by
  have hlt : ∀ (b : Nat), b ∈ R → b < w.heap.size → b < w'.heap.size := fun b hb hl => by
    have := k.2 b hb
    rcases Nat.lt_or_ge b w'.heap.size with q | q
    · exact q
    · rw [Array.getElem?_eq_none q, Array.getElem?_eq_getElem hl] at this
      cases this
  induction h with
  | none => exact .none
  | no n h1 h2 => exact .no n h1 h2
  | fault f a n h1 h2 hc => exact .fault f a n h1 h2 ((k.2 f (hs f (by simp))).trans hc)
  | unfit u hu => exact .unfit u (hlt u (hs u (by simp)) hu)
  | doing d s v n E hn hc _ ih => exact .doing d s v n E hn ((k.2 d (hs d (by simp))).trans hc) (ih fun b hb => hs b (by simp [hb]))
theorem Err0.heldBy {w w' : World} {v : Value} {n : Nat} {E R : List Nat} (h : Err0 w v n E) (k : HeldBy R w w') (hs : ∀ b ∈ E, b ∈ R) : Err0 w' v n E := by
  cases h with
  | none => exact .none
  | no n h1 h2 => exact .no n h1 h2
  | fault f a n h1 h2 hc => exact .fault f a n h1 h2 ((k.2 f (hs f (by simp))).trans hc)
theorem Err.lt {w : World} {v : Value} {n : Nat} {E : List Nat} (h : Err w v n E) : ∀ b ∈ E, b < w.heap.size := by
  induction h with
  | none => simp
  | no n h1 h2 => simp
  | fault f a n h1 h2 hc => intro b hb; simp only [List.mem_singleton] at hb; subst hb; exact hc.lt
  | unfit u hu => intro b hb; simp only [List.mem_singleton] at hb; subst hb; exact hu
  | doing d s v n E hn hc _ ih => intro b hb; rcases List.mem_cons.1 hb with e | e; exact e ▸ hc.lt; exact ih b e
theorem Err0.lt {w : World} {v : Value} {n : Nat} {E : List Nat} (h : Err0 w v n E) : ∀ b ∈ E, b < w.heap.size := h.err.lt
theorem Err.small {w : World} {v : Value} {n : Nat} {E : List Nat} (h : Err w v n E) : n ≤ 17 := by
  induction h <;> omega
theorem Err0.small {w : World} {v : Value} {n : Nat} {E : List Nat} (h : Err0 w v n E) : n ≤ 17 := h.err.small
theorem Err.isNil {w : World} {v : Value} {n : Nat} {E : List Nat} (h : Err w v n E) (hn : n = 0) : v = .nilIface ∧ E = [] := by
  cases h with
  | none => exact ⟨rfl, rfl⟩
  | no n h1 h2 => omega
  | fault f a n h1 h2 hc => omega
  | unfit u => omega
  | doing d s v n E h1 => exact absurd hn h1
theorem Err0.isNil {w : World} {v : Value} {n : Nat} {E : List Nat} (h : Err0 w v n E) (hn : n = 0) : v = .nilIface ∧ E = [] := h.err.isNil hn
theorem Err.shape {w : World} {v : Value} {n : Nat} {E : List Nat} (h : Err w v n E) : v = .nilIface ∨ ∃ t x, v = .iface t x := by
  cases h with
  | none => exact .inl rfl
  | no n h1 h2 => exact .inr ⟨_, _, rfl⟩
  | fault f a n h1 h2 hc => exact .inr ⟨_, _, rfl⟩
  | unfit u => exact .inr ⟨_, _, rfl⟩
  | doing d s v n E h1 => exact .inr ⟨_, _, rfl⟩
theorem Err.iface {w : World} {v : Value} {n : Nat} {E : List Nat} (h : Err w v n E) (hn : n ≠ 0) : ∃ t x, v = .iface t x := by
  cases h with
  | none => exact absurd rfl hn
  | no n h1 h2 => exact ⟨_, _, rfl⟩
  | fault f a n h1 h2 hc => exact ⟨_, _, rfl⟩
  | unfit u => exact ⟨_, _, rfl⟩
  | doing d s v n E h1 => exact ⟨_, _, rfl⟩

theorem noIsD (v : Value) (xT : TypeId) (w : World) : (Instr.typeAssert (.iface 212 v) xT 181 true).run Tryz.prog w = .ok (.tuple #[.nilIface, .bool false]) w := run_typeAssert_lacksB Tryz.underlying181 (by kernel_rfl) (by kernel_rfl) v xT w
theorem hasUnwrapD (v : Value) (xT : TypeId) (w : World) : (Instr.typeAssert (.iface 212 v) xT 184 true).run Tryz.prog w = .ok (.tuple #[.iface 212 v, .bool true]) w := run_typeAssert_hasB Tryz.underlying184 (by kernel_rfl) v xT w
theorem methodUnwrapD (v : Value) (w : World) : (Go.method 395 212 v "Unwrap").run Tryz.prog w = .ok (188, v) w := by kernel_rfl
theorem eqlD (v : Value) (n : Int) (w : World) : (binOp .eql 47 (.iface 212 v) (.iface 99 (.int .i64 n))).run Tryz.prog w = .ok (.bool false) w :=
  run_eql_iface_types (P := Tryz.prog) 212 99 v (.int .i64 n) Tryz.underlying47 (by decide) w
set_option maxHeartbeats 4000000 in
theorem is_go (w : World) (k : Nat) : ∀ (m : Nat) (v : Value) (n : Nat) (E : List Nat), E.length ≤ m → Err w v n E → n ≠ 0 →
    Calls Tryz.prog 68 #[v, .iface 99 (.int .i64 (k : Int)), .bool true] w fun e w' => e = .returned (.bool (decide (n = k))) ∧ w = w' := by
  intro m
  induction m with
  | zero => ?_
  | succ m ih => ?_
  all_goals
    intro v n E hm he hn
    have HE := Lib.hid he; have HN := Lib.hid hn; have HM := Lib.hid hm
    first | have IH := Lib.hid ih | have IH := trivial
    clear he hn hm
    try clear ih
    have nE := noIsE
    have uE := noUnwrapE
    have vE := noUnwrapsE
    have nU := noIsU
    have uU := hasUnwrapU
    have mU := methodUnwrapU
    have nF := noIsF
    have uF := hasUnwrapF
    have mF := methodUnwrapF
    have nD := noIsD
    have uD := hasUnwrapD
    have mD := methodUnwrapD
    have eU := fun x => eqlU x (k : Int)
    have eF := fun x => eqlF x (k : Int)
    have eD := fun x => eqlD x (k : Int)
    have eN := eqlNil
    go_enter Tryz.func68, Tryz.ntmps68
    go_wp2
    go_loopg [0] E.length (fun g u wr => ∃ E', E'.length ≤ g ∧ E'.length ≤ E.length ∧ Err w u n E' ∧ wr = w)
    case atStart => exact ⟨E, Nat.le_refl _, Nat.le_refl _, HE.out, rfl⟩
    case round =>
      obtain ⟨E', hg, hE, he, rfl⟩ := hrel
      clear HE
      cases he with
      | none => exact absurd rfl HN.out
      | no n h1 h2 =>
        have heq := eqlErrno (n : Int) (k : Int)
        have hb : decide (n = k) = ((n : Int) == (k : Int)) := by rw [Bool.eq_iff_iff]; simp; omega
        have HB := Lib.hid hb
        clear hb h1 h2 hg hE
        obtain ⟨b, hbb⟩ : ∃ b, ((n : Int) == (k : Int)) = b := ⟨_, rfl⟩
        rw [hbb] at heq HB
        clear hbb
        cases b
        all_goals
          go_wp2
          go_ret
          exact ⟨by rw [HB.out]; rfl, rfl⟩
      | fault f a n h1 h2 hc =>
        have q1 : wr.cell? ⟨f, 1, none⟩ = some (.int .i64 (n : Int)) := hc.cell 1
        have HR := Lib.hid (show ∃ E', E'.length ≤ gk - 1 ∧ E'.length ≤ E.length ∧ Err wr (.iface 99 (.int .i64 (n : Int))) n E' ∧ wr = wr from ⟨[], Nat.zero_le _, Nat.zero_le _, .no n h1 h2, rfl⟩)
        have HG := Lib.hid (show gk - 1 < gk by simp only [List.length_singleton] at hg; omega)
        clear h1 h2 hc hg hE
        go_wp2
        go_roundg (gk - 1)
        case rel => obtain ⟨E', a, b, c, -⟩ := HR.out; exact ⟨E', a, b, c, rfl⟩
        case measure => exact HG.out
      | unfit u hu =>
        have HR := Lib.hid (show ∃ E', E'.length ≤ gk - 1 ∧ E'.length ≤ E.length ∧ Err wr (.iface 99 (.int .i64 2)) 2 E' ∧ wr = wr from ⟨[], Nat.zero_le _, Nat.zero_le _, .no 2 (by omega) (by omega), rfl⟩)
        have HG := Lib.hid (show gk - 1 < gk by simp only [List.length_singleton] at hg; omega)
        clear hu hg hE
        go_wp2
        go_roundg (gk - 1)
        case rel => obtain ⟨E', a, b, c, -⟩ := HR.out; exact ⟨E', a, b, c, rfl⟩
        case measure => exact HG.out
      | doing d s v n E2 hn hc hv =>
        have q1 : wr.cell? ⟨d, 1, none⟩ = some v := hc.cell 1
        obtain ⟨t, x, rfl⟩ := hv.iface hn
        have HR := Lib.hid (show ∃ E', E'.length ≤ gk - 1 ∧ E'.length ≤ E.length ∧ Err wr (.iface t x) n E' ∧ wr = wr from ⟨E2, by simp only [List.length_cons] at hg; omega, by simp only [List.length_cons] at hE; omega, hv, rfl⟩)
        have HG := Lib.hid (show gk - 1 < gk by simp only [List.length_cons] at hg; omega)
        clear hn hc hv hg hE
        go_wp2
        go_roundg (gk - 1)
        case rel => obtain ⟨E', a, b, c, -⟩ := HR.out; exact ⟨E', a, b, c, rfl⟩
        case measure => exact HG.out
theorem is_any {w : World} {v : Value} {n : Nat} {E : List Nat} (h : Err w v n E) (k : Nat) (hk : 1 ≤ k) :
    Calls Tryz.prog 39 #[v, .iface 99 (.int .i64 (k : Int))] w fun e w' => e = .returned (.bool (decide (n = k))) ∧ w = w' := by
  by_cases hn : n = 0
  · obtain ⟨rfl, _⟩ := h.isNil hn
    subst hn
    rw [show decide (0 = k) = false by simp; omega]
    exact is_none k w
  · have hs := Lib.hid (is_go w k E.length v n E (Nat.le_refl _) h hn)
    obtain ⟨t, x, rfl⟩ := h.iface hn
    clear h hn
    have h8 := callTypeOf
    have h32 := callComparable
    have tT := isTypeOf
    have cT := isComparable
    have mR := isMethodComparable
    have eN := eqlNil t x
    have eM := eqlNil 99 (.int .i64 (k : Int))
    go_enter Tryz.func39, Tryz.ntmps39
    go_wp2_with (go_at_call 68; refine hs.out.mono ?_; rintro e w' ⟨rfl, rfl⟩)
    go_ret
    exact ⟨rfl, rfl⟩
set_option maxHeartbeats 400000 in
theorem no_any {w : World} {v : Value} {n : Nat} {E : List Nat} (h : Err w v n E) :
    Calls Tryz.prog 17 #[v] w fun e w' => e = .returned (.int .i64 (n : Int)) ∧ w = w' := by
  by_cases hn0 : n = 0
  · obtain ⟨rfl, _⟩ := h.isNil hn0
    subst hn0
    exact no_nil w
  have his := fun k (hk : 1 ≤ k) => is_any h k hk
  obtain ⟨t, x, rfl⟩ := h.iface hn0
  have h17 := h.small
  have HI := Lib.hid his
  have H0 := Lib.hid hn0
  clear h his hn0
  have eN := eqlNil t x
  go_enter Tryz.func17, Tryz.ntmps17
  go_wp2
  go_loop [3] (fun i => ∃ m : Nat, 1 ≤ m ∧ m ≤ n ∧ i = .int .i64 (m : Int)) (fun i => n - (intOf i).toNat)
  case atStart => exact ⟨1, by omega, by have := H0.out; omega, rfl⟩
  case round =>
    obtain ⟨m, m1, mn, rfl⟩ := hrel
    have hi := HI.out m m1
    by_cases hm : n = m
    · rw [show decide (n = m) = true from by simp [hm]] at hi
      have H := Lib.hid hi; clear hi
      have HN := Lib.hid hm; clear hm
      go_wp2_with (go_at_call 39; refine H.out.mono ?_; rintro e w' ⟨rfl, rfl⟩)
      go_ret
      exact ⟨by rw [HN.out]; rfl, rfl⟩
    · rw [show decide (n = m) = false from by simp [hm]] at hi
      have H := Lib.hid hi
      have hlt : m < n := by omega
      clear hi hm
      go_wp2_with (go_at_call 39; refine H.out.mono ?_; rintro e w' ⟨rfl, rfl⟩)
      go_round
      case rel => exact ⟨m + 1, by omega, by omega, by go_num⟩
      case measure => simp [intOf]; omega
end Go.Proofs.YtmdganpealbmpaaGreatDoor
