/- errors.Is with a target that is one of the document's numbers, and No: what they answer at every error that the program makes. -/
import Derived.Test.YtmdganpealbmpaaGreatDoorRows
import Derived.WalkKit
import Derived.WalkSpells
import Derived.WalkLawsBesides
import Derived.LaidEql
import Derived.Stop.Asserts
import Derived.RowKitTokens
import Derived.Lib.Hide
namespace Go.Proofs.YtmdganpealbmpaaGreatDoor
open Go.RowKit Go.Extern.Stop Go.Stop Go.Extern

theorem run_equalIn_iface_int {P : Program} (w : World) (d : Nat) {ti tn : TypeId} {ms : Array (String × TypeId)} {i : TypeInfo} {k : IntKind} (a b : Int)
    (hi : P.underlying ti = some (.interface ms)) (hn : P.underlying tn = some (.int k)) (hinfo : P.info? tn = some i) (hcomp : i.comparable = true) :
    (Op.equalIn (d + 2) ti (.iface tn (.int k a)) (.iface tn (.int k b))).run P w = .ok (a == b) w := by
  simp [Op.equalIn, run_underlying hi, run_underlying hn, typeInfo, hinfo, hcomp]
theorem run_eql_iface_int {P : Program} (w : World) {ti tn : TypeId} {ms : Array (String × TypeId)} {i : TypeInfo} {k : IntKind} (a b : Int)
    (hi : P.underlying ti = some (.interface ms)) (hn : P.underlying tn = some (.int k)) (hinfo : P.info? tn = some i) (hcomp : i.comparable = true) :
    (binOp .eql ti (.iface tn (.int k a)) (.iface tn (.int k b))).run P w = .ok (.bool (a == b)) w := by
  simp only [binOp]
  simp [Op.equal, Op.maxDepth, run_equalIn_iface_int w 9998 a b hi hn hinfo hcomp]

/-- The model's entry for Comparable, as the program's function finds it. -/
noncomputable def compFn : Array Value → Sem Value := (find Tryz.f178).getD (fun _ => pure .nilIface)
theorem isTypeOf (v : Value) (w : World) : (Extern.ReflectliteType.typeOf #[.iface 99 v]).run Tryz.prog w = .ok (.iface 179 (.agg #[.pointer (some ⟨1, 99, none⟩)])) w := by kernel_rfl
theorem isComparable (w : World) : (compFn #[.agg #[.pointer (some ⟨1, 99, none⟩)]]).run Tryz.prog w = .ok (.bool true) w := by kernel_rfl
theorem isMethodComparable (v : Value) (w : World) : (Go.method 395 179 v "Comparable").run Tryz.prog w = .ok (178, v) w := by kernel_rfl
theorem errnoComp : (Tryz.prog.info? 99).map (·.comparable) = some true := by kernel_rfl
theorem callTypeOf (args : Array Value) (w : World) : (callFunc 67 args).run Tryz.prog w = ((Extern.ReflectliteType.typeOf args).run Tryz.prog w).andThen fun v w' => .ok (.value v) w' :=
  @run_callFunc_extern Tryz.prog 67 _ Extern.ReflectliteType.typeOf Tryz.func67 (by kernel_rfl) (by kernel_rfl) (by kernel_rfl) (by kernel_rfl) args w
theorem callComparable (args : Array Value) (w : World) : (callFunc 178 args).run Tryz.prog w = ((compFn args).run Tryz.prog w).andThen fun v w' => .ok (.value v) w' :=
  @run_callFunc_extern Tryz.prog 178 _ compFn Tryz.func178 (by kernel_rfl) (by kernel_rfl) (by kernel_rfl) (by kernel_rfl) args w
theorem eqlErrno (a b : Int) (w : World) : (binOp .eql 47 (.iface 99 (.int .i64 a)) (.iface 99 (.int .i64 b))).run Tryz.prog w = .ok (.bool (a == b)) w := by
  obtain ⟨i, hi, hcmp⟩ := Option.map_eq_some_iff.1 errnoComp
  exact run_eql_iface_int (P := Tryz.prog) w a b Tryz.underlying47 Tryz.underlying99 hi hcmp
theorem eqlNil (t : TypeId) (v : Value) (w : World) : (binOp .eql 47 (.iface t v) .nilIface).run Tryz.prog w = .ok (.bool false) w :=
  run_eql_held_nil (P := Tryz.prog) w 47 t v (by kernel_rfl)

theorem noIsE (v : Value) (xT : TypeId) (w : World) : (Instr.typeAssert (.iface 99 v) xT 181 true).run Tryz.prog w = .ok (.tuple #[.nilIface, .bool false]) w := run_typeAssert_lacksB Tryz.underlying181 (by kernel_rfl) (by kernel_rfl) v xT w
theorem noUnwrapE (v : Value) (xT : TypeId) (w : World) : (Instr.typeAssert (.iface 99 v) xT 184 true).run Tryz.prog w = .ok (.tuple #[.nilIface, .bool false]) w := run_typeAssert_lacksB Tryz.underlying184 (by kernel_rfl) (by kernel_rfl) v xT w
theorem noUnwrapsE (v : Value) (xT : TypeId) (w : World) : (Instr.typeAssert (.iface 99 v) xT 185 true).run Tryz.prog w = .ok (.tuple #[.nilIface, .bool false]) w := run_typeAssert_lacksB Tryz.underlying185 (by kernel_rfl) (by kernel_rfl) v xT w

set_option maxHeartbeats 400000 in
theorem is_errno (k n : Int) (w : World) :
    Calls Tryz.prog 39 #[.iface 99 (.int .i64 k), .iface 99 (.int .i64 n)] w fun e w' => e = .returned (.bool (k == n)) ∧ w = w' := by
  have h8 := callTypeOf
  have h32 := callComparable
  have tT := isTypeOf
  have cT := isComparable
  have mR := isMethodComparable
  have nE := noIsE
  have uE := noUnwrapE
  have vE := noUnwrapsE
  have heq := eqlErrno k n
  generalize (k == n) = b at *
  cases b
  all_goals
    go_enter Tryz.func39, Tryz.ntmps39
    go_wp2
    refine wp_loop_rounds 1 ?_
    rw [rounds_succ]
    go_wp2
    go_ret
    exact ⟨rfl, rfl⟩

set_option maxHeartbeats 400000 in
theorem is_none (n : Int) (w : World) :
    Calls Tryz.prog 39 #[.nilIface, .iface 99 (.int .i64 n)] w fun e w' => e = .returned (.bool false) ∧ w = w' := by
  have hn := run_eql_iface_nil_left (P := Tryz.prog) w 99 (.int .i64 n) Tryz.underlying47
  go_enter Tryz.func39, Tryz.ntmps39
  go_wp2
  go_ret
  exact ⟨rfl, rfl⟩

theorem noIsU (v : Value) (xT : TypeId) (w : World) : (Instr.typeAssert (.iface 251 v) xT 181 true).run Tryz.prog w = .ok (.tuple #[.nilIface, .bool false]) w := run_typeAssert_lacksB Tryz.underlying181 (by kernel_rfl) (by kernel_rfl) v xT w
theorem hasUnwrapU (v : Value) (xT : TypeId) (w : World) : (Instr.typeAssert (.iface 251 v) xT 184 true).run Tryz.prog w = .ok (.tuple #[.iface 251 v, .bool true]) w := run_typeAssert_hasB Tryz.underlying184 (by kernel_rfl) v xT w
theorem methodUnwrapU (v : Value) (w : World) : (Go.method 395 251 v "Unwrap").run Tryz.prog w = .ok (193, v) w := by kernel_rfl
theorem eqlU (v : Value) (n : Int) (w : World) : (binOp .eql 47 (.iface 251 v) (.iface 99 (.int .i64 n))).run Tryz.prog w = .ok (.bool false) w :=
  run_eql_iface_types (P := Tryz.prog) 251 99 v (.int .i64 n) Tryz.underlying47 (by decide) w
set_option maxHeartbeats 400000 in
theorem is_unfit (v : Value) (n : Int) (w : World) :
    Calls Tryz.prog 39 #[.iface 251 v, .iface 99 (.int .i64 n)] w fun e w' => e = .returned (.bool (2 == n)) ∧ w = w' := by
  have h8 := callTypeOf
  have h32 := callComparable
  have tT := isTypeOf
  have cT := isComparable
  have mR := isMethodComparable
  have nE := noIsE
  have uE := noUnwrapE
  have vE := noUnwrapsE
  have nU := noIsU
  have uU := hasUnwrapU
  have mU := methodUnwrapU
  have eU := eqlU v n
  have eN := eqlNil
  have heq := eqlErrno 2 n
  generalize ((2 : Int) == n) = b at *
  cases b
  all_goals
    go_enter Tryz.func39, Tryz.ntmps39
    go_wp2
    refine wp_loop_rounds 2 ?_
    rw [rounds_succ]
    go_wp2
    rw [rounds_succ]
    go_wp2
    go_ret
    exact ⟨rfl, rfl⟩
theorem noIsF (v : Value) (xT : TypeId) (w : World) : (Instr.typeAssert (.iface 134 v) xT 181 true).run Tryz.prog w = .ok (.tuple #[.nilIface, .bool false]) w := run_typeAssert_lacksB Tryz.underlying181 (by kernel_rfl) (by kernel_rfl) v xT w
theorem hasUnwrapF (v : Value) (xT : TypeId) (w : World) : (Instr.typeAssert (.iface 134 v) xT 184 true).run Tryz.prog w = .ok (.tuple #[.iface 134 v, .bool true]) w := run_typeAssert_hasB Tryz.underlying184 (by kernel_rfl) v xT w
theorem methodUnwrapF (v : Value) (w : World) : (Go.method 395 134 v "Unwrap").run Tryz.prog w = .ok (175, v) w := by kernel_rfl
theorem eqlF (v : Value) (n : Int) (w : World) : (binOp .eql 47 (.iface 134 v) (.iface 99 (.int .i64 n))).run Tryz.prog w = .ok (.bool false) w :=
  run_eql_iface_types (P := Tryz.prog) 134 99 v (.int .i64 n) Tryz.underlying47 (by decide) w
set_option maxHeartbeats 400000 in
theorem is_fault (b o : Nat) (k n : Int) (w : World) (hc : w.cell? ⟨b, o + 1, none⟩ = some (.int .i64 k)) :
    Calls Tryz.prog 39 #[.iface 134 (.pointer (some ⟨b, o, none⟩)), .iface 99 (.int .i64 n)] w fun e w' => e = .returned (.bool (k == n)) ∧ w = w' := by
  have h8 := callTypeOf
  have h32 := callComparable
  have tT := isTypeOf
  have cT := isComparable
  have mR := isMethodComparable
  have nE := noIsE
  have uE := noUnwrapE
  have vE := noUnwrapsE
  have nU := noIsF
  have uU := hasUnwrapF
  have mU := methodUnwrapF
  have eU := eqlF (.pointer (some ⟨b, o, none⟩)) n
  have eN := eqlNil
  have heq := eqlErrno k n
  generalize (k == n) = b at *
  cases b
  all_goals
    go_enter Tryz.func39, Tryz.ntmps39
    go_wp2
    refine wp_loop_rounds 2 ?_
    rw [rounds_succ]
    go_wp2
    rw [rounds_succ]
    go_wp2
    go_ret
    exact ⟨rfl, rfl⟩

/-- The value is an error whose number is k. -/
def ErrNo (w : World) (v : Value) (k : Int) : Prop :=
  v = .iface 99 (.int .i64 k)
  ∨ (∃ x, v = .iface 251 x ∧ k = 2)
  ∨ (∃ b o, v = .iface 134 (.pointer (some ⟨b, o, none⟩)) ∧ w.cell? ⟨b, o + 1, none⟩ = some (.int .i64 k))
theorem is_err {w : World} {v : Value} {k : Int} (h : ErrNo w v k) (n : Int) :
    Calls Tryz.prog 39 #[v, .iface 99 (.int .i64 n)] w fun e w' => e = .returned (.bool (k == n)) ∧ w = w' := by
  rcases h with rfl | ⟨x, rfl, rfl⟩ | ⟨b, o, rfl, hc⟩
  · exact is_errno k n w
  · exact is_unfit x n w
  · exact is_fault b o k n w hc
theorem ErrNo.iface {w : World} {v : Value} {k : Int} (h : ErrNo w v k) : ∃ t x, v = .iface t x := by
  rcases h with rfl | ⟨x, rfl, rfl⟩ | ⟨b, o, rfl, hc⟩
  all_goals exact ⟨_, _, rfl⟩

theorem ErrNo.below {W w1 : World} {v : Value} {k : Int} (h : ErrNo W v k) (_hb : Below W.heap.size W w1) : ErrNo w1 v k := by
  rcases h with rfl | ⟨x, rfl, rfl⟩ | ⟨b, o, rfl, hc⟩
  · exact Or.inl rfl
  · exact Or.inr (Or.inl ⟨_, rfl, rfl⟩)
  · exact Or.inr (Or.inr ⟨b, o, rfl, cell_later _hb hc⟩)

set_option maxHeartbeats 400000 in
theorem no_nil (w : World) : Calls Tryz.prog 17 #[.nilIface] w fun e w' => e = .returned (.int .i64 0) ∧ w = w' := by
  go_enter Tryz.func17, Tryz.ntmps17
  go_wp2
  go_ret
  exact ⟨rfl, rfl⟩

set_option maxHeartbeats 400000 in
theorem no_err {w : World} {v : Value} {k : Int} (h : ErrNo w v k) (h1 : 1 ≤ k) (h17 : k ≤ 17) :
    Calls Tryz.prog 17 #[v] w fun e w' => e = .returned (.int .i64 k) ∧ w = w' := by
  have his := is_err h
  obtain ⟨t, x, rfl⟩ := h.iface
  clear h
  have HI := Lib.hid his; clear his
  have eN := eqlNil t x
  go_enter Tryz.func17, Tryz.ntmps17
  go_wp2
  go_loop [3] (fun i => ∃ n : Int, 1 ≤ n ∧ n ≤ k ∧ i = .int .i64 n) (fun i => (k - intOf i).toNat)
  case atStart => exact ⟨1, by omega, by omega, rfl⟩
  case round =>
    obtain ⟨n, n1, nk, rfl⟩ := hrel
    have hi := HI.out n
    by_cases hn : n = k
    · rw [show (k == n) = true from by simp [hn]] at hi
      have H := Lib.hid hi; clear hi
      have HN := Lib.hid hn; clear hn
      go_wp2_with (go_at_call 39; refine H.out.mono ?_; rintro e w' ⟨rfl, rfl⟩)
      go_ret
      exact ⟨by rw [← HN.out]; rfl, rfl⟩
    · rw [show (k == n) = false from by simp; omega] at hi
      have H := Lib.hid hi
      have hlt : n < k := by omega
      clear hi hn
      go_wp2_with (go_at_call 39; refine H.out.mono ?_; rintro e w' ⟨rfl, rfl⟩)
      go_round
      case rel => exact ⟨n + 1, by omega, by omega, rfl⟩
      case measure => simp [intOf]; omega
end Go.Proofs.YtmdganpealbmpaaGreatDoor
