/- SxCall: SxCall, SxGrow, SxList, SxCong. -/
import Derived.Test.YtgmdbfackbdnlaaGreatDoorSxEff
import Derived.Tactics

/- The executor: an operation that changes memory, or is a call; main ways go on. -/
namespace Go.Proofs.YtgmdbfackbdnlaaGreatDoor
open Go.RowKit Bl Th Go.Sx
set_option maxRecDepth 10000

/-! The way of one that runs alone fits the accesses, and goes on. -/
def FitM (G : Gh) (m : Mem) : Prop := m.mode = 1 → m.tl.reverse <+: G.D
def Grow (m : Mem) (l : List Mem) : Prop := m.mode = 1 → ∃ m' ∈ l, m'.mode = 1 ∧ m.tl <:+ m'.tl
theorem FitM.of_grow {G : Gh} {m : Mem} {l : List Mem} (h : Grow m l) (hf : ∀ m' ∈ l, FitM G m') : FitM G m := by
  intro hm
  obtain ⟨m', h1, h2, h3⟩ := h hm
  exact (List.reverse_prefix.2 h3).trans (hf m' h1 h2)
theorem Grow.same {m m' : Mem} (h : m'.mode = m.mode ∧ m'.tl = m.tl) : Grow m [m'] := fun hm => ⟨m', by simp, by rw [h.1]; exact hm, by rw [h.2]; exact List.suffix_refl _⟩
theorem Grow.trans {m m1 : Mem} {l : List Mem} (h : m1.mode = m.mode ∧ m1.tl = m.tl) (k : Grow m1 l) : Grow m l := by
  intro hm
  have := k (by rw [h.1]; exact hm)
  rwa [h.2] at this
theorem each_grow {α β : Type} {f : α → R (List β)} {g : α → Mem} {k : β → Mem} {m : Mem} {l : List α} {r : List β} (h : Grow m (l.map g)) (hs : ∀ x ∈ l, ∀ s, f x = .ok s → Grow (g x) (s.map k)) (he : each f l = .ok r) : Grow m (r.map k) := by
  intro hm
  obtain ⟨m', h1, h2, h3⟩ := h hm
  obtain ⟨x, hx, rfl⟩ := List.mem_map.1 h1
  obtain ⟨s, e1, e2⟩ := each_ok he x hx
  obtain ⟨m2, k1, k2, k3⟩ := hs x hx s e1 h2
  obtain ⟨y, hy, rfl⟩ := List.mem_map.1 k1
  exact ⟨k y, List.mem_map.2 ⟨y, e2 y hy, rfl⟩, k2, h3.trans k3⟩
def GrowF (call : CallF) : Prop := ∀ f args m outs, call f args m = .ok outs → Grow m (outs.map (·.2))

/-- A call does what is said of it. -/
def CallOk (P : Program) (E : Env) (call : CallF) : Prop := ∀ f args m outs, call f args m = .ok outs →
  (∀ (av : Array Value) (w : World), (callFunc f av).run P w = .ok (.enter f av) w) ∧
  ∀ (G : Gh), (∀ q ∈ outs, FitM G q.2) → ∀ (ρ : Ren) (w : World) (args' : List Value), Conc E G ρ m w → RelL ρ args args' →
    Calls P f ⟨args'⟩ w fun e w' => ∃ v', e = .returned v' ∧ ∃ q ∈ outs, EffPost E G ρ m w q.1 q.2 v' w'

section
variable {P : Program} {E : Env} {G : Gh} {ρ : Ren} {m : Mem} {w : World} {T : Tr Value} {a : Act}
theorem eff_same {v v' : Value} {m' : Mem} {w' : World} (hv : Rel ρ v v') (hc : Conc E G ρ m' w') (hb : HeldBy G.X w w') (hn : m.nx ≤ m'.nx) : EffPost E G ρ m w v m' v' w' :=
  ⟨ρ, ⟨Ren.le_refl ρ, fun _ _ => rfl, hb⟩, hn, hv, hc⟩
theorem xst_ok (hE : EnvOk P E) (hc : Conc E G ρ m w) (hT : Tmps ρ T a.tmps) {o : Oper} (ho : opOk o.op) {v : Value} {m' : Mem} (h : xst o.op E T m = some (v, m')) :
    ∃ w', (execOp a.eval o).run P w = .ok .skip w' ∧ EffPost E G ρ m w v m' undef w' := by
  obtain ⟨dst, op, type, pos, after, guard⟩ := o
  simp only at ho h
  unfold opOk at ho
  have ru : Rel ρ (.tuple ⟨[]⟩) undef := .tuple [] [] rfl (RelL.nil ρ).2
  cases op with
  | store t x y =>
    obtain ⟨p, h1, h⟩ := ob_some (show ob (ev T x) _ = some (v, m') from h)
    obtain ⟨u, h2, h⟩ := ob_some h
    obtain ⟨m1, h3, h⟩ := ob_some h
    cases h
    obtain ⟨w', k1, k2, k3⟩ := storeAt_ok hE hc (ev_ok hT (ho x (by simp [Op.operands])) h1) (ev_ok hT (ho y (by simp [Op.operands])) h2) h3
    have hn : m.nx ≤ m'.nx := by
      obtain ⟨b, o, _, h⟩ := ptr_some h3
      obtain ⟨n, c, d, e, op, ro, h1, h⟩ := row_some h
      obtain ⟨k, h2, h⟩ := ob_some h
      obtain ⟨h3, h⟩ := ifo_some h
      obtain ⟨c', h4, h5⟩ := ob_some h
      cases h5
      exact Nat.le_refl _
    refine ⟨w', ?_, eff_same ru k2 k3 hn⟩
    simp only [execOp, Sem.run_bind, k1, Result.andThen_ok, Sem.run_pure]
  | mapUpdate t x k u =>
    have hn : m.nx ≤ m'.nx := by
      obtain ⟨xv, h1, h⟩ := ob_some (show ob (ev T x) _ = some (v, m') from h)
      unfold mapP at h
      split at h
      · obtain ⟨kv, h2, h⟩ := ob_some h
        obtain ⟨uv, h3, h⟩ := ob_some h
        obtain ⟨key, el, ud, g1, g2, g3, h⟩ := mapT_some h
        obtain ⟨es, cl, ro, g4, h⟩ := map_some h
        obtain ⟨g5, h⟩ := ifo_some h
        obtain ⟨f, g6, h⟩ := ob_some h
        cases f <;> cases h <;> exact Nat.le_refl _
      · cases h
    obtain ⟨rfl, w', k1, k2, k3⟩ := oUpd_ok hE hc hT (ho x (by simp [Op.operands])) (ho k (by simp [Op.operands])) (ho u (by simp [Op.operands])) (show oUpd t x k u E T m = some (v, m') from h)
    refine ⟨w', ?_, eff_same ru k2 k3 hn⟩
    simp only [execOp, Sem.run_bind, k1, Result.andThen_ok, Sem.run_pure]
  | insert t x k u =>
    have hn : m.nx ≤ m'.nx := by
      obtain ⟨xv, h1, h⟩ := ob_some (show ob (ev T x) _ = some (v, m') from h)
      unfold mapP at h
      split at h
      · obtain ⟨kv, h2, h⟩ := ob_some h
        obtain ⟨uv, h3, h⟩ := ob_some h
        obtain ⟨key, el, ud, g1, g2, g3, h⟩ := mapT_some h
        obtain ⟨es, cl, ro, g4, h⟩ := map_some h
        obtain ⟨g5, h⟩ := ifo_some h
        obtain ⟨f, g6, h⟩ := ob_some h
        cases f <;> cases h <;> exact Nat.le_refl _
      · cases h
    obtain ⟨rfl, w', k1, k2, k3⟩ := oUpd_ok hE hc hT (ho x (by simp [Op.operands])) (ho k (by simp [Op.operands])) (ho u (by simp [Op.operands])) (show oUpd t x k u E T m = some (v, m') from h)
    refine ⟨w', ?_, eff_same ru k2 k3 hn⟩
    simp only [execOp, Sem.run_bind, k1, Result.andThen_ok, Sem.run_pure]
  | _ => cases h
theorem bDel_nx {t : TypeId} {x k v : Value} {m' : Mem} (h : bDel E t m k x = some (v, m')) : m.nx ≤ m'.nx := by
  unfold bDel at h
  split at h
  · obtain ⟨key, el, ud, g1, g2, g3, h⟩ := mapT_some h
    cases h; exact Nat.le_refl _
  · obtain ⟨key, el, ud, g1, g2, g3, h⟩ := mapT_some h
    obtain ⟨es, cl, ro, g4, h⟩ := map_some h
    obtain ⟨g5, h⟩ := ifo_some h
    obtain ⟨f, g6, h⟩ := ob_some h
    cases h; exact Nat.le_refl _
  · cases h
theorem RelL.two {x y : Value} {l : List Value} (h : RelL ρ [x, y] l) : ∃ x' y', l = [x', y'] ∧ Rel ρ x x' ∧ Rel ρ y y' := by
  obtain ⟨x', c, rfl, r1, k⟩ := h.cons_inv
  obtain ⟨y', d, rfl, r2, k2⟩ := k.cons_inv
  obtain rfl := k2.nil_inv
  exact ⟨x', y', rfl, r1, r2⟩
theorem xmm_ok {mx : Bool} {tys : Array TypeId} {type : TypeId} {args args' : List Value} {v : Value} (h : xmm mx args = some v) (hr : RelL ρ args args') : (bif mx then Builtin.max_ tys type ⟨args'⟩ else Builtin.min_ tys type ⟨args'⟩).run P w = .ok v w ∧ Rel ρ v v := by
  unfold xmm at h
  split at h
  · rename_i k x k' y
    obtain ⟨s', x', rfl, r1, r2⟩ := hr.two
    cases h
    rw [rel_int r1, rel_int r2]
    refine ⟨?_, .int _ _⟩
    cases mx with
    | true =>
      show (Builtin.max2 (.int k x) (.int k' y)).run P w = _
      simp only [Builtin.max2, Sem.run_pure, cond_true, ilt_eq, gt_iff_lt]
      by_cases q : x < y
      · simp [q]
      · simp [q]
    | false =>
      show (Builtin.min2 (.int k x) (.int k' y)).run P w = _
      simp only [Builtin.min2, Sem.run_pure, cond_false, ilt_eq]
      by_cases q : y < x
      · simp [q]
      · simp [q]
  · cases h
theorem RelL.single {x : Value} {l : List Value} (h : RelL ρ [x] l) : ∃ x', l = [x'] ∧ Rel ρ x x' := by
  obtain ⟨x', c, rfl, r1, k⟩ := h.cons_inv
  obtain rfl := k.nil_inv
  exact ⟨x', rfl, r1⟩
theorem xbuiltin_ok (hE : EnvOk P E) (hc : Conc E G ρ m w) {b : Builtin} {tys : Array TypeId} {type : TypeId} {consts : Array Bool} {args args' : List Value} (hr : RelL ρ args args') {v : Value} {m' : Mem} (h : xbuiltin b tys.toList args E m = some (v, m')) :
    ∃ v' w', (builtin b tys type consts ⟨args'⟩).run P w = .ok (.value v') w' ∧ EffPost E G ρ m w v m' v' w' := by
  obtain ⟨tys⟩ := tys
  unfold xbuiltin at h
  simp only at h
  split at h
  · split at h
    · rename_i s x
      obtain ⟨s', x', rfl, r1, r2⟩ := hr.two
      split at h
      · rename_i t u ts
        obtain ⟨d, h1, h⟩ := ob_some h
        obtain ⟨h2, h⟩ := ifo_some h
        cases d with
        | slice ue =>
          obtain ⟨v', w', k1, k2⟩ := xappend_ok (ts := ts) (ty := type) hE hc h1 r1 r2 h
          refine ⟨v', w', ?_, k2⟩
          simp only [builtin, Sem.run_bind, k1, Result.andThen_ok, Sem.run_pure]
        | _ => cases h2
      · cases h
    · cases h
  · split at h
    · rename_i s x
      obtain ⟨s', x', rfl, r1, r2⟩ := hr.two
      split at h
      · rename_i t ts
        obtain ⟨v', w', k1, k2⟩ := xcopy_ok (ts := ts) (ty := type) hE hc r1 r2 h
        refine ⟨v', w', ?_, k2⟩
        simp only [builtin, Sem.run_bind, k1, Result.andThen_ok, Sem.run_pure]
      · cases h
    · cases h
  · split at h
    · rename_i s x
      obtain ⟨s', x', rfl, r1, r2⟩ := hr.two
      split at h
      · rename_i t ts
        have hn := bDel_nx h
        obtain ⟨rfl, w', k1, k2, k3⟩ := bDel_ok (ts := ts) (ty := type) hE hc r1 r2 h
        refine ⟨_, w', ?_, eff_same (.tuple [] [] rfl (RelL.nil ρ).2) k2 k3 hn⟩
        simp only [builtin, Sem.run_bind, k1, Result.andThen_ok, Sem.run_pure]
      · cases h
    · cases h
  · split at h
    · rename_i s
      obtain ⟨s', rfl, r1⟩ := hr.single
      split at h
      · rename_i t ts
        obtain ⟨v', w', k1, k2⟩ := xclear_ok (ts := ts) (ty := type) hE hc r1 h
        refine ⟨v', w', ?_, k2⟩
        simp only [builtin, Sem.run_bind, k1, Result.andThen_ok, Sem.run_pure]
      · cases h
    · cases h
  · obtain ⟨u, h1, h2⟩ := ob_some h
    cases h2
    obtain ⟨k1, k2⟩ := xmm_ok (P := P) (w := w) (mx := false) (tys := ⟨tys⟩) (type := type) h1 hr
    refine ⟨_, w, ?_, eff_same k2 hc (HeldBy.refl _ _) (Nat.le_refl _)⟩
    have k1 : (Builtin.min_ ⟨tys⟩ type ⟨args'⟩).run P w = .ok v w := k1
    simp only [builtin, Sem.run_bind, k1, Result.andThen_ok, Sem.run_pure]
  · obtain ⟨u, h1, h2⟩ := ob_some h
    cases h2
    obtain ⟨k1, k2⟩ := xmm_ok (P := P) (w := w) (mx := true) (tys := ⟨tys⟩) (type := type) h1 hr
    refine ⟨_, w, ?_, eff_same k2 hc (HeldBy.refl _ _) (Nat.le_refl _)⟩
    have k1 : (Builtin.max_ ⟨tys⟩ type ⟨args'⟩).run P w = .ok v w := k1
    simp only [builtin, Sem.run_bind, k1, Result.andThen_ok, Sem.run_pure]
  · cases h
theorem xeff_ok (hE : EnvOk P E) {call : CallF} (hcall : CallOk P E call) (hc : Conc E G ρ m w) (hT : Tmps ρ T a.tmps) {o : Oper} (ho : opOk o.op) {outs : List (Value × Mem)} (h : xeff E call o.op T m = .ok outs) (hf : ∀ q ∈ outs, FitM G q.2)
    {K : Act → World → Prop} {Q : Exit → Act → World → Prop} (hK : ∀ q ∈ outs, ∀ v' w', EffPost E G ρ m w q.1 q.2 v' w' → K (a.put o.dst v') w') : o.wp P a w K Q := by
  unfold xeff at h
  cases hco : callOf o.op with
  | none =>
    rw [hco] at h
    have h := of_ok (show R.of (ob (xst o.op E T m) fun r => some [r]) = .ok outs from h)
    obtain ⟨⟨v, m'⟩, h1, h2⟩ := ob_some h
    cases h2
    obtain ⟨w', k1, k2⟩ := xst_ok hE hc hT ho h1
    unfold Oper.wp
    rw [k1]
    exact hK (v, m') (by simp) _ _ k2
  | some c =>
    rw [hco] at h
    have hop : o.op = .call c := by
      cases e : o.op <;> rw [e] at hco <;> cases hco; rfl
    obtain ⟨args, h1, h⟩ := orb_ok (show xcall call c E T m = .ok outs from h)
    have hargs : RelL ρ args (c.args.toList.map a.eval) := evs_ok hT (fun x hx => ho x (by rw [hop]; show x ∈ c.operands.toList; simp only [Call.operands]; simp only [Array.toList_append, List.mem_append]; exact .inr hx)) h1
    have hexec : execOp a.eval o = (do let d ← resolve a.eval c o.type; invoke d.target d.args) := by unfold execOp; rw [hop]
    unfold Oper.wp
    rw [hexec]
    have hmap : c.args.map a.eval = ⟨c.args.toList.map a.eval⟩ := by apply Array.ext'; simp
    cases hcal : c.callee with
    | value f =>
      rw [hcal] at h
      obtain ⟨fv, h2, h3⟩ := orb_ok h
      have hfv := ev_ok hT (ho f (by rw [hop]; show f ∈ c.operands.toList; simp [Call.operands, hcal])) h2
      unfold callV at h3
      split at h3
      · rename_i g first caps
        obtain ⟨fv', hfe⟩ : ∃ fv', a.eval f = fv' := ⟨_, rfl⟩
        rw [hfe] at hfv
        obtain ⟨first⟩ := first
        obtain ⟨caps⟩ := caps
        have hres : ∀ first' caps', fv' = .func (.func g) ⟨first'⟩ ⟨caps'⟩ → RelL ρ first first' → RelL ρ caps caps' → Oper.upon P o a K Q ((do let d ← resolve a.eval c o.type; invoke d.target d.args : Sem Next).run P w) := by
          intro first' caps' e r1 r2
          have hcc := hcall _ _ _ _ h3
          obtain ⟨c1, c2⟩ := hcc
          have c3 := c2 G hf ρ w _ hc ((r1.append hargs).append r2)
          have hr : (do let d ← resolve a.eval c o.type; invoke d.target d.args : Sem Next).run P w = .ok (.enter g ⟨first' ++ c.args.toList.map a.eval ++ caps'⟩) w := by
            unfold resolve
            rw [hcal, hmap]
            simp only [hfe, e, Deferred.ofValue, Sem.run_bind, Sem.run_pure, Result.andThen_ok, invoke]
            rw [show (⟨first'⟩ ++ ⟨c.args.toList.map a.eval⟩ ++ ⟨caps'⟩ : Array Value) = ⟨first' ++ c.args.toList.map a.eval ++ caps'⟩ by apply Array.ext'; simp]
            exact c1 _ _
          rw [hr]
          refine c3.mono ?_
          rintro e w' ⟨v', rfl, q, hq, k⟩
          exact hK q hq v' w' k
        cases hfv with
        | func _ _ b _ d e1 h1 e2 h2 => exact hres b d rfl ⟨e1, h1⟩ ⟨e2, h2⟩
      · cases h3
    | invoke f nm =>
      rw [hcal] at h
      obtain ⟨fv, h2, h3⟩ := orb_ok h
      have hfv := ev_ok hT (ho f (by rw [hop]; show f ∈ c.operands.toList; simp [Call.operands, hcal])) h2
      unfold ifaceV at h3
      split at h3
      · rename_i t x
        obtain ⟨g, h4, h5⟩ := orb_ok h3
        obtain ⟨fv', hfe⟩ : ∃ fv', a.eval f = fv' := ⟨_, rfl⟩
        rw [hfe] at hfv
        cases hfv with
        | iface _ _ y ry =>
        have hmeth := hE.meth t nm g h4 y w
        obtain ⟨c1, c2⟩ := hcall _ _ _ _ h5
        have c3 := c2 G hf ρ w _ hc (RelL.cons ry hargs)
        have hr : (do let d ← resolve a.eval c o.type; invoke d.target d.args : Sem Next).run P w = .ok (.enter g ⟨y :: c.args.toList.map a.eval⟩) w := by
          unfold resolve
          rw [hcal, hmap]
          simp only [hfe, Sem.run_bind, Sem.run_pure, Result.andThen_ok, invoke]
          rw [show (#[Value.iface t y] ++ (⟨c.args.toList.map a.eval⟩ : Array Value))[0]? = some (.iface t y) by simp]
          rw [show (#[Value.iface t y] ++ (⟨c.args.toList.map a.eval⟩ : Array Value)).extract 1 (#[Value.iface t y] ++ (⟨c.args.toList.map a.eval⟩ : Array Value)).size = ⟨c.args.toList.map a.eval⟩ by apply Array.ext'; simp; exact List.take_of_length_le (by simp)]
          simp only [callMethod, Sem.run_bind, run_program, Result.andThen_ok, hmeth]
          rw [show (#[y] ++ (⟨c.args.toList.map a.eval⟩ : Array Value)) = ⟨y :: c.args.toList.map a.eval⟩ by apply Array.ext'; simp]
          exact c1 _ _
        rw [hr]
        refine c3.mono ?_
        rintro e w' ⟨v', rfl, q, hq, k⟩
        exact hK q hq v' w' k
      · cases h3
    | builtin b =>
      rw [hcal] at h
      have h := of_ok (show R.of (ob (xbuiltin b c.argTypes.toList args E m) fun r => some [r]) = .ok outs from h)
      obtain ⟨⟨v, m'⟩, h2, h3⟩ := ob_some h
      cases h3
      obtain ⟨v', w', k1, k2⟩ := xbuiltin_ok (type := o.type) (consts := c.args.map fun | .const _ => true | _ => false) hE hc hargs h2
      have hr : (do let d ← resolve a.eval c o.type; invoke d.target d.args : Sem Next).run P w = .ok (.value v') w' := by
        unfold resolve
        rw [hcal, hmap]
        simp only [Sem.run_bind, Sem.run_pure, Result.andThen_ok, invoke]
        exact k1
      rw [hr]
      exact hK (v, m') (by simp) _ _ k2
end
end Go.Proofs.YtgmdbfackbdnlaaGreatDoor

/- The executor: the way of one that runs alone goes on. -/
namespace Go.Proofs.YtgmdbfackbdnlaaGreatDoor
open Go.RowKit Bl Th Go.Sx
set_option maxRecDepth 10000

section
variable {E : Env} {m : Mem} {T : Tr Value}
theorem xal_same {op : Op} {i : Nat} {v : Value} {m' : Mem} (h : xal op E T m i = some (v, m')) : m'.mode = m.mode ∧ m'.tl = m.tl := by
  obtain ⟨_, o, _, rfl⟩ := xal_some h
  exact ⟨rfl, rfl⟩
theorem oStore_same {t : TypeId} {x y : Operand} {v : Value} {m' : Mem} (h : oStore t x y E T m = some (v, m')) : m'.mode = m.mode ∧ m'.tl = m.tl := by
  obtain ⟨p, h1, h⟩ := ob_some h
  obtain ⟨u, h2, h⟩ := ob_some h
  obtain ⟨m1, h3, h⟩ := ob_some h
  cases h
  obtain ⟨b, o, _, h⟩ := ptr_some h3
  obtain ⟨n, c, d, e, op, ro, h1, h⟩ := row_some h
  obtain ⟨k, h2, h⟩ := ob_some h
  obtain ⟨h3, h⟩ := ifo_some h
  obtain ⟨c', h4, h5⟩ := ob_some h
  cases h5
  exact ⟨rfl, rfl⟩
theorem oUpd_same {t : TypeId} {x k u : Operand} {v : Value} {m' : Mem} (h : oUpd t x k u E T m = some (v, m')) : m'.mode = m.mode ∧ m'.tl = m.tl := by
  obtain ⟨xv, h1, h⟩ := ob_some h
  unfold mapP at h
  split at h
  · obtain ⟨kv, h2, h⟩ := ob_some h
    obtain ⟨uv, h3, h⟩ := ob_some h
    obtain ⟨key, el, ud, g1, g2, g3, h⟩ := mapT_some h
    obtain ⟨es, cl, ro, g4, h⟩ := map_some h
    obtain ⟨g5, h⟩ := ifo_some h
    obtain ⟨f, g6, h⟩ := ob_some h
    cases f <;> cases h <;> exact ⟨rfl, rfl⟩
  · cases h
theorem xst_same {op : Op} {v : Value} {m' : Mem} (h : xst op E T m = some (v, m')) : m'.mode = m.mode ∧ m'.tl = m.tl := by
  cases op <;> first | exact oStore_same h | exact oUpd_same h | (cases h; done)
theorem newRowV_same {len sz : Nat} {c : Tr Value} {d : Option Value} {e : TypeId} {v : Value} {m' : Mem} (h : newRowV m len sz c d e = some (v, m')) : m'.mode = m.mode ∧ m'.tl = m.tl := by
  obtain ⟨_, h⟩ := ifo_some h
  cases h
  exact ⟨rfl, rfl⟩
theorem xappend_same {t : TypeId} {s x v : Value} {m' : Mem} (h : xappend E m t s x = some (v, m')) : m'.mode = m.mode ∧ m'.tl = m.tl := by
  obtain ⟨e, sz, g1, g2, h⟩ := EnvOk.elemS h
  obtain ⟨inf, g3, h⟩ := ob_some h
  obtain ⟨z, g4, h⟩ := ob_some h
  obtain ⟨g5, h⟩ := ifo_some h
  obtain ⟨ad, len, cap, rfl, h⟩ := slc_some h
  obtain ⟨⟨k, new⟩, g6, h⟩ := ob_some h
  obtain ⟨g7, h⟩ := ifo_some h
  rw [bif_eq] at h
  split at h
  · have hh : bif' (Nat.beq k 0) (some (Value.slice ad len cap, m)) (ob ad fun a => appOpen E m a len k sz new e) = some (v, m') := h
    clear h
    by_cases hk0 : Nat.beq k 0 = true
    · rw [bif_eq, if_pos hk0] at hh
      cases hh
      exact ⟨rfl, rfl⟩
    rw [bif_eq, if_neg hk0] at hh
    obtain ⟨a, ha, h4⟩ := ob_some hh
    subst ha
    obtain ⟨n, c, d, e', op, ro, f1, h5⟩ := row_some h4
    obtain ⟨s0, f2, h⟩ := ob_some h5
    obtain ⟨f3, h⟩ := ifo_some h
    rw [bif_eq] at h
    split at h
    · obtain ⟨c', p1, p2⟩ := ob_some h
      cases p2
      exact ⟨rfl, rfl⟩
    · obtain ⟨o6, h⟩ := ifo_some h
      have := newRowV_same h
      exact this
  · rw [bif_eq] at h
    split at h
    · cases ad with
      | none =>
        obtain ⟨y1, y2⟩ := ifo_some h
        cases y2
        exact ⟨rfl, rfl⟩
      | some a =>
        obtain ⟨n, c, d, e', op, ro, f1, h⟩ := row_some h
        obtain ⟨f3, h⟩ := ifo_some h
        obtain ⟨c', p1, p2⟩ := ob_some h
        cases p2
        exact ⟨rfl, rfl⟩
    · cases ad with
      | none =>
        obtain ⟨y1, y2⟩ := ifo_some h
        exact newRowV_same y2
      | some a =>
        obtain ⟨n, c, d, e', op, ro, f1, h⟩ := row_some h
        obtain ⟨f3, h⟩ := ifo_some h
        obtain ⟨old, p1, p2⟩ := ob_some h
        exact newRowV_same p2
theorem xcopy_same {t : TypeId} {s x v : Value} {m' : Mem} (h : xcopy E m t s x = some (v, m')) : m'.mode = m.mode ∧ m'.tl = m.tl := by
  obtain ⟨e, sz, g1, g2, h⟩ := EnvOk.elemS h
  obtain ⟨a, len, cap, _, h1⟩ := slc_some h
  obtain ⟨b, len', cap', _, h2⟩ := slc_some h1
  obtain ⟨⟨k, new⟩, g6, h3⟩ := ob_some h2
  cases a with
  | none => cases h3; exact ⟨rfl, rfl⟩
  | some a =>
    obtain ⟨n, c, d, e', op, ro, f1, h⟩ := row_some h3
    obtain ⟨f3, h⟩ := ifo_some h
    obtain ⟨c', p1, p2⟩ := ob_some h
    cases p2
    exact ⟨rfl, rfl⟩
theorem bDel_same {t : TypeId} {x k v : Value} {m' : Mem} (h : bDel E t m k x = some (v, m')) : m'.mode = m.mode ∧ m'.tl = m.tl := by
  unfold bDel at h
  split at h
  · obtain ⟨key, el, ud, g1, g2, g3, h⟩ := mapT_some h
    cases h; exact ⟨rfl, rfl⟩
  · obtain ⟨key, el, ud, g1, g2, g3, h⟩ := mapT_some h
    obtain ⟨es, cl, ro, g4, h⟩ := map_some h
    obtain ⟨g5, h⟩ := ifo_some h
    obtain ⟨f, g6, h⟩ := ob_some h
    cases h; exact ⟨rfl, rfl⟩
  · cases h
theorem xbuiltin_same {b : Builtin} {tys : List TypeId} {args : List Value} {v : Value} {m' : Mem} (h : xbuiltin b tys args E m = some (v, m')) : m'.mode = m.mode ∧ m'.tl = m.tl := by
  unfold xbuiltin at h
  split at h
  · split at h
    · split at h
      · obtain ⟨d, h1, h⟩ := ob_some h
        obtain ⟨h2, h⟩ := ifo_some h
        exact xappend_same h
      · cases h
    · cases h
  · split at h
    · split at h
      · exact xcopy_same h
      · cases h
    · cases h
  · split at h
    · split at h
      · exact bDel_same h
      · cases h
    · cases h
  · split at h
    · split at h
      · unfold xclear at h
        obtain ⟨e, sz, g1, g2, h⟩ := EnvOk.elemS h
        obtain ⟨z, gz, h⟩ := ob_some h
        obtain ⟨a, len, cap, hs, h⟩ := slc_some h
        obtain ⟨a, ha, h⟩ := ob_some h
        obtain ⟨n, c, d, e', op, ro, f1, h⟩ := row_some h
        obtain ⟨f3, h⟩ := ifo_some h
        obtain ⟨c', p1, p2⟩ := ob_some h
        cases p2; exact ⟨rfl, rfl⟩
      · cases h
    · cases h
  · obtain ⟨_, _, h⟩ := ob_some h
    cases h; exact ⟨rfl, rfl⟩
  · obtain ⟨_, _, h⟩ := ob_some h
    cases h; exact ⟨rfl, rfl⟩
  · cases h
theorem xeff_grow {call : CallF} (hg : GrowF call) {op : Op} {outs : List (Value × Mem)} (h : xeff E call op T m = .ok outs) : Grow m (outs.map (·.2)) := by
  unfold xeff at h
  cases hco : callOf op with
  | none =>
    rw [hco] at h
    have h := of_ok (show R.of (ob (xst op E T m) fun r => some [r]) = .ok outs from h)
    obtain ⟨⟨v, m'⟩, h1, h2⟩ := ob_some h
    cases h2
    exact Grow.same (xst_same h1)
  | some c =>
    rw [hco] at h
    obtain ⟨args, h1, h⟩ := orb_ok (show xcall call c E T m = .ok outs from h)
    cases hcal : c.callee with
    | value f =>
      rw [hcal] at h
      obtain ⟨fv, h2, h3⟩ := orb_ok h
      unfold callV at h3
      split at h3
      · exact hg _ _ _ _ h3
      · cases h3
    | invoke f nm =>
      rw [hcal] at h
      obtain ⟨fv, h2, h3⟩ := orb_ok h
      unfold ifaceV at h3
      split at h3
      · obtain ⟨g, _, h4⟩ := orb_ok h3
        exact hg _ _ _ _ h4
      · cases h3
    | builtin b =>
      rw [hcal] at h
      have h := of_ok (show R.of (ob (xbuiltin b c.argTypes.toList args E m) fun r => some [r]) = .ok outs from h)
      obtain ⟨⟨v, m'⟩, h2, h3⟩ := ob_some h
      cases h3
      exact Grow.same (xbuiltin_same h2)
theorem doOps_grow {call : CallF} (hg : GrowF call) {all : List Oper} : ∀ (l : List Oper) (T : Tr Value) (m : Mem) (outs : List (Tr Value × Mem)), doOps E call all l T m = .ok outs → Grow m (outs.map (·.2))
  | [], T, m, outs, h => by cases h; exact Grow.same ⟨rfl, rfl⟩
  | o :: l, T, m, outs, h => by
    obtain ⟨g, h1, h⟩ := orb_ok (show opStep E call all o (doOps E call all l) T m = .ok outs from h)
    cases g with
    | false => exact doOps_grow hg l _ _ _ h
    | true =>
      rw [bif_true, kindR_eq] at h
      split at h
      · obtain ⟨s, h2, h3⟩ := rb_ok h
        exact each_grow (xeff_grow hg (note_ok h2)) (fun q _ s hs => doOps_grow hg l _ _ _ hs) h3
      · obtain ⟨⟨v, m'⟩, h2, h3⟩ := rb_ok h
        exact Grow.trans (xal_same (of_ok (note_ok h2))) (doOps_grow hg l _ m'.bump _ h3)
      · obtain ⟨⟨v, m'⟩, h2, h3⟩ := rb_ok h
        exact doOps_grow hg l _ _ _ h3
theorem drawOps_grow {call : CallF} (hg : GrowF call) {all : List Oper} {ms : List Nat} {base : Nat} : ∀ (l : List Oper) (i : Nat) (S : Seg) (T : Tr Value) (m : Mem) (outs : List (Tr Value × Mem)), drawOps E call all ms base l i S T m = .ok outs → Grow m (outs.map (·.2))
  | [], i, S, T, m, outs, h => by cases h; exact Grow.same ⟨rfl, rfl⟩
  | o :: l, i, S, T, m, outs, h => by
    obtain ⟨g, h1, h⟩ := orb_ok (show drawStep E call all ms base o (drawOps E call all ms base l) i S T m = .ok outs from h)
    cases g with
    | false => exact drawOps_grow hg l _ _ _ _ _ h
    | true =>
      rw [bif_true, kindD_eq] at h
      split at h
      · obtain ⟨s, h2, h3⟩ := rb_ok h
        have hx := xeff_grow hg (note_ok h2)
        rw [bif_eq] at h3
        split at h3
        · exact each_grow hx (fun q _ s hs => drawOps_grow hg l _ _ _ _ _ hs) h3
        · split at h3
          · rename_i q
            rw [bif_eq] at h3
            split at h3
            · intro hm
              obtain ⟨m1, k1, k2, k3⟩ := hx hm
              simp only [List.map_cons, List.map_nil, List.mem_singleton] at k1
              subst k1
              obtain ⟨m2, k4, k5, k6⟩ := drawOps_grow hg l _ _ _ _ _ h3 k2
              exact ⟨m2, k4, k5, k3.trans k6⟩
            · cases h3
          · cases h3
      · obtain ⟨⟨v, m'⟩, h2, h3⟩ := rb_ok h
        have hs := xal_same (of_ok (note_ok h2))
        rw [bif_eq] at h3
        split at h3
        · exact Grow.trans hs (drawOps_grow hg l _ _ _ m' _ h3)
        · exact Grow.trans hs (drawOps_grow hg l _ _ _ m' _ h3)
      · obtain ⟨⟨v, m'⟩, h2, h3⟩ := rb_ok h
        rw [bif_eq] at h3
        split at h3
        · exact drawOps_grow hg l _ _ _ _ _ h3
        · cases h3
      · obtain ⟨⟨v, m'⟩, h2, h3⟩ := rb_ok h
        exact drawOps_grow hg l _ _ _ _ _ h3
theorem region_grow {call : CallF} (hg : GrowF call) {draw : Bool} {ops : List Oper} {outs : List (Tr Value × Mem)} (h : region E call draw ops T m = .ok outs) : Grow m (outs.map (·.2)) := by
  unfold region at h
  cases draw with
  | false => exact doOps_grow hg _ _ _ _ h
  | true => exact drawOps_grow hg _ _ _ _ { m with nx := m.nx + ops.length } _ h

def RecGrow (rec' : ExecF) : Prop := ∀ sc c T m outs, rec' sc c T m = .ok outs → Grow m (outs.map Out.m)
theorem eSeq_grow {rec' : ExecF} (hr : RecGrow rec') {b : Code} {o : Out} {s : List Out} (h : eSeq rec' b o = .ok s) : Grow o.m (s.map Out.m) := by
  unfold eSeq at h
  split at h
  · exact hr _ _ _ _ _ h
  · cases h; exact Grow.same ⟨rfl, rfl⟩
theorem eBlock_grow {id : Nat} {o : Out} {s : List Out} (h : eBlock id o = .ok s) : Grow o.m (s.map Out.m) := by
  unfold eBlock at h
  split at h
  · cases h
    refine Grow.same ?_
    rw [bif_eq]; split <;> exact ⟨rfl, rfl⟩
  · cases h; exact Grow.same ⟨rfl, rfl⟩
theorem eScope_grow {rec' : ExecF} (hr : RecGrow rec') {b : Code} {o : Out} {s : List Out} (h : eScope rec' b o = .ok s) : Grow o.m (s.map Out.m) := by
  unfold eScope at h
  split at h
  · rename_i l _
    cases hf : findLabel b l with
    | none => rw [hf] at h; cases h; exact Grow.same ⟨rfl, rfl⟩
    | some rest => rw [hf] at h; exact hr _ _ _ _ _ h
  · cases h; exact Grow.same ⟨rfl, rfl⟩
theorem execC_grow {rec' : ExecF} (hr : RecGrow rec') (hg : GrowF (callE E rec')) {c : Code} {outs : List Out} (h : execC E rec' c T m = .ok outs) : Grow m (outs.map Out.m) := by
  cases c with
  | skip => cases h; exact Grow.same ⟨rfl, rfl⟩
  | label l => cases h; exact Grow.same ⟨rfl, rfl⟩
  | seq a b =>
    obtain ⟨s, h1, h2⟩ := rb_ok h
    exact each_grow (hr _ _ _ _ _ h1) (fun o _ s hs => eSeq_grow hr hs) h2
  | cond x a b =>
    obtain ⟨v, h1, h2⟩ := orb_ok h
    unfold eCond at h2
    split at h2
    · exact hr _ _ _ _ _ h2
    · cases h2
  | block id b =>
    obtain ⟨s, h1, h2⟩ := rb_ok h
    exact each_grow (hr _ _ _ _ _ h1) (fun o _ s hs => eBlock_grow hs) h2
  | loop b =>
    obtain ⟨s, h1, h2⟩ := rb_ok h
    exact each_grow (hr _ _ _ _ _ h1) (fun o _ s hs => eSeq_grow hr hs) h2
  | scope b => exact hr _ _ _ _ _ h
  | goto l => cases h; exact Grow.same ⟨rfl, rfl⟩
  | exit id => cases h; exact Grow.same ⟨rfl, rfl⟩
  | ret => cases h; exact Grow.same ⟨rfl, rfl⟩
  | region id ops draw =>
    obtain ⟨s, h1, h2⟩ := rb_ok h
    exact each_grow (g := fun q : Tr Value × Mem => q.2) (region_grow hg h1) (fun q _ s hs => by cases hs; exact Grow.same ⟨rfl, rfl⟩) h2
  | _ => cases h
theorem execS_grow {rec' : ExecF} (hr : RecGrow rec') (hg : GrowF (callE E rec')) : RecGrow (execS E rec') := by
  intro sc c T m outs h
  cases sc with
  | none => exact execC_grow hr hg h
  | some b =>
    obtain ⟨s, h1, h2⟩ := rb_ok h
    exact each_grow (hr _ _ _ _ _ h1) (fun o _ s hs => eScope_grow hr hs) h2
theorem body_grow {rec' : ExecF} (hr : RecGrow rec') {f : FuncId} {args : List Value} {outs : List (Value × Mem)} (h : body E rec' f args m = .ok outs) : Grow m (outs.map (·.2)) := by
  obtain ⟨fn, h1, h⟩ := orb_ok h
  obtain ⟨c, h2, h⟩ := orb_ok h
  rw [bif_eq] at h
  split at h
  · obtain ⟨s, h3, h4⟩ := rb_ok h
    refine each_grow (hr _ _ _ _ _ h3) (fun o _ s hs => ?_) h4
    unfold leave at hs
    split at hs
    · cases hs
    · cases hs
    · obtain ⟨vs, k1, k2⟩ := orb_ok hs
      cases k2
      exact Grow.same ⟨rfl, rfl⟩
  · cases h
/-- What is not run: it goes on, too. -/
def PrimGrow (E : Env) : Prop := ∀ f p, E.prim f = some (.fn p) → ∀ args m v m', p args m = some (v, m') → m.mode = 1 → m'.mode = m.mode ∧ m'.tl = m.tl
theorem callE_grow (hp : PrimGrow E) {rec' : ExecF} (hr : RecGrow rec') : GrowF (callE E rec') := by
  intro f args m outs h
  unfold callE at h
  rw [bif_eq] at h
  split at h
  · exact body_grow hr h
  · cases hf : E.prim f with
    | none => rw [hf] at h; exact body_grow hr h
    | some p =>
      rw [hf] at h
      have h := note_ok (show note "prim" (callP E rec' args m p) = .ok outs from h)
      cases p with
      | fn p =>
        have h := of_ok (show R.of (ob (p args m) fun r => some [r]) = .ok outs from h)
        obtain ⟨⟨v, m'⟩, h1, h2⟩ := ob_some h
        cases h2
        intro hm
        exact Grow.same (hp f p hf args m v m' h1 hm) hm
      | acc p =>
        have h : bif' (isP m.ic args) (orb (p args) fun q => access' m q.1 q.2) (.no ["Ctx"]) = .ok outs := h
        rw [bif_eq] at h
        split at h
        · obtain ⟨q, h1, h⟩ := orb_ok h
          obtain ⟨S, h2, h⟩ := orb_ok h
          intro hm
          rw [hm] at h
          simp only at h
          rw [bif_eq] at h
          split at h
          · cases h
            exact ⟨_, List.mem_cons_self .., rfl, List.suffix_cons _ _⟩
          · cases h
        · cases h
      | run =>
        intro hm
        have h : Go.Sx.runT E rec' m args = .ok outs := h
        unfold Go.Sx.runT at h
        split at h
        · obtain ⟨S, h0, h⟩ := orb_ok h
          obtain ⟨o, h1, h⟩ := orb_ok h
          obtain ⟨q, h2, h⟩ := orb_ok h
          rw [hm] at h
          cases h
        · cases h
theorem exec_grow (hp : PrimGrow E) : ∀ n, RecGrow (exec E n)
  | 0 => fun sc c T m outs h => by cases h
  | n + 1 => execS_grow (exec_grow hp n) (callE_grow hp (exec_grow hp n))
end
end Go.Proofs.YtgmdbfackbdnlaaGreatDoor

/- The executor: the operations of a region, one after another. -/
namespace Go.Proofs.YtgmdbfackbdnlaaGreatDoor
open Go.RowKit Bl Th Go.Sx
set_option maxRecDepth 10000

/-- An operation whose constants are flat and whose temporary is one of N. -/
structure OperOk (N : Nat) (o : Oper) : Prop where
  op : opOk o.op
  dst : ∀ d, o.dst = some d → d < N ∧ d ≤ 1048574
/-- Symbolic state and the state of a call. -/
structure St (E : Env) (G : Gh) (N : Nat) (ρ : Ren) (T : Tr Value) (m : Mem) (a : Act) (w : World) : Prop where
  conc : Conc E G ρ m w
  tmps : Tmps ρ T a.tmps
  size : a.tmps.size = N
/-- Wherever it comes out, K holds. -/
def Goes (E : Env) (G : Gh) (N : Nat) (d : List Deferred) (n : Nat) (ρ : Ren) (w : World) (K : Act → World → Prop) (outs : List (Tr Value × Mem)) : Prop :=
  ∀ q ∈ outs, ∀ ρ' a' w', Since G n ρ w ρ' w' → n ≤ q.2.nx → St E G N ρ' q.1 q.2 a' w' → a'.defers = d → K a' w'
theorem Goes.step {E : Env} {G : Gh} {N : Nat} {d : List Deferred} {n n1 : Nat} {ρ ρ1 : Ren} {w w1 : World} {K : Act → World → Prop} {outs sub : List (Tr Value × Mem)} (h : Goes E G N d n ρ w K outs) (s : Since G n ρ w ρ1 w1) (hn : n ≤ n1) (hs : ∀ q ∈ sub, q ∈ outs) : Goes E G N d n1 ρ1 w1 K sub :=
  fun q hq ρ' a' w' k hq' st hd => h q (hs q hq) ρ' a' w' (s.trans k hn) (Nat.le_trans hn hq') st hd

section
variable {P : Program} {E : Env} {G : Gh} {ρ : Ren} {m : Mem} {w : World} {T : Tr Value} {a : Act}
theorem undef_rel (ρ : Ren) : Rel ρ undef undef := .tuple [] [] rfl (RelL.nil ρ).2
theorem put_get {T : Tr Value} {dst : Option Tmp} {v : Value} (hd : ∀ d, dst = some d → d ≤ 1048574) (t : Nat) : (putT T dst v).get? t = if dst = some t then some v else T.get? t := by
  cases dst with
  | none => simp [putT]
  | some d =>
    show (Tr.set 20 T d v).get? t = _
    rw [Tr.get_set20 _ _ _ _ (hd d rfl)]
    by_cases e : t = d
    · rw [if_pos e, if_pos (by rw [e])]
    · rw [if_neg e, if_neg (by intro e'; exact e (Option.some.inj e').symm)]
theorem act_put_get {a : Act} {dst : Option Tmp} {v : Value} (hd : ∀ d, dst = some d → d < a.tmps.size) (t : Nat) : (a.put dst v).tmps[t]? = if dst = some t then some v else a.tmps[t]? := by
  cases dst with
  | none => simp [Act.put]
  | some d =>
    show (a.tmps.setIfInBounds d v)[t]? = _
    by_cases e : t = d
    · subst e
      rw [if_pos rfl, Array.getElem?_setIfInBounds_self, if_pos (hd t rfl)]
    · rw [if_neg (by intro e'; exact e (Option.some.inj e').symm), Array.getElem?_setIfInBounds_ne (fun e' => e e'.symm)]
theorem act_put_size {a : Act} {dst : Option Tmp} {v : Value} : (a.put dst v).tmps.size = a.tmps.size := by
  cases dst <;> simp [Act.put]
theorem act_put_defers {a : Act} {dst : Option Tmp} {v : Value} : (a.put dst v).defers = a.defers := by
  cases dst <;> rfl
theorem Tmps.put (hT : Tmps ρ T a.tmps) {dst : Option Tmp} (hd : ∀ d, dst = some d → d < a.tmps.size ∧ d ≤ 1048574) {v v' : Value} (hv : Rel ρ v v') : Tmps ρ (putT T dst v) (a.put dst v').tmps := by
  intro t u hu
  rw [put_get (fun d e => (hd d e).2)] at hu
  rw [act_put_get (fun d e => (hd d e).1)]
  split at hu
  · rename_i e
    rw [if_pos e]
    cases hu
    exact ⟨v', rfl, hv⟩
  · rename_i e
    rw [if_neg e]
    exact hT t u hu
theorem St.put {N : Nat} (h : St E G N ρ T m a w) {dst : Option Tmp} (hd : ∀ d, dst = some d → d < N ∧ d ≤ 1048574) {ρ' : Ren} (hr : ρ.le ρ') {m' : Mem} {w' : World} (hc : Conc E G ρ' m' w') {v v' : Value} (hv : Rel ρ' v v') : St E G N ρ' (putT T dst v) m' (a.put dst v') w' :=
  ⟨hc, (h.tmps.mono hr).put (fun d e => by rw [h.size]; exact hd d e) hv, by rw [act_put_size]; exact h.size⟩
theorem wanted_ok {all : List Oper} {o : Oper} {g : Bool} (hT : Tmps ρ T a.tmps) (h : wantedX all T o.guard = some g) : Region.wanted o (yielded all.toArray a.tmps) = g := by
  unfold Region.wanted
  cases hg : o.guard with
  | none => rw [hg] at h; exact Option.some.inj h
  | some q =>
    rw [hg] at h
    obtain ⟨o', h1, h⟩ := ob_some (show ob (all[q.1]?) _ = some g from h)
    obtain ⟨d, h2, h⟩ := ob_some h
    obtain ⟨v, h3, h⟩ := ob_some h
    obtain ⟨v', h4, r⟩ := hT d v h3
    obtain ⟨j, want⟩ := q
    have hy : yielded all.toArray a.tmps j = match v' with | .bool b => some b | _ => none := by
      unfold yielded
      simp only at h1
      rw [List.getElem?_toArray, h1]
      simp only [Option.bind_some, h2, h4]
      cases v' <;> rfl
    simp only
    rw [hy]
    cases r with
    | unk => cases h
    | wrd => cases h
    | bool b => cases h; cases b <;> cases want <;> rfl
    | _ => cases h; rfl
theorem doOps_ok (hE : EnvOk P E) (hK : CmpOk P E) {call : CallF} (hcall : CallOk P E call) (hgrow : GrowF call) {N : Nat} {all : List Oper} {Q : Exit → Act → World → Prop} : ∀ (l : List Oper) (T : Tr Value) (m : Mem) (outs : List (Tr Value × Mem)), doOps E call all l T m = .ok outs → (∀ o ∈ l, OperOk N o) → (∀ q ∈ outs, FitM G q.2) →
    ∀ (ρ : Ren) (a : Act) (w : World), St E G N ρ T m a w → Goes E G N a.defers m.nx ρ w (Q .normal) outs → wpList P all.toArray Q l a w
  | [], T, m, outs, h, _, _, ρ, a, w, st, hQ => by
    cases h
    exact hQ (T, m) (by simp) ρ a w (Since.refl _ _ _ _) (Nat.le_refl _) st rfl
  | o :: l, T, m, outs, h, hl, hf, ρ, a, w, st, hQ => by
    have ho := hl o (by simp)
    have hl' : ∀ o ∈ l, OperOk N o := fun x hx => hl x (by simp [hx])
    obtain ⟨g, h1, h⟩ := orb_ok (show opStep E call all o (doOps E call all l) T m = .ok outs from h)
    have hw := wanted_ok (all := all) (o := o) st.tmps h1
    show if Region.wanted o (yielded all.toArray a.tmps) = true then o.wp P a w (wpList P all.toArray Q l) Q ∨ (o.asks P a w ∧ LetsOut Q) else wpList P all.toArray Q l (a.put o.dst undef) w
    rw [hw]
    cases g with
    | false =>
      rw [if_neg (by simp)]
      exact doOps_ok hE hK hcall hgrow l _ _ _ h hl' hf ρ _ w (st.put ho.dst (Ren.le_refl ρ) st.conc (undef_rel ρ)) (by rw [act_put_defers]; exact hQ)
    | true =>
      rw [if_pos rfl]
      left
      rw [bif_true, kindR_eq] at h
      split at h
      · obtain ⟨s, h2, h3⟩ := rb_ok h
        have h2 := note_ok h2
        have hsub : ∀ q ∈ s, ∃ r, doOps E call all l (putT T o.dst q.1) q.2 = .ok r ∧ ∀ y ∈ r, y ∈ outs := fun q hq => each_ok h3 q hq
        refine xeff_ok hE hcall st.conc st.tmps ho.op h2 (fun q hq => ?_) fun q hq v' w' k => ?_
        · obtain ⟨r, r1, r2⟩ := hsub q hq
          refine FitM.of_grow (doOps_grow hgrow l _ _ _ r1) fun m' hm' => ?_
          obtain ⟨y, y1, rfl⟩ := List.mem_map.1 hm'
          exact hf y (r2 y y1)
        · obtain ⟨r, r1, r2⟩ := hsub q hq
          obtain ⟨ρ', k1, k2, k3, k4⟩ := k
          exact doOps_ok hE hK hcall hgrow l _ _ _ r1 hl' (fun y hy => hf y (r2 y hy)) ρ' _ w' (st.put ho.dst k1.le k4 k3) (by rw [act_put_defers]; exact hQ.step k1 k2 r2)
      · obtain ⟨⟨v, m'⟩, h2, h3⟩ := rb_ok h
        have h2 := of_ok (note_ok h2)
        obtain ⟨v', ρ', w', e, k1, k2, k3, k4, k5⟩ := xal_ok (nx := m.nx + 1) hE st.conc st.tmps ho.op st.conc.fresh (Nat.le_succ _) (Nat.lt_succ_self _) h2
        unfold Oper.wp
        rw [e]
        have hnx : m'.nx = m.nx := by obtain ⟨_, o', _, rfl⟩ := xal_some h2; rfl
        have hb : ({ m' with nx := m.nx + 1 } : Mem) = m'.bump := by unfold Mem.bump; rw [hnx]
        rw [hb] at k4
        exact doOps_ok hE hK hcall hgrow l _ _ _ h3 hl' hf ρ' _ w' (st.put ho.dst k1 k4 k3) (by rw [act_put_defers]; exact hQ.step ⟨k1, fun j hj => k2 j (by omega), k5⟩ (by show m.nx ≤ m'.nx + 1; omega) fun _ h => h)
      · obtain ⟨⟨v, m'⟩, h2, h3⟩ := rb_ok h
        have h2 := of_ok (note_ok h2)
        obtain ⟨rfl, v', e, r⟩ := xop_ok hE hK st.conc st.tmps ho.op h2
        unfold Oper.wp
        rw [e]
        exact doOps_ok hE hK hcall hgrow l _ _ _ h3 hl' hf ρ _ w (st.put ho.dst (Ren.le_refl ρ) st.conc r) (by rw [act_put_defers]; exact hQ)
end
end Go.Proofs.YtgmdbfackbdnlaaGreatDoor

/- The executor: an operation looks at its operands alone. -/
namespace Go.Sx
/-- What stands where p says. -/
noncomputable def Tr.filt {α : Type} (p : Nat → Bool) (t : Tr α) : Nat → Nat → Tr α :=
  Tr.rec (motive := fun _ => Nat → Nat → Tr α) (fun _ _ => .nil)
    (fun v _ _ il ir a b => .node (if p b then v else none) (il (2 * a) (a + b)) (ir (2 * a) (2 * a + b))) t
theorem Tr.get_filt {α : Type} (p : Nat → Bool) : ∀ (t : Tr α) (a b m : Nat), (t.filt p a b).get? m = if p (a * m + b) then t.get? m else none
  | .nil, a, b, m => by
    show (Tr.nil : Tr α).get? m = _
    rw [Tr.get_nil]; split <;> rfl
  | .node v l r, a, b, m => by
    show (Tr.node (if p b then v else none) (l.filt p (2 * a) (a + b)) (r.filt p (2 * a) (2 * a + b))).get? m = _
    rcases halves m with rfl | ⟨i, rfl⟩ | ⟨i, rfl⟩
    · rw [Tr.get_zero, Tr.get_zero, Nat.mul_zero, Nat.zero_add]
    · rw [Tr.get_even, Tr.get_even, Tr.get_filt p l, show 2 * a * i + (a + b) = a * (2 * i + 1) + b by rw [Nat.mul_add, Nat.mul_comm 2 a, Nat.mul_assoc]; omega]
    · rw [Tr.get_odd, Tr.get_odd, Tr.get_filt p r, show 2 * a * i + (2 * a + b) = a * (2 * i + 2) + b by rw [Nat.mul_add, Nat.mul_comm 2 a, Nat.mul_assoc]; omega]
theorem Tr.get_filt1 {α : Type} (p : Nat → Bool) (t : Tr α) (m : Nat) : (t.filt p 1 0).get? m = if p m then t.get? m else none := by
  rw [Tr.get_filt, Nat.one_mul, Nat.add_zero]
end Go.Sx
namespace Go.Proofs.YtgmdbfackbdnlaaGreatDoor
open Go.RowKit Bl Th Go.Sx
set_option maxRecDepth 10000

section
variable {E : Env} {m : Mem} {T T' : Tr Value}
theorem evs_congr : ∀ {l : List Operand}, (∀ x ∈ l, ev T x = ev T' x) → evs T l = evs T' l
  | [], _ => rfl
  | x :: l, h => by
    show ob (ev T x) (fun v => ob (evs T l) fun vs => some (v :: vs)) = ob (ev T' x) (fun v => ob (evs T' l) fun vs => some (v :: vs))
    rw [h x (by simp), evs_congr (l := l) fun y hy => h y (by simp [hy])]
theorem evp_congr : ∀ {l : List (Nat × Operand)}, (∀ x ∈ l, ev T x.2 = ev T' x.2) → evp T l = evp T' l
  | [], _ => rfl
  | x :: l, h => by
    show ob (ev T x.2) (fun v => ob (evp T l) fun vs => some ((x.1, v) :: vs)) = ob (ev T' x.2) (fun v => ob (evp T' l) fun vs => some ((x.1, v) :: vs))
    rw [h x (by simp), evp_congr (l := l) fun y hy => h y (by simp [hy])]
theorem evo_congr {o : Option Operand} (h : ∀ x ∈ o.toArray.toList, ev T x = ev T' x) : evo T o = evo T' o := by
  cases o with
  | none => rfl
  | some x =>
    show ob (ev T x) _ = ob (ev T' x) _
    rw [h x (by simp)]
theorem xop_congr {op : Op} (h : ∀ x ∈ op.operands.toList, ev T x = ev T' x) : xop op E T m = xop op E T' m := by
  cases op with
  | move x => show oMove x E T m = oMove x E T' m; unfold oMove; rw [h x (by simp [Op.operands])]
  | assign x => show oMove x E T m = oMove x E T' m; unfold oMove; rw [h x (by simp [Op.operands])]
  | pick c x y =>
    show oPick c x y E T m = oPick c x y E T' m; unfold oPick
    rw [h c (by simp [Op.operands])]
    congr 1; funext v; congr 1; funext t
    cases t
    · show ob (ev T y) _ = ob (ev T' y) _; rw [h y (by simp [Op.operands])]
    · show ob (ev T x) _ = ob (ev T' x) _; rw [h x (by simp [Op.operands])]
  | build t ps =>
    show oBuild t ps E T m = oBuild t ps E T' m; unfold oBuild
    rw [evp_congr fun x hx => h x.2 (by simp only [Op.operands]; simpa using ⟨x.1, by simpa using hx⟩)]
  | load t x => show oLoad t x E T m = oLoad t x E T' m; unfold oLoad; rw [h x (by simp [Op.operands])]
  | nilCheck x => show oNil x E T m = oNil x E T' m; unfold oNil; rw [h x (by simp [Op.operands])]
  | binOp op t x y yt => show oBin op t x y E T m = oBin op t x y E T' m; unfold oBin; rw [h x (by simp [Op.operands]), h y (by simp [Op.operands])]
  | unOp op t x => show oUn op x E T m = oUn op x E T' m; unfold oUn; rw [h x (by simp [Op.operands])]
  | convert s d x => show oConv s d x E T m = oConv s d x E T' m; unfold oConv; rw [h x (by simp [Op.operands])]
  | makeInterface t x => show oMakeI t x E T m = oMakeI t x E T' m; unfold oMakeI; rw [h x (by simp [Op.operands])]
  | makeFunc f x y =>
    show oMakeF f x y E T m = oMakeF f x y E T' m; unfold oMakeF
    rw [evs_congr fun z hz => h z (by simp only [Op.operands, Array.toList_append, List.mem_append]; exact .inl hz), evs_congr fun z hz => h z (by simp only [Op.operands, Array.toList_append, List.mem_append]; exact .inr hz)]
  | slice t x lo hi mx =>
    show oSlice t x lo hi mx E T m = oSlice t x lo hi mx E T' m; unfold oSlice
    rw [h x (by simp [Op.operands]), evo_congr fun y hy => h y (by simp only [Op.operands, Array.toList_append, List.mem_append]; exact .inl (.inl (.inr hy))), evo_congr fun y hy => h y (by simp only [Op.operands, Array.toList_append, List.mem_append]; exact .inl (.inr hy)), evo_congr fun y hy => h y (by simp only [Op.operands, Array.toList_append, List.mem_append]; exact .inr hy)]
  | fieldAddr s x f => show oFieldA s x f E T m = oFieldA s x f E T' m; unfold oFieldA; rw [h x (by simp [Op.operands])]
  | field s x f => show oField s x f E T m = oField s x f E T' m; unfold oField; rw [h x (by simp [Op.operands])]
  | indexAddr t x i => show oIndexA t x i E T m = oIndexA t x i E T' m; unfold oIndexA; rw [h x (by simp [Op.operands]), h i (by simp [Op.operands])]
  | index t x i => show oIndex t x i E T m = oIndex t x i E T' m; unfold oIndex; rw [h x (by simp [Op.operands]), h i (by simp [Op.operands])]
  | lookup t x k ok => show oLookup t x k ok E T m = oLookup t x k ok E T' m; unfold oLookup; rw [h x (by simp [Op.operands]), h k (by simp [Op.operands])]
  | typeAssert x t a ok => show oAssert x a ok E T m = oAssert x a ok E T' m; unfold oAssert; rw [h x (by simp [Op.operands])]
  | extract x i => show oExtract x i E T m = oExtract x i E T' m; unfold oExtract; rw [h x (by simp [Op.operands])]
  | call c =>
    show oLen c E T m = oLen c E T' m
    unfold oLen
    cases hl : isLen c with
    | none => rfl
    | some q =>
      obtain ⟨x, t⟩ := q
      obtain ⟨ts, rfl⟩ := isLen_some hl
      show ob (ev T x) _ = ob (ev T' x) _
      rw [h x (by simp [Op.operands, Call.operands])]
  | _ => rfl
theorem xalO_congr {op : Op} {i : Nat} (h : ∀ x ∈ op.operands.toList, ev T x = ev T' x) : xalO op E T i = xalO op E T' i := by
  cases op with
  | alloc e => rfl
  | box e x => show aBox e x E T i = aBox e x E T' i; unfold aBox; rw [h x (by simp [Op.operands])]
  | buildSlice t n ps =>
    show aBuildSlice t n ps E T i = aBuildSlice t n ps E T' i; unfold aBuildSlice
    rw [evp_congr fun x hx => h x.2 (by simp only [Op.operands]; simpa using ⟨x.1, by simpa using hx⟩)]
  | makeMap t r => rfl
  | makeSlice t l c => show aMakeS t l c E T i = aMakeS t l c E T' i; unfold aMakeS; rw [h l (by simp [Op.operands]), h c (by simp [Op.operands])]
  | _ => rfl
theorem xst_congr {op : Op} (h : ∀ x ∈ op.operands.toList, ev T x = ev T' x) : xst op E T m = xst op E T' m := by
  cases op with
  | store t x y => show oStore t x y E T m = oStore t x y E T' m; unfold oStore; rw [h x (by simp [Op.operands]), h y (by simp [Op.operands])]
  | mapUpdate t x k u => show oUpd t x k u E T m = oUpd t x k u E T' m; unfold oUpd; rw [h x (by simp [Op.operands]), h k (by simp [Op.operands]), h u (by simp [Op.operands])]
  | insert t x k u => show oUpd t x k u E T m = oUpd t x k u E T' m; unfold oUpd; rw [h x (by simp [Op.operands]), h k (by simp [Op.operands]), h u (by simp [Op.operands])]
  | _ => rfl
theorem xeff_congr {call : CallF} {op : Op} (h : ∀ x ∈ op.operands.toList, ev T x = ev T' x) : xeff E call op T m = xeff E call op T' m := by
  unfold xeff
  cases hco : callOf op with
  | none =>
    show R.of (ob (xst op E T m) fun r => some [r]) = R.of (ob (xst op E T' m) fun r => some [r])
    rw [xst_congr h]
  | some c =>
    have hop : op = .call c := by cases op <;> cases hco; rfl
    subst hop
    show xcall call c E T m = xcall call c E T' m
    unfold xcall
    rw [evs_congr fun x hx => h x (by show x ∈ c.operands.toList; simp only [Call.operands]; simp only [Array.toList_append, List.mem_append]; exact .inr hx)]
    congr 1; funext args
    cases hcal : c.callee with
    | value f =>
      show orb (ev T f) _ = orb (ev T' f) _
      rw [h f (by show f ∈ c.operands.toList; simp [Call.operands, hcal])]
    | invoke f nm =>
      show orb (ev T f) _ = orb (ev T' f) _
      rw [h f (by show f ∈ c.operands.toList; simp [Call.operands, hcal])]
    | builtin b => rfl

/-! What hangs on operands alone is so in any memory. -/
theorem ob_any {α : Type} {o : Option α} {f f2 : α → Option (Value × Mem)} {v : Value} {m' m2 : Mem} (h : ob o f = some (v, m')) (k : ∀ a, f a = some (v, m') → f2 a = some (v, m2)) : ob o f2 = some (v, m2) := by
  obtain ⟨a, rfl, h⟩ := ob_some h
  exact k a h
theorem ifo_any {b : Bool} {f f2 : Option (Value × Mem)} {v : Value} {m' m2 : Mem} (h : ifo b f = some (v, m')) (k : f = some (v, m') → f2 = some (v, m2)) : ifo b f2 = some (v, m2) := by
  obtain ⟨rfl, h⟩ := ifo_some h
  exact k h
theorem fin_any {u v : Value} {m m' m2 : Mem} (h : some (u, m) = some (v, m')) : some (u, m2) = some (v, m2) := by cases h; rfl
theorem xop0_any {op : Op} (hk : kindOf op = 0) {v : Value} {m' : Mem} (h : xop op E T m = some (v, m')) (m2 : Mem) : xop op E T m2 = some (v, m2) := by
  cases op with
  | move x => exact ob_any h fun _ h => fin_any h
  | assign x => exact ob_any h fun _ h => fin_any h
  | pick c x y =>
    refine ob_any h fun u h => ?_
    unfold boo at h ⊢
    split at h
    · exact ob_any h fun _ h => fin_any h
    · cases h
  | build t ps => exact ob_any h fun _ h => ob_any h fun _ h => ob_any h fun _ h => ob_any h fun _ h => ob_any h fun _ h => fin_any h
  | nilCheck x => exact ob_any h fun _ h => ifo_any h fun h => fin_any h
  | unOp op t x => exact ob_any h fun _ h => ob_any h fun _ h => fin_any h
  | convert s d x => exact ob_any h fun _ h => ob_any h fun _ h => ob_any h fun _ h => ob_any h fun _ h => fin_any h
  | makeInterface t x => exact ob_any h fun _ h => ob_any h fun _ h => ifo_any h fun h => fin_any h
  | makeFunc f x y => exact ob_any h fun _ h => ob_any h fun _ h => fin_any h
  | fieldAddr s x f =>
    refine ob_any h fun u h => ?_
    obtain ⟨b, o, rfl, h⟩ := ptr_some h
    refine ob_any h fun d h => ?_
    obtain ⟨fs, rfl, h⟩ := struct_some h
    exact ob_any h fun _ h => ob_any h fun _ h => ifo_any h fun h => fin_any h
  | field s x f =>
    refine ob_any h fun u h => ?_
    obtain ⟨cs, rfl, h⟩ := agg_some h
    refine ob_any h fun d h => ?_
    obtain ⟨fs, rfl, h⟩ := struct_some h
    exact ob_any h fun _ h => ob_any h fun _ h => fin_any h
  | indexAddr t x i =>
    refine ob_any h fun u h => ob_any h fun j h => ?_
    obtain ⟨k, n, rfl, h⟩ := nat_some h
    exact ob_any h fun _ h => ob_any h fun _ h => ob_any h fun _ h => ifo_any h fun h => fin_any h
  | index t x i =>
    refine ob_any h fun u h => ob_any h fun j h => ?_
    obtain ⟨k, n, rfl, h⟩ := nat_some h
    refine ob_any h fun d h => ?_
    cases hs : strAt n d u with
    | none =>
      rw [hs] at h
      exact ob_any (show oIndexE E m d u n = some (v, m') from h) fun _ h => ob_any h fun _ h => ifo_any h fun h => ob_any h fun _ h => fin_any h
    | some r =>
      rw [hs] at h
      exact fin_any (show some (r, m) = some (v, m') from h)
  | typeAssert x t a ok =>
    refine ob_any h fun u h => ob_any h fun d h => ifo_any h fun h => ?_
    unfold assertX at h ⊢
    split at h
    · rw [bif_eq] at h ⊢
      split at h
      · rename_i e; rw [if_pos e]; exact fin_any h
      · rename_i e; rw [if_neg e]; exact ifo_any h fun h => ob_any h fun _ h => fin_any h
    · exact ifo_any h fun h => ob_any h fun _ h => fin_any h
    · cases h
  | extract x i => exact ob_any h fun _ h => ob_any h fun _ h => fin_any h
  | call c =>
    unfold kindOf at hk
    simp only at hk
    split at hk <;> cases hk
  | _ => cases hk
end
end Go.Proofs.YtgmdbfackbdnlaaGreatDoor
