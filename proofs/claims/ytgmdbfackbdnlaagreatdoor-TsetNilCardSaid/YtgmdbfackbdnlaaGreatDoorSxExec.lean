/- SxExec: SxExec, SxChk. -/
import Derived.Test.YtgmdbfackbdnlaaGreatDoorSxDraw5
import Derived.Scope

/- The executor: code, and calls. -/
namespace Go.Proofs.YtgmdbfackbdnlaaGreatDoor
open Go.RowKit Bl Th Go.Sx
set_option maxRecDepth 10000

/-- Code all of whose operations are sound. -/
def CodeOk (N : Nat) : Code → Prop
  | .seq a b => CodeOk N a ∧ CodeOk N b
  | .cond x a b => opdOk x = true ∧ CodeOk N a ∧ CodeOk N b
  | .block _ b => CodeOk N b
  | .loop b => CodeOk N b
  | .scope b => CodeOk N b
  | .region _ ops draw => (∀ o ∈ ops.toList, OperOk N o) ∧ (draw = true → DrawOk N ops.toList)
  | _ => True
theorem findLabel_ok {N : Nat} : ∀ (b : Code) (l : Nat) (rest : Code), CodeOk N b → findLabel b l = some rest → CodeOk N rest
  | .seq x y, l, rest, h, hf => by
    unfold findLabel at hf
    split at hf
    · rename_i r hr
      cases hf
      exact ⟨findLabel_ok x l r h.1 hr, h.2⟩
    · exact findLabel_ok y l rest h.2 hf
  | .label l', l, rest, h, hf => by
    unfold findLabel at hf
    split at hf
    · cases hf; trivial
    · cases hf
  | .skip, _, _, _, hf => by cases hf
  | .region .., _, _, _, hf => by cases hf
  | .cond .., _, _, _, hf => by cases hf
  | .block .., _, _, _, hf => by cases hf
  | .loop _, _, _, _, hf => by cases hf
  | .rangeFunc .., _, _, _, hf => by cases hf
  | .exit _, _, _, _, hf => by cases hf
  | .scope _, _, _, _, hf => by cases hf
  | .goto _, _, _, _, hf => by cases hf
  | .ret, _, _, _, hf => by cases hf
  | .refuse _, _, _, _, hf => by cases hf
def LoopWp (P : Program) (c : Code) (Q : Exit → Act → World → Prop) (a : Act) (w : World) : Prop :=
  ∀ (fr : Frame) (k : List Item) (cs : List Frame), ∃ e a' w', Q e a' w' ∧ Arrives P (lone (fr.at a (.code c :: .inLoop c :: k)) cs w) fr k cs e a' w'
def InScope (P : Program) (b c : Code) (Q : Exit → Act → World → Prop) (a : Act) (w : World) : Prop :=
  ∀ (fr : Frame) (k : List Item) (cs : List Frame), ∃ e a' w', Q e a' w' ∧ Arrives P (lone (fr.at a (.code c :: .inScope b :: k)) cs w) fr k cs e a' w'
section
variable {P : Program} {Q : Exit → Act → World → Prop} {a : Act} {w : World}
theorem wp_of_loop {c : Code} (h : LoopWp P c Q a w) : (Code.loop c).wp P Q a w := by
  intro b k cs
  obtain ⟨e, a', w', hq, harr⟩ := h b k cs
  exact ⟨e, a', w', hq, .of_steps (.one step_loop) harr⟩
theorem loop_of_wp {c : Code} (h : c.wp P (Exit.then (LoopWp P c Q) Q) a w) : LoopWp P c Q a w := by
  intro b k cs
  obtain ⟨e, a₁, w₁, hq, harr⟩ := h b (.inLoop c :: k) cs
  cases e with
  | normal =>
    obtain ⟨e₂, a₂, w₂, hq₂, harr₂⟩ := hq b k cs
    exact ⟨e₂, a₂, w₂, hq₂, .of_steps (Steps.trans harr (.one step_inLoop)) harr₂⟩
  | exit id => exact ⟨_, a₁, w₁, hq, .pass (x := .inLoop c) rfl (fun _ _ => .inl (by simp)) harr⟩
  | goto l => exact ⟨_, a₁, w₁, hq, .pass (x := .inLoop c) rfl (fun _ _ => .inl (by simp)) harr⟩
  | ret => exact ⟨_, a₁, w₁, hq, .pass (x := .inLoop c) rfl (fun _ _ => .inl (by simp)) harr⟩
  | panic ch => exact ⟨_, a₁, w₁, hq, .pass (x := .inLoop c) rfl (fun _ _ => .inl (by simp)) harr⟩
  | outgrown => exact ⟨_, a₁, w₁, hq, .pass (x := .inLoop c) rfl (fun _ _ => .inl (by simp)) harr⟩
theorem wp_of_scope {b : Code} (h : InScope P b b Q a w) : (Code.scope b).wp P Q a w := by
  intro fr k cs
  obtain ⟨e, a', w', hq, harr⟩ := h fr k cs
  exact ⟨e, a', w', hq, .of_steps (.one step_scope) harr⟩
def scopeQ (P : Program) (b : Code) (Q : Exit → Act → World → Prop) : Exit → Act → World → Prop
  | .goto l, a, w => (∃ rest, findLabel b l = some rest ∧ InScope P b rest Q a w) ∨ (findLabel b l = none ∧ Q (.goto l) a w)
  | e, a, w => Q e a w
theorem scope_of_wp {b c : Code} (h : c.wp P (scopeQ P b Q) a w) : InScope P b c Q a w := by
  intro fr k cs
  obtain ⟨e, a₁, w₁, hq, harr⟩ := h fr (.inScope b :: k) cs
  cases e with
  | normal => exact ⟨.normal, a₁, w₁, hq, Steps.trans harr (.one step_inScope)⟩
  | exit id => exact ⟨.exit id, a₁, w₁, hq, fun k' hk => harr k' (by simp [exitTo, hk])⟩
  | goto l =>
    rcases hq with ⟨rest, h1, h2⟩ | ⟨h1, h2⟩
    · obtain ⟨e₂, a₂, w₂, hq₂, harr₂⟩ := h2 fr k cs
      exact ⟨e₂, a₂, w₂, hq₂, .of_steps (harr _ (by simp [gotoIn, h1])) harr₂⟩
    · exact ⟨.goto l, a₁, w₁, h2, fun k' hk => harr k' (by simp [gotoIn, h1, hk])⟩
  | ret => exact ⟨_, a₁, w₁, hq, harr⟩
  | panic ch => exact ⟨_, a₁, w₁, hq, harr⟩
  | outgrown => exact ⟨_, a₁, w₁, hq, harr⟩
end
def Runs (P : Program) (sc : Option Code) (c : Code) (Q : Exit → Act → World → Prop) (a : Act) (w : World) : Prop :=
  match sc with
  | some b => InScope P b c Q a w
  | none => match c with
    | .loop b => LoopWp P b Q a w
    | c => c.wp P Q a w
theorem Runs.wp {P : Program} {c : Code} {Q : Exit → Act → World → Prop} {a : Act} {w : World} (h : Runs P none c Q a w) : c.wp P Q a w := by
  cases c <;> first | exact wp_of_loop h | exact h
theorem Runs.of_wp {P : Program} {c : Code} {Q : Exit → Act → World → Prop} {a : Act} {w : World} (hn : ∀ b, c ≠ .loop b) (h : c.wp P Q a w) : Runs P none c Q a w := by
  cases c <;> first | exact absurd rfl (hn _) | exact h
def ExRel : Ex → Exit → Prop
  | .normal, .normal => True
  | .goto l, .goto l' => l = l'
  | .exit i, .exit i' => i = i'
  | .ret, .ret => True
  | _, _ => False
def OutPost (E : Env) (G : Gh) (N : Nat) (d : List Deferred) (n : Nat) (ρ : Ren) (w : World) (outs : List Out) : Exit → Act → World → Prop := fun e a' w' =>
  ∃ o ∈ outs, ExRel o.ex e ∧ ∃ ρ', Since G n ρ w ρ' w' ∧ n ≤ o.m.nx ∧ St E G N ρ' o.T o.m a' w' ∧ a'.defers = d
theorem OutPost.lift {E : Env} {G : Gh} {N : Nat} {d : List Deferred} {n n1 : Nat} {ρ ρ1 : Ren} {w w1 : World} {outs sub : List Out} (s : Since G n ρ w ρ1 w1) (hn : n ≤ n1) (hs : ∀ o ∈ sub, o ∈ outs) {e : Exit} {a' : Act} {w' : World} (h : OutPost E G N d n1 ρ1 w1 sub e a' w') : OutPost E G N d n ρ w outs e a' w' := by
  obtain ⟨o, h1, h2, ρ', h3, h4, h5, h6⟩ := h
  exact ⟨o, hs o h1, h2, ρ', s.trans h3 hn, Nat.le_trans hn h4, h5, h6⟩
def RecOk (P : Program) (E : Env) (rec' : ExecF) : Prop := ∀ sc c T m outs, rec' sc c T m = .ok outs → ∀ (G : Gh) (N : Nat), CodeOk N c → (∀ b, sc = some b → CodeOk N b) → (∀ o ∈ outs, FitM G o.m) → ∀ (ρ : Ren) (a : Act) (w : World), St E G N ρ T m a w → Runs P sc c (OutPost E G N a.defers m.nx ρ w outs) a w
section
variable {P : Program} {E : Env} {G : Gh} {N : Nat} {ρ : Ren} {m : Mem} {w : World} {T : Tr Value} {a : Act} {rec' : ExecF}
theorem fit_sub {r : List Out} {o : Out} (hg : Grow o.m (r.map Out.m)) (hf : ∀ x ∈ r, FitM G x.m) : FitM G o.m := by
  refine FitM.of_grow hg fun m' hm' => ?_
  obtain ⟨y, y1, rfl⟩ := List.mem_map.1 hm'
  exact hf y y1
theorem ExRel.normal_inv {x : Ex} (h : ExRel x .normal) : x = .normal := by cases x <;> first | rfl | exact h.elim
/-- One after another. -/
theorem eSeq_ok (hr : RecOk P E rec') (hg : RecGrow rec') {b : Code} (hb : CodeOk N b) {s outs : List Out} (h : each (eSeq rec' b) s = .ok outs) (hf : ∀ o ∈ outs, FitM G o.m) :
    (∀ o ∈ s, FitM G o.m) ∧ ∀ {d : List Deferred} {n : Nat} {ρ : Ren} {w : World} {e : Exit} {a' : Act} {w' : World}, OutPost E G N d n ρ w s e a' w' → (e = .normal → Runs P none b (OutPost E G N d n ρ w outs) a' w') ∧ (e ≠ .normal → OutPost E G N d n ρ w outs e a' w') := by
  refine ⟨fun o ho => ?_, fun {d n ρ w e a' w'} hp => ?_⟩
  · obtain ⟨r, r1, r2⟩ := each_ok h o ho
    exact fit_sub (eSeq_grow hg r1) fun x hx => hf x (r2 x hx)
  · obtain ⟨o, h1, h2, ρ', h3, h4, h5, h6⟩ := hp
    obtain ⟨r, r1, r2⟩ := each_ok h o h1
    refine ⟨fun he => ?_, fun he => ?_⟩
    · subst he
      have hx := h2.normal_inv
      unfold eSeq at r1
      rw [hx] at r1
      have hrun := hr none b o.T o.m r r1 G N hb (fun _ e => by cases e) (fun x hx => hf x (r2 x hx)) ρ' a' w' h5
      rw [h6] at hrun
      have lift : ∀ e a2 w2, OutPost E G N d o.m.nx ρ' w' r e a2 w2 → OutPost E G N d n ρ w outs e a2 w2 := fun e a2 w2 hq => hq.lift h3 h4 r2
      cases b with
      | loop c =>
        intro fr k cs
        obtain ⟨e, a2, w2, hq, harr⟩ := hrun fr k cs
        exact ⟨e, a2, w2, lift _ _ _ hq, harr⟩
      | _ => exact wp_mono hrun lift
    · refine ⟨o, ?_, h2, ρ', h3, h4, h5, h6⟩
      unfold eSeq at r1
      split at r1
      · rename_i hx
        rw [hx] at h2
        cases e <;> first | exact absurd rfl he | exact h2.elim
      · cases r1
        exact r2 o (by simp)
theorem execC_ok (hE : EnvOk P E) (hK : CmpOk P E) (hm : P.follows .mixedOrders = true) (hr : RecOk P E rec') (hg : RecGrow rec') (hcall : CallOk P E (callE E rec')) (hcg : GrowF (callE E rec')) {c : Code} {outs : List Out} (h : execC E rec' c T m = .ok outs) (hc : CodeOk N c) (hf : ∀ o ∈ outs, FitM G o.m) (st : St E G N ρ T m a w) :
    Runs P none c (OutPost E G N a.defers m.nx ρ w outs) a w := by
  have one : ∀ (x : Ex) (e : Exit), ExRel x e → OutPost E G N a.defers m.nx ρ w [⟨x, T, m⟩] e a w := fun x e hx => ⟨_, List.mem_singleton.2 rfl, hx, ρ, Since.refl _ _ _ _, Nat.le_refl _, st, rfl⟩
  cases c with
  | skip => cases h; exact wp_skip (one .normal .normal trivial)
  | label l => cases h; exact wp_label (one .normal .normal trivial)
  | seq x y =>
    obtain ⟨s, h1, h2⟩ := rb_ok h
    obtain ⟨f1, f2⟩ := eSeq_ok hr hg hc.2 h2 hf
    refine wp_seq (wp_mono (hr none x T m s h1 G N hc.1 (fun _ e => by cases e) f1 ρ a w st).wp fun e a' w' hp => ?_)
    obtain ⟨g1, g2⟩ := f2 hp
    cases e with
    | normal => exact (g1 rfl).wp
    | _ => exact g2 (by simp)
  | cond x y z =>
    obtain ⟨v, h1, h2⟩ := orb_ok h
    obtain ⟨c1, c2, c3⟩ := hc
    unfold eCond at h2
    split at h2
    · rename_i b
      have hv := rel_bool (ev_ok st.tmps c1 h1)
      refine wp_cond hv ?_
      cases b with
      | true => exact (hr none y T m outs h2 G N c2 (fun _ e => by cases e) hf ρ a w st).wp
      | false => exact (hr none z T m outs h2 G N c3 (fun _ e => by cases e) hf ρ a w st).wp
    · cases h2
  | block id b =>
    obtain ⟨s, h1, h2⟩ := rb_ok h
    refine wp_block (wp_mono (hr none b T m s h1 G N hc (fun _ e => by cases e) (fun o ho => ?_) ρ a w st).wp fun e a' w' hp => ?_)
    · obtain ⟨r, r1, r2⟩ := each_ok h2 o ho
      exact fit_sub (eBlock_grow r1) fun x hx => hf x (r2 x hx)
    · obtain ⟨o, k1, k2, ρ', k3, k4, k5, k6⟩ := hp
      obtain ⟨r, r1, r2⟩ := each_ok h2 o k1
      have keep : (∀ i, o.ex ≠ .exit i) → OutPost E G N a.defers m.nx ρ w outs e a' w' := fun hne => by
        unfold eBlock at r1
        split at r1
        · rename_i i hi; exact absurd hi (hne i)
        · cases r1
          exact ⟨o, r2 o (by simp), k2, ρ', k3, k4, k5, k6⟩
      cases e with
      | exit id' =>
        cases hx : o.ex with
        | exit i =>
          have k2' := k2
          rw [hx] at k2'
          have hii : i = id' := k2'
          subst hii
          unfold eBlock at r1
          rw [hx] at r1
          simp only [bif_eq] at r1
          have r1 := R.ok.inj r1
          show if i = id then OutPost E G N a.defers m.nx ρ w outs .normal a' w' else OutPost E G N a.defers m.nx ρ w outs (.exit i) a' w'
          by_cases hid : i = id
          · subst hid
            rw [if_pos rfl]
            rw [if_pos (Nat.beq_refl i)] at r1
            exact ⟨{ o with ex := .normal }, r2 _ (by rw [← r1]; simp), trivial, ρ', k3, k4, k5, k6⟩
          · rw [if_neg hid]
            rw [if_neg (fun e => hid (Nat.eq_of_beq_eq_true e))] at r1
            exact ⟨o, r2 _ (by rw [← r1]; simp), by rw [hx]; exact rfl, ρ', k3, k4, k5, k6⟩
        | _ => rw [hx] at k2; exact k2.elim
      | normal => exact keep fun i hi => by rw [hi] at k2; exact k2
      | goto l => exact keep fun i hi => by rw [hi] at k2; exact k2
      | ret => exact keep fun i hi => by rw [hi] at k2; exact k2
      | panic ch => exact keep fun i hi => by rw [hi] at k2; exact k2
      | outgrown => exact keep fun i hi => by rw [hi] at k2; exact k2
  | loop b =>
    obtain ⟨s, h1, h2⟩ := rb_ok h
    obtain ⟨f1, f2⟩ := eSeq_ok (b := .loop b) hr hg hc h2 hf
    refine loop_of_wp (wp_mono (hr none b T m s h1 G N hc (fun _ e => by cases e) f1 ρ a w st).wp fun e a' w' hp => ?_)
    obtain ⟨g1, g2⟩ := f2 hp
    cases e with
    | normal => exact g1 rfl
    | _ => exact g2 (by simp)
  | scope b => exact wp_of_scope (hr (some b) b T m outs h G N hc (fun _ e => by cases e; exact hc) hf ρ a w st)
  | goto l => cases h; exact wp_goto (one (.goto l) (.goto l) rfl)
  | exit id => cases h; exact wp_exit (one (.exit id) (.exit id) rfl)
  | ret => cases h; exact wp_ret (one .ret .ret trivial)
  | region id ops draw =>
    obtain ⟨s, h1, h2⟩ := rb_ok h
    have hsub : ∀ q ∈ s, (⟨.normal, q.1, q.2⟩ : Out) ∈ outs := fun q hq => by
      obtain ⟨r, r1, r2⟩ := each_ok h2 q hq
      cases r1
      exact r2 _ (by simp)
    exact region_ok hE hK hcall hcg hm hc.1 hc.2 h1 (fun q hq => hf _ (hsub q hq)) st fun q hq ρ' a' w' s1 s2 s3 s4 => ⟨_, hsub q hq, trivial, ρ', s1, s2, s3, s4⟩
  | _ => cases h
theorem execS_ok (hE : EnvOk P E) (hK : CmpOk P E) (hm : P.follows .mixedOrders = true) (hr : RecOk P E rec') (hg : RecGrow rec') (hcall : CallOk P E (callE E rec')) (hcg : GrowF (callE E rec')) : RecOk P E (execS E rec') := by
  intro sc c T m outs h G N hc hsc hf ρ a w st
  cases sc with
  | none => exact execC_ok hE hK hm hr hg hcall hcg h hc hf st
  | some b =>
    obtain ⟨s, h1, h2⟩ := rb_ok h
    have hb := hsc b rfl
    refine scope_of_wp (wp_mono (hr none c T m s h1 G N hc (fun _ e => by cases e) (fun o ho => ?_) ρ a w st).wp fun e a' w' hp => ?_)
    · obtain ⟨r, r1, r2⟩ := each_ok h2 o ho
      exact fit_sub (eScope_grow hg r1) fun x hx => hf x (r2 x hx)
    · obtain ⟨o, k1, k2, ρ', k3, k4, k5, k6⟩ := hp
      obtain ⟨r, r1, r2⟩ := each_ok h2 o k1
      have keep : (∀ l, o.ex ≠ .goto l) → OutPost E G N a.defers m.nx ρ w outs e a' w' := fun hne => by
        unfold eScope at r1
        split at r1
        · rename_i i hi; exact absurd hi (hne i)
        · cases r1
          exact ⟨o, r2 o (by simp), k2, ρ', k3, k4, k5, k6⟩
      cases e with
      | goto l =>
        cases hx : o.ex with
        | goto l' =>
          have k2' := k2
          rw [hx] at k2'
          have hll : l' = l := k2'
          subst hll
          unfold eScope at r1
          rw [hx] at r1
          simp only at r1
          cases hfl : findLabel b l' with
          | none =>
            rw [hfl] at r1
            cases r1
            exact .inr ⟨hfl, o, r2 o (by simp), k2, ρ', k3, k4, k5, k6⟩
          | some rest =>
            rw [hfl] at r1
            have hrun := hr (some b) rest o.T o.m r r1 G N (findLabel_ok b l' rest hb hfl) (fun _ e => by cases e; exact hb) (fun x hx => hf x (r2 x hx)) ρ' a' w' k5
            rw [k6] at hrun
            refine .inl ⟨rest, hfl, fun fr k cs => ?_⟩
            obtain ⟨e, a2, w2, hq, harr⟩ := hrun fr k cs
            exact ⟨e, a2, w2, hq.lift k3 k4 r2, harr⟩
        | _ => rw [hx] at k2; exact k2.elim
      | normal => exact keep fun i hi => by rw [hi] at k2; exact k2
      | exit id => exact keep fun i hi => by rw [hi] at k2; exact k2
      | ret => exact keep fun i hi => by rw [hi] at k2; exact k2
      | panic ch => exact keep fun i hi => by rw [hi] at k2; exact k2
      | outgrown => exact keep fun i hi => by rw [hi] at k2; exact k2
/-! Calls. -/
theorem xresults_ok (hE : EnvOk P E) (hc : Conc E G ρ m w) (hT : Tmps ρ T a.tmps) : ∀ {l : List ResultVar} {vs : List Value}, xresults E T m l = some vs →
    ∃ vs', (l.mapM fun | .tmp t => pure (a.tmps.getD t undef) | .cell x t => do loadVar t (← asAddr (a.tmps.getD x undef)) : Sem (List Value)).run P w = .ok vs' w ∧ RelL ρ vs vs'
  | [], vs, h => by cases h; exact ⟨[], rfl, .nil ρ⟩
  | r :: l, vs, h => by
    obtain ⟨v, h1, h2⟩ := ob_some (show ob (match r with | .tmp t => T.get? t | .cell a t => ob (T.get? a) (loadAt E t m)) (fun v => ob (xresults E T m l) fun vs => some (v :: vs)) = some vs from h)
    obtain ⟨vs1, h3, h4⟩ := ob_some h2
    cases h4
    obtain ⟨vs', k1, k2⟩ := xresults_ok hE hc hT h3
    have hget : ∀ {t : Nat} {v : Value}, T.get? t = some v → Rel ρ v (a.tmps.getD t undef) := fun {t v} e => by
      obtain ⟨v', e1, r1⟩ := hT t v e
      rw [Array.getD_eq_getD_getElem?, e1]; exact r1
    have hv : ∃ v', ((match r with | .tmp t => pure (a.tmps.getD t undef) | .cell x t => do loadVar t (← asAddr (a.tmps.getD x undef)) : Sem Value)).run P w = .ok v' w ∧ Rel ρ v v' := by
      cases r with
      | tmp t => exact ⟨_, rfl, hget h1⟩
      | cell x t =>
        obtain ⟨p, e1, e2⟩ := ob_some h1
        have hp := hget e1
        obtain ⟨v', e3, e4⟩ := loadAt_ok hE hc hp e2
        refine ⟨v', ?_, e4⟩
        show (do loadVar t (← asAddr (a.tmps.getD x undef)) : Sem Value).run P w = .ok v' w
        generalize a.tmps.getD x undef = p' at hp e3 ⊢
        obtain ⟨b, o, rfl, _⟩ := ptr_some e2
        cases hp with
        | ptr _ _ q hq => exact e3
    obtain ⟨v', e1, e2⟩ := hv
    refine ⟨v' :: vs', ?_, .cons e2 k2⟩
    rw [List.mapM_cons]
    simp only [Sem.run_bind]
    rw [e1]
    simp only [Result.andThen_ok]
    rw [k1]
    rfl
structure FnOk (fn : Func) : Prop where
  code : ∀ c, fn.body = some c → CodeOk fn.ntmps c
theorem tup_rel {vs vs' : List Value} (h : RelL ρ vs vs') : Rel ρ (tup vs) (if h : (⟨vs'⟩ : Array Value).size = 1 then (⟨vs'⟩ : Array Value)[0] else .tuple ⟨vs'⟩) := by
  unfold tup
  split
  · rename_i v
    obtain ⟨v', c, rfl, r1, k⟩ := h.cons_inv
    obtain rfl := k.nil_inv
    rw [dif_pos (show (⟨[v']⟩ : Array Value).size = 1 from rfl)]
    exact r1
  · rename_i hne
    rw [dif_neg]
    · exact .tuple _ _ h.1 h.2
    · intro e
      have e : vs'.length = 1 := e
      have hl := h.1
      match vs, hl with
      | [x], _ => exact hne x rfl
      | [], hl => rw [e] at hl; cases hl
      | _ :: _ :: _, hl => rw [e] at hl; simp at hl
theorem body_ok (hE : EnvOk P E) (hfn : ∀ f fn, E.fn f = some fn → FnOk fn) (hr : RecOk P E rec') (_ : RecGrow rec') {f : FuncId} {args : List Value} {outs : List (Value × Mem)} (h : body E rec' f args m = .ok outs) :
    (∀ (av : Array Value) (w : World), (callFunc f av).run P w = .ok (.enter f av) w) ∧
    ∀ (G : Gh), (∀ q ∈ outs, FitM G q.2) → ∀ (ρ : Ren) (w : World) (args' : List Value), Conc E G ρ m w → RelL ρ args args' →
      Calls P f ⟨args'⟩ w fun e w' => ∃ v', e = .returned v' ∧ ∃ q ∈ outs, EffPost E G ρ m w q.1 q.2 v' w' := by
  obtain ⟨fn, h1, h⟩ := orb_ok h
  obtain ⟨c, h2, h⟩ := orb_ok h
  rw [bif_eq] at h
  split at h
  · rename_i hl
    rw [Bool.and_eq_true] at hl
    have hl1 : args.length ≤ 1000 := Nat.le_of_ble_eq_true hl.1
    have hl2 : args.length ≤ fn.ntmps := Nat.le_of_ble_eq_true hl.2
    obtain ⟨s, h3, h4⟩ := rb_ok h
    have hP := hE.fn f fn h1
    refine ⟨fun av w => ?_, fun G hf ρ w args' hc hra => ?_⟩
    · unfold callFunc
      have hn := hE.name f fn h1
      rw [beq_eq_false_iff_ne] at hn
      simp [hP, hn, h2]
    · refine calls_of_wp hP h2 ?_
      have hsz : (⟨args'⟩ ++ Array.replicate (fn.ntmps - (⟨args'⟩ : Array Value).size) undef : Array Value).size = fn.ntmps := by
        have := hra.1
        simp; omega
      have st : St E G fn.ntmps ρ (Tr.ofList args 0 .nil) m { tmps := ⟨args'⟩ ++ Array.replicate (fn.ntmps - (⟨args'⟩ : Array Value).size) undef, defers := [] } w := by
        refine ⟨hc, fun t v hv => ?_, hsz⟩
        rw [Tr.get_ofList _ _ _ _ (by omega)] at hv
        split at hv
        · rename_i ht
          rw [Nat.sub_zero] at hv
          obtain ⟨v', e, r⟩ := hra.at hv
          have hlt := (List.getElem?_eq_some_iff.1 e).1
          refine ⟨v', ?_, r⟩
          show (⟨args'⟩ ++ Array.replicate (fn.ntmps - (⟨args'⟩ : Array Value).size) undef : Array Value)[t]? = _
          rw [Array.getElem?_append_left (by simpa using hlt)]
          simpa using e
        · cases hv
      have hs : ∀ o ∈ s, ∃ r, leave E fn o = .ok r ∧ ∀ y ∈ r, y ∈ outs := fun o ho => each_ok h4 o ho
      have hleave : ∀ o ∈ s, (o.ex = .normal ∨ o.ex = .ret) ∧ ∃ vs, xresults E o.T o.m fn.results.toList = some vs ∧ (tup vs, o.m) ∈ outs := by
        intro o ho
        obtain ⟨r, r1, r2⟩ := hs o ho
        unfold leave at r1
        split at r1
        · cases r1
        · cases r1
        · rename_i n1 n2
          obtain ⟨vs, k1, k2⟩ := orb_ok r1
          cases k2
          refine ⟨?_, vs, k1, r2 _ (by simp)⟩
          cases hx : o.ex with
          | normal => exact .inl rfl
          | ret => exact .inr rfl
          | exit i => exact absurd hx (n1 i)
          | goto l => exact absurd hx (n2 l)
      refine wp_mono (hr none c _ m s h3 G fn.ntmps ((hfn f fn h1).code c h2) (fun _ e => by cases e) (fun o ho => ?_) ρ _ w st).wp fun e a' w' hp => ?_
      · obtain ⟨_, vs, _, k2⟩ := hleave o ho
        exact hf _ k2
      · obtain ⟨o, k1, k2, ρ', k3, k4, k5, k6⟩ := hp
        obtain ⟨hex, vs, k7, k8⟩ := hleave o k1
        obtain ⟨vs', e1, e2⟩ := xresults_ok hE k5.conc k5.tmps k7
        have hres : (results fn a'.tmps).run P w' = .ok (if h : (⟨vs'⟩ : Array Value).size = 1 then (⟨vs'⟩ : Array Value)[0] else .tuple ⟨vs'⟩) w' := by
          unfold results
          rw [Array.mapM_eq_mapM_toList, map_eq_pure_bind]
          simp only [Sem.run_bind]
          exact Eq.trans (congrArg (fun r => Result.andThen (Result.andThen r _) _) e1) rfl
        have fin : a'.defers = [] ∧ ∃ v, (results fn a'.tmps).run P w' = .ok v w' ∧ ∃ v', Ending.returned v = .returned v' ∧ ∃ q ∈ outs, EffPost E G ρ m w q.1 q.2 v' w' :=
          ⟨k6, _, hres, _, rfl, _, k8, ρ', k3, k4, tup_rel e2, k5.conc⟩
        cases e with
        | normal => exact fin
        | ret => exact fin
        | _ =>
          rcases hex with hx | hx <;> rw [hx] at k2 <;> exact k2.elim
  · cases h
/-- What is not run, but known. -/
structure PrimsOk (P : Program) (E : Env) : Prop where
  grow : PrimGrow E
  fn : ∀ f p, E.prim f = some (.fn p) → (∀ (av : Array Value) (w : World), (callFunc f av).run P w = .ok (.enter f av) w) ∧ ∀ (args : List Value) (m : Mem) (v : Value) (m' : Mem), p args m = some (v, m') → ∀ (G : Gh) (ρ : Ren) (w : World) (args' : List Value), Conc E G ρ m w → RelL ρ args args' →
    Calls P f ⟨args'⟩ w fun e w' => ∃ v', e = .returned v' ∧ EffPost E G ρ m w v m' v' w'
  acc : ∀ f p, E.prim f = some (.acc p) → (∀ (av : Array Value) (w : World), (callFunc f av).run P w = .ok (.enter f av) w) ∧ ∀ (args : List Value) (m : Mem) (op : BS → Ntry × BS) (res : Ntry → Value) (outs : List (Value × Mem)), isP m.ic args = true → p args = some (op, res) → access' m op res = .ok outs → ∀ (G : Gh), (∀ q ∈ outs, FitM G q.2) → ∀ (ρ : Ren) (w : World) (args' : List Value), Conc E G ρ m w → RelL ρ args args' →
    Calls P f ⟨args'⟩ w fun e w' => ∃ v', e = .returned v' ∧ ∃ q ∈ outs, EffPost E G ρ m w q.1 q.2 v' w'
  run : ∀ f, E.prim f = some .run → (∀ (av : Array Value) (w : World), (callFunc f av).run P w = .ok (.enter f av) w) ∧ ∀ (rec' : ExecF), RecOk P E rec' → RecGrow rec' → ∀ (args : List Value) (m : Mem) (outs : List (Value × Mem)), Go.Sx.runT E rec' m args = .ok outs → ∀ (G : Gh) (ρ : Ren) (w : World) (args' : List Value), Conc E G ρ m w → RelL ρ args args' →
    Calls P f ⟨args'⟩ w fun e w' => ∃ v', e = .returned v' ∧ ∃ q ∈ outs, EffPost E G ρ m w q.1 q.2 v' w'
theorem callE_ok (hE : EnvOk P E) (hfn : ∀ f fn, E.fn f = some fn → FnOk fn) (hp : PrimsOk P E) (hr : RecOk P E rec') (hg : RecGrow rec') : CallOk P E (callE E rec') := by
  intro f args m outs h
  unfold callE at h
  rw [bif_eq] at h
  split at h
  · exact body_ok hE hfn hr hg h
  · cases hf : E.prim f with
    | none => rw [hf] at h; exact body_ok hE hfn hr hg h
    | some p =>
      rw [hf] at h
      have h := note_ok (show note "prim" (callP E rec' args m p) = .ok outs from h)
      cases p with
      | fn p =>
        have h := of_ok (show R.of (ob (p args m) fun r => some [r]) = .ok outs from h)
        obtain ⟨⟨v, m'⟩, h1, h2⟩ := ob_some h
        cases h2
        obtain ⟨k1, k2⟩ := hp.fn f p hf
        refine ⟨k1, fun G _ ρ w args' hc hra => (k2 args m v m' h1 G ρ w args' hc hra).mono ?_⟩
        rintro e w' ⟨v', rfl, k⟩
        exact ⟨v', rfl, _, List.mem_singleton.2 rfl, k⟩
      | acc p =>
        have h : bif' (isP m.ic args) (orb (p args) fun q => access' m q.1 q.2) (.no ["Ctx"]) = .ok outs := h
        rw [bif_eq] at h
        split at h
        · rename_i hi
          obtain ⟨⟨op, res⟩, h1, h⟩ := orb_ok h
          obtain ⟨k1, k2⟩ := hp.acc f p hf
          exact ⟨k1, fun G hfit ρ w args' hc hra => k2 args m op res outs hi h1 h G hfit ρ w args' hc hra⟩
        · cases h
      | run =>
        obtain ⟨k1, k2⟩ := hp.run f hf
        exact ⟨k1, fun G _ ρ w args' hc hra => k2 rec' hr hg args m outs h G ρ w args' hc hra⟩
theorem exec_ok (hE : EnvOk P E) (hK : CmpOk P E) (hm : P.follows .mixedOrders = true) (hfn : ∀ f fn, E.fn f = some fn → FnOk fn) (hp : PrimsOk P E) : ∀ n, RecOk P E (exec E n)
  | 0 => fun sc c T m outs h => by cases h
  | n + 1 => execS_ok hE hK hm (exec_ok hE hK hm hfn hp n) (exec_grow hp.grow n) (callE_ok hE hfn hp (exec_ok hE hK hm hfn hp n) (exec_grow hp.grow n)) (callE_grow hp.grow (exec_grow hp.grow n))
theorem callX_ok (hE : EnvOk P E) (hK : CmpOk P E) (hm : P.follows .mixedOrders = true) (hfn : ∀ f fn, E.fn f = some fn → FnOk fn) (hp : PrimsOk P E) {n : Nat} {f : FuncId} {args : List Value} {outs : List (Value × Mem)} (h : callX E n f args m = .ok outs) (G : Gh) (hf : ∀ q ∈ outs, FitM G q.2) {args' : List Value} (hc : Conc E G ρ m w) (hra : RelL ρ args args') :
    Calls P f ⟨args'⟩ w fun e w' => ∃ v', e = .returned v' ∧ ∃ q ∈ outs, EffPost E G ρ m w q.1 q.2 v' w' :=
  (body_ok hE hfn (exec_ok hE hK hm hfn hp n) (exec_grow hp.grow n) h).2 G hf ρ w args' hc hra
end
end Go.Proofs.YtgmdbfackbdnlaaGreatDoor

/- The executor: what is asked of code, as a test that the kernel runs. -/
namespace Go.Proofs.YtgmdbfackbdnlaaGreatDoor
open Go.RowKit Bl Th Go.Sx
set_option maxRecDepth 10000

noncomputable def allB {α : Type} (f : α → Bool) (l : List α) : Bool := List.rec true (fun x _ ih => f x && ih) l
theorem allB_ok {α : Type} {f : α → Bool} : ∀ {l : List α}, allB f l = true → ∀ x ∈ l, f x = true
  | [], _, x, hx => by cases hx
  | y :: l, h, x, hx => by
    have h : (f y && allB f l) = true := h
    rw [Bool.and_eq_true] at h
    rcases List.mem_cons.1 hx with rfl | hx
    · exact h.1
    · exact allB_ok h.2 x hx
noncomputable def allI {α : Type} (f : Nat → α → Bool) (l : List α) : Nat → Bool := List.rec (motive := fun _ => Nat → Bool) (fun _ => true) (fun x _ ih i => f i x && ih (i + 1)) l
theorem allI_ok {α : Type} {f : Nat → α → Bool} : ∀ {l : List α} {i : Nat}, allI f l i = true → ∀ k x, l[k]? = some x → f (i + k) x = true
  | [], _, _, k, x, hx => by simp at hx
  | y :: l, i, h, k, x, hx => by
    have h : (f i y && allI f l (i + 1)) = true := h
    rw [Bool.and_eq_true] at h
    cases k with
    | zero => simp only [List.getElem?_cons_zero, Option.some.injEq] at hx; subst hx; exact h.1
    | succ k =>
      have := allI_ok h.2 k x (by simpa using hx)
      rwa [show i + 1 + k = i + (k + 1) by omega] at this
/-- The operands, as a list; none of a select. -/
noncomputable def opndsL (op : Op) : Option (List Operand) :=
  match op with
  | .select _ _ => none
  | .makeChan .. => none
  | .recv .. => none
  | .send .. => none
  | .sliceToArrayPointer .. => none
  | .alloc _ => some []
  | .ready _ => some []
  | .waits _ => some []
  | .move x => some [x]
  | .assign x => some [x]
  | .box _ x => some [x]
  | .load _ x => some [x]
  | .nilCheck x => some [x]
  | .unOp _ _ x => some [x]
  | .convert _ _ x => some [x]
  | .makeInterface _ x => some [x]
  | .fieldAddr _ x _ => some [x]
  | .field _ x _ => some [x]
  | .range _ x => some [x]
  | .next x _ => some [x]
  | .entry x => some [x]
  | .typeAssert x _ _ _ => some [x]
  | .extract x _ => some [x]
  | .panic x => some [x]
  | .pick c a b => some [c, a, b]
  | .build _ ps => some (ps.toList.map (·.2))
  | .buildSlice _ _ ps => some (ps.toList.map (·.2))
  | .store _ a v => some [a, v]
  | .binOp _ _ a v _ => some [a, v]
  | .makeSlice _ a v => some [a, v]
  | .indexAddr _ a v => some [a, v]
  | .index _ a v => some [a, v]
  | .lookup _ a v _ => some [a, v]
  | .mapEntry _ a v => some [a, v]
  | .makeFunc _ a b => some (a.toList ++ b.toList)
  | .makeMap _ r => some r.toList
  | .slice _ x l h m => some (x :: (l.toList ++ h.toList ++ m.toList))
  | .mapUpdate _ m k v => some [m, k, v]
  | .entryStore _ m k v => some [m, k, v]
  | .insert _ m k v => some [m, k, v]
  | .call c => some ((match c.callee with | .value f => [f] | .invoke r _ => [r] | .builtin _ => []) ++ c.args.toList)
  | .go c => some ((match c.callee with | .value f => [f] | .invoke r _ => [r] | .builtin _ => []) ++ c.args.toList)
  | .defer c => some ((match c.callee with | .value f => [f] | .invoke r _ => [r] | .builtin _ => []) ++ c.args.toList)
theorem toArr_toL {α : Type} (o : Option α) : o.toArray.toList = o.toList := by cases o <;> rfl
theorem opndsL_ok {op : Op} {l : List Operand} (h : opndsL op = some l) : op.operands.toList = l := by
  have hcall : ∀ c : Call, c.operands.toList = (match c.callee with | .value f => [f] | .invoke r _ => [r] | .builtin _ => []) ++ c.args.toList := by
    intro c
    unfold Call.operands
    rw [Array.toList_append]
    cases c.callee <;> rfl
  cases op <;> first | (cases h; done) | (cases h; rfl) | (cases h; exact hcall _) | (cases h; simp [Op.operands]; done)
noncomputable def dstB (N : Nat) : Option Tmp → Bool
  | none => true
  | some d => Nat.blt d N && Nat.ble d 1048574
noncomputable def operB (N : Nat) (o : Oper) : Bool := Option.rec false (fun l => allB opdOk l) (opndsL o.op) && dstB N o.dst
theorem operB_ok {N : Nat} {o : Oper} (h : operB N o = true) : OperOk N o ∧ ∃ l, opndsL o.op = some l := by
  unfold operB at h
  rw [Bool.and_eq_true] at h
  obtain ⟨h1, h2⟩ := h
  cases hl : opndsL o.op with
  | none => rw [hl] at h1; cases h1
  | some l =>
    rw [hl] at h1
    refine ⟨⟨fun x hx => ?_, fun d hd => ?_⟩, l, rfl⟩
    · rw [opndsL_ok hl] at hx
      exact allB_ok h1 x hx
    · rw [hd] at h2
      have h2 : (Nat.blt d N && Nat.ble d 1048574) = true := h2
      rw [Bool.and_eq_true] at h2
      exact ⟨by simpa [Nat.blt_eq] using h2.1, Nat.le_of_ble_eq_true h2.2⟩
/-- The operation j that names t: what makes t is before or behind it. -/
noncomputable def ordB (ms : List Nat) (i j : Nat) : Bool := bif' (Nat.beq i j) true (bif' (Nat.blt i j) (bit (ms.getD j 0) i) (bit (ms.getD i 0) j))
noncomputable def namedB (all : List Oper) (ms : List Nat) (j t : Nat) : Bool := allI (fun i oi => Option.rec true (fun d => bif' (Nat.beq d t) (ordB ms i j) true) oi.dst) all 0
noncomputable def tmpB (f : Nat → Bool) : Operand → Bool
  | .tmp t => f t
  | _ => true
noncomputable def guardDst (all : List Oper) (g : Option (Nat × Bool)) : List Nat := Option.rec [] (fun q => Option.rec [] (fun o => o.dst.toList) (all[q.1]?)) g
noncomputable def namesB (all : List Oper) (ms : List Nat) (j : Nat) (o : Oper) : Bool :=
  Option.rec false (fun l => allB (tmpB (namedB all ms j)) l) (opndsL o.op) && allB (namedB all ms j) (guardDst all o.guard) && allB (namedB all ms j) o.dst.toList
noncomputable def drawB (N : Nat) (all : List Oper) : Bool :=
  allB (operB N) all && allI (fun i o => allB (fun e => bif' (edgeB e) (Nat.blt e.on i) true) o.after.toList) all 0 && allI (namesB all (masks all [])) all 0
theorem ordB_ok {ms : List Nat} {i j : Nat} (h : ordB ms i j = true) : (i < j → bit (ms.getD j 0) i = true) ∧ (j < i → bit (ms.getD i 0) j = true) := by
  unfold ordB at h
  simp only [bif_eq] at h
  refine ⟨fun hl => ?_, fun hl => ?_⟩
  · rw [if_neg (by rw [beq_dec]; simp; omega), if_pos (by rw [Nat.blt_eq]; exact hl)] at h
    exact h
  · rw [if_neg (by rw [beq_dec]; simp; omega), if_neg (by rw [Nat.blt_eq]; omega)] at h
    exact h
theorem namedB_ok {all : List Oper} {ms : List Nat} {j t : Nat} (h : namedB all ms j t = true) {i : Nat} {oi : Oper} (hi : all[i]? = some oi) (hd : oi.dst = some t) : ordB ms i j = true := by
  have := allI_ok h i oi hi
  rw [hd, Nat.zero_add] at this
  have this : bif' (Nat.beq t t) (ordB ms i j) true = true := this
  rw [bif_eq, if_pos (Nat.beq_refl t)] at this
  exact this
theorem namesB_ok {all : List Oper} {ms : List Nat} {j : Nat} {o : Oper} (h : namesB all ms j o = true) : ∀ t ∈ nms all o, namedB all ms j t = true := by
  intro t ht
  unfold namesB at h
  simp only [Bool.and_eq_true] at h
  obtain ⟨⟨h1, h2⟩, h3⟩ := h
  unfold nms at ht
  simp only [List.mem_append] at ht
  rcases ht with (ht | ht) | ht
  · cases hl : opndsL o.op with
    | none => rw [hl] at h1; cases h1
    | some l =>
      rw [hl] at h1
      rw [opndsL_ok hl] at ht
      obtain ⟨x, x1, x2⟩ := List.mem_filterMap.1 ht
      have := allB_ok h1 x x1
      cases x with
      | tmp u =>
        simp only [Option.some.injEq] at x2
        subst x2
        exact this
      | _ => cases x2
  · refine allB_ok h2 t ?_
    unfold guardDst
    cases hg : o.guard with
    | none => rw [hg] at ht; cases ht
    | some q =>
      obtain ⟨g, b⟩ := q
      rw [hg] at ht
      have ht : t ∈ ((all[g]?).bind (·.dst)).toList := ht
      show t ∈ (Option.rec [] (fun o => o.dst.toList) (all[g]?) : List Nat)
      cases hx : all[g]? with
      | none => rw [hx] at ht; cases ht
      | some o' => rw [hx] at ht; exact ht
  · exact allB_ok h3 t ht
theorem drawB_ok {N : Nat} {all : List Oper} (h : drawB N all = true) : DrawOk N all := by
  unfold drawB at h
  simp only [Bool.and_eq_true] at h
  obtain ⟨⟨h1, h2⟩, h3⟩ := h
  have nm : ∀ i j oi oj t, all[i]? = some oi → all[j]? = some oj → oi.dst = some t → t ∈ nms all oj → ordB (masks all []) i j = true := by
    intro i j oi oj t hi hj hd ht
    have := allI_ok h3 j oj hj
    rw [Nat.zero_add] at this
    exact namedB_ok (namesB_ok this t ht) hi hd
  refine ⟨fun o ho => (operB_ok (allB_ok h1 o ho)).1, fun o ho cs b e => ?_, fun i o hi e he hb => ?_, fun i j oi oj t hi hj hd ht hl => (ordB_ok (nm i j oi oj t hi hj hd ht)).1 hl, fun i j oi oj t hi hj hd ht hl => (ordB_ok (nm i j oi oj t hi hj hd ht)).2 hl⟩
  · obtain ⟨_, l, hl⟩ := operB_ok (allB_ok h1 o ho)
    rw [e] at hl
    cases hl
  · have := allI_ok h2 i o hi
    have := allB_ok this e he
    rw [hb] at this
    have this : Nat.blt e.on (0 + i) = true := this
    rw [Nat.blt_eq, Nat.zero_add] at this
    exact this
noncomputable def codeB (N : Nat) : Code → Bool
  | .seq x y => codeB N x && codeB N y
  | .cond x a b => opdOk x && (codeB N a && codeB N b)
  | .block _ b => codeB N b
  | .loop b => codeB N b
  | .scope b => codeB N b
  | .region _ ops draw => bif' draw (drawB N ops.toList) (allB (operB N) ops.toList)
  | _ => true
theorem codeB_ok {N : Nat} : ∀ {c : Code}, codeB N c = true → CodeOk N c
  | .seq x y, h => by
    have h : (codeB N x && codeB N y) = true := h
    rw [Bool.and_eq_true] at h
    exact ⟨codeB_ok h.1, codeB_ok h.2⟩
  | .cond x a b, h => by
    have h : (opdOk x && (codeB N a && codeB N b)) = true := h
    simp only [Bool.and_eq_true] at h
    exact ⟨h.1, codeB_ok h.2.1, codeB_ok h.2.2⟩
  | .block _ b, h => codeB_ok (c := b) h
  | .loop b, h => codeB_ok (c := b) h
  | .scope b, h => codeB_ok (c := b) h
  | .region id ops draw, h => by
    have h : bif' draw (drawB N ops.toList) (allB (operB N) ops.toList) = true := h
    cases draw with
    | true => exact ⟨(drawB_ok h).ops, fun _ => drawB_ok h⟩
    | false => exact ⟨fun o ho => (operB_ok (allB_ok h o ho)).1, fun e => by cases e⟩
  | .skip, _ => trivial
  | .label _, _ => trivial
  | .rangeFunc .., _ => trivial
  | .exit _, _ => trivial
  | .goto _, _ => trivial
  | .ret, _ => trivial
  | .refuse _, _ => trivial
noncomputable def fnB (fn : Func) : Bool := Option.rec true (codeB fn.ntmps) fn.body
theorem fnB_ok {fn : Func} (h : fnB fn = true) : FnOk fn := ⟨fun c hc => by unfold fnB at h; rw [hc] at h; exact codeB_ok h⟩
noncomputable def zeroB (i : TypeInfo) : Bool := Option.rec true (flat 20) i.zero
theorem zeroB_ok {i : TypeInfo} (h : zeroB i = true) : ∀ z, i.zero = some z → flat 20 z = true := fun z hz => by
  unfold zeroB at h; rw [hz] at h; exact h
/-- Of outcomes: all answer true, outside of bodies. -/
def isT : Value → Bool
  | .bool b => b
  | _ => false
noncomputable def trueB (r : R (List (Value × Mem))) : Bool := R.rec (fun l => allB (fun q => isT q.1 && Nat.beq q.2.mode 0) l) (fun _ => false) r
theorem trueB_ok {r : R (List (Value × Mem))} (h : trueB r = true) : ∃ l, r = .ok l ∧ ∀ q ∈ l, q.1 = .bool true ∧ q.2.mode = 0 := by
  cases r with
  | no w => cases h
  | ok l =>
    refine ⟨l, rfl, fun q hq => ?_⟩
    have h := allB_ok (show allB (fun q => isT q.1 && Nat.beq q.2.mode 0) l = true from h) q hq
    rw [Bool.and_eq_true] at h
    refine ⟨?_, Nat.eq_of_beq_eq_true h.2⟩
    have h1 := h.1
    cases hv : q.1 <;> rw [hv] at h1 <;> first | (cases h1; done) | skip
    rename_i b
    have : b = true := h1
    rw [this]
end Go.Proofs.YtgmdbfackbdnlaaGreatDoor
