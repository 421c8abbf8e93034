/- Layer 29's laws: what any call leaves of a transaction's log. -/
import Derived.Test.YtkpdacfiglpgeaaGreatDoorTqEither
namespace Go.Proofs.YtkpdacfiglpgeaaGreatDoor
open Go.RowKit Bl Th

theorem qAct_cln {u o : Ring} {a : ActQ} {t : Tx} (h : Cln t) (c : CS) : Cln (exec (qAct u o a t) c).1.2.2 := by
  unfold qAct
  repeat' split
  · simp only [exec_bind, exec]; exact h.of (qLen_log u t c)
  · simp only [exec_bind, exec]; exact qPut_cln h c
  · simp only [exec_bind, exec]; exact h.of (qPeek_log u t c)
  · simp only [exec_bind, exec]; exact qTake_cln h c
  · simp only [exec_bind, exec]; exact qTry_cln h c
  · exact h.of (qAll_log u t c)
  · exact qDrain_cln h c
  · simp only [exec_bind, exec]; exact qMove_cln h c
  · simp only [exec_bind, exec]; exact qEither_cln h c
  · exact h
/-- Behind a call. -/
def askK (r r2 : Ring) (l : List ActQ) (k : Nat) (told : List Nat) (x : Nat × (List Nat × Tx)) : Tree (Nat × (List Nat × Tx)) := if x.1 = 0 then qAsk r r2 (l.drop (k + 1)) (told ++ x.2.1) x.2.2 else .ret (x.1, told, x.2.2)
theorem qAsk_drop {r r2 : Ring} {l : List ActQ} {k : Nat} {a : ActQ} (hk : l[k]? = some a) (told : List Nat) (t : Tx) : qAsk r r2 (l.drop k) told t = (qAct (if a.other then r2 else r) (if a.other then r else r2) a t).bind (askK r r2 l k told) := by
  have hl := (List.getElem?_eq_some_iff.1 hk).1
  have hd : l.drop k = a :: l.drop (k + 1) := by
    rw [List.drop_eq_getElem_cons hl]
    rw [List.getElem?_eq_getElem hl] at hk
    rw [Option.some.inj hk]
  rw [hd, qAsk]
  rfl
/-- What holds where a call begins: one queue, and the other. -/
structure AskU (W : World) (Y B : List Nat) (pa pb pc pt px pU gU nU cU pO gO nO cO : Nat) (rU rO r r2 : Ring) (l : List ActQ) (k : Nat) (told : List Nat) (a : ActQ) (P : Tree (Nat × (List Nat × Tx))) (c0 : CS) (t : Tx) (c : CS) (w : World) : Prop where
  hu : QIn W Y B pa pb pc pt px pU gU nU cU rU t c w
  ho : QOther Y px pO gO nO cO rO w
  run : exec P c0 = exec ((qAct rU rO a t).bind (askK r r2 l k told)) c
  cln : Cln t
/-- What holds behind it. -/
def AskM (W : World) (Y B : List Nat) (pa pb pc pt : Nat) (r r2 : Ring) (l : List ActQ) (k : Nat) (told : List Nat) (P : Tree (Nat × (List Nat × Tx))) (c0 : CS) (wk : World) (ev sv : Value) (wx : World) : Prop :=
  ∃ m x t c E B', Err wx ev m E ∧ (m = 0 → SomeAt wx sv x ∧ x.length ≤ 1000) ∧ exec P c0 = exec (askK r r2 l k told (m, x, t)) c ∧ TxAt W pt t B' wx ∧ Ctx W (E ++ (B' ++ Y)) pa pb pc c wx ∧ HeldBy Y wk wx ∧ (∀ b ∈ E ++ B', b ∈ B ∨ wk.heap.size ≤ b) ∧ (∀ b ∈ E, b ∉ B') ∧ Cln t
theorem AskM.under {W : World} {Y B : List Nat} {pa pb pc pt : Nat} {r r2 : Ring} {l : List ActQ} {k : Nat} {told : List Nat} {P : Tree (Nat × (List Nat × Tx))} {c0 : CS} {wk w1 wx : World} {ev sv : Value} {m : Nat} {x : List Nat} {t : Tx} {c : CS} {E B' : List Nat} (he : Err w1 ev m E) (hs : m = 0 → SomeAt wx sv x ∧ x.length ≤ 1000) (hr : exec P c0 = exec (askK r r2 l k told (m, x, t)) c) (ht : TxAt W pt t B' w1) (hc : Ctx W (E ++ (B' ++ Y)) pa pb pc c w1) (hh : HeldBy Y wk w1) (hB : ∀ b ∈ E ++ B', b ∈ B ∨ wk.heap.size ≤ b) (hEB : ∀ b ∈ E, b ∉ B') (hcl : Cln t) (hb : Below w1.heap.size w1 wx) : AskM W Y B pa pb pc pt r r2 l k told P c0 wk ev sv wx := by
  have kk := HeldBy.of_below hb hc.heldR
  exact ⟨m, x, t, c, E, B', he.heldBy kk (fun b hb => by simp [hb]), hs, hr, ht.heldBy kk (fun b hb => by simp [hb]), hc.under hb, hh.trans (kk.less fun b hb => by simp [hb]), hB, hEB, hcl⟩
theorem AskU.fin {W : World} {Y B : List Nat} {pa pb pc pt px pU gU nU cU pO gO nO cO : Nat} {rU rO r r2 : Ring} {l : List ActQ} {k : Nat} {told : List Nat} {a : ActQ} {P : Tree (Nat × (List Nat × Tx))} {c0 : CS} {t t2 : Tx} {c c2 : CS} {w w1 wx : World} {ev sv : Value} {m : Nat} {x : List Nat} {E B' : List Nat} (hU : AskU W Y B pa pb pc pt px pU gU nU cU pO gO nO cO rU rO r r2 l k told a P c0 t c w) (hact : exec (qAct rU rO a t) c = ((m, (x, t2)), c2)) (he : Err w1 ev m E) (ht : TxAt W pt t2 B' w1) (hc : Ctx W (E ++ (B' ++ Y)) pa pb pc c2 w1) (hh : HeldBy Y w w1) (hB : ∀ b ∈ E ++ B', b ∈ B ∨ w.heap.size ≤ b) (hEB : ∀ b ∈ E, b ∉ B') (hs : m = 0 → SomeAt wx sv x ∧ x.length ≤ 1000) (hb : Below w1.heap.size w1 wx) : AskM W Y B pa pb pc pt r r2 l k told P c0 w ev sv wx := by
  have hcl := qAct_cln (u := rU) (o := rO) (a := a) hU.cln c
  rw [hact] at hcl
  exact AskM.under he hs (by rw [hU.run, exec_bind, hact]) ht hc hh hB hEB hcl hb
end Go.Proofs.YtkpdacfiglpgeaaGreatDoor
