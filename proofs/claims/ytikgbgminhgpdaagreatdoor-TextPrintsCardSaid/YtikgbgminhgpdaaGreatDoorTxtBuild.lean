/- Layer 10 (text): a Builder's WriteString, laid. -/
import Derived.Test.YtikgbgminhgpdaaGreatDoorTxtBase
import Derived.Test.YtikgbgminhgpdaaGreatDoorShelf
import Derived.Shelf.Strings.BuilderK
namespace Go.Proofs.YtikgbgminhgpdaaGreatDoor
open Go.RowKit
set_option maxRecDepth 10000

def renB : Go.Shelf.Ren := ⟨fun | 166 => 33 | 240 => 57 | 276 => 77 | n => n, fun | 0 => 0 | 3 => 3 | 4 => 4 | 9 => 9 | 20 => 20 | 37 => 48 | 70 => 47 | 72 => 50 | 75 => 26 | 164 => 95 | 5 => 5 | 80 => 54 | n => n, fun n => n⟩
theorem lays166 : Go.Proofs.Lays.n166 Tryz.prog renB := {
  mixed := by kernel_rfl
  f166 := Tryz.func33.trans (congrArg some (by kernel_rfl))
  f240 := Tryz.func57.trans (congrArg some (by kernel_rfl))
  f276 := Tryz.func77.trans (congrArg some (by kernel_rfl))
  t0 := Tryz.underlying0
  a0 := Tryz.isAgg0
  z0 := Tryz.sizeOf0
  v0 := Tryz.zeroValue0
  t3 := Tryz.underlying3
  a3 := Tryz.isAgg3
  z3 := Tryz.sizeOf3
  v3 := Tryz.zeroValue3
  t4 := Tryz.underlying4
  a4 := Tryz.isAgg4
  z4 := Tryz.sizeOf4
  v4 := Tryz.zeroValue4
  t9 := Tryz.underlying9
  a9 := Tryz.isAgg9
  z9 := Tryz.sizeOf9
  v9 := Tryz.zeroValue9
  t20 := Tryz.underlying20
  a20 := Tryz.isAgg20
  z20 := Tryz.sizeOf20
  v20 := Tryz.zeroValue20
  t37 := Tryz.underlying48
  a37 := Tryz.isAgg48
  z37 := Tryz.sizeOf48
  v37 := Tryz.zeroValue48
  t70 := Tryz.underlying47
  a70 := Tryz.isAgg47
  z70 := Tryz.sizeOf47
  v70 := Tryz.zeroValue47
  t72 := Tryz.underlying50
  a72 := Tryz.isAgg50
  z72 := Tryz.sizeOf50
  v72 := Tryz.zeroValue50
  t75 := Tryz.underlying26
  a75 := Tryz.isAgg26
  z75 := Tryz.sizeOf26
  v75 := Tryz.zeroValue26
  t164 := Tryz.underlying95
  a164 := Tryz.isAgg95
  z164 := Tryz.sizeOf95
  v164 := Tryz.zeroValue95 }
theorem extraB : Go.Proofs.Builder.Extra Tryz.prog renB := {
  sizeBuilder := by kernel_rfl
  liesBuilder := by kernel_rfl
  t5 := Tryz.underlying5
  a5 := Tryz.isAgg5
  z5 := Tryz.sizeOf5
  v5 := Tryz.zeroValue5
  infoByte := by kernel_rfl
  cellsByte := by kernel_rfl
  sizeByte := by kernel_rfl
  neB5 := by decide }
/-- A builder at b that holds bytes. -/
def BldAt (B b : Nat) (l : List UInt8) (w : World) : Prop := Lib.IsBuilderF 50 5 B b (Lib.byteCells l) w
theorem write_ok (B b : Nat) (l : List UInt8) (s : ByteArray) (w : World) (h : BldAt B b l w) (hlen : l.length + s.size ≤ 140737488355328) (hBw : B ≤ w.heap.size) :
    Calls Tryz.prog 33 #[.pointer (some ⟨b, 0, none⟩), .string s] w fun e w' =>
      e = .returned (.tuple #[.int .i64 (s.size : Int), .nilIface]) ∧ BldAt B b (l ++ s.data.toList) w' ∧ Below B w w' ∧ Lib.OthersKept 5 (some b) w w' := by
  have := Any.Builder_WriteString_k lays166 extraB B b (Lib.byteCells l) s w h (by simpa [Lib.byteCells] using hlen) hBw
  refine this.mono ?_
  rintro e w' ⟨h1, h2, h3, h4⟩
  refine ⟨h1, ?_, h3, h4⟩
  have e2 : Lib.byteCells (l ++ s.data.toList) = Lib.byteCells l ++ Lib.strCells s := by simp [Lib.byteCells, Lib.strCells]
  unfold BldAt
  rw [e2]
  exact Or.inr h2
/-- What a writer keeps: what lies below B, and all that is no row of bytes and not the builder. -/
structure TK (B b : Nat) (w w' : World) : Prop where
  be : Below B w w'
  ot : Lib.OthersKept 5 (some b) w w'
theorem TK.refl (B b : Nat) (w : World) : TK B b w w := ⟨Below.refl _ _, Lib.OthersKept.refl _ _ _⟩
theorem TK.trans {B b : Nat} {u v w : World} (h : TK B b u v) (k : TK B b v w) : TK B b u w := ⟨h.be.trans k.be, h.ot.trans k.ot⟩
theorem TK.of_below {B b : Nat} {w w' : World} (h : Below w.heap.size w w') (hB : B ≤ w.heap.size) : TK B b w w' := ⟨h.mono hB, fun k _ hk _ _ => (h.block k (Array.getElem?_eq_some_iff.1 hk).1).trans hk⟩
theorem TK.cells {B b k : Nat} {w w' : World} {xs : List Value} {t : TypeId} (h : TK B b w w') (c : Cells w k xs t) (hk : k ≠ b) (ht : t ≠ 5) : Cells w' k xs t :=
  h.ot k _ c (fun e => hk (Option.some.inj e)) (fun cs fz e => ht (by injection e))
theorem BldAt.below {B b : Nat} {l : List UInt8} {w w' : World} (h : BldAt B b l w) (k : Below w.heap.size w w') : BldAt B b l w' := by
  rcases h with h | h
  · refine Or.inl ?_
    obtain ⟨h1, v, h2, h3, h4⟩ := h
    refine ⟨h1, v, (k.block b (lt_of_block h2)).trans h2, ⟨h3.1, ?_⟩, h4⟩
    rcases h3.2 with q | ⟨g, cap, cur, fz, q1, q2, q3, q4⟩
    · exact .inl q
    · exact .inr ⟨g, cap, cur, fz, q1, q2, (k.block g (lt_of_block q3)).trans q3, q4⟩
  · refine Or.inr ?_
    obtain ⟨h1, v, h2, h3, h4⟩ := h
    refine ⟨h1, v, (k.block b (lt_of_block h2)).trans h2, ⟨h3.1, ?_⟩, h4⟩
    rcases h3.2 with q | ⟨g, cap, cur, fz, q1, q2, q3, q4⟩
    · exact .inl q
    · exact .inr ⟨g, cap, cur, fz, q1, q2, (k.block g (lt_of_block q3)).trans q3, q4⟩
theorem BldAt.lt {B b : Nat} {l : List UInt8} {w : World} (h : BldAt B b l w) : b < w.heap.size ∧ B ≤ b := by
  rcases h with ⟨h1, v, h2, _⟩ | ⟨h1, v, h2, _⟩ <;> exact ⟨lt_of_block h2, h1⟩
end Go.Proofs.YtikgbgminhgpdaaGreatDoor
