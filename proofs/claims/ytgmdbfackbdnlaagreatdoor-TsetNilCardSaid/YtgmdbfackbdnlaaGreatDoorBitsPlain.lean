/- Plain facts on bits of naturals: what layer 3 and its reference compute. No program stands here. -/
import Derived.Laws.BitsAllLaws
import Derived.Lib.TrailingZeros
namespace Go.Proofs.YtgmdbfackbdnlaaGreatDoor.Bp

/-- How many of the lowest k bits of m are set. -/
def pop : Nat → Nat → Nat
  | 0, _ => 0
  | k + 1, m => pop k m + (m.testBit k).toNat

theorem pop_le (k m : Nat) : pop k m ≤ k := by
  induction k with
  | zero => simp [pop]
  | succ k ih => have := Bool.toNat_le (m.testBit k); simp only [pop]; omega

theorem pop_add (a b m : Nat) : pop (a + b) m = pop a m + pop b (m / 2 ^ a) := by
  induction b with
  | zero => simp [pop]
  | succ b ih =>
    have e : (m / 2 ^ a).testBit b = m.testBit (a + b) := by rw [Nat.testBit_div_two_pow, Nat.add_comm]
    rw [← Nat.add_assoc]; simp only [pop]; rw [ih, e]; omega

theorem pop_congr (k m n : Nat) (h : ∀ i, i < k → m.testBit i = n.testBit i) : pop k m = pop k n := by
  induction k with
  | zero => rfl
  | succ k ih => simp only [pop]; rw [ih (fun i hi => h i (by omega)), h k (by omega)]

theorem pop_mod (k a m : Nat) (h : k ≤ a) : pop k (m % 2 ^ a) = pop k m :=
  pop_congr _ _ _ fun i hi => by rw [Nat.testBit_mod_two_pow]; simp; omega

theorem pop_mod_le (k a m : Nat) (h : a ≤ k) : pop k (m % 2 ^ a) = pop a m := by
  induction k with
  | zero => obtain rfl : a = 0 := by omega
            rfl
  | succ k ih =>
    by_cases e : a = k + 1
    · subst e; exact pop_mod _ _ _ (Nat.le_refl _)
    · simp only [pop]; rw [ih (by omega), Nat.testBit_mod_two_pow]
      have : ¬ k < a := by omega
      simp [this]

theorem testBit_div (m k : Nat) : m.testBit k = decide (m / 2 ^ k % 2 = 1) := Nat.testBit_eq_decide_div_mod_eq

theorem mod_succ (m k : Nat) : m % 2 ^ (k + 1) = m % 2 ^ k + 2 ^ k * (m.testBit k).toNat := by
  rw [Nat.pow_succ, Nat.mod_mul, testBit_div]
  have : m / 2 ^ k % 2 < 2 := Nat.mod_lt _ (by omega)
  by_cases e : m / 2 ^ k % 2 = 1
  · simp [e]
  · have : m / 2 ^ k % 2 = 0 := by omega
    simp [this]

/-- A key's hash. -/
def hashN (x : Int) : Nat := (((x % 18446744073709551616) * 11400714819323198485) % 18446744073709551616 / 4294967296).toNat
theorem hash_lt (x : Int) : hashN x < 4294967296 := by unfold hashN; omega

/-- The level that is taken. -/
def lev (l : Int) : Nat := (max 0 (min l 6)).toNat
theorem lev_le (l : Int) : lev l ≤ 6 := by unfold lev; omega

/-- A hash's slot at a level. -/
def slotN (h : Nat) (l : Int) : Nat := h / 2 ^ (5 * lev l) % 32
theorem slot_lt (h : Nat) (l : Int) : slotN h l < 32 := Nat.mod_lt _ (by omega)

/-- A slot, from 0 to 31. -/
def inN (s : Int) : Nat := (s % 32).toNat
theorem in_lt (s : Int) : inN s < 32 := by unfold inN; omega

/-- Tall. -/
def tallN (d : Nat) (most : Int) : Int := min (1 + (Lib.ctz 64 d : Int)) (max most 1)

theorem pop_bytes (m : Nat) : pop 32 m = pop 8 (m / 16777216 % 256) + pop 8 (m / 65536 % 256) + pop 8 (m / 256 % 256) + pop 8 (m % 256) := by
  have e1 := pop_add 8 24 m
  have e2 := pop_add 8 16 (m / 2 ^ 8)
  have e3 := pop_add 8 8 (m / 2 ^ 8 / 2 ^ 8)
  have f (n : Nat) : pop 8 (n % 256) = pop 8 n := pop_mod 8 8 n (by omega)
  have d2 : m / 2 ^ 8 / 2 ^ 8 = m / 65536 := by rw [Nat.div_div_eq_div_mul]
  have d3 : m / 2 ^ 8 / 2 ^ 8 / 2 ^ 8 = m / 16777216 := by rw [Nat.div_div_eq_div_mul, Nat.div_div_eq_div_mul]
  rw [f, f, f, f]
  simp only [Nat.reduceAdd] at e1 e2 e3
  rw [d3, d2] at e3
  rw [d2] at e2
  have d1 : m / 2 ^ 8 = m / 256 := rfl
  rw [d1] at e1 e2
  omega

theorem ones_close (T : ByteArray) (m i0 i1 i2 i3 : Nat) (hT : T.size = 256) (key : ∀ i (h : i < 256), (T[i]'(by omega)).toNat = pop 8 i)
    (l0 : i0 < 256) (l1 : i1 < 256) (l2 : i2 < 256) (l3 : i3 < 256)
    (e0 : m % 256 = i0) (e1 : m / 256 % 256 = i1) (e2 : m / 65536 % 256 = i2) (e3 : m / 16777216 = i3) :
    (((T[i3]'(by omega)).toNat : Int) + ((T[i2]'(by omega)).toNat : Int) + ((T[i1]'(by omega)).toNat : Int) + ((T[i0]'(by omega)).toNat : Int)) % 256 = ((pop 32 m : Nat) : Int) := by
  rw [key _ l0, key _ l1, key _ l2, key _ l3, pop_bytes m, e0, e1, e2, e3, Nat.mod_eq_of_lt l3]
  have := pop_le 8 i0
  have := pop_le 8 i1
  have := pop_le 8 i2
  have := pop_le 8 i3
  omega

end Go.Proofs.YtgmdbfackbdnlaaGreatDoor.Bp
