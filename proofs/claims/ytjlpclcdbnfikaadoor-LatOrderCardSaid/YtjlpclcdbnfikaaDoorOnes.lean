/- math/bits.OnesCount64, as far as 'is it one?' -/
import Derived.Test.YtjlpclcdbnfikaaDoorBase
namespace Go.Proofs.YtjlpclcdbnfikaaDoor
open Go.RowKit

theorem and_bytes (a b c d : Nat) (hb : b < 256) (hd : d < 256) : (a * 256 + b) &&& (c * 256 + d) = (a &&& c) * 256 + (b &&& d) := by
  have hbd : b &&& d < 2 ^ 8 := Nat.lt_of_le_of_lt Nat.and_le_left hb
  have e : ∀ x y : Nat, x * 256 + y = 2 ^ 8 * x + y := fun x y => by omega
  rw [e a b, e c d, e (a &&& c) (b &&& d)]
  apply Nat.eq_of_testBit_eq
  intro i
  rw [Nat.testBit_and, Nat.testBit_two_pow_mul_add _ (show b < 2 ^ 8 from hb), Nat.testBit_two_pow_mul_add _ (show d < 2 ^ 8 from hd), Nat.testBit_two_pow_mul_add _ hbd]
  split <;> rw [Nat.testBit_and]

def rep (c : Nat) : Nat → Nat
  | 0 => 0
  | n + 1 => rep c n * 256 + c
theorem rep_succ (c n : Nat) : rep c (n + 1) = rep c n * 256 + c := rfl
def s1 (n x : Nat) : Nat := (x / 2 &&& rep 85 n) + (x &&& rep 85 n)
def s2 (n x : Nat) : Nat := (x / 4 &&& rep 51 n) + (x &&& rep 51 n)
def s3 (n x : Nat) : Nat := (x / 16 + x) &&& rep 15 n
def q1 (b : Nat) : Nat := (b / 2 &&& 85) + (b &&& 85)
def q2 (b : Nat) : Nat := (b / 4 &&& 51) + (b &&& 51)
def p8 (b : Nat) : Nat := (q2 (q1 b) / 16 + q2 (q1 b)) &&& 15
theorem d1 : ∀ t, t < 2 → ∀ b, b < 256 → (t * 128 + b / 2) &&& 85 = b / 2 &&& 85 := by decide +kernel
theorem d2 : ∀ t, t < 4 → ∀ b, b < 256 → (t * 64 + b / 4) &&& 51 = b / 4 &&& 51 := by decide +kernel
theorem d3 : ∀ t, t < 5 → ∀ b, b < 69 → (t * 16 + b / 16 + b) &&& 15 = (b / 16 + b) &&& 15 := by decide +kernel
theorem d4 : ∀ b, b < 256 → q1 b < 256 ∧ q2 (q1 b) < 69 ∧ q2 (q1 b) % 16 < 5 ∧ p8 b ≤ 8 := by decide +kernel
theorem d5 : ∀ b, b < 256 → (p8 b = 0 ↔ b = 0) ∧ (p8 b = 1 ↔ ∃ i, i < 8 ∧ b = 2 ^ i) := by decide +kernel
theorem s1_step (n a b : Nat) (hb : b < 256) : s1 (n + 1) (a * 256 + b) = s1 n a * 256 + q1 b := by
  unfold s1 q1
  rw [rep_succ, show (a * 256 + b) / 2 = (a / 2) * 256 + (a % 2 * 128 + b / 2) by omega, and_bytes _ _ _ _ (by omega) (by omega), and_bytes _ _ _ _ hb (by omega), d1 (a % 2) (by omega) b hb, Nat.add_mul]
  omega
theorem s2_step (n a b : Nat) (hb : b < 256) : s2 (n + 1) (a * 256 + b) = s2 n a * 256 + q2 b := by
  unfold s2 q2
  rw [rep_succ, show (a * 256 + b) / 4 = (a / 4) * 256 + (a % 4 * 64 + b / 4) by omega, and_bytes _ _ _ _ (by omega) (by omega), and_bytes _ _ _ _ hb (by omega), d2 (a % 4) (by omega) b hb, Nat.add_mul]
  omega
theorem s3_step (n a b : Nat) (hb : b < 69) (ha : a % 16 < 5) : s3 (n + 1) (a * 256 + b) = s3 n a * 256 + ((b / 16 + b) &&& 15) := by
  unfold s3
  rw [rep_succ, show (a * 256 + b) / 16 + (a * 256 + b) = (a / 16 + a) * 256 + (a % 16 * 16 + b / 16 + b) by omega, and_bytes _ _ _ _ (by omega) (by omega), d3 (a % 16) (by omega) b hb]
def fold3 (n x : Nat) : Nat := s3 n (s2 n (s1 n x))
/-- The digits of the folded word. -/
def digs : Nat → Nat → Nat
  | 0, _ => 0
  | n + 1, x => digs n (x / 256) * 256 + p8 (x % 256)
theorem s2_low (n x : Nat) : s2 n (s1 n x) % 16 < 5 := by
  cases n with
  | zero => simp [s2, rep]
  | succ n =>
    have e : x = x / 256 * 256 + x % 256 := by omega
    have h := d4 (x % 256) (by omega)
    rw [e, s1_step n _ _ (by omega), s2_step n _ _ h.1]
    omega
theorem fold3_digs : ∀ (n x : Nat), fold3 n x = digs n x
  | 0, x => by simp [fold3, digs, s3, rep]
  | n + 1, x => by
    have e : x = x / 256 * 256 + x % 256 := by omega
    have h := d4 (x % 256) (by omega)
    have ih := fold3_digs n (x / 256)
    unfold fold3 at ih ⊢
    rw [digs, ← ih]
    conv => lhs; rw [e]
    rw [s1_step n _ _ (by omega), s2_step n _ _ h.1, s3_step n _ _ h.2.1 (s2_low n _)]
    rfl
def ones : Nat → Nat → Nat
  | 0, _ => 0
  | n + 1, x => ones n (x / 256) + p8 (x % 256)
theorem ones_spec : ∀ (n x : Nat), x < 256 ^ n → (ones n x = 0 ↔ x = 0) ∧ (ones n x = 1 ↔ ∃ i, i < 8 * n ∧ x = 2 ^ i)
  | 0, x, h => by
    have : x = 0 := by simpa using h
    subst this
    simp [ones]
  | n + 1, x, h => by
    have hp : x < 256 ^ n * 256 := by rw [← Nat.pow_succ]; exact h
    obtain ⟨i1, i2⟩ := ones_spec n (x / 256) (by omega)
    obtain ⟨j1, j2⟩ := d5 (x % 256) (by omega)
    constructor
    · rw [ones]
      omega
    · rw [ones]
      constructor
      · intro hh
        rcases Nat.eq_zero_or_pos (p8 (x % 256)) with h0 | h0
        · obtain ⟨i, hi, e⟩ := i2.1 (by omega)
          have hz := j1.1 h0
          exact ⟨i + 8, by omega, by rw [Nat.pow_add, ← e]; omega⟩
        · obtain ⟨i, hi, e⟩ := j2.1 (by omega)
          have hz := i1.1 (by omega)
          exact ⟨i, by omega, by omega⟩
      · rintro ⟨i, hi, rfl⟩
        by_cases h8 : i < 8
        · have hlt : (2 : Nat) ^ i < 256 := Nat.pow_lt_pow_right (m := i) (n := 8) (by omega) h8
          have z1 : 2 ^ i / 256 = 0 := Nat.div_eq_of_lt hlt
          have z2 : 2 ^ i % 256 = 2 ^ i := Nat.mod_eq_of_lt hlt
          rw [i1.2 z1, j2.2 ⟨i, h8, z2⟩]
        · have e : (2 : Nat) ^ i = 2 ^ (i - 8) * 256 := by rw [show (256 : Nat) = 2 ^ 8 from rfl, ← Nat.pow_add]; congr 1; omega
          have z1 : 2 ^ i / 256 = 2 ^ (i - 8) := by rw [e]; exact Nat.mul_div_cancel _ (by omega)
          have z2 : 2 ^ i % 256 = 0 := by rw [e]; exact Nat.mul_mod_left _ _
          rw [j1.2 z2, i2.2 ⟨i - 8, by omega, z1⟩]
theorem ones_digs (x : Nat) (x3 x4 x5 : Nat) (h3 : x3 = digs 8 x) (h4 : x4 = x3 + x3 / 256) (h5 : x5 = x4 + x4 / 65536) : (x5 + x5 / 4294967296) % 128 = ones 8 x ∧ x5 + x5 / 4294967296 < 9223372036854775808 := by
  have b0 := (d4 (x % 256) (by omega)).2.2.2
  have b1 := (d4 (x / 256 % 256) (by omega)).2.2.2
  have b2 := (d4 (x / 256 / 256 % 256) (by omega)).2.2.2
  have b3 := (d4 (x / 256 / 256 / 256 % 256) (by omega)).2.2.2
  have b4 := (d4 (x / 256 / 256 / 256 / 256 % 256) (by omega)).2.2.2
  have b5 := (d4 (x / 256 / 256 / 256 / 256 / 256 % 256) (by omega)).2.2.2
  have b6 := (d4 (x / 256 / 256 / 256 / 256 / 256 / 256 % 256) (by omega)).2.2.2
  have b7 := (d4 (x / 256 / 256 / 256 / 256 / 256 / 256 / 256 % 256) (by omega)).2.2.2
  simp only [digs, ones] at h3 ⊢
  generalize p8 (x % 256) = a0 at *
  generalize p8 (x / 256 % 256) = a1 at *
  generalize p8 (x / 256 / 256 % 256) = a2 at *
  generalize p8 (x / 256 / 256 / 256 % 256) = a3 at *
  generalize p8 (x / 256 / 256 / 256 / 256 % 256) = a4 at *
  generalize p8 (x / 256 / 256 / 256 / 256 / 256 % 256) = a5 at *
  generalize p8 (x / 256 / 256 / 256 / 256 / 256 / 256 % 256) = a6 at *
  generalize p8 (x / 256 / 256 / 256 / 256 / 256 / 256 / 256 % 256) = a7 at *
  have e4 : x4 = (((((((a7 * 256 + (a6 + a7)) * 256 + (a5 + a6)) * 256 + (a4 + a5)) * 256 + (a3 + a4)) * 256 + (a2 + a3)) * 256 + (a1 + a2)) * 256 + (a0 + a1)) := by omega
  have e5 : x5 = ((((((((a7 * 256 + (a6 + a7)) * 256 + (a5 + a6 + a7)) * 256 + (a4 + a5 + a6 + a7)) * 256 + (a3 + a4 + a5 + a6)) * 256 + (a2 + a3 + a4 + a5)) * 256 + (a1 + a2 + a3 + a4)) * 256 + (a0 + a1 + a2 + a3))) := by omega
  have e6 : x5 / 4294967296 = ((a7 * 256 + (a6 + a7)) * 256 + (a5 + a6 + a7)) * 256 + (a4 + a5 + a6 + a7) := by omega
  omega
end Go.Proofs.YtjlpclcdbnfikaaDoor
