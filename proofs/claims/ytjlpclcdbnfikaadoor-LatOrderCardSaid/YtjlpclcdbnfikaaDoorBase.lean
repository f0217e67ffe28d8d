/- What all texts of this seat lean on: the premise on the library's variables that a world keeps (Glb), how 64-bit words are told as natural numbers, the set bits of a word in order, and the contract of math/bits.TrailingZeros64. -/
import Derived.Test.YtjlpclcdbnfikaaDoorProg
import Derived.Below
import Derived.WalkKit
import Derived.KernelRfl
import Derived.Laws.Bits64b
import Derived.Lib.TrailingZeros
import Derived.Lib.Hide
namespace Go.Proofs.YtjlpclcdbnfikaaDoor
open Go.RowKit

/-- What a world holds of the library's variables: the table of math/bits.TrailingZeros64, and some number in internal/bytealg.MaxLen. -/
structure Glb (w : World) : Prop where
  size : 4 ≤ w.heap.size
  tab : ∀ j, j < 64 → w.cell? ⟨0, j, none⟩ = some (.int .u8 (Lib.deBruijn64tab.getD j 0))
  max : ∃ m : Int, w.cell? ⟨1, 0, none⟩ = some (.int .i64 m)

theorem Glb.below {B : Nat} {w w' : World} (h : Glb w) (hb : Below B w w') (hB : 4 ≤ B) : Glb w' :=
  ⟨Nat.le_trans h.size hb.size, fun j hj => (hb.cell (p := ⟨0, j, none⟩) (by show 0 < B; omega)).trans (h.tab j hj),
    let ⟨m, hm⟩ := h.max; ⟨m, (hb.cell (p := ⟨1, 0, none⟩) (by show 1 < B; omega)).trans hm⟩⟩
theorem Glb.past {w w' : World} (h : Glb w) (hb : Below w.heap.size w w') : Glb w' := h.below hb h.size
theorem Glb.alloc {w : World} (h : Glb w) (o : Obj) : Glb (w.alloc o) := h.past ((Below.refl _ _).alloc (Nat.le_refl _) o)
theorem Glb.drew {w : World} (h : Glb w) : Glb w.drew := h.past (Below.refl _ _).drew

/-! ### Words of 64 bits as natural numbers -/
theorem bits_andNot_u64_nat (a b : Nat) (ha : a < 18446744073709551616) (hb : b < 18446744073709551616) :
    bits .andNot .u64 (a : Int) (b : Int) = ((a &&& (18446744073709551615 - b) : Nat) : Int) := by
  have hx : a &&& (18446744073709551615 - b) < 2 ^ 64 := Nat.and_lt_two_pow _ (by omega)
  have h1 : (BitVec.ofInt 64 (a : Int)).toNat = a := by rw [BitVec.ofInt_natCast, BitVec.toNat_ofNat]; exact Nat.mod_eq_of_lt (by omega)
  have h2 : (BitVec.ofInt 64 (b : Int)).toNat = b := by rw [BitVec.ofInt_natCast, BitVec.toNat_ofNat]; exact Nat.mod_eq_of_lt (by omega)
  show IntKind.u64.wrap ((BitVec.ofInt 64 (a : Int) &&& ~~~ BitVec.ofInt 64 (b : Int)).toNat : Int) = _
  rw [BitVec.toNat_and, BitVec.toNat_not, h1, h2, IntKind.wrap_u64]
  show ((a &&& (2 ^ 64 - 1 - b) : Nat) : Int) % _ = _
  have e : (2 ^ 64 - 1 - b) = 18446744073709551615 - b := by omega
  rw [e]
  omega

/-- The set bits of a word, from place k on: at most 'fuel' of them. -/
def bitsFrom : Nat → Nat → Nat → List Nat
  | 0, _, _ => []
  | f + 1, k, x => if x.testBit k then k :: bitsFrom f (k + 1) x else bitsFrom f (k + 1) x
/-- The set bits of a word, rising. -/
def bitsOf (x : Nat) : List Nat := bitsFrom 64 0 x

theorem mem_bitsFrom : ∀ (f k x i : Nat), i ∈ bitsFrom f k x ↔ k ≤ i ∧ i < k + f ∧ x.testBit i = true
  | 0, k, x, i => by simp [bitsFrom]; omega
  | f + 1, k, x, i => by
    unfold bitsFrom
    split
    · rename_i h
      rw [List.mem_cons, mem_bitsFrom f (k + 1) x i]
      constructor
      · rintro (rfl | ⟨h1, h2, h3⟩)
        · exact ⟨Nat.le_refl _, by omega, h⟩
        · exact ⟨by omega, by omega, h3⟩
      · rintro ⟨h1, h2, h3⟩
        by_cases e : i = k
        · exact .inl e
        · exact .inr ⟨by omega, by omega, h3⟩
    · rename_i h
      rw [mem_bitsFrom f (k + 1) x i]
      constructor
      · rintro ⟨h1, h2, h3⟩; exact ⟨by omega, by omega, h3⟩
      · rintro ⟨h1, h2, h3⟩
        by_cases e : i = k
        · subst e; exact absurd h3 h
        · exact ⟨by omega, by omega, h3⟩
theorem mem_bitsOf (x i : Nat) : i ∈ bitsOf x ↔ i < 64 ∧ x.testBit i = true := by
  unfold bitsOf; rw [mem_bitsFrom]; constructor
  · rintro ⟨_, h, h2⟩; exact ⟨by omega, h2⟩
  · rintro ⟨h, h2⟩; exact ⟨by omega, by omega, h2⟩

/-- The word without its bits below place k. -/
def above (x k : Nat) : Nat := x / 2 ^ k * 2 ^ k
theorem testBit_above (x k i : Nat) : (above x k).testBit i = (decide (k ≤ i) && x.testBit i) := by
  unfold above
  rw [Nat.testBit_mul_two_pow]
  by_cases h : k ≤ i
  · simp only [h, decide_true, Bool.true_and]
    rw [Nat.testBit_div_two_pow]
    congr 1; omega
  · simp [h]

/-- A word's set bits, out of its lowest one and the rest. -/
theorem bitsFrom_lowest : ∀ (f k x c : Nat), k ≤ c → c < k + f → x.testBit c = true → (∀ i, k ≤ i → i < c → x.testBit i = false) → bitsFrom f k x = c :: bitsFrom (k + f - c - 1) (c + 1) x
  | 0, k, x, c, h1, h2, _, _ => by omega
  | f + 1, k, x, c, h1, h2, h3, h4 => by
    by_cases e : k = c
    · subst e
      have e2 : k + (f + 1) - k - 1 = f := by omega
      rw [e2]
      show (if x.testBit k then k :: bitsFrom f (k + 1) x else bitsFrom f (k + 1) x) = _
      rw [if_pos h3]
    · show (if x.testBit k then k :: bitsFrom f (k + 1) x else bitsFrom f (k + 1) x) = _
      rw [if_neg (by rw [h4 k (Nat.le_refl _) (by omega)]; decide)]
      rw [bitsFrom_lowest f (k + 1) x c (by omega) (by omega) h3 (fun i hi hc => h4 i (by omega) hc)]
      have e2 : k + 1 + f - c - 1 = k + (f + 1) - c - 1 := by omega
      rw [e2]
theorem bitsFrom_none : ∀ (f k x : Nat), (∀ i, k ≤ i → x.testBit i = false) → bitsFrom f k x = []
  | 0, _, _, _ => rfl
  | f + 1, k, x, h => by
    show (if x.testBit k then k :: bitsFrom f (k + 1) x else bitsFrom f (k + 1) x) = _
    rw [if_neg (by rw [h k (Nat.le_refl _)]; decide)]
    exact bitsFrom_none f (k + 1) x (fun i hi => h i (by omega))
theorem bitsFrom_congr : ∀ (f k x y : Nat), (∀ i, k ≤ i → x.testBit i = y.testBit i) → bitsFrom f k x = bitsFrom f k y
  | 0, _, _, _, _ => rfl
  | f + 1, k, x, y, h => by
    show (if x.testBit k then k :: bitsFrom f (k + 1) x else bitsFrom f (k + 1) x) = (if y.testBit k then k :: bitsFrom f (k + 1) y else bitsFrom f (k + 1) y)
    rw [h k (Nat.le_refl _), bitsFrom_congr f (k + 1) x y (fun i hi => h i (by omega))]

/-- What Lib.ctz says of a word that is not nought: its lowest set bit. -/
theorem ctz_lowest (x : Nat) (h0 : x ≠ 0) (h : x < 2 ^ 64) : Lib.ctz 64 x < 64 ∧ x.testBit (Lib.ctz 64 x) = true ∧ ∀ i, i < Lib.ctz 64 x → x.testBit i = false := by
  obtain ⟨m, hm, hk⟩ := Lib.ctzFrom_spec 64 x (by omega) h
  have e : Lib.ctz 64 x = Lib.ctzFrom 64 x := by unfold Lib.ctz; rw [if_neg h0]
  rw [e]
  generalize hc : Lib.ctzFrom 64 x = k at hm hk
  refine ⟨hk, ?_, fun i hi => ?_⟩
  · rw [hm, Nat.mul_comm, Nat.testBit_mul_two_pow]
    simp [Nat.testBit_zero]
  · rw [hm, Nat.mul_comm, Nat.testBit_mul_two_pow]
    have : ¬ k ≤ i := by omega
    simp [this]

/-- A word without its lowest set bit: 'x & (x - 1)'. -/
theorem testBit_and_pred (x i : Nat) (h0 : x ≠ 0) (h : x < 2 ^ 64) : (x &&& (x - 1)).testBit i = (x.testBit i && !decide (i = Lib.ctz 64 x)) := by
  obtain ⟨m, hm, hk⟩ := Lib.ctzFrom_spec 64 x (by omega) h
  have e : Lib.ctz 64 x = Lib.ctzFrom 64 x := by unfold Lib.ctz; rw [if_neg h0]
  rw [e]
  generalize hc : Lib.ctzFrom 64 x = k at hm hk
  have hp : 0 < 2 ^ k := Nat.two_pow_pos k
  -- x - 1 = 2^k (2 m) + (2^k - 1)
  have e1 : x - 1 = 2 ^ k * (2 * m) + (2 ^ k - 1) := by rw [hm, Nat.mul_add, Nat.mul_one]; omega
  rw [Nat.testBit_and, e1]
  rw [Nat.testBit_two_pow_mul_add _ (by omega : 2 ^ k - 1 < 2 ^ k)]
  have ex : ∀ j, x.testBit j = (decide (k ≤ j) && (2 * m + 1).testBit (j - k)) := by
    intro j; rw [hm, Nat.mul_comm, Nat.testBit_mul_two_pow]
  rw [ex]
  by_cases hi : i < k
  · have : ¬ k ≤ i := by omega
    simp [this]
  · by_cases hik : i = k
    · subst hik
      simp [Nat.testBit_zero]
    · obtain ⟨j, rfl⟩ : ∃ j, i = k + (j + 1) := ⟨i - k - 1, by omega⟩
      have e3 : k + (j + 1) - k = j + 1 := by omega
      have h5 : ¬ (k + (j + 1) < k) := by omega
      have h6 : k ≤ k + (j + 1) := by omega
      have h7 : ¬ (k + (j + 1) = k) := by omega
      simp only [h5, h6, h7, e3, if_false, decide_true, decide_false, Bool.true_and, Bool.not_false, Bool.and_true]
      rw [Nat.testBit_succ, Nat.testBit_succ]
      have d1 : (2 * m + 1) / 2 = m := by omega
      have d2 : 2 * m / 2 = m := by omega
      rw [d1, d2]
      simp

/-! ### math/bits.TrailingZeros64 -/
set_option maxHeartbeats 1000000 in
theorem tz64_core (x k idx : Nat) (w : World) (hx0 : ((x : Int) == 0) = false)
    (key : IntKind.u64.wrap (bits BinOp.and IntKind.u64 (x : Int) (IntKind.u64.wrap (-(x : Int))) * 285870213051353865) / 288230376151711744 = (idx : Int))
    (hi : idx < 64) (hk : k < 64) (hcell : w.cell? ⟨0, idx, none⟩ = some (.int .u8 k)) :
    Calls Tryd.prog 107 #[.int .u64 x] w fun e w' => e = .returned (.int .i64 k) ∧ w = w' := by
  go_enter Tryd.func107, Tryd.ntmps107
  go_wp2_with (simp only [key])
  go_ret
  exact ⟨rfl, rfl⟩
theorem tz64_key (x a : Nat) (hx : x < 18446744073709551616) (hx0 : x ≠ 0) (hlow : x &&& (18446744073709551616 - x) = a) :
    IntKind.u64.wrap (bits BinOp.and IntKind.u64 (x : Int) (IntKind.u64.wrap (-(x : Int))) * 285870213051353865) / 288230376151711744 = ((a * 285870213051353865 % 18446744073709551616 / 288230376151711744 : Nat) : Int) := by
  have e1 : IntKind.u64.wrap (-(x : Int)) = ((18446744073709551616 - x : Nat) : Int) := by rw [IntKind.wrap_u64]; omega
  rw [e1, bits_and_u64_nat x _ hx (by omega), hlow, IntKind.wrap_u64]
  omega
/-- The number of a word's lowest set bit. -/
theorem tz64_calls (x : Nat) (hx : x < 18446744073709551616) (hx0 : x ≠ 0) (w : World) (hG : Glb w) :
    Calls Tryd.prog 107 #[.int .u64 x] w fun e w' => e = .returned (.int .i64 (Lib.ctz 64 x)) ∧ w = w' := by
  obtain ⟨hlow, hk⟩ := Lib.lowest_bit 64 x hx0 hx
  obtain ⟨hi, htab⟩ := Lib.deBruijn64_at _ hk
  have hcell := hG.tab _ hi
  rw [htab] at hcell
  exact tz64_core x _ _ w (by simp; omega) (tz64_key x _ hx hx0 hlow) hi hk hcell
end Go.Proofs.YtjlpclcdbnfikaaDoor
