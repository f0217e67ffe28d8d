/- lat.down: the set of the points below one, in plain words. And: what it takes for the sets of a lattice to be sets of its points. -/
import Derived.Test.YtjlpclcdbnfikaaDoorP1
import Derived.Test.YtjlpclcdbnfikaaDoorRange
namespace Go.Proofs.YtjlpclcdbnfikaaDoor
open Go.RowKit Go.Shelf
open Go.Proofs.YtjlpclcdbnfikaaDoorW.PrintWords Go.Proofs.YtjlpclcdbnfikaaDoorW.PrintLast Go.Proofs.YtjlpclcdbnfikaaDoorW.PrintMore

theorem len_mid {α : Type} {l y : List α} {a b : Nat} (h : y = (l.take a).drop b) (ha : a ≤ l.length) : y.length = a - b := by
  rw [h, List.length_drop, List.length_take, Nat.min_eq_left ha]
/-- The set of a point, as a number. -/
def vN (l : List Int) (i : Nat) : Nat := (l.getD i 0).toNat
/-- The set of a row is one of its points; at most 64 of them. -/
def okUp (l : List Int) : Bool := decide (l.length ≤ 64) && l.all fun x => decide (0 ≤ x) && decide (x.toNat < 2 ^ l.length)
def downGo (l : List Int) (a : Nat) : Nat → Nat → Nat → Nat
  | 0, _, s => s
  | m + 1, k, s => downGo l a m (k + 1) (s ||| ((vN l k >>> a &&& 1) <<< k))
/-- The points below one. -/
def downN (l : List Int) (a : Nat) : Nat := downGo l a l.length 0 0

theorem okUp_spec {l : List Int} (h : okUp l = true) : l.length ≤ 64 ∧ ∀ i, i < l.length → rd l (i : Nat) = (vN l i : Nat) ∧ vN l i < 2 ^ l.length ∧ vN l i < 18446744073709551616 ∧ ∀ j ∈ bitsOf (vN l i), j < l.length := by
  simp only [okUp, Bool.and_eq_true, decide_eq_true_eq, List.all_eq_true] at h
  obtain ⟨h1, h2⟩ := h
  refine ⟨h1, fun i hi => ?_⟩
  have hm : l.getD i 0 = l[i] := by rw [List.getD_eq_getElem?_getD, List.getElem?_eq_getElem hi]; rfl
  obtain ⟨h3, h4⟩ := h2 l[i] (List.getElem_mem hi)
  have hv : vN l i = l[i].toNat := by rw [vN, hm]
  have hp : (2 : Nat) ^ l.length ≤ 2 ^ 64 := Nat.pow_le_pow_right (by omega) h1
  refine ⟨?_, by rw [hv]; exact h4, by rw [hv]; exact Nat.lt_of_lt_of_le h4 hp, fun j hj => ?_⟩
  · rw [hv]
    show l.getD ((i : Int).toNat) 0 = _
    rw [show ((i : Int)).toNat = i from rfl, hm]
    omega
  · rw [hv, mem_bitsOf] at hj
    rcases Nat.lt_or_ge j l.length with h | h
    · exact h
    · have := Nat.testBit_lt_two_pow (Nat.lt_of_lt_of_le h4 (Nat.pow_le_pow_right (by omega) h))
      rw [this] at hj
      exact absurd hj.2 (by simp)

theorem testBit_one_and (x i : Nat) : (x &&& 1).testBit i = (x.testBit 0 && decide (i = 0)) := by
  rw [Nat.testBit_and]
  cases i with
  | zero => simp
  | succ i => simp [Nat.testBit_succ]
theorem downGo_testBit (l : List Int) (a : Nat) : ∀ (m k s i : Nat), (downGo l a m k s).testBit i = (s.testBit i || (decide (k ≤ i) && decide (i < k + m) && (vN l i).testBit a))
  | 0, k, s, i => by
    rw [downGo]
    by_cases h1 : k ≤ i
    · rw [decide_eq_false (p := i < k + 0) (by omega)]; simp
    · rw [decide_eq_false h1]; simp
  | m + 1, k, s, i => by
    rw [downGo, downGo_testBit l a m (k + 1), Nat.testBit_or, Nat.testBit_shiftLeft, testBit_one_and, Nat.testBit_shiftRight]
    by_cases h : k = i
    · subst h
      rw [decide_eq_false (p := k + 1 ≤ k) (by omega), decide_eq_true (p := k < k + (m + 1)) (by omega)]
      simp
    · by_cases h1 : k ≤ i
      · have e1 : k + 1 ≤ i := by omega
        have e2 : ¬ i - k = 0 := by omega
        have e3 : (i < k + 1 + m) = (i < k + (m + 1)) := by rw [Nat.add_right_comm, Nat.add_assoc]
        simp [h1, e1, e2, e3]
      · have e1 : ¬ k + 1 ≤ i := by omega
        simp [h1, e1]
theorem downN_testBit (l : List Int) (a i : Nat) : (downN l a).testBit i = (decide (i < l.length) && (vN l i).testBit a) := by
  rw [downN, downGo_testBit]
  simp
theorem downN_lt (l : List Int) (a : Nat) : downN l a < 2 ^ l.length := by
  apply Nat.lt_pow_two_of_testBit
  intro i hi
  rw [downN_testBit, decide_eq_false (by omega)]
  rfl

theorem shr_nat (x a : Nat) (h : a ≤ 64) : shr .u64 (x : Int) (a : Int) = ((x >>> a : Nat) : Int) := by
  unfold shr
  rw [show min ((a : Int)).toNat IntKind.u64.bits = a from by rw [show ((a : Int)).toNat = a from rfl]; exact Nat.min_eq_left h, Nat.shiftRight_eq_div_pow]
  simp
theorem shl_nat (x k : Nat) (h : k ≤ 64) (hx : x * 2 ^ k < 18446744073709551616) : shl .u64 (x : Int) (k : Int) = ((x <<< k : Nat) : Int) := by
  unfold shl
  rw [show min ((k : Int)).toNat IntKind.u64.bits = k from by rw [show ((k : Int)).toNat = k from rfl]; exact Nat.min_eq_left h, Nat.shiftLeft_eq]
  have e : (x : Int) * 2 ^ k = ((x * 2 ^ k : Nat) : Int) := by simp
  rw [e, IntKind.wrap_u64]
  omega
theorem and_one_le (x : Nat) : x &&& 1 ≤ 1 := Nat.and_le_right

theorem down_l0 {l : List Int} (ho : okUp l = true) (a : Nat) (ha : a ≤ 64) : ∀ (m k s fuel : Nat), k + m = l.length → s < 18446744073709551616 → m < fuel →
    P.lat_Lat_down.l0 fuel (a : Nat) (s : Nat) l (l.length : Int) (k : Nat) = some ((downGo l a m k s : Nat) : Int)
  | 0, k, s, 0, _, _, hf => absurd hf (by omega)
  | 0, k, s, fuel + 1, hk, _, _ => by
    rw [P.lat_Lat_down.l0, if_neg (by omega)]
    rfl
  | m + 1, k, s, 0, _, _, hf => absurd hf (by omega)
  | m + 1, k, s, fuel + 1, hk, hs, hf => by
    obtain ⟨hl, hall⟩ := okUp_spec ho
    obtain ⟨h1, h2, h3, h4⟩ := hall k (by omega)
    have hw : wrap64 ((k : Int) + 1) = ((k + 1 : Nat) : Int) := by unfold wrap64; omega
    have hp : (2 : Nat) ^ k ≤ 2 ^ 63 := Nat.pow_le_pow_right (by omega) (by omega)
    have hb : (vN l k >>> a &&& 1) * 2 ^ k < 18446744073709551616 := by
      have := and_one_le (vN l k >>> a)
      have h5 := Nat.mul_le_mul this hp
      omega
    have hb2 : (vN l k >>> a &&& 1) <<< k < 18446744073709551616 := by rw [Nat.shiftLeft_eq]; exact hb
    have hsr : vN l k >>> a < 18446744073709551616 := by rw [Nat.shiftRight_eq_div_pow]; exact Nat.lt_of_le_of_lt (Nat.div_le_self _ _) h3
    rw [P.lat_Lat_down.l0, if_pos (by omega), if_pos (by omega), if_pos (by omega), if_pos (by omega), h1, shr_nat _ _ ha]
    rw [show ((1 : Int)) = ((1 : Nat) : Int) from rfl, bits_and_u64_nat _ 1 hsr (by omega), shl_nat _ _ (by omega) hb, bits_or_u64_nat _ _ hs hb2, show ((1 : Nat) : Int) = 1 from rfl, hw, downGo]
    exact down_l0 ho a ha m (k + 1) _ fuel (by omega) (by rw [show (18446744073709551616 : Nat) = 2 ^ 64 from rfl]; exact Nat.or_lt_two_pow hs hb2) (by omega)
theorem down_f {l : List Int} (ho : okUp l = true) (l0 : List ByteArray) (a : Nat) (ha : a ≤ 64) : P.lat_Lat_down.f (l.length + 1) l0 l (a : Nat) = some ((downN l a : Nat) : Int) :=
  down_l0 ho a ha l.length 0 0 _ (by omega) (by omega) (by omega)
end Go.Proofs.YtjlpclcdbnfikaaDoor
