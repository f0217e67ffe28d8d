/- The plain law of lattices: what the answers of a lattice that is right say. No program in sight. -/
import Derived.Test.YtjlpclcdbnfikaaDoorPrint
namespace Go.Proofs.YtjlpclcdbnfikaaDoor.P
open Go.RowKit

/-- Below, by the sets. -/
def le (l : List Int) (x y : Nat) : Prop := (vN l x).testBit y = true
instance (l : List Int) (x y : Nat) : Decidable (le l x y) := inferInstanceAs (Decidable (_ = true))

theorem subset_iff (a b : Nat) (ha : a < 18446744073709551616) (hb : b < 18446744073709551616) : (a &&& (18446744073709551615 - b) == 0) = true ↔ ∀ i, a.testBit i = true → b.testBit i = true := by
  rw [beq_iff_eq, show (18446744073709551615 : Nat) - b = 2 ^ 64 - (b + 1) by omega]
  have hb' : b < 2 ^ 64 := hb
  have ha' : a < 2 ^ 64 := ha
  constructor
  · intro hz i hi
    have := congrArg (fun z => z.testBit i) hz
    simp only [Nat.testBit_and, Nat.zero_testBit] at this
    rw [Nat.testBit_two_pow_sub_succ hb'] at this
    by_cases h64 : i < 64
    · simpa [hi, h64] using this
    · rw [Nat.testBit_lt_two_pow (Nat.lt_of_lt_of_le ha' (Nat.pow_le_pow_right (n := 2) (by omega) (show 64 ≤ i by omega)))] at hi
      cases hi
  · intro h
    apply Nat.eq_of_testBit_eq
    intro i
    rw [Nat.testBit_and, Nat.zero_testBit, Nat.testBit_two_pow_sub_succ hb']
    cases hi : a.testBit i with
    | false => rfl
    | true => rw [h i hi]; simp

structure IsLat (l : List Int) : Prop where
  ok : okUp l = true
  ord : orderAt l.length (vN l) (downN l) = true
  bnd : boundedB l = true
  pos : 0 < l.length
theorem isLat_of {l0 : List ByteArray} {l1 : List Int} (h : lat_Right.f l0 l1 = some true) : IsLat l1 := by
  obtain ⟨h1, h2, h3, h4, h5, h6, h7, h8⟩ := right_spec h
  exact ⟨h1, h5, h6, by omega⟩

theorem IsLat.le64 {l : List Int} (L : IsLat l) : l.length ≤ 64 := (okUp_spec L.ok).1
theorem IsLat.lt {l : List Int} (L : IsLat l) {x y : Nat} (hx : x < l.length) (h : le l x y) : y < l.length := by
  obtain ⟨_, h2, h3, h4⟩ := (okUp_spec L.ok).2 x hx
  rcases Nat.lt_or_ge y l.length with hy | hy
  · exact hy
  · have := Nat.testBit_lt_two_pow (Nat.lt_of_lt_of_le h2 (Nat.pow_le_pow_right (n := 2) (by omega) hy))
    rw [le, this] at h
    cases h
theorem IsLat.v64 {l : List Int} (L : IsLat l) {x : Nat} (hx : x < l.length) : vN l x < 18446744073709551616 := ((okUp_spec L.ok).2 x hx).2.2.1
theorem IsLat.mem_bits {l : List Int} (L : IsLat l) {x y : Nat} (hx : x < l.length) : y ∈ bitsOf (vN l x) ↔ le l x y := by
  rw [mem_bitsOf]
  exact ⟨fun h => h.2, fun h => ⟨by have := L.lt hx h; have := L.le64; omega, h⟩⟩
theorem IsLat.good {l : List Int} (L : IsLat l) {x : Nat} (hx : x < l.length) : goodAt (vN l) (downN l) x = true := by
  have := L.ord
  rw [orderAt, List.all_eq_true] at this
  exact this x (List.mem_range.2 hx)
theorem IsLat.refl {l : List Int} (L : IsLat l) {x : Nat} (hx : x < l.length) : le l x x := by
  have := L.good hx
  simp only [goodAt, Bool.and_eq_true] at this
  exact this.1.1
theorem IsLat.trans {l : List Int} (L : IsLat l) {x y z : Nat} (hx : x < l.length) (h1 : le l x y) (h2 : le l y z) : le l x z := by
  have hg := L.good hx
  simp only [goodAt, Bool.and_eq_true, List.all_eq_true] at hg
  have := hg.2 y ((L.mem_bits hx).2 h1)
  exact (subset_iff _ _ (L.v64 (L.lt hx h1)) (L.v64 hx)).1 this z h2
theorem IsLat.antisymm {l : List Int} (L : IsLat l) {x y : Nat} (hx : x < l.length) (h1 : le l x y) (h2 : le l y x) : x = y := by
  have hg := L.good hx
  simp only [goodAt, Bool.and_eq_true, beq_iff_eq] at hg
  have := congrArg (fun z => z.testBit y) hg.1.2
  simp only [Nat.testBit_and, downN_testBit, Nat.testBit_two_pow] at this
  have e1 : (vN l x).testBit y = true := h1
  have e2 : (vN l y).testBit x = true := h2
  simp only [e1, e2, decide_eq_true (L.lt hx h1), Bool.and_self] at this
  exact of_decide_eq_true this.symm

theorem firstOf_spec {good : Nat → Bool} {xs : List Nat} (h : firstOf good xs ≠ -1) : ∃ c, firstOf good xs = (c : Nat) ∧ c ∈ xs ∧ good c = true := by
  unfold firstOf at h ⊢
  cases hf : xs.find? good with
  | none => rw [hf] at h; exact absurd rfl h
  | some c => exact ⟨c, rfl, List.mem_of_find?_eq_some hf, List.find?_some hf⟩
theorem firstOf_ex {good : Nat → Bool} {xs : List Nat} {c : Nat} (hc : c ∈ xs) (hg : good c = true) : firstOf good xs ≠ -1 := by
  unfold firstOf
  cases hf : xs.find? good with
  | none => exact absurd hg (by simpa using List.find?_eq_none.1 hf c hc)
  | some c => simp

/-- What a join is. -/
theorem IsLat.join_of {l : List Int} (L : IsLat l) {x y : Nat} (hx : x < l.length) (h : joinAt l x y ≠ -1) : ∃ j, joinAt l x y = (j : Nat) ∧ j < l.length ∧ le l x j ∧ le l y j ∧ ∀ z, le l x z → le l y z → le l j z := by
  obtain ⟨j, e, hm, hg⟩ := firstOf_spec h
  have hm2 := ((mem_bitsOf _ _).1 hm).2
  rw [Nat.testBit_and, Bool.and_eq_true] at hm2
  have hj := L.lt hx hm2.1
  have hb : vN l x &&& vN l y < 18446744073709551616 := Nat.lt_of_le_of_lt Nat.and_le_left (L.v64 hx)
  refine ⟨j, e, hj, hm2.1, hm2.2, fun z h1 h2 => (subset_iff _ _ hb (L.v64 hj)).1 hg z ?_⟩
  rw [Nat.testBit_and, Bool.and_eq_true]
  exact ⟨h1, h2⟩
theorem IsLat.meet_of {l : List Int} (L : IsLat l) {x y : Nat} (h : meetAt l x y ≠ -1) : ∃ m, meetAt l x y = (m : Nat) ∧ m < l.length ∧ le l m x ∧ le l m y ∧ ∀ z, z < l.length → le l z x → le l z y → le l z m := by
  obtain ⟨m, e, hm, hg⟩ := firstOf_spec h
  have hm2 := ((mem_bitsOf _ _).1 hm).2
  rw [Nat.testBit_and, downN_testBit, downN_testBit, Bool.and_eq_true, Bool.and_eq_true, Bool.and_eq_true, decide_eq_true_eq] at hm2
  have hb : downN l x &&& downN l y < 18446744073709551616 := Nat.lt_of_le_of_lt Nat.and_le_left (downN_le L.ok x)
  refine ⟨m, e, hm2.1.1, hm2.1.2, hm2.2.2, fun z hz h1 h2 => ?_⟩
  have := (subset_iff _ _ hb (downN_le L.ok m)).1 hg z ?_
  · rw [downN_testBit, Bool.and_eq_true] at this
    exact this.2
  · rw [Nat.testBit_and, downN_testBit, downN_testBit, decide_eq_true hz, Bool.true_and, Bool.true_and, Bool.and_eq_true]
    exact ⟨h1, h2⟩
theorem joinAt_comm (l : List Int) (x y : Nat) : joinAt l x y = joinAt l y x := by unfold joinAt; rw [Nat.and_comm]
theorem meetAt_comm (l : List Int) (x y : Nat) : meetAt l x y = meetAt l y x := by unfold meetAt; rw [Nat.and_comm]
theorem IsLat.pair {l : List Int} (L : IsLat l) {x y : Nat} (hx : x < l.length) (h : y < x) : joinAt l x y ≠ -1 ∧ meetAt l x y ≠ -1 := by
  have := L.bnd
  simp only [boundedB, List.all_eq_true] at this
  have h2 := this x (by simp [hx]) y (by simp [h])
  simpa [pairB] using h2
theorem IsLat.join_ne {l : List Int} (L : IsLat l) {x y : Nat} (hx : x < l.length) (hy : y < l.length) : joinAt l x y ≠ -1 := by
  rcases Nat.lt_trichotomy x y with h | h | h
  · rw [joinAt_comm]; exact (L.pair hy h).1
  · subst h
    unfold joinAt
    refine firstOf_ex (c := x) ?_ ?_
    · rw [Nat.and_self]; exact (L.mem_bits hx).2 (L.refl hx)
    · rw [Nat.and_self]; exact (subset_iff _ _ (L.v64 hx) (L.v64 hx)).2 fun _ h => h
  · exact (L.pair hx h).1
theorem IsLat.meet_ne {l : List Int} (L : IsLat l) {x y : Nat} (hx : x < l.length) (hy : y < l.length) : meetAt l x y ≠ -1 := by
  rcases Nat.lt_trichotomy x y with h | h | h
  · rw [meetAt_comm]; exact (L.pair hy h).2
  · subst h
    unfold meetAt
    refine firstOf_ex (c := x) ?_ ?_
    · rw [Nat.and_self, mem_bitsOf, downN_testBit, decide_eq_true hx]
      exact ⟨by have := L.le64; omega, by rw [Bool.true_and]; exact L.refl hx⟩
    · rw [Nat.and_self]; exact (subset_iff _ _ (downN_le L.ok x) (downN_le L.ok x)).2 fun _ h => h
  · exact (L.pair hx h).2
/-- The join and the meet, as numbers. -/
def jn (l : List Int) (x y : Nat) : Nat := (joinAt l x y).toNat
def mt (l : List Int) (x y : Nat) : Nat := (meetAt l x y).toNat
theorem IsLat.join {l : List Int} (L : IsLat l) {x y : Nat} (hx : x < l.length) (hy : y < l.length) : joinAt l x y = (jn l x y : Nat) ∧ jn l x y < l.length ∧ le l x (jn l x y) ∧ le l y (jn l x y) ∧ ∀ z, le l x z → le l y z → le l (jn l x y) z := by
  obtain ⟨j, e, h⟩ := L.join_of hx (L.join_ne hx hy)
  have : jn l x y = j := by rw [jn, e]; rfl
  rw [this]
  exact ⟨e, h⟩
theorem IsLat.meet {l : List Int} (L : IsLat l) {x y : Nat} (hx : x < l.length) (hy : y < l.length) : meetAt l x y = (mt l x y : Nat) ∧ mt l x y < l.length ∧ le l (mt l x y) x ∧ le l (mt l x y) y ∧ ∀ z, z < l.length → le l z x → le l z y → le l z (mt l x y) := by
  obtain ⟨j, e, h⟩ := L.meet_of (L.meet_ne hx hy)
  have : mt l x y = j := by rw [mt, e]; rfl
  rw [this]
  exact ⟨e, h⟩
theorem jn_comm (l : List Int) (x y : Nat) : jn l x y = jn l y x := by rw [jn, joinAt_comm]; rfl
end Go.Proofs.YtjlpclcdbnfikaaDoor.P
