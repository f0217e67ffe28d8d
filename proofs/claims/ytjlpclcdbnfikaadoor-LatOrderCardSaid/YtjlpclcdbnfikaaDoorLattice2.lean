/- The plain law of lattices, further: bottom, top; joins and meets may be taken two by two; what the program's functions answer of a lattice that is right. -/
import Derived.Test.YtjlpclcdbnfikaaDoorLattice
import Derived.Test.YtjlpclcdbnfikaaDoorTop
import Derived.Test.YtjlpclcdbnfikaaDoorP12
namespace Go.Proofs.YtjlpclcdbnfikaaDoor.P
open Go.RowKit
open Go.Proofs.YtjlpclcdbnfikaaDoorW.PrintWords Go.Proofs.YtjlpclcdbnfikaaDoorW.PrintLast Go.Proofs.YtjlpclcdbnfikaaDoorW.PrintMore

theorem IsLat.jn_unique {l : List Int} (L : IsLat l) {x y c : Nat} (hx : x < l.length) (hy : y < l.length) (h1 : le l x c) (h2 : le l y c) (h3 : ∀ z, z < l.length → le l x z → le l y z → le l c z) : jn l x y = c := by
  obtain ⟨_, j1, j2, j3, j4⟩ := L.join hx hy
  exact L.antisymm j1 (j4 c h1 h2) (h3 _ j1 j2 j3)
theorem IsLat.mt_unique {l : List Int} (L : IsLat l) {x y c : Nat} (hx : x < l.length) (hy : y < l.length) (hc : c < l.length) (h1 : le l c x) (h2 : le l c y) (h3 : ∀ z, z < l.length → le l z x → le l z y → le l z c) : mt l x y = c := by
  obtain ⟨_, j1, j2, j3, j4⟩ := L.meet hx hy
  exact L.antisymm j1 (h3 _ j1 j2 j3) (j4 c hc h1 h2)
theorem IsLat.jn_assoc {l : List Int} (L : IsLat l) {x y z : Nat} (hx : x < l.length) (hy : y < l.length) (hz : z < l.length) : jn l (jn l x y) z = jn l x (jn l y z) := by
  obtain ⟨_, a1, a2, a3, a4⟩ := L.join hx hy
  obtain ⟨_, b1, b2, b3, b4⟩ := L.join hy hz
  obtain ⟨_, c1, c2, c3, c4⟩ := L.join hx b1
  refine L.jn_unique a1 hz (a4 _ c2 (L.trans hy b2 c3)) (L.trans hz b3 c3) fun w hw h1 h2 => ?_
  exact c4 w (L.trans hx a2 h1) (b4 w (L.trans hy a3 h1) h2)
theorem IsLat.mt_assoc {l : List Int} (L : IsLat l) {x y z : Nat} (hx : x < l.length) (hy : y < l.length) (hz : z < l.length) : mt l (mt l x y) z = mt l x (mt l y z) := by
  obtain ⟨_, a1, a2, a3, a4⟩ := L.meet hx hy
  obtain ⟨_, b1, b2, b3, b4⟩ := L.meet hy hz
  obtain ⟨_, c1, c2, c3, c4⟩ := L.meet hx b1
  refine L.mt_unique a1 hz c1 (a4 _ c1 c2 (L.trans c1 c3 b2)) (L.trans c1 c3 b3) fun w hw h1 h2 => ?_
  exact c4 w hw (L.trans hw h1 a2) (b4 w hw (L.trans hw h1 a3) h2)
theorem IsLat.jn_absorb {l : List Int} (L : IsLat l) {x y : Nat} (hx : x < l.length) (hy : y < l.length) : jn l x (mt l x y) = x := by
  obtain ⟨_, a1, a2, a3, a4⟩ := L.meet hx hy
  exact L.jn_unique hx a1 (L.refl hx) a2 fun w _ h _ => h
theorem IsLat.mt_absorb {l : List Int} (L : IsLat l) {x y : Nat} (hx : x < l.length) (hy : y < l.length) : mt l x (jn l x y) = x := by
  obtain ⟨_, a1, a2, a3, a4⟩ := L.join hx hy
  exact L.mt_unique hx a1 hx (L.refl hx) a2 fun w _ h _ => h
theorem IsLat.bot_upto {l : List Int} (L : IsLat l) : ∀ k, 0 < k → k ≤ l.length → ∃ m, m < l.length ∧ ∀ x, x < k → le l m x
  | 0, h, _ => absurd h (by omega)
  | 1, _, h => ⟨0, by omega, fun x hx => by obtain rfl : x = 0 := by omega
                                            exact L.refl (by omega)⟩
  | k + 2, _, h => by
    obtain ⟨m, hm, hall⟩ := IsLat.bot_upto L (k + 1) (by omega) (by omega)
    obtain ⟨_, a1, a2, a3, a4⟩ := L.meet (x := m) (y := k + 1) hm (by omega)
    refine ⟨mt l m (k + 1), a1, fun x hx => ?_⟩
    by_cases h : x = k + 1
    · subst h; exact a3
    · exact L.trans a1 a2 (hall x (by omega))
theorem IsLat.top_upto {l : List Int} (L : IsLat l) : ∀ k, 0 < k → k ≤ l.length → ∃ m, m < l.length ∧ ∀ x, x < k → le l x m
  | 0, h, _ => absurd h (by omega)
  | 1, _, h => ⟨0, by omega, fun x hx => by obtain rfl : x = 0 := by omega
                                            exact L.refl (by omega)⟩
  | k + 2, _, h => by
    obtain ⟨m, hm, hall⟩ := IsLat.top_upto L (k + 1) (by omega) (by omega)
    obtain ⟨_, a1, a2, a3, a4⟩ := L.join (x := m) (y := k + 1) hm (by omega)
    refine ⟨jn l m (k + 1), a1, fun x hx => ?_⟩
    by_cases h : x = k + 1
    · subst h; exact a3
    · exact L.trans (by omega) (hall x (by omega)) a2

def idxUFrom (l : List Int) (x : Int) : Nat → Nat → Int
  | 0, _ => -1
  | m + 1, k => if x = rd l (k : Nat) then (k : Int) else idxUFrom l x m (k + 1)
def botV (l : List Int) : Int := idxUFrom l ((2 ^ l.length - 1 : Nat) : Int) l.length 0
theorem indexU_l0 (l : List Int) (x : Int) (hl : l.length ≤ 9223372036854775807) : ∀ (m k fuel : Nat), k + m = l.length → m < fuel →
    slices_Index_uint64_uint64.l0 fuel l x (l.length : Int) (k : Nat) = some (idxUFrom l x m k)
  | _, _, 0, _, hf => absurd hf (by omega)
  | 0, k, fuel + 1, hk, _ => by rw [slices_Index_uint64_uint64.l0, if_neg (by omega)]; rfl
  | m + 1, k, fuel + 1, hk, hf => by
    rw [slices_Index_uint64_uint64.l0, if_pos (by omega), if_pos (by omega), if_pos (by omega), wrap_succ k _ (by omega) hl, indexU_l0 l x hl m (k + 1) fuel (by omega) (by omega), idxUFrom]
    split <;> rfl
theorem idxU_spec (l : List Int) (x : Int) : ∀ (m k j : Nat), k ≤ j → j < k + m → rd l (j : Nat) = x → ∃ i : Nat, idxUFrom l x m k = (i : Nat) ∧ k ≤ i ∧ i < k + m ∧ rd l (i : Nat) = x
  | 0, k, j, h1, h2, _ => absurd h2 (by omega)
  | m + 1, k, j, h1, h2, h3 => by
    rw [idxUFrom]
    by_cases h : x = rd l (k : Nat)
    · rw [if_pos h]; exact ⟨k, rfl, by omega, by omega, h.symm⟩
    · rw [if_neg h]
      have : k ≠ j := fun e => h (by rw [e, h3])
      obtain ⟨i, e, a, b, c⟩ := idxU_spec l x m (k + 1) j (by omega) (by omega) h3
      exact ⟨i, e, by omega, by omega, c⟩

theorem IsLat.rd_v {l : List Int} (L : IsLat l) {i : Nat} (hi : i < l.length) : rd l (i : Nat) = (vN l i : Nat) := ((okUp_spec L.ok).2 i hi).1
theorem IsLat.bottom {l : List Int} (L : IsLat l) : ∃ b, botV l = (b : Nat) ∧ b < l.length ∧ ∀ x, x < l.length → le l b x := by
  obtain ⟨m, hm, hall⟩ := L.bot_upto l.length L.pos (Nat.le_refl _)
  have key : ∀ i, i < l.length → (vN l i = 2 ^ l.length - 1 ↔ ∀ x, x < l.length → le l i x) := by
    intro i hi
    constructor
    · intro h x hx
      rw [le, h, Nat.testBit_two_pow_sub_one]; simpa using hx
    · intro h
      apply Nat.eq_of_testBit_eq
      intro x
      rw [Nat.testBit_two_pow_sub_one]
      by_cases hx : x < l.length
      · rw [decide_eq_true hx]; exact h x hx
      · rw [decide_eq_false hx]
        cases hb : (vN l i).testBit x with
        | false => rfl
        | true => exact absurd (L.lt hi hb) hx
  obtain ⟨i, e, _, hi, hv⟩ := idxU_spec l ((2 ^ l.length - 1 : Nat) : Int) l.length 0 m (by omega) (by omega) (by rw [L.rd_v hm, (key m hm).2 hall])
  have hi' : i < l.length := by omega
  refine ⟨i, e, hi', (key i hi').1 ?_⟩
  rw [L.rd_v hi'] at hv
  exact Int.ofNat_inj.1 hv
theorem IsLat.lone_iff {l : List Int} (L : IsLat l) {i : Nat} (hi : i < l.length) : lone (l.getD i 0) = true ↔ ∀ s, le l i s → s = i := by
  have hv : (l.getD i 0).toNat = vN l i := rfl
  have h64 := L.v64 hi
  rw [lone, hv, decide_eq_true_eq, (ones_spec 8 (vN l i) (by simpa using h64)).2]
  constructor
  · rintro ⟨j, hj, e⟩ s hs
    have h1 : (2 ^ j).testBit i = true := by rw [← e]; exact L.refl hi
    have h2 : (2 ^ j).testBit s = true := by rw [← e]; exact hs
    rw [Nat.testBit_two_pow, decide_eq_true_eq] at h1 h2
    omega
  · intro h
    refine ⟨i, by have := L.le64; omega, ?_⟩
    apply Nat.eq_of_testBit_eq
    intro s
    rw [Nat.testBit_two_pow]
    cases hb : (vN l i).testBit s with
    | true => rw [h s hb]; simp
    | false =>
      by_cases he : i = s
      · subst he; rw [show (vN l i).testBit i = true from L.refl hi] at hb; cases hb
      · simp [he]
theorem IsLat.top {l : List Int} (L : IsLat l) : ∃ t, topV l = (t : Nat) ∧ t < l.length ∧ ∀ x, x < l.length → le l x t := by
  obtain ⟨t, ht, hall⟩ := L.top_upto l.length L.pos (Nat.le_refl _)
  refine ⟨t, ?_, ht, hall⟩
  refine idxOf_some ht (fun j hj => ?_) ?_
  · cases hb : lone (l.getD j 0) with
    | false => rfl
    | true =>
      have := (L.lone_iff (by omega)).1 hb t (hall j (by omega))
      omega
  · exact (L.lone_iff ht).2 fun s hs => L.antisymm (L.lt ht hs) (hall s (L.lt ht hs)) hs

/-! ### What the functions answer of a lattice that is right -/
def inP (l : List Int) (a : Int) : Bool := decide (0 ≤ a) && decide (a < (l.length : Int))
def JV (l : List Int) (a b : Int) : Int := if inP l a && inP l b then joinAt l a.toNat b.toNat else -1
def MV (l : List Int) (a b : Int) : Int := if inP l a && inP l b then meetAt l a.toNat b.toNat else -1
def LQ (l : List Int) (a b : Int) : Bool := inP l a && (inP l b && (vN l a.toNat).testBit b.toNat)
theorem point_f {l0 : List ByteArray} {l1 : List Int} (h : l1.length = l0.length) (a : Int) : lat_Lat_point.f l0 l1 a = some (inP l1 a) := by
  unfold lat_Lat_point.f inP
  by_cases h0 : a ≥ 0
  · rw [if_pos h0, if_neg (by omega), decide_eq_true h0, h]; rfl
  · rw [if_neg h0, decide_eq_false h0]; rfl
theorem join_f {l0 : List ByteArray} {l1 : List Int} (h : lat_Right.f l0 l1 = some true) (a b : Int) : lat_Join.f l0 l1 a b = some (JV l1 a b) := by
  obtain ⟨s1, s2, s3, _⟩ := right_spec h
  rw [lat_Join.f, h, point_f s3, point_f s3, JV]
  simp only [Option.bind_some]
  cases ha : inP l1 a with
  | false => simp
  | true =>
    cases hb : inP l1 b with
    | false => simp
    | true =>
      simp only [inP, Bool.and_eq_true, decide_eq_true_eq] at ha hb
      have hc : okUp l1 = true ∧ 0 ≤ a ∧ a < (l1.length : Int) ∧ 0 ≤ b ∧ b < (l1.length : Int) := ⟨s1, ha.1, ha.2, hb.1, hb.2⟩
      rw [lat_Lat_join.f, if_pos rfl, if_pos rfl, if_pos hc]
      rfl
theorem meet_f {l0 : List ByteArray} {l1 : List Int} (h : lat_Right.f l0 l1 = some true) (a b : Int) : lat_Meet.f l0 l1 a b = some (MV l1 a b) := by
  obtain ⟨s1, s2, s3, _⟩ := right_spec h
  rw [lat_Meet.f, h, point_f s3, point_f s3, MV]
  simp only [Option.bind_some]
  cases ha : inP l1 a with
  | false => simp
  | true =>
    cases hb : inP l1 b with
    | false => simp
    | true =>
      simp only [inP, Bool.and_eq_true, decide_eq_true_eq] at ha hb
      have hc : okUp l1 = true ∧ 0 ≤ a ∧ a < (l1.length : Int) ∧ 0 ≤ b ∧ b < (l1.length : Int) := ⟨s1, ha.1, ha.2, hb.1, hb.2⟩
      rw [lat_Lat_meet.f, if_pos rfl, if_pos rfl, if_pos hc]
      rfl
theorem top_f {l0 : List ByteArray} {l1 : List Int} (h : lat_Right.f l0 l1 = some true) : lat_Top.f l0 l1 = some (topV l1) := by
  rw [lat_Top.f, h]; rfl
theorem bottom_f {l0 : List ByteArray} {l1 : List Int} (h : lat_Right.f l0 l1 = some true) : lat_Bottom.f 65 l0 l1 = some (botV l1) := by
  obtain ⟨s1, s2, s3, _⟩ := right_spec h
  have hl := (okUp_spec s1).1
  rw [lat_Bottom.f, h]
  simp only [Option.bind_some]
  rw [if_pos trivial, lat_Lat_all.f, all_val _ hl, Option.bind_some, slices_Index_uint64_uint64.f]
  have := indexU_l0 l1 ((2 ^ l1.length - 1 : Nat) : Int) (by omega) l1.length 0 65 (by omega) (by omega)
  rw [show ((0 : Nat) : Int) = 0 from rfl] at this
  rw [this]; rfl
theorem leq_f {l0 : List ByteArray} {l1 : List Int} (h : lat_Right.f l0 l1 = some true) (a b : Int) : lat_Leq.f l0 l1 a b = some (LQ l1 a b) := by
  obtain ⟨s1, s2, s3, _⟩ := right_spec h
  rw [lat_Leq.f, point_f s3, point_f s3, LQ]
  simp only [Option.bind_some]
  cases ha : inP l1 a with
  | false => simp
  | true =>
    cases hb : inP l1 b with
    | false => simp
    | true =>
      simp only [inP, Bool.and_eq_true, decide_eq_true_eq] at ha hb
      obtain ⟨x, rfl⟩ : ∃ x : Nat, a = x := ⟨a.toNat, by omega⟩
      obtain ⟨y, rfl⟩ : ∃ y : Nat, b = y := ⟨b.toNat, by omega⟩
      obtain ⟨v1, v2, v3, v4⟩ := (okUp_spec s1).2 x (by omega)
      have hl := (okUp_spec s1).1
      have hs : vN l1 x >>> y < 18446744073709551616 := by rw [Nat.shiftRight_eq_div_pow]; exact Nat.lt_of_le_of_lt (Nat.div_le_self _ _) v3
      rw [if_pos rfl, if_pos rfl, if_pos (by omega), if_pos (by omega), if_pos (by omega), v1, shr_nat _ _ (by omega), show (1 : Int) = ((1 : Nat) : Int) from rfl, bits_and_u64_nat _ 1 hs (by omega)]
      have h1 : vN l1 x >>> y &&& 1 = ((vN l1 x).testBit y).toNat := by
        rw [Nat.testBit, Nat.and_comm]
        have : 1 &&& vN l1 x >>> y = 0 ∨ 1 &&& vN l1 x >>> y = 1 := by
          have := Nat.and_le_left (n := 1) (m := vN l1 x >>> y)
          omega
        rcases this with h | h <;> rw [h] <;> rfl
      rw [h1]
      show some (((((vN l1 x).testBit y).toNat : Nat) : Int) == ((1 : Nat) : Int)) = some (true && (true && (vN l1 x).testBit y))
      cases (vN l1 x).testBit y <;> rfl

theorem inP_nat {l : List Int} {x : Nat} (hx : x < l.length) : inP l (x : Nat) = true := by simp [inP]; omega
theorem IsLat.JV_eq {l : List Int} (L : IsLat l) {x y : Nat} (hx : x < l.length) (hy : y < l.length) : JV l (x : Nat) (y : Nat) = (jn l x y : Nat) := by
  rw [JV, inP_nat hx, inP_nat hy]; exact (L.join hx hy).1
theorem IsLat.MV_eq {l : List Int} (L : IsLat l) {x y : Nat} (hx : x < l.length) (hy : y < l.length) : MV l (x : Nat) (y : Nat) = (mt l x y : Nat) := by
  rw [MV, inP_nat hx, inP_nat hy]; exact (L.meet hx hy).1
theorem LQ_iff {l : List Int} {x y : Nat} (hx : x < l.length) (hy : y < l.length) : LQ l (x : Nat) (y : Nat) = true ↔ le l x y := by
  rw [LQ, inP_nat hx, inP_nat hy]; simp [le]
end Go.Proofs.YtjlpclcdbnfikaaDoor.P
