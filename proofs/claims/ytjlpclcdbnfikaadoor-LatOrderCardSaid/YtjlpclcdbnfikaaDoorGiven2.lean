/- lat.Right: its contract, in plain words. -/
import Derived.Test.YtjlpclcdbnfikaaDoorFunc
import Derived.Test.YtjlpclcdbnfikaaDoorPlain1
import Derived.Test.YtjlpclcdbnfikaaDoorP2
import Derived.Test.YtjlpclcdbnfikaaDoorP11
namespace Go.Proofs.YtjlpclcdbnfikaaDoor.P
open Go.RowKit Go.Shelf Go.Sort
open Go.Proofs.YtjlpclcdbnfikaaDoorW.PrintWords Go.Proofs.YtjlpclcdbnfikaaDoorW.PrintLast Go.Proofs.YtjlpclcdbnfikaaDoorW.PrintMore

def pairB (l : List Int) (a b : Nat) : Bool := decide (joinAt l a b ≠ -1) && decide (meetAt l a b ≠ -1)
/-- Every two points have a join, and a meet. -/
def boundedB (l : List Int) : Bool := (List.range' 0 l.length).all fun a => (List.range' 0 a).all fun b => pairB l a b
theorem bounded_l1 {l : List Int} (ho : okUp l = true) (l0 : List ByteArray) (a : Nat) (ha : a < l.length) : ∀ (m b fuel : Nat), b + m = a →
    lat_Lat_bounded.l1 (fuel + m + 1) (a : Nat) (l.length : Int) (a : Nat) (a : Nat) (b : Nat) l0 l = if (List.range' b m).all (pairB l a) then lat_Lat_bounded.l0 fuel (l.length : Int) ((a + 1 : Nat) : Int) l0 l else some false
  | 0, b, fuel, hb => by
    have hl := (okUp_spec ho).1
    rw [lat_Lat_bounded.l1, if_neg (by omega), wrap_succ a l.length ha (by omega)]
    rfl
  | m + 1, b, fuel, hb => by
    have hl := (okUp_spec ho).1
    rw [show fuel + (m + 1) + 1 = (fuel + m + 1) + 1 from rfl, lat_Lat_bounded.l1, if_pos (by omega), wrap_succ b a (by omega) (by omega), bounded_l1 ho l0 a ha m (b + 1) fuel (by omega), List.range'_succ, List.all_cons]
    rw [lat_Lat_join.f, if_pos ⟨ho, by omega, by omega, by omega, by omega⟩, lat_Lat_meet.f, if_pos ⟨ho, by omega, by omega, by omega, by omega⟩, Option.bind_some, Option.bind_some]
    show (if joinAt l a b = -1 then _ else _) = _
    by_cases h1 : joinAt l a b = -1
    · have e : pairB l a b = false := by simp [pairB, h1]
      rw [if_pos h1, e]; rfl
    · rw [if_neg h1]
      show (if meetAt l a b = -1 then _ else _) = _
      by_cases h2 : meetAt l a b = -1
      · have e : pairB l a b = false := by simp [pairB, h2]
        rw [if_pos h2, e]; rfl
      · have e : pairB l a b = true := by simp [pairB, h1, h2]
        rw [if_neg h2, e, Bool.true_and]
theorem bounded_l0 {l : List Int} (ho : okUp l = true) (l0 : List ByteArray) : ∀ (m a fuel : Nat), a + m = l.length → m * 66 < fuel →
    lat_Lat_bounded.l0 fuel (l.length : Int) (a : Nat) l0 l = some ((List.range' a m).all fun a => (List.range' 0 a).all fun b => pairB l a b)
  | _, _, 0, _, hf => absurd hf (by omega)
  | 0, a, fuel + 1, ha, _ => by rw [lat_Lat_bounded.l0, if_neg (by omega)]; rfl
  | m + 1, a, fuel + 1, ha, hf => by
    have hl := (okUp_spec ho).1
    rw [lat_Lat_bounded.l0, if_pos (by omega), show fuel = (fuel - a - 1) + a + 1 by omega]
    have h1 := bounded_l1 ho l0 a (by omega) a 0 (fuel - a - 1) (by omega)
    rw [show ((0 : Nat) : Int) = 0 from rfl] at h1
    rw [h1, bounded_l0 ho l0 m (a + 1) (fuel - a - 1) (by omega) (by omega), List.range'_succ, List.all_cons]
    cases (List.range' 0 a).all (pairB l a) <;> simp
theorem bounded_f {l : List Int} (ho : okUp l = true) (l0 : List ByteArray) (fuel : Nat) (hf : l.length * 66 < fuel) : lat_Lat_bounded.f fuel l0 l = some (boundedB l) :=
  bounded_l0 ho l0 l.length 0 fuel (by omega) hf

/-- A row of words. -/
def words (l : List Int) : Bool := l.all fun x => decide (0 ≤ x) && decide (x.toNat < 18446744073709551616)
def beyond (n : Nat) (x : Int) : Bool := !decide (x.toNat < 2 ^ n)
/-- Is it a lattice? In the order of the text. -/
def rightB (l0 : List ByteArray) (l1 : List Int) : Bool :=
  decide (l0.length ≤ 64) && (decide (l1.length = l0.length) && (namedB l0 && (!l1.any (beyond l1.length) && (orderAt l1.length (vN l1) (downN l1) && boundedB l1))))
def lat_Right.f (l0 : List ByteArray) (l1 : List Int) : Option Bool := if words l1 = true ∧ ∀ s ∈ l0, s.size ≤ 9223372036854775807 then some (rightB l0 l1) else none

theorem words_spec {l : List Int} (h : words l = true) : ∀ x ∈ l, 0 ≤ x ∧ x.toNat < 18446744073709551616 := by
  simpa [words, List.all_eq_true] using h
theorem okUp_of {l : List Int} (h : words l = true) (hl : l.length ≤ 64) (hb : l.any (beyond l.length) = false) : okUp l = true := by
  have h' := words_spec h
  rw [List.any_eq_false] at hb
  simp only [okUp, Bool.and_eq_true, decide_eq_true_eq, List.all_eq_true]
  exact ⟨hl, fun x hx => ⟨(h' x hx).1, by simpa [beyond] using hb x hx⟩⟩
theorem all_val (n : Nat) (h : n ≤ 64) : IntKind.u64.wrap (shl .u64 1 (n : Int) - 1) = ((2 ^ n - 1 : Nat) : Int) := by
  unfold shl
  rw [show min ((n : Int)).toNat IntKind.u64.bits = n from by rw [show ((n : Int)).toNat = n from rfl]; exact Nat.min_eq_left h]
  have hp : (2 : Nat) ^ n ≤ 2 ^ 64 := Nat.pow_le_pow_right (by omega) h
  have h0 := Nat.two_pow_pos n
  rw [show (1 : Int) * 2 ^ n = ((2 ^ n : Nat) : Int) by simp, IntKind.wrap_u64, IntKind.wrap_u64]
  generalize 2 ^ n = p at *
  omega
theorem beyond_val (n : Nat) (h : n ≤ 64) (x : Int) (h0 : 0 ≤ x) (h1 : x.toNat < 18446744073709551616) : (bits .andNot .u64 x ((2 ^ n - 1 : Nat) : Int) != 0) = beyond n x := by
  obtain ⟨y, rfl⟩ : ∃ y : Nat, x = y := ⟨x.toNat, by omega⟩
  have hp : (2 : Nat) ^ n ≤ 2 ^ 64 := Nat.pow_le_pow_right (by omega) h
  have hpos := Nat.two_pow_pos n
  have hy : y < 18446744073709551616 := by simpa using h1
  rw [bits_andNot_u64_nat y (2 ^ n - 1) hy (by omega), beyond]
  have key : (y &&& (18446744073709551615 - (2 ^ n - 1)) = 0) ↔ y < 2 ^ n := by
    constructor
    · intro hz
      apply Nat.lt_pow_two_of_testBit
      intro i hi
      have := congrArg (fun z => z.testBit i) hz
      simp only [Nat.testBit_and, Nat.zero_testBit] at this
      rw [show (18446744073709551615 : Nat) - (2 ^ n - 1) = 2 ^ 64 - ((2 ^ n - 1) + 1) by omega, Nat.testBit_two_pow_sub_succ (by omega), Nat.testBit_two_pow_sub_one] at this
      by_cases h64 : i < 64
      · simp [h64, show ¬ i < n by omega] at this; simpa using this
      · exact Nat.testBit_lt_two_pow (Nat.lt_of_lt_of_le hy (Nat.pow_le_pow_right (n := 2) (by omega) (show 64 ≤ i by omega)))
    · intro hlt
      apply Nat.eq_of_testBit_eq
      intro i
      rw [Nat.testBit_and, Nat.zero_testBit, show (18446744073709551615 : Nat) - (2 ^ n - 1) = 2 ^ 64 - ((2 ^ n - 1) + 1) by omega, Nat.testBit_two_pow_sub_succ (by omega), Nat.testBit_two_pow_sub_one]
      by_cases hi : i < n
      · simp [hi]
      · rw [Nat.testBit_lt_two_pow (Nat.lt_of_lt_of_le hlt (Nat.pow_le_pow_right (by omega) (by omega)))]; rfl
  by_cases h2 : y < 2 ^ n
  · rw [key.2 h2]; simp [h2]
  · have : ¬ y &&& (18446744073709551615 - (2 ^ n - 1)) = 0 := fun h => h2 (key.1 h)
    rw [decide_eq_false (by simpa using h2)]
    rw [show (!false) = true from rfl, bne_iff_ne]
    omega

set_option maxHeartbeats 1000000 in
theorem beyond_calls (b : Nat) (A0_0 : Option Addr) (c0_0 : Nat) (l0_0 : List ByteArray) (A0_1 : Option Addr) (c0_1 : Nat) (l0_1 : List Int) (x : Int) (W : World) (hb : W.heap[b]? = some (.cells #[.slice A0_0 l0_0.length c0_0, .slice A0_1 l0_1.length c0_1] 25 (0, 0)))
    (hr0_0 : Kd.C Kd.string W A0_0 l0_0.length l0_0) (hc0_0 : l0_0.length ≤ c0_0) (hr0_1 : Kd.C (Kd.int .u64) W A0_1 l0_1.length l0_1) (hc0_1 : l0_1.length ≤ c0_1) (hl : l0_1.length ≤ 64) (h0 : 0 ≤ x) (h1 : x.toNat < 18446744073709551616) :
    Calls Tryd.prog 59 #[.int .u64 x, .pointer (some ⟨b, 0, none⟩)] W fun e W' => e = .returned (.bool (beyond l0_1.length x)) ∧ Below W.heap.size W W' := by
  have C := Lib.hid (lat_Lat_all.calls A0_0 c0_0 l0_0 A0_1 c0_1 l0_1 _ W hr0_0 hc0_0 hr0_1 hc0_1 (by rw [lat_Lat_all.f, all_val _ hl]))
  have hv := beyond_val l0_1.length hl x h0 h1
  have c0 := cell_in (j := 0) hb rfl
  have c1 := cell_in (j := 1) hb rfl
  generalize 2 ^ l0_1.length - 1 = al at *
  generalize beyond l0_1.length x = r at *
  clear hb hr0_0 hr0_1 hc0_0 hc0_1
  go_enter Tryd.func59, Tryd.ntmps59
  go_wp2_with (go_at_call 60; refine C.out.mono ?_; rintro e w' ⟨rfl, hb⟩; have HB := Lib.hid hb; clear hb)
  go_ret
  exact ⟨rfl, HB.out⟩

set_option maxHeartbeats 2000000 in
theorem lat_Right.calls (A0_0 : Option Addr) (c0_0 : Nat) (l0_0 : List ByteArray) (A0_1 : Option Addr) (c0_1 : Nat) (l0_1 : List Int) (r : Bool) (w : World) (hr0_0 : Kd.C Kd.string w A0_0 l0_0.length l0_0) (hc0_0 : l0_0.length ≤ c0_0) (hr0_1 : Kd.C (Kd.int .u64) w A0_1 l0_1.length l0_1) (hc0_1 : l0_1.length ≤ c0_1)
    (hglb : Glb w) (h : lat_Right.f l0_0 l0_1 = some r) :
    Calls Tryd.prog 20 #[.agg #[.slice A0_0 l0_0.length c0_0, .slice A0_1 l0_1.length c0_1]] w fun e w' => e = .returned (.bool r) ∧ Below w.heap.size w w' := by
  have hW : Below w.heap.size w (w.alloc (.cells #[.slice A0_0 l0_0.length c0_0, .slice A0_1 l0_1.length c0_1] 25)) := (Below.refl _ w).alloc (Nat.le_refl _) _
  have b0 : (w.alloc (.cells #[.slice A0_0 l0_0.length c0_0, .slice A0_1 l0_1.length c0_1] 25)).heap[w.heap.size]? = some (.cells #[.slice A0_0 l0_0.length c0_0, .slice A0_1 l0_1.length c0_1] 25 (0, 0)) := block_new _ rfl
  have hN0 := hr0_0.2.1
  have hN1 := hr0_1.2.1
  unfold lat_Right.f at h
  split at h
  case isFalse => cases h
  case isTrue hh =>
    obtain ⟨hw, hsz⟩ := hh
    have hr := Option.some.inj h
    clear h
    have he59 : ∀ args w, (callFunc 59 args).run Tryd.prog w = .ok (.enter 59 args) w := enters_of Tryd.func59 (by kernel_rfl) rfl
    by_cases h1 : l0_0.length ≤ 64
    · have d1 : decide (64 < (l0_0.length : Int)) = false := decide_eq_false (by omega)
      have d1' : decide (64 < l0_0.length) = false := decide_eq_false (by omega)
      by_cases h2 : l0_1.length = l0_0.length
      · have d2 : (((l0_1.length : Nat) : Int) != ((l0_0.length : Nat) : Int)) = false := by rw [h2]; simp
        have hWN : Calls Tryd.prog 50 #[.slice A0_0 l0_0.length c0_0] (w.alloc (.cells #[.slice A0_0 l0_0.length c0_0, .slice A0_1 l0_1.length c0_1] 25)) fun e w' => e = .returned (.bool (namedB l0_0)) ∧ Drawn0 (w.alloc (.cells #[.slice A0_0 l0_0.length c0_0, .slice A0_1 l0_1.length c0_1] 25)) w' :=
          lat_named.calls (l0_0.length + 9223372036854775807 + 1) A0_0 c0_0 l0_0 (namedB l0_0) _ (Kd.C_below hr0_0 ((Below.refl _ w).alloc (Nat.le_refl _) _)) hc0_0 (named_f l0_0 9223372036854775807 hsz (by omega) (by omega) _ (by omega))
        have CN := Lib.hid hWN
        clear hWN
        have H2 := Lib.hid h2
        have HW := Lib.hid hW
        have B0 := Lib.hid b0
        have HR0 := Lib.hid hr0_0
        have HR1 := Lib.hid hr0_1
        have HS := Lib.hid hsz
        have HWD := Lib.hid hw
        have HE := Lib.hid he59
        have HG := Lib.hid hglb
        have HRR := Lib.hid hr
        clear h2 hW b0 hr0_0 hr0_1 hsz hw he59 hglb hr
        have hn64 : l0_1.length ≤ 64 := by rw [H2.out]; exact h1
        have key : ∀ w1 : World, Below (w.alloc (.cells #[.slice A0_0 l0_0.length c0_0, .slice A0_1 l0_1.length c0_1] 25)).heap.size (w.alloc (.cells #[.slice A0_0 l0_0.length c0_0, .slice A0_1 l0_1.length c0_1] 25)) w1 →
            Below w.heap.size w w1 ∧ Kd.C Kd.string w1 A0_0 l0_0.length l0_0 ∧ Kd.C (Kd.int .u64) w1 A0_1 l0_1.length l0_1 ∧ Glb w1 ∧ w1.heap[w.heap.size]? = some (.cells #[.slice A0_0 l0_0.length c0_0, .slice A0_1 l0_1.length c0_1] 25 (0, 0)) := by
          intro w1 hb
          have hb' : Below w.heap.size w w1 := HW.out.trans (hb.mono (by simp))
          exact ⟨hb', Kd.C_below HR0.out hb', Kd.C_below HR1.out hb', HG.out.past hb', (hb.block _ (by simp)).trans B0.out⟩
        have KEY := Lib.hid key
        clear key
        cases hnm : namedB l0_0 with
        | false =>
          rw [hnm] at CN
          obtain rfl : r = false := by rw [← HRR.out, rightB, hnm, Bool.false_and, Bool.and_false, Bool.and_false]
          clear hnm
          go_enter Tryd.func20, Tryd.ntmps20
          go_wp2_with (go_at_call 50; refine CN.out.mono ?_; rintro e w1 ⟨rfl, hd⟩; have K1 := Lib.hid (KEY.out w1 (hd.below)); clear hd)
          go_ret
          exact ⟨rfl, K1.out.1⟩
        | true =>
          rw [hnm] at CN
          have HNM := Lib.hid hnm
          clear hnm
          have clo : ∀ w1 : World, Below (w.alloc (.cells #[.slice A0_0 l0_0.length c0_0, .slice A0_1 l0_1.length c0_1] 25)).heap.size (w.alloc (.cells #[.slice A0_0 l0_0.length c0_0, .slice A0_1 l0_1.length c0_1] 25)) w1 →
              Calls Tryd.prog 61 #[.slice A0_1 l0_1.length c0_1, .func (.func 59) #[] #[.pointer (some ⟨w.heap.size, 0, none⟩)]] w1 fun e w' => e = .returned (.bool (l0_1.any (beyond l0_1.length))) ∧ Below w1.heap.size w1 w' := by
            intro w1 hb
            obtain ⟨q1, q2, q3, q4, q5⟩ := KEY.out w1 hb
            rw [← idxOf_any]
            refine containsFunc_calls 59 HE.out _ _ A0_1 l0_1 c0_1 w1 q3 fun W hW x hx => ?_
            obtain ⟨x0, x1⟩ := words_spec HWD.out x hx
            exact beyond_calls w.heap.size A0_0 c0_0 l0_0 A0_1 c0_1 l0_1 x W ((hW.block _ (block_lt q5)).trans q5) (Kd.C_below q2 hW) hc0_0 (Kd.C_below q3 hW) hc0_1 hn64 x0 x1
          have CLO := Lib.hid clo
          clear clo
          cases hany : l0_1.any (beyond l0_1.length) with
          | true =>
            rw [hany] at CLO
            obtain rfl : r = false := by rw [← HRR.out, rightB, hany, Bool.not_true, Bool.false_and, Bool.and_false, Bool.and_false, Bool.and_false]
            clear hany
            go_enter Tryd.func20, Tryd.ntmps20
            go_wp2_with (first
              | (go_at_call 50; refine CN.out.mono ?_; rintro e w1 ⟨rfl, hd⟩; have D1 := hd.below; have K1 := KEY.out w1 D1; have k0 := cell_in (j := 0) K1.2.2.2.2 rfl; have k1 := cell_in (j := 1) K1.2.2.2.2 rfl; have C1 := Lib.hid (CLO.out w1 D1); have K1' := Lib.hid K1.1; clear hd K1 D1)
              | (go_at_call 61; refine C1.out.mono ?_; rintro e w2 ⟨rfl, hb⟩; have HB2 := Lib.hid (K1'.out.trans (hb.mono K1'.out.size)); clear hb))
            go_ret
            exact ⟨rfl, HB2.out⟩
          | false =>
            rw [hany] at CLO
            have hok := okUp_of HWD.out hn64 hany
            have HRR' : (orderAt l0_1.length (vN l0_1) (downN l0_1) && boundedB l0_1) = r := by
              rw [← HRR.out, rightB, hany, HNM.out, decide_eq_true h1, decide_eq_true H2.out]; rfl
            have HR2 := Lib.hid HRR'
            have HOK := Lib.hid hok
            clear hany hok HRR' HRR
            have ord : ∀ w1 : World, Below (w.alloc (.cells #[.slice A0_0 l0_0.length c0_0, .slice A0_1 l0_1.length c0_1] 25)).heap.size (w.alloc (.cells #[.slice A0_0 l0_0.length c0_0, .slice A0_1 l0_1.length c0_1] 25)) w1 →
                Calls Tryd.prog 52 #[.agg #[.slice A0_0 l0_0.length c0_0, .slice A0_1 l0_1.length c0_1]] w1 fun e w' => e = .returned (.bool (orderAt l0_1.length (vN l0_1) (downN l0_1))) ∧ Below w1.heap.size w1 w' := by
              intro w1 hb
              obtain ⟨q1, q2, q3, q4, q5⟩ := KEY.out w1 hb
              exact lat_Lat_order.calls A0_0 c0_0 l0_0 A0_1 c0_1 l0_1 _ w1 q2 hc0_0 q3 hc0_1 q4 (by rw [lat_Lat_order.f, if_pos HOK.out])
            have bnd : ∀ w1 : World, Below (w.alloc (.cells #[.slice A0_0 l0_0.length c0_0, .slice A0_1 l0_1.length c0_1] 25)).heap.size (w.alloc (.cells #[.slice A0_0 l0_0.length c0_0, .slice A0_1 l0_1.length c0_1] 25)) w1 →
                Calls Tryd.prog 53 #[.agg #[.slice A0_0 l0_0.length c0_0, .slice A0_1 l0_1.length c0_1]] w1 fun e w' => e = .returned (.bool (boundedB l0_1)) ∧ Below w1.heap.size w1 w' := by
              intro w1 hb
              obtain ⟨q1, q2, q3, q4, q5⟩ := KEY.out w1 hb
              exact lat_Lat_bounded.calls (l0_1.length * 66 + 1) A0_0 c0_0 l0_0 A0_1 c0_1 l0_1 _ w1 q2 hc0_0 q3 hc0_1 q4 (bounded_f HOK.out l0_0 _ (by omega))
            have ORD := Lib.hid ord
            have BND := Lib.hid bnd
            clear ord bnd
            cases ho : orderAt l0_1.length (vN l0_1) (downN l0_1) with
            | false =>
              rw [ho] at ORD
              obtain rfl : r = false := by rw [← HR2.out, ho, Bool.false_and]
              clear ho HR2
              go_enter Tryd.func20, Tryd.ntmps20
              go_wp2_with (first
                | (go_at_call 50; refine CN.out.mono ?_; rintro e w1 ⟨rfl, hd⟩; have D1 := hd.below; have K1 := KEY.out w1 D1; have k0 := cell_in (j := 0) K1.2.2.2.2 rfl; have k1 := cell_in (j := 1) K1.2.2.2.2 rfl; have C1 := Lib.hid (CLO.out w1 D1); have D1' := Lib.hid D1; clear hd K1 D1)
                | (go_at_call 61; refine C1.out.mono ?_; rintro e w2 ⟨rfl, hb⟩; have D2 := D1'.out.trans (hb.mono D1'.out.size); have K2 := KEY.out w2 D2; have m0 := cell_in (j := 0) K2.2.2.2.2 rfl; have m1 := cell_in (j := 1) K2.2.2.2.2 rfl; have C2 := Lib.hid (ORD.out w2 D2); have K2' := Lib.hid K2.1; clear hb D2 K2 k0 k1)
                | (go_at_call 52; refine C2.out.mono ?_; rintro e w3 ⟨rfl, hb⟩; have HB3 := Lib.hid (K2'.out.trans (hb.mono K2'.out.size)); clear hb))
              go_ret
              exact ⟨rfl, HB3.out⟩
            | true =>
              rw [ho] at ORD
              obtain rfl : boundedB l0_1 = r := by rw [← HR2.out, ho, Bool.true_and]
              clear ho HR2
              go_enter Tryd.func20, Tryd.ntmps20
              go_wp2_with (first
                | (go_at_call 50; refine CN.out.mono ?_; rintro e w1 ⟨rfl, hd⟩; have D1 := hd.below; have K1 := KEY.out w1 D1; have k0 := cell_in (j := 0) K1.2.2.2.2 rfl; have k1 := cell_in (j := 1) K1.2.2.2.2 rfl; have C1 := Lib.hid (CLO.out w1 D1); have D1' := Lib.hid D1; clear hd K1 D1)
                | (go_at_call 61; refine C1.out.mono ?_; rintro e w2 ⟨rfl, hb⟩; have D2 := D1'.out.trans (hb.mono D1'.out.size); have K2 := KEY.out w2 D2; have m0 := cell_in (j := 0) K2.2.2.2.2 rfl; have m1 := cell_in (j := 1) K2.2.2.2.2 rfl; have C2 := Lib.hid (ORD.out w2 D2); have D2' := Lib.hid D2; clear hb D2 K2 k0 k1)
                | (go_at_call 52; refine C2.out.mono ?_; rintro e w3 ⟨rfl, hb⟩; have D3 := D2'.out.trans (hb.mono D2'.out.size); have K3 := KEY.out w3 D3; have z0 := cell_in (j := 0) K3.2.2.2.2 rfl; have z1 := cell_in (j := 1) K3.2.2.2.2 rfl; have C3 := Lib.hid (BND.out w3 D3); have K3' := Lib.hid K3.1; clear hb D3 K3 m0 m1)
                | (go_at_call 53; refine C3.out.mono ?_; rintro e w4 ⟨rfl, hb⟩; have HB4 := Lib.hid (K3'.out.trans (hb.mono K3'.out.size)); clear hb))
              go_ret
              exact ⟨rfl, HB4.out⟩
      · have d2 : (((l0_1.length : Nat) : Int) != ((l0_0.length : Nat) : Int)) = true := by rw [bne_iff_ne]; omega
        obtain rfl : r = false := by rw [← hr, rightB, decide_eq_false h2, Bool.false_and, Bool.and_false]
        have HW := Lib.hid hW
        clear hW b0 hr hw hsz he59 hr0_0 hr0_1 hglb
        go_enter Tryd.func20, Tryd.ntmps20
        go_wp2
        go_ret
        exact ⟨rfl, HW.out⟩
    · obtain rfl : r = false := by rw [← hr, rightB, decide_eq_false h1]; rfl
      have d1 : decide (64 < (l0_0.length : Int)) = true := decide_eq_true (by omega)
      have d1' : decide (64 < l0_0.length) = true := decide_eq_true (by omega)
      have HW := Lib.hid hW
      clear hW b0 hr hw hsz he59 hr0_0 hr0_1 hglb
      go_enter Tryd.func20, Tryd.ntmps20
      go_wp2
      go_ret
      exact ⟨rfl, HW.out⟩
end Go.Proofs.YtjlpclcdbnfikaaDoor.P
