/- math/bits.OnesCount64 walked; lat.Top: its contract. -/
import Derived.Test.YtjlpclcdbnfikaaDoorOnes
import Derived.Test.YtjlpclcdbnfikaaDoorGiven2
namespace Go.Proofs.YtjlpclcdbnfikaaDoor
open Go.RowKit Go.Shelf Go.Sort

theorem bits_and_i64_nat (a b : Nat) (ha : a < 9223372036854775808) (hb : b < 9223372036854775808) : bits .and .i64 (a : Int) (b : Int) = ((a &&& b : Nat) : Int) := by
  have hx : a &&& b ≤ a := Nat.and_le_left
  have h1 : (BitVec.ofInt 64 (a : Int)).toNat = a := by
    rw [BitVec.ofInt_natCast, BitVec.toNat_ofNat]; exact Nat.mod_eq_of_lt (by omega)
  have h2 : (BitVec.ofInt 64 (b : Int)).toNat = b := by
    rw [BitVec.ofInt_natCast, BitVec.toNat_ofNat]; exact Nat.mod_eq_of_lt (by omega)
  show IntKind.i64.wrap ((BitVec.ofInt 64 (a : Int) &&& BitVec.ofInt 64 (b : Int)).toNat : Int) = _
  rw [BitVec.toNat_and, h1, h2, IntKind.wrap_i64]
  omega

set_option maxHeartbeats 1000000 in
theorem ones_walk (x a1 b1 y1 a2 b2 y2 t3 y3 y4 y5 y6 r : Nat) (w : World)
    (e1 : bits .and .u64 ((x : Int) / 2) 6148914691236517205 = (a1 : Nat)) (e2 : bits .and .u64 (x : Int) 6148914691236517205 = (b1 : Nat)) (e3 : IntKind.u64.wrap ((a1 : Int) + (b1 : Int)) = (y1 : Nat))
    (e4 : bits .and .u64 ((y1 : Int) / 4) 3689348814741910323 = (a2 : Nat)) (e5 : bits .and .u64 (y1 : Int) 3689348814741910323 = (b2 : Nat)) (e6 : IntKind.u64.wrap ((a2 : Int) + (b2 : Int)) = (y2 : Nat))
    (e7 : IntKind.u64.wrap ((y2 : Int) / 16 + (y2 : Int)) = (t3 : Nat)) (e8 : bits .and .u64 (t3 : Int) 1085102592571150095 = (y3 : Nat))
    (e9 : IntKind.u64.wrap ((y3 : Int) + (y3 : Int) / 256) = (y4 : Nat)) (e10 : IntKind.u64.wrap ((y4 : Int) + (y4 : Int) / 65536) = (y5 : Nat)) (e11 : IntKind.u64.wrap ((y5 : Int) + (y5 : Int) / 4294967296) = (y6 : Nat))
    (e12 : bits .and .i64 (wrap64 (y6 : Int)) 127 = (r : Nat)) :
    Calls Tryd.prog 73 #[.int .u64 (x : Nat)] w fun e w' => e = .returned (.int .i64 (r : Nat)) ∧ w' = w := by
  go_enter Tryd.func73, Tryd.ntmps73
  go_wp2
  go_ret
  exact ⟨rfl, rfl⟩
theorem ones_calls (x : Nat) (hx : x < 18446744073709551616) (w : World) :
    Calls Tryd.prog 73 #[.int .u64 (x : Nat)] w fun e w' => e = .returned (.int .i64 (ones 8 x : Nat)) ∧ w' = w := by
  have m1 : rep 85 8 = 6148914691236517205 := rfl
  have m2 : rep 51 8 = 3689348814741910323 := rfl
  have m3 : rep 15 8 = 1085102592571150095 := rfl
  obtain ⟨y1, h1⟩ : ∃ y, y = s1 8 x := ⟨_, rfl⟩
  obtain ⟨y2, h2⟩ : ∃ y, y = s2 8 y1 := ⟨_, rfl⟩
  obtain ⟨y3, h3⟩ : ∃ y, y = s3 8 y2 := ⟨_, rfl⟩
  have hd : y3 = digs 8 x := by rw [h3, h2, h1]; exact fold3_digs 8 x
  obtain ⟨z1, z2⟩ := ones_digs x y3 _ _ hd rfl rfl
  rw [s1, m1] at h1
  rw [s2, m2] at h2
  rw [s3, m3] at h3
  have u1 : x / 2 &&& 6148914691236517205 ≤ 6148914691236517205 := Nat.and_le_right
  have u2 : x &&& 6148914691236517205 ≤ 6148914691236517205 := Nat.and_le_right
  have u3 : y1 / 4 &&& 3689348814741910323 ≤ 3689348814741910323 := Nat.and_le_right
  have u4 : y1 &&& 3689348814741910323 ≤ 3689348814741910323 := Nat.and_le_right
  have u5 : y3 ≤ 1085102592571150095 := by rw [h3]; exact Nat.and_le_right
  rw [← z1]
  refine ones_walk x _ _ y1 _ _ y2 (y2 / 16 + y2) y3 (y3 + y3 / 256) (y3 + y3 / 256 + (y3 + y3 / 256) / 65536) _ _ w (bits_and_u64_nat (x / 2) 6148914691236517205 (by omega) (by omega)) (bits_and_u64_nat x 6148914691236517205 hx (by omega)) ?_
    (bits_and_u64_nat (y1 / 4) 3689348814741910323 (by omega) (by omega)) (bits_and_u64_nat y1 3689348814741910323 (by omega) (by omega)) ?_ ?_ ?_ ?_ ?_ (?_ : _ = (((y3 + y3 / 256 + (y3 + y3 / 256) / 65536) + (y3 + y3 / 256 + (y3 + y3 / 256) / 65536) / 4294967296 : Nat) : Int)) ?_
  · rw [IntKind.wrap_u64]; omega
  · rw [IntKind.wrap_u64]; omega
  · rw [IntKind.wrap_u64]; omega
  · rw [h3]; exact bits_and_u64_nat (y2 / 16 + y2) 1085102592571150095 (by omega) (by omega)
  · rw [IntKind.wrap_u64]; omega
  · rw [IntKind.wrap_u64]; omega
  · rw [IntKind.wrap_u64]; omega
  · generalize y3 + y3 / 256 + (y3 + y3 / 256) / 65536 = y at *
    have e : wrap64 ((y + y / 4294967296 : Nat) : Int) = ((y + y / 4294967296 : Nat) : Int) := by unfold wrap64; omega
    rw [e, show (127 : Int) = ((127 : Nat) : Int) from rfl, bits_and_i64_nat _ 127 z2 (by omega), Nat.and_two_pow_sub_one_eq_mod _ 7]

namespace P
open Go.Proofs.YtjlpclcdbnfikaaDoorW.PrintWords Go.Proofs.YtjlpclcdbnfikaaDoorW.PrintLast Go.Proofs.YtjlpclcdbnfikaaDoorW.PrintMore
/-- Is it a set of one point? -/
def lone (x : Int) : Bool := decide (ones 8 x.toNat = 1)
theorem lone_calls (x : Int) (h0 : 0 ≤ x) (h1 : x.toNat < 18446744073709551616) (W : World) :
    Calls Tryd.prog 72 #[.int .u64 x] W fun e W' => e = .returned (.bool (lone x)) ∧ Below W.heap.size W W' := by
  obtain ⟨y, rfl⟩ : ∃ y : Nat, x = y := ⟨x.toNat, by omega⟩
  have C := Lib.hid (ones_calls y h1 W)
  have hv : (((ones 8 y : Nat) : Int) == 1) = lone (y : Nat) := by
    rw [lone, show ((y : Int)).toNat = y from rfl]
    generalize ones 8 y = o
    by_cases h : o = 1
    · subst h; rfl
    · rw [decide_eq_false h, beq_eq_false_iff_ne]; omega
  generalize lone (y : Nat) = r at *
  generalize ones 8 y = o at *
  go_enter Tryd.func72, Tryd.ntmps72
  go_wp2_with (go_at_call 73; refine C.out.mono ?_; rintro e w' ⟨rfl, rfl⟩)
  go_ret
  exact ⟨rfl, Below.refl _ _⟩

def topV (l : List Int) : Int := idxOf lone l
def lat_Top.f (l0 : List ByteArray) (l1 : List Int) : Option Int := (lat_Right.f l0 l1).bind fun t => if t then some (topV l1) else some (-1)
set_option maxHeartbeats 1000000 in
theorem lat_Top.calls (A0_0 : Option Addr) (c0_0 : Nat) (l0_0 : List ByteArray) (A0_1 : Option Addr) (c0_1 : Nat) (l0_1 : List Int) (r : Int) (w : World) (hr0_0 : Kd.C Kd.string w A0_0 l0_0.length l0_0) (hc0_0 : l0_0.length ≤ c0_0) (hr0_1 : Kd.C (Kd.int .u64) w A0_1 l0_1.length l0_1) (hc0_1 : l0_1.length ≤ c0_1)
    (hglb : Glb w) (h : lat_Top.f l0_0 l0_1 = some r) :
    Calls Tryd.prog 34 #[.agg #[.slice A0_0 l0_0.length c0_0, .slice A0_1 l0_1.length c0_1]] w fun e w' => e = .returned (.int .i64 r) ∧ Below w.heap.size w w' := by
  have hW : Below w.heap.size w (w.alloc (.cells #[.slice A0_0 l0_0.length c0_0, .slice A0_1 l0_1.length c0_1] 25)) := (Below.refl _ w).alloc (Nat.le_refl _) _
  have b0 : (w.alloc (.cells #[.slice A0_0 l0_0.length c0_0, .slice A0_1 l0_1.length c0_1] 25)).heap[w.heap.size]? = some (.cells #[.slice A0_0 l0_0.length c0_0, .slice A0_1 l0_1.length c0_1] 25 (0, 0)) := block_new _ rfl
  obtain ⟨t, ht, h⟩ := Option.bind_eq_some_iff.1 h
  have CR := Lib.hid (lat_Right.calls A0_0 c0_0 l0_0 A0_1 c0_1 l0_1 t _ (Kd.C_below hr0_0 hW) hc0_0 (Kd.C_below hr0_1 hW) hc0_1 (hglb.past hW) ht)
  have hw : ∀ x ∈ l0_1, 0 ≤ x ∧ x.toNat < 18446744073709551616 := by
    unfold lat_Right.f at ht
    split at ht
    case isTrue hh => exact words_spec hh.1
    case isFalse => cases ht
  have HW := Lib.hid hW
  have B0 := Lib.hid b0
  have HR1 := Lib.hid hr0_1
  have HWD := Lib.hid hw
  clear hW b0 hr0_0 hr0_1 hw hglb ht
  cases t with
  | false =>
    obtain rfl : -1 = r := by simpa using h
    clear h
    go_enter Tryd.func34, Tryd.ntmps34
    go_wp2_with (go_at_call 20; refine CR.out.mono ?_; rintro e w' ⟨rfl, hb⟩; have HB := Lib.hid (HW.out.trans (hb.mono HW.out.size)); clear hb)
    go_ret
    exact ⟨rfl, HB.out⟩
  | true =>
    obtain rfl : topV l0_1 = r := by simpa using h
    clear h
    have he72 : ∀ args w, (callFunc 72 args).run Tryd.prog w = .ok (.enter 72 args) w := enters_of Tryd.func72 (by kernel_rfl) rfl
    have clo : ∀ w1 : World, Below w.heap.size w w1 → Calls Tryd.prog 71 #[.slice A0_1 l0_1.length c0_1, .func (.func 72) #[] #[]] w1 fun e w' => e = .returned (.int .i64 (topV l0_1)) ∧ Below w1.heap.size w1 w' := by
      intro w1 hb
      exact indexFunc_calls 72 he72 #[] lone A0_1 l0_1 c0_1 w1 (Kd.C_below HR1.out hb) fun W hW x hx => by
        obtain ⟨x0, x1⟩ := HWD.out x hx
        exact lone_calls x x0 x1 W
    have CLO := Lib.hid clo
    clear clo he72
    go_enter Tryd.func34, Tryd.ntmps34
    go_wp2_with (first
      | (go_at_call 20; refine CR.out.mono ?_; rintro e w1 ⟨rfl, hb⟩; have g0 := (hb.block _ (by simp)).trans B0.out; have k0 := cell_in (j := 0) g0 rfl; have k1 := cell_in (j := 1) g0 rfl; have D1 := Lib.hid (HW.out.trans (hb.mono HW.out.size)); clear hb g0)
      | (go_at_call 71; refine (CLO.out _ D1.out).mono ?_; rintro e w2 ⟨rfl, hb⟩; have HB := Lib.hid (D1.out.trans (hb.mono D1.out.size)); clear hb))
    go_ret
    exact ⟨rfl, HB.out⟩
end P
end Go.Proofs.YtjlpclcdbnfikaaDoor
