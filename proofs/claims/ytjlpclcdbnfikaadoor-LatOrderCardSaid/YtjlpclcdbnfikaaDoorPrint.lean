/- lat.Print: its contract. -/
import Derived.Test.YtjlpclcdbnfikaaDoorGiven2
namespace Go.Proofs.YtjlpclcdbnfikaaDoor.P
open Go.RowKit Go.Shelf Go.Sort
open Go.Proofs.YtjlpclcdbnfikaaDoorW.PrintWords Go.Proofs.YtjlpclcdbnfikaaDoorW.PrintLast Go.Proofs.YtjlpclcdbnfikaaDoorW.PrintMore

def bitC (x b : Nat) : ByteArray := if x.testBit b then ⟨#[49]⟩ else ⟨#[48]⟩
def rowA (x : Nat) (acc : ByteArray) : Nat → ByteArray
  | 0 => acc
  | b + 1 => rowA x acc b ++ bitC x b
def bodyA (l : List Int) (n : Nat) (head : ByteArray) : Nat → ByteArray
  | 0 => head
  | k + 1 => rowA (vN l k) (bodyA l n head k) n ++ ⟨#[10]⟩
theorem rowA_size (x : Nat) (acc : ByteArray) : ∀ b, (rowA x acc b).size = acc.size + b
  | 0 => rfl
  | b + 1 => by
    have : (bitC x b).size = 1 := by unfold bitC; split <;> rfl
    rw [rowA, ByteArray.size_append, rowA_size x acc b, this]; omega
theorem bodyA_size (l : List Int) (n : Nat) (head : ByteArray) : ∀ k, (bodyA l n head k).size = head.size + k * (n + 1)
  | 0 => by simp [bodyA]
  | k + 1 => by
    rw [bodyA, ByteArray.size_append, rowA_size, bodyA_size l n head k, Nat.succ_mul]
    show _ + _ + _ + 1 = _
    omega
def joinS (l : List ByteArray) : ByteArray := ⟨(Lib.join (l.map (·.data.toList)) [32]).toArray⟩
def printB (l0 : List ByteArray) (l1 : List Int) : ByteArray := bodyA l1 l1.length (joinS l0 ++ ⟨#[10]⟩) l1.length
def lat_Print.f (l0 : List ByteArray) (l1 : List Int) : Option ByteArray := (lat_Right.f l0 l1).bind fun t => if t then some (printB l0 l1) else some ⟨#[]⟩

theorem bitC_size (x b : Nat) : (bitC x b).size = 1 := by unfold bitC; split <;> rfl
theorem bitC_val (x b : Nat) (hx : x < 18446744073709551616) : Utf8.encode (wrap32 (IntKind.u64.wrap (48 + bits .and .u64 ((x : Int) / 2 ^ b) 1))) = bitC x b := by
  have e : (x : Int) / 2 ^ b = ((x / 2 ^ b : Nat) : Int) := by simp
  have hq : x / 2 ^ b < 18446744073709551616 := Nat.lt_of_le_of_lt (Nat.div_le_self _ _) hx
  rw [e, show (1 : Int) = ((1 : Nat) : Int) from rfl, bits_and_u64_nat _ 1 hq (by omega), ← Nat.shiftRight_eq_div_pow]
  have h1 : x >>> b &&& 1 = (x.testBit b).toNat := by
    rw [Nat.testBit, Nat.and_comm]
    have : 1 &&& x >>> b = 0 ∨ 1 &&& x >>> b = 1 := by
      have := Nat.and_le_left (n := 1) (m := x >>> b)
      omega
    rcases this with h | h <;> rw [h] <;> rfl
  rw [h1]
  unfold bitC
  cases x.testBit b
  · rw [show wrap32 (IntKind.u64.wrap (48 + ((false.toNat : Nat) : Int))) = 48 by decide +kernel, if_neg (by simp)]
    decide +kernel
  · rw [show wrap32 (IntKind.u64.wrap (48 + ((true.toNat : Nat) : Int))) = 49 by decide +kernel, if_pos rfl]
    decide +kernel

set_option maxHeartbeats 2000000 in
theorem print_walk (A0_0 : Option Addr) (c0_0 : Nat) (l0_0 : List ByteArray) (A0_1 : Option Addr) (c0_1 : Nat) (l0_1 : List Int) (w : World) (hr0_1 : Kd.C (Kd.int .u64) w A0_1 l0_1.length l0_1)
    (hok : okUp l0_1 = true) (J : ByteArray) (hJ : J.size ≤ 2000)
    (CR : ∀ W, Below w.heap.size w W → Calls Tryd.prog 20 #[.agg #[.slice A0_0 l0_0.length c0_0, .slice A0_1 l0_1.length c0_1]] W fun e w' => e = .returned (.bool true) ∧ Below W.heap.size W w')
    (CJ : ∀ W, Below w.heap.size w W → Calls Tryd.prog 74 #[.slice A0_0 l0_0.length c0_0, .string ⟨#[32]⟩] W fun e w' => e = .returned (.string J) ∧ Below W.heap.size W w') :
    Calls Tryd.prog 36 #[.agg #[.slice A0_0 l0_0.length c0_0, .slice A0_1 l0_1.length c0_1]] w fun e w' => e = .returned (.string (bodyA l0_1 l0_1.length (J ++ ⟨#[10]⟩) l0_1.length)) ∧ Below w.heap.size w w' := by
  have hW : Below w.heap.size w (w.alloc (.cells #[.slice A0_0 l0_0.length c0_0, .slice A0_1 l0_1.length c0_1] 25)) := (Below.refl _ w).alloc (Nat.le_refl _) _
  have b0 : (w.alloc (.cells #[.slice A0_0 l0_0.length c0_0, .slice A0_1 l0_1.length c0_1] 25)).heap[w.heap.size]? = some (.cells #[.slice A0_0 l0_0.length c0_0, .slice A0_1 l0_1.length c0_1] 25 (0, 0)) := block_new _ rfl
  have HR1 := Lib.hid hr0_1
  have HOK := Lib.hid hok
  have HCR := Lib.hid (CR _ hW)
  have HCJ := Lib.hid CJ
  have HW := Lib.hid hW
  have B0 := Lib.hid b0
  have hn := (okUp_spec hok).1
  have hread := P.readU hr0_1
  have HRD := Lib.hid hread
  clear hread
  have hval := (okUp_spec hok).2
  have HV := Lib.hid hval
  clear hval
  generalize l0_1.length = n at *
  clear hW b0 hr0_1 hok CR CJ
  go_enter Tryd.func36, Tryd.ntmps36
  go_wp2_with (first
    | (go_at_call 20; refine HCR.out.mono ?_; rintro e w1 ⟨rfl, hb⟩; have g0 := (hb.block _ (by simp)).trans B0.out; have k0 := cell_in (j := 0) g0 rfl; have k1 := cell_in (j := 1) g0 rfl; have G0 := Lib.hid g0; have D1 := Lib.hid (HW.out.trans (hb.mono HW.out.size)); clear hb g0)
    | (go_at_call 74; refine (HCJ.out _ D1.out).mono ?_; rintro e w2 ⟨rfl, hb⟩; have g0 := (hb.block _ (block_lt G0.out)).trans G0.out; have m0 := cell_in (j := 0) g0 rfl; have m1 := cell_in (j := 1) g0 rfl; have D2 := Lib.hid (D1.out.trans (hb.mono D1.out.size)); clear hb g0 k0 k1))
  go_loop [3, 17] (fun s i => ∃ k : Nat, k ≤ n ∧ s = .string (bodyA l0_1 n (J ++ ⟨#[10]⟩) k) ∧ i = .int .i64 k) (fun _ i => n - (intOf i).toNat)
  case atStart => exact ⟨0, by omega, rfl, rfl⟩
  case round =>
    obtain ⟨k, hk, rfl, rfl⟩ := hrel
    by_cases hkn : k < n
    · obtain ⟨ad, rfl, hc⟩ := HRD.out k hkn
      obtain ⟨v1, v2, v3, v4⟩ := HV.out k hkn
      have hcell : w2.cell? (ad.add k) = some (.int .u64 (vN l0_1 k : Nat)) := by rw [← v1]; exact (D2.out.cell (block_lt_of_cell hc)).trans hc
      clear hc v1 v2 v4
      have hsz : (bodyA l0_1 n (J ++ ⟨#[10]⟩) k).size ≤ 2001 + 64 * 65 := by
        rw [bodyA_size, ByteArray.size_append]
        have : k * (n + 1) ≤ 64 * 65 := Nat.mul_le_mul (by omega) (by omega)
        have e : (⟨#[10]⟩ : ByteArray).size = 1 := rfl
        omega
      generalize hacc : bodyA l0_1 n (J ++ ⟨#[10]⟩) k = acc at *
      have HACC := Lib.hid hacc
      clear hacc
      generalize hx : vN l0_1 k = x at *
      have HX := Lib.hid hx
      clear hx
      go_wp2
      go_loop [3, 24] (fun s i => ∃ b : Nat, b ≤ n ∧ s = .string (rowA x acc b) ∧ i = .int .i64 b) (fun _ i => n - (intOf i).toNat)
      case atStart => exact ⟨0, by omega, rfl, rfl⟩
      case round =>
        obtain ⟨b, hb, rfl, rfl⟩ := hrel
        by_cases hbn : b < n
        · have hsz2 : (rowA x acc b).size ≤ 2001 + 64 * 65 + 64 := by rw [rowA_size]; omega
          generalize hr : rowA x acc b = s at *
          have HRW := Lib.hid hr
          clear hr
          have hch := bitC_val x b v3
          have hcs := bitC_size x b
          generalize hcc : bitC x b = c at *
          have HC := Lib.hid hcc
          clear hcc
          go_wp2
          go_round
          case rel => exact ⟨b + 1, by omega, by rw [rowA, HRW.out, HC.out], by go_num⟩
          case measure => simp [intOf]; omega
        · have HE := Lib.hid (show b = n by omega)
          have hsz2 : (rowA x acc b).size ≤ 2001 + 64 * 65 + 64 := by rw [rowA_size]; omega
          generalize hr : rowA x acc b = s at *
          have HRW := Lib.hid hr
          clear hr
          go_wp2
          go_round
          case rel => exact ⟨k + 1, by omega, by rw [bodyA, HACC.out, HX.out, ← HE.out, HRW.out], by go_num⟩
          case measure => simp [intOf]; omega
    · have HE := Lib.hid (show k = n by omega)
      go_wp2
      go_ret
      exact ⟨by rw [HE.out]; rfl, D2.out⟩

theorem lens_le (l : List ByteArray) (h : ∀ s ∈ l, s.size ≤ 16) : Lib.lens (l.map (·.data.toList)) ≤ 16 * l.length := by
  induction l with
  | nil => simp [Lib.lens]
  | cons x r ih =>
    have h1 := h x (by simp)
    have h2 := ih (fun s hs => h s (by simp [hs]))
    have e : x.data.toList.length = x.size := by simp
    simp only [Lib.lens, List.map_cons, List.sum_cons, List.length_cons] at h2 ⊢
    omega
theorem joinS_size (l : List ByteArray) (hl : l.length ≤ 64) (h : ∀ s ∈ l, s.size ≤ 16) : (joinS l).size ≤ 2000 := by
  have e : (joinS l).size = (Lib.join (l.map (·.data.toList)) [32]).length := by simp [joinS, ByteArray.size]
  rw [e]
  cases l with
  | nil => simp [Lib.join_nil]
  | cons x r =>
    rw [List.map_cons, Lib.join_length, List.length_map]
    have := lens_le (x :: r) h
    rw [List.map_cons] at this
    simp only [List.length_cons, List.length_nil] at *
    omega
theorem named_size {l : List ByteArray} (h : namedB l = true) : ∀ s ∈ l, s.size ≤ 16 := by
  intro s hs
  obtain ⟨k, hk, rfl⟩ := List.mem_iff_getElem.1 hs
  simp only [namedB, Bool.and_eq_true, List.all_eq_true, namedAt] at h
  have := (h.1 k (by simp [hk])).1
  rw [List.getD_eq_getElem?_getD, List.getElem?_eq_getElem hk] at this
  simp only [Option.getD_some, nameB, Bool.and_eq_true, decide_eq_true_eq] at this
  exact this.2.2
theorem right_spec {l0 : List ByteArray} {l1 : List Int} (h : lat_Right.f l0 l1 = some true) :
    okUp l1 = true ∧ l0.length ≤ 64 ∧ l1.length = l0.length ∧ namedB l0 = true ∧ orderAt l1.length (vN l1) (downN l1) = true ∧ boundedB l1 = true ∧ (∀ s ∈ l0, s.size ≤ 16) ∧ 0 < l0.length := by
  unfold lat_Right.f at h
  split at h
  case isFalse => cases h
  case isTrue hh =>
    have hr := Option.some.inj h
    simp only [rightB, Bool.and_eq_true, decide_eq_true_eq, Bool.not_eq_true'] at hr
    obtain ⟨h1, h2, h3, h4, h5, h6⟩ := hr
    have h3' := h3
    simp only [namedB, Bool.and_eq_true, decide_eq_true_eq] at h3'
    exact ⟨okUp_of hh.1 (by omega) h4, h1, h2, h3, h5, h6, named_size h3, h3'.2⟩

set_option maxHeartbeats 1000000 in
theorem lat_Print.calls (A0_0 : Option Addr) (c0_0 : Nat) (l0_0 : List ByteArray) (A0_1 : Option Addr) (c0_1 : Nat) (l0_1 : List Int) (r : ByteArray) (w : World) (hr0_0 : Kd.C Kd.string w A0_0 l0_0.length l0_0) (hc0_0 : l0_0.length ≤ c0_0) (hr0_1 : Kd.C (Kd.int .u64) w A0_1 l0_1.length l0_1) (hc0_1 : l0_1.length ≤ c0_1)
    (hglb : Glb w) (h : lat_Print.f l0_0 l0_1 = some r) :
    Calls Tryd.prog 36 #[.agg #[.slice A0_0 l0_0.length c0_0, .slice A0_1 l0_1.length c0_1]] w fun e w' => e = .returned (.string r) ∧ Below w.heap.size w w' := by
  obtain ⟨t, ht, h⟩ := Option.bind_eq_some_iff.1 h
  have CR := fun W (hW : Below w.heap.size w W) => lat_Right.calls A0_0 c0_0 l0_0 A0_1 c0_1 l0_1 t W (Kd.C_below hr0_0 hW) hc0_0 (Kd.C_below hr0_1 hW) hc0_1 (hglb.past hW) ht
  cases t with
  | false =>
    obtain rfl : ⟨#[]⟩ = r := by simpa using h
    have hW : Below w.heap.size w (w.alloc (.cells #[.slice A0_0 l0_0.length c0_0, .slice A0_1 l0_1.length c0_1] 25)) := (Below.refl _ w).alloc (Nat.le_refl _) _
    have HC := Lib.hid (CR _ hW)
    have HW := Lib.hid hW
    clear h ht CR hW hr0_0 hr0_1 hglb
    go_enter Tryd.func36, Tryd.ntmps36
    go_wp2_with (go_at_call 20; refine HC.out.mono ?_; rintro e w' ⟨rfl, hb⟩; have HB := Lib.hid (HW.out.trans (hb.mono HW.out.size)); clear hb)
    go_ret
    exact ⟨rfl, HB.out⟩
  | true =>
    obtain rfl : printB l0_0 l0_1 = r := by simpa using h
    obtain ⟨s1, s2, s3, s4, s5, s6, s7, s8⟩ := right_spec ht
    have hJ := joinS_size l0_0 s2 s7
    refine print_walk A0_0 c0_0 l0_0 A0_1 c0_1 l0_1 w hr0_1 s1 (joinS l0_0) hJ CR fun W hW => ?_
    refine strings_Join.calls A0_0 c0_0 l0_0 ⟨#[32]⟩ (joinS l0_0) W (Kd.C_below hr0_0 hW) hc0_0 ?_
    have e : (joinS l0_0).size = (Lib.join (l0_0.map (·.data.toList)) [32]).length := by simp [joinS, ByteArray.size]
    rw [strings_Join.f, if_pos ⟨by omega, by show (Lib.join (l0_0.map (·.data.toList)) [32]).length ≤ _; omega⟩]
    rfl
end Go.Proofs.YtjlpclcdbnfikaaDoor.P
