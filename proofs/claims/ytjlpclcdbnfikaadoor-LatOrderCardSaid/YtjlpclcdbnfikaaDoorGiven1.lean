/- Contracts that the printed texts ask for: strings.Split, strings.Join, lat.order, lat.join, lat.meet. -/
import Derived.Test.YtjlpclcdbnfikaaDoorShelf
import Derived.Test.YtjlpclcdbnfikaaDoorDown
import Derived.Test.YtjlpclcdbnfikaaDoorJoin
import Derived.Test.YtjlpclcdbnfikaaDoorMeet
import Derived.Test.YtjlpclcdbnfikaaDoorOrdered
namespace Go.Proofs.YtjlpclcdbnfikaaDoor.P
open Go.RowKit Go.Shelf Go.Sort
open Go.Proofs.YtjlpclcdbnfikaaDoorW.PrintWords Go.Proofs.YtjlpclcdbnfikaaDoorW.PrintLast Go.Proofs.YtjlpclcdbnfikaaDoorW.PrintMore

def strings_Split.f (s sep : ByteArray) : Option (List ByteArray) := if s.size < 4294967281 ∧ 1 ≤ sep.size then some (Lib.splitB sep 0 (Lib.countB s sep) s) else none
theorem strings_Split.calls (s sep : ByteArray) (r : List ByteArray) (w : World) (hglb : Glb w) (h : strings_Split.f s sep = some r) :
    Calls Tryd.prog 49 #[.string s, .string sep] w fun e w' => ∃ v0_ : Value, e = .returned v0_ ∧ Kd.R Kd.string 9 w' w.heap.size (fun _ => True) v0_ r ∧ Below w.heap.size w w' := by
  unfold strings_Split.f at h
  split at h
  case isFalse => cases h
  case isTrue hs =>
    obtain ⟨hs, h1⟩ := hs
    obtain rfl := Option.some.inj h
    obtain ⟨m, hm⟩ := hglb.max
    have hle := Lib.countB_le sep h1 s.size s (Nat.le_refl _)
    have hlen := Lib.splitB_all sep h1 0 _ s rfl
    refine (Tryd.strings_Split s sep m w hs hm h1).mono ?_
    rintro e w' ⟨rfl, rfl⟩
    refine ⟨_, rfl, Kd.R_of_own ?_ (fun _ _ => trivial), (Below.refl _ w).alloc (Nat.le_refl _) _⟩
    rw [hlen]
    refine ⟨by rw [encs_length, hlen]; omega, .inr ⟨w.heap.size, _, _, rfl, Nat.le_refl _, World.alloc_heap_new _ _, Nat.le_refl _, by simp only [maxLen]; omega, by simp [hlen], ?_⟩⟩
    rw [List.take_of_length_le (by simp [hlen])]
    rfl

def strings_Join.f (l : List ByteArray) (sep : ByteArray) : Option ByteArray := if l.length ≤ 140737488355328 ∧ (Lib.join (l.map (·.data.toList)) sep.data.toList).length ≤ 140737488355328 then some ⟨(Lib.join (l.map (·.data.toList)) sep.data.toList).toArray⟩ else none
theorem strings_Join.calls (A0 : Option Addr) (c0 : Nat) (l0 : List ByteArray) (sep r : ByteArray) (w : World) (hr0 : Kd.C Kd.string w A0 l0.length l0) (hc0 : l0.length ≤ c0) (h : strings_Join.f l0 sep = some r) :
    Calls Tryd.prog 74 #[.slice A0 l0.length c0, .string sep] w fun e w' => e = .returned (.string r) ∧ Below w.heap.size w w' := by
  unfold strings_Join.f at h
  split at h
  case isFalse => cases h
  case isTrue hs =>
    obtain ⟨hN, hlen⟩ := hs
    obtain rfl := Option.some.inj h
    rcases Nat.eq_zero_or_pos l0.length with h0 | h0
    · obtain rfl := List.length_eq_zero_iff.1 h0
      exact (Tryd.strings_Join_none A0 c0 sep w).mono fun e w' ⟨he, hw⟩ => ⟨he, hw ▸ Below.refl _ _⟩
    · obtain ⟨ad, rfl, hcells⟩ := hr0.2.2 h0
      have hc : ∀ (j : Nat) x, l0[j]? = some x → w.cell? (ad.add j) = some (.string x) := by
        intro j x hj
        obtain ⟨c, _, rfl, hcl⟩ := hcells j x hj
        have := hcl 0 _ rfl
        simpa [Kd.string, Kd.scalar] using this
      obtain ⟨bk, o, sp⟩ := ad
      have h00 := hc 0 _ (List.getElem?_eq_getElem h0)
      have hb := block_lt_of_cell h00
      have hsp : sp = none := by
        cases sp with
        | none => rfl
        | some q =>
          exfalso
          simp only [World.cell?, Addr.add] at h00
          split at h00 <;> simp at h00
      subst hsp
      exact Tryd.strings_Join bk o c0 l0 sep w (fun j x hj => by
        have := hc j x hj
        by_cases h : j = 0
        · subst h; simpa [Addr.add] using this
        · simpa [Addr.add, h] using this) hb hN hc0 hlen

/-- A part of a row of the call's own, read again. -/
theorem mid_again {w : World} {base e lo hi c : Nat} {ok : Nat → Prop} {A A' : Option Addr} {l y : List ByteArray} (hR : Kd.R Kd.string e w base ok (.slice A l.length c) l) (hy : y = (l.take hi).drop lo)
    (hA : A' = if c = lo then A else A.map (·.add (lo * 1))) (hlo : lo ≤ hi) (hhi : hi ≤ l.length) : Kd.C Kd.string w A' y.length y := by
  obtain ⟨_, hc, hC⟩ := Kd.R_reads' hR
  subst hy hA
  exact Kd.C_mid hC hlo hhi hc
theorem readU {w : World} {A : Option Addr} {l : List Int} (h : Kd.C (Kd.int .u64) w A l.length l) (i : Nat) (hi : i < l.length) : ∃ ad, A = some ad ∧ w.cell? (ad.add i) = some (.int .u64 (rd l (i : Nat))) := by
  obtain ⟨ad, c, hA, _, rfl, hcl⟩ := ReadsRow.get_ h 0 (i : Nat) (by omega) (by omega)
  refine ⟨ad, hA, ?_⟩
  have := hcl 0 _ rfl
  simpa [Kd.int, Kd.scalar, YtjlpclcdbnfikaaDoorW.PrintWords.rd] using this
theorem down_given {A0_0 : Option Addr} {c0_0 : Nat} {l0_0 : List ByteArray} {A0_1 : Option Addr} {c0_1 : Nat} {l0_1 : List Int} (w : World) (hr0_0 : Kd.C Kd.string w A0_0 l0_0.length l0_0) (hc0_0 : l0_0.length ≤ c0_0) (hr0_1 : Kd.C (Kd.int .u64) w A0_1 l0_1.length l0_1) (hc0_1 : l0_1.length ≤ c0_1)
    (ho : okUp l0_1 = true) (i : Nat) (hi : i < l0_1.length) (W : World) (hW : Below w.heap.size w W) :
    Calls Tryd.prog 92 #[.agg #[.slice A0_0 l0_0.length c0_0, .slice A0_1 l0_1.length c0_1], .int .i64 (i : Nat)] W fun e W'' => e = .returned (.int .u64 (downN l0_1 i : Nat)) ∧ Below W.heap.size W W'' :=
  lat_Lat_down.calls _ A0_0 c0_0 l0_0 A0_1 c0_1 l0_1 (i : Nat) _ W (Kd.C_below hr0_0 hW) hc0_0 (Kd.C_below hr0_1 hW) hc0_1 (down_f ho l0_0 i (by have := (okUp_spec ho).1; omega))
theorem downN_le {l : List Int} (ho : okUp l = true) (i : Nat) : downN l i < 18446744073709551616 :=
  Nat.lt_of_lt_of_le (downN_lt l i) (Nat.pow_le_pow_right (by omega) (okUp_spec ho).1)
theorem downN_bits {l : List Int} (a b j : Nat) (hj : j ∈ bitsOf (downN l a &&& downN l b)) : j < l.length := by
  have := ((mem_bitsOf _ _).1 hj).2
  rw [Nat.testBit_and, downN_testBit] at this
  simp at this
  omega

def lat_Lat_order.f (_l0 : List ByteArray) (l1 : List Int) : Option Bool := if okUp l1 then some (orderAt l1.length (vN l1) (downN l1)) else none
theorem lat_Lat_order.calls (A0_0 : Option Addr) (c0_0 : Nat) (l0_0 : List ByteArray) (A0_1 : Option Addr) (c0_1 : Nat) (l0_1 : List Int) (r : Bool) (w : World) (hr0_0 : Kd.C Kd.string w A0_0 l0_0.length l0_0) (hc0_0 : l0_0.length ≤ c0_0) (hr0_1 : Kd.C (Kd.int .u64) w A0_1 l0_1.length l0_1) (hc0_1 : l0_1.length ≤ c0_1)
    (hglb : Glb w) (h : lat_Lat_order.f l0_0 l0_1 = some r) :
    Calls Tryd.prog 52 #[.agg #[.slice A0_0 l0_0.length c0_0, .slice A0_1 l0_1.length c0_1]] w fun e w' => e = .returned (.bool r) ∧ Below w.heap.size w w' := by
  unfold lat_Lat_order.f at h
  split at h
  case isFalse => cases h
  case isTrue ho =>
    obtain rfl := Option.some.inj h
    obtain ⟨hl, hall⟩ := okUp_spec ho
    refine order_core _ A0_1 l0_1.length c0_1 (vN l0_1) (downN l0_1) w hglb hl (fun i hi => ?_) (fun i hi => ⟨downN_le ho i, fun W hW => down_given w hr0_0 hc0_0 hr0_1 hc0_1 ho i hi W hW⟩)
    obtain ⟨h1, h2, h3, h4⟩ := hall i hi
    obtain ⟨ad, hA, hc⟩ := readU hr0_1 i hi
    exact ⟨h3, h4, ad, hA, by rw [hc, h1]⟩

/-- The join as its loop finds it; the meet so, too. -/
def joinAt (l : List Int) (a b : Nat) : Int := firstOf (fun c => (vN l a &&& vN l b) &&& (18446744073709551615 - vN l c) == 0) (bitsOf (vN l a &&& vN l b))
def meetAt (l : List Int) (a b : Nat) : Int := firstOf (fun c => (downN l a &&& downN l b) &&& (18446744073709551615 - downN l c) == 0) (bitsOf (downN l a &&& downN l b))
def lat_Lat_join.f (_l0 : List ByteArray) (l1 : List Int) (a b : Int) : Option Int := if okUp l1 = true ∧ 0 ≤ a ∧ a < l1.length ∧ 0 ≤ b ∧ b < l1.length then some (joinAt l1 a.toNat b.toNat) else none
def lat_Lat_meet.f (_l0 : List ByteArray) (l1 : List Int) (a b : Int) : Option Int := if okUp l1 = true ∧ 0 ≤ a ∧ a < l1.length ∧ 0 ≤ b ∧ b < l1.length then some (meetAt l1 a.toNat b.toNat) else none
theorem lat_Lat_join.calls (A0_0 : Option Addr) (c0_0 : Nat) (l0_0 : List ByteArray) (A0_1 : Option Addr) (c0_1 : Nat) (l0_1 : List Int) (a1 a2 r : Int) (w : World) (_hr0_0 : Kd.C Kd.string w A0_0 l0_0.length l0_0) (_hc0_0 : l0_0.length ≤ c0_0) (hr0_1 : Kd.C (Kd.int .u64) w A0_1 l0_1.length l0_1) (_hc0_1 : l0_1.length ≤ c0_1)
    (hglb : Glb w) (h : lat_Lat_join.f l0_0 l0_1 a1 a2 = some r) :
    Calls Tryd.prog 66 #[.agg #[.slice A0_0 l0_0.length c0_0, .slice A0_1 l0_1.length c0_1], .int .i64 a1, .int .i64 a2] w fun e w' => e = .returned (.int .i64 r) ∧ Below w.heap.size w w' := by
  unfold lat_Lat_join.f at h
  split at h
  case isFalse => cases h
  case isTrue hh =>
    obtain ⟨ho, ha0, ha, hb0, hb⟩ := hh
    obtain rfl := Option.some.inj h
    obtain ⟨a, rfl⟩ : ∃ a : Nat, a1 = a := ⟨a1.toNat, by omega⟩
    obtain ⟨b, rfl⟩ : ∃ b : Nat, a2 = b := ⟨a2.toNat, by omega⟩
    obtain ⟨hl, hall⟩ := okUp_spec ho
    obtain ⟨ha1, ha2, ha3, ha4⟩ := hall a (by omega)
    obtain ⟨hb1, hb2, hb3, hb4⟩ := hall b (by omega)
    obtain ⟨ad, rfl, hca⟩ := readU hr0_1 a (by omega)
    obtain ⟨ad', e', hcb⟩ := readU hr0_1 b (by omega)
    obtain rfl := Option.some.inj e'
    rw [ha1] at hca
    rw [hb1] at hcb
    refine join_core _ ad l0_1.length c0_1 a b (vN l0_1 a) (vN l0_1 b) (vN l0_1) w hglb (by omega) (by omega) ha3 hb3 (fun i hi => ?_) hca hcb
    have hi' : i < l0_1.length := ha4 i ((mem_bitsOf _ _).2 (by have := (mem_bitsOf _ _).1 hi; rw [Nat.testBit_and, Bool.and_eq_true] at this; exact ⟨this.1, this.2.1⟩))
    obtain ⟨h1, h2, h3, h4⟩ := hall i hi'
    obtain ⟨ad', e', hc⟩ := readU hr0_1 i hi'
    obtain rfl := Option.some.inj e'
    exact ⟨hi', h3, by rw [hc, h1]⟩
theorem lat_Lat_meet.calls (A0_0 : Option Addr) (c0_0 : Nat) (l0_0 : List ByteArray) (A0_1 : Option Addr) (c0_1 : Nat) (l0_1 : List Int) (a1 a2 r : Int) (w : World) (hr0_0 : Kd.C Kd.string w A0_0 l0_0.length l0_0) (hc0_0 : l0_0.length ≤ c0_0) (hr0_1 : Kd.C (Kd.int .u64) w A0_1 l0_1.length l0_1) (hc0_1 : l0_1.length ≤ c0_1)
    (hglb : Glb w) (h : lat_Lat_meet.f l0_0 l0_1 a1 a2 = some r) :
    Calls Tryd.prog 68 #[.agg #[.slice A0_0 l0_0.length c0_0, .slice A0_1 l0_1.length c0_1], .int .i64 a1, .int .i64 a2] w fun e w' => e = .returned (.int .i64 r) ∧ Below w.heap.size w w' := by
  unfold lat_Lat_meet.f at h
  split at h
  case isFalse => cases h
  case isTrue hh =>
    obtain ⟨ho, ha0, ha, hb0, hb⟩ := hh
    obtain rfl := Option.some.inj h
    obtain ⟨a, rfl⟩ : ∃ a : Nat, a1 = a := ⟨a1.toNat, by omega⟩
    obtain ⟨b, rfl⟩ : ∃ b : Nat, a2 = b := ⟨a2.toNat, by omega⟩
    refine meet_core _ _ a b (downN l0_1 a) (downN l0_1 b) (downN l0_1) w hglb (downN_le ho a) (downN_le ho b) (fun i W hi hW => ?_) rfl rfl (fun i _ => downN_le ho i)
    refine down_given w hr0_0 hc0_0 hr0_1 hc0_1 ho i ?_ W hW
    rcases hi with rfl | rfl | h
    · omega
    · omega
    · exact downN_bits a b i h
end Go.Proofs.YtjlpclcdbnfikaaDoor.P
