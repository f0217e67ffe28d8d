/- The iterator over the set bits of a word (lat.each): what it hands to a loop's rounds, in which order, and the law of a range over it. -/
import Derived.Test.YtjlpclcdbnfikaaDoorBase
import Derived.RangeFuncNested
import Derived.RangeFuncBound
import Derived.RangeFuncCalls
import Derived.RangeFuncLeaves
import Derived.Shelf.Abstract
import Derived.Shelf.RegionOpen
import Derived.OwnWalkIn
import Derived.TacticsInMore
import Derived.LoopNIn
import Derived.LoopIn
namespace Go.Proofs.YtjlpclcdbnfikaaDoor
open Go.RowKit Go.Shelf
attribute [local go_sem] Oper.semAt_some

theorem each_calls (x : Int) (w : World) :
    Calls Tryd.prog 93 #[.int .u64 x] w fun e w' => e = .returned (.func (.func 106) #[] #[.pointer (some ⟨w.heap.size, 0, none⟩)]) ∧ w' = w.alloc (.cells #[.int .u64 x] 50) := by
  go_enter Tryd.func93, Tryd.ntmps93
  go_wp2
  go_ret
  exact ⟨rfl, rfl⟩

/-- Of all blocks that lay, but one, nothing has turned. -/
structure Turn (B : Nat) (A A' : World) : Prop where
  os : A'.os = A.os
  tape : A'.tape = A.tape
  output : A'.output = A.output
  size : A.heap.size ≤ A'.heap.size
  block : ∀ k, k < A.heap.size → k ≠ B → A'.heap[k]? = A.heap[k]?
theorem Turn.refl (B : Nat) (A : World) : Turn B A A := ⟨rfl, rfl, rfl, Nat.le_refl _, fun _ _ _ => rfl⟩
theorem Turn.drew {B : Nat} {A A' : World} (h : Turn B A A') : Turn B A A'.drew := ⟨h.os, h.tape, h.output, h.size, h.block⟩
theorem Turn.setCell {B : Nat} {A A' : World} (h : Turn B A A') (i : Nat) (v : Value) : Turn B A (A'.setCell ⟨B, i, none⟩ v) :=
  ⟨h.os, h.tape, h.output, by simpa [World.setCell] using h.size, fun k hk hne => (Below.heap_setCell _ _ _ k hne).trans (h.block k hk hne)⟩

theorem Glb.turn {B : Nat} {A A' : World} (h : Glb A) (ht : Turn B A A') (hB : 4 ≤ B) : Glb A' :=
  ⟨Nat.le_trans h.size ht.size, fun j hj => (World.cell?_of_block (w := A) (ht.block 0 (by have := h.size; omega) (by omega))).trans (h.tab j hj),
    let ⟨m, hm⟩ := h.max; ⟨m, (World.cell?_of_block (w := A) (ht.block 1 (by have := h.size; omega) (by omega))).trans hm⟩⟩

theorem wrap_pred (x : Nat) (h0 : x ≠ 0) (h : x < 18446744073709551616) : IntKind.u64.wrap ((x : Int) - 1) = ((x - 1 : Nat) : Int) := by rw [IntKind.wrap_u64]; omega

/-- The word that is left when the bits up to place c have come. -/
def rest (x c : Nat) : Nat := above x (c + 1)
theorem above_lt (x k : Nat) (h : x < 18446744073709551616) : above x k < 18446744073709551616 := by
  unfold above; exact Nat.lt_of_le_of_lt (Nat.div_mul_le_self _ _) h
theorem above_zero (x : Nat) : above x 0 = x := by simp [above]

theorem above_next (x k : Nat) (h : x < 18446744073709551616) (h0 : above x k ≠ 0) :
    (above x k &&& (above x k - 1)) = above x (Lib.ctz 64 (above x k) + 1) := by
  obtain ⟨hc, hb, hlow⟩ := ctz_lowest _ h0 (by have := above_lt x k h; omega)
  have hkc : k ≤ Lib.ctz 64 (above x k) := by
    apply Nat.le_of_not_lt; intro hlt
    rw [testBit_above] at hb
    have : ¬ k ≤ Lib.ctz 64 (above x k) := by omega
    simp [this] at hb
  apply Nat.eq_of_testBit_eq
  intro i
  rw [testBit_and_pred _ _ h0 (by have := above_lt x k h; omega), testBit_above, testBit_above]
  by_cases hi : i < Lib.ctz 64 (above x k)
  · have h1 := hlow i hi
    rw [testBit_above] at h1
    have : ¬ (Lib.ctz 64 (above x k) + 1 ≤ i) := by omega
    simp [h1, this]
  · by_cases he : i = Lib.ctz 64 (above x k)
    · rw [he]
      have : ¬ (Lib.ctz 64 (above x k) + 1 ≤ Lib.ctz 64 (above x k)) := by omega
      simp [this]
    · have h1 : Lib.ctz 64 (above x k) + 1 ≤ i := by omega
      have h2 : k ≤ i := by omega
      simp [h1, h2, he]

theorem bitsFrom_above_zero (x k : Nat) (h0 : above x k = 0) (f : Nat) : bitsFrom f k x = [] := by
  apply bitsFrom_none
  intro i hi
  have : (above x k).testBit i = false := by rw [h0]; simp
  rw [testBit_above] at this
  simpa [hi] using this
theorem bitsFrom_above_cons (x k : Nat) (hk : k ≤ 64) (h : x < 18446744073709551616) (h0 : above x k ≠ 0) :
    k ≤ Lib.ctz 64 (above x k) ∧ Lib.ctz 64 (above x k) < 64 ∧ bitsFrom (64 - k) k x = Lib.ctz 64 (above x k) :: bitsFrom (64 - (Lib.ctz 64 (above x k) + 1)) (Lib.ctz 64 (above x k) + 1) x := by
  obtain ⟨hc, hb, hlow⟩ := ctz_lowest _ h0 (by have := above_lt x k h; omega)
  have hkc : k ≤ Lib.ctz 64 (above x k) := by
    apply Nat.le_of_not_lt; intro hlt
    rw [testBit_above] at hb
    have : ¬ k ≤ Lib.ctz 64 (above x k) := by omega
    simp [this] at hb
  have hb' : x.testBit (Lib.ctz 64 (above x k)) = true := by rw [testBit_above] at hb; simp at hb; exact hb.2
  refine ⟨hkc, hc, ?_⟩
  rw [bitsFrom_lowest (64 - k) k x _ hkc (by omega) hb' (fun i h1 h2 => ?_)]
  · have e : k + (64 - k) - Lib.ctz 64 (above x k) - 1 = 64 - (Lib.ctz 64 (above x k) + 1) := by omega
    rw [e]
  · have := hlow i h2
    rw [testBit_above] at this
    simpa [h1] using this

/-- What is left of a word's bits, from place k on. -/
abbrev left (x k : Nat) : List Nat := bitsFrom (64 - k) k x

/-- The number in the iterator's own variable. -/
def eachNum (B : Nat) (w : World) : Nat := match w.cell? ⟨B, 0, none⟩ with
  | some (.int .u64 m) => m.toNat
  | _ => 0
theorem cell_of_block {w : World} {B : Nat} {v : Value} {t : TypeId} (h : w.heap[B]? = some (.cells #[v] t (0, 0))) : w.cell? ⟨B, 0, none⟩ = some v := by simp [World.cell?, h]
theorem frozen_of_block {w : World} {B : Nat} {v : Value} {t : TypeId} (h : w.heap[B]? = some (.cells #[v] t (0, 0))) : w.frozen? ⟨B, 0, none⟩ = false := by simp [World.frozen?, h]
theorem eachNum_eq {w : World} {B m : Nat} (h : w.heap[B]? = some (.cells #[.int .u64 (m : Nat)] 50 (0, 0))) : eachNum B w = m := by
  unfold eachNum; rw [cell_of_block h]; simp
theorem block_set {w : World} {B : Nat} {v : Value} {t : TypeId} (u : Value) (h : w.heap[B]? = some (.cells #[v] t (0, 0))) : (w.setCell ⟨B, 0, none⟩ u).heap[B]? = some (.cells #[u] t (0, 0)) := by
  obtain ⟨hlt, hk⟩ := Array.getElem?_eq_some_iff.1 h
  show (w.heap.modify B _)[B]? = _
  rw [Array.getElem?_eq_getElem (by rw [Array.size_modify]; exact hlt), Array.getElem_modify_self, hk]
  rfl

set_option maxHeartbeats 1000000 in
/-- **THE ITERATOR, FOR EVERY LOOP BODY**: J holds between two rounds, Jx where a round has said that there is enough; both bear that the iterator's own variable (block B) turns. -/
theorem each1_in (l B x : Nat) (hx : x < 18446744073709551616) (hB4 : 4 ≤ B) (J Jx : List Nat → World → Prop)
    (hJ : ∀ s A A', J s A → Turn B A A' → J s A')
    (hY : ∀ pre c W1, J pre W1 → (∃ r, bitsOf x = pre ++ c :: r) → B < W1.heap.size → Glb W1 → YieldAt Fence.wide 1 Tryd.prog l #[.int .i64 (c : Nat)] W1 fun e W' =>
      (e = .returned (.bool true) ∧ J (pre ++ [c]) W' ∧ W'.heap[B]? = W1.heap[B]? ∧ Glb W') ∨ (e = .returned (.bool false) ∧ Jx (pre ++ [c]) W'))
    (W : World) (hB : W.heap[B]? = some (.cells #[.int .u64 x] 50 (0, 0))) (hG : Glb W) (h0 : J [] W) :
    CallsIn Fence.wide 2 Tryd.prog 106 #[.func (.yield l) #[] #[], .pointer (some ⟨B, 0, none⟩)] W fun e W' => (∃ v, e = .returned v) ∧ (J (bitsOf x) W' ∨ ∃ pre, pre <+: bitsOf x ∧ Jx pre W') := by
  refine callsIn_of_wp Tryd.func106 rfl trivial ?_ rfl
  simp only [Tryd.ntmps106, List.size_toArray, List.length_cons, List.length_nil, Nat.reduceAdd, Nat.reduceSub, Array.replicate_succ, Array.replicate_zero, List.push_toArray, List.append_toArray, List.nil_append, List.cons_append]
  gi_wp2
  gi_loopw [] (fun wr => ∃ k pre, k ≤ 64 ∧ bitsOf x = pre ++ left x k ∧ wr.heap[B]? = some (.cells #[.int .u64 (above x k : Nat)] 50 (0, 0)) ∧ Glb wr ∧ J pre wr)
    (fun wr => eachNum B wr)
  case atStart => exact ⟨0, [], by omega, rfl, by rw [above_zero]; exact hB, hG, h0⟩
  case round =>
    obtain ⟨k, pre, hk, hx1, hb, hg, hj⟩ := hrel
    have hen := eachNum_eq hb
    have hlt := above_lt x k hx
    have hnext := above_next x k hx
    have hcons := bitsFrom_above_cons x k hk hx
    have hzero := bitsFrom_above_zero x k
    generalize hm : above x k = m at *
    have HM := Lib.hid hm; clear hm
    have hc := cell_of_block hb
    have hf := frozen_of_block hb
    have HX := Lib.hid hx1; clear hx1
    have HEN := Lib.hid hen; clear hen
    by_cases h0' : m = 0
    · subst h0'
      have HZ := Lib.hid (hzero rfl); clear hzero hcons hnext
      gi_wp2
      go_end0
      refine ⟨⟨_, rfl⟩, .inl ?_⟩
      rw [HX.out, show left x k = [] from HZ.out _, List.append_nil]; exact hj
    · obtain ⟨hkc, hc64, hcc⟩ := hcons h0'
      have hnx := hnext h0'
      have htz := tz64_calls m hlt h0' wr hg
      clear hnext hcons hzero
      generalize hcn : Lib.ctz 64 m = c at *
      have HC := Lib.hid hcc; clear hcc
      have HN := Lib.hid hnx; clear hnx hcn
      have hBlt : B < wr.heap.size := (Array.getElem?_eq_some_iff.1 hb).1
      have hex : ∃ r, bitsOf x = pre ++ c :: r := ⟨_, by rw [HX.out, show left x k = _ from HC.out]⟩
      obtain ⟨fn, tmps, assign, body, hy, hR⟩ := hY pre c wr hj hex hBlt hg
      have hz : ((m : Int) != 0) = true := by rw [bne_iff_ne]; omega
      gi_wp2_with (refine ⟨trivial, ?_⟩; gi_at_call 107; refine (callsIn_wide.2 htz).mono ?_; rintro e w' ⟨rfl, rfl⟩)
      refine hR.mono ?_
      rintro e W' (⟨rfl, hj', hb', hg'⟩ | ⟨rfl, hx'⟩)
      · rw [hb] at hb'
        have hlt1 : m - 1 < 18446744073709551616 := by omega
        have hand := bits_and_u64_nat m (m - 1) hlt hlt1
        rw [HN.out] at hand
        have hwr := wrap_pred m h0' hlt
        clear hb hc hf
        have hc := cell_of_block hb'
        have hf := frozen_of_block hb'
        have hlt2 : above x (c + 1) < m := by rw [← HN.out]; exact Nat.lt_of_le_of_lt Nat.and_le_right (by omega)
        have hb2 := block_set (.int .u64 (above x (c + 1) : Nat)) hb'
        have hj2 := hJ _ _ _ hj' ((Turn.refl B W').setCell 0 (.int .u64 (above x (c + 1) : Nat)))
        have hg2 := hg'.turn ((Turn.refl B W').setCell 0 (.int .u64 (above x (c + 1) : Nat))) hB4
        generalize hm2 : above x (c + 1) = m2 at *
        have HM2 := Lib.hid hm2; clear hm2
        have HB2 := Lib.hid hb2; clear hb2
        gi_wp2
        go_roundw
        case rel => exact ⟨c + 1, pre ++ [c], by omega, by rw [HX.out, show left x k = _ from HC.out, List.append_assoc]; rfl, by rw [HM2.out]; exact HB2.out, hg2, hj2⟩
        case measure => rw [HEN.out, eachNum_eq HB2.out]; exact hlt2
      · gi_wp2
        refine bodyPost_ret (results_none rfl _ _ _) rfl ?_
        exact ⟨⟨_, rfl⟩, .inr ⟨pre ++ [c], ⟨left x (c + 1), by rw [HX.out, show left x k = _ from HC.out, List.append_assoc]; rfl⟩, hx'⟩⟩
end Go.Proofs.YtjlpclcdbnfikaaDoor
