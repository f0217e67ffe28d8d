/- lat.meet: the greatest of the points below two, as its loop finds it. -/
import Derived.Test.YtjlpclcdbnfikaaDoorRounds
import Derived.Deep.RegionWith
import Derived.RegionTactic
import Derived.ChangeAlike
import Derived.Outline
namespace Go.Proofs.YtjlpclcdbnfikaaDoor
open Go.RowKit Go.Shelf
attribute [local go_sem] Oper.semAt_some

set_option maxHeartbeats 1000000 in
theorem meet_rest (A1 A2 : Value) (m : Nat) (d : Nat → Nat) (w Wr : World) (bb : Nat) {s0 s1 s2 s4 s5 s8 s9 s10 s11 s12 s13 s14 s15 s16 s17 s18 : Value} (hm : m < 18446744073709551616) (hG : Glb Wr) (hn4 : 4 ≤ w.heap.size)
    (hbel : Below w.heap.size w Wr) (b0 : Wr.heap[w.heap.size]? = some (.cells #[A1, A2] 25 (0, 0))) (b1 : Wr.heap[w.heap.size + 1]? = some (.cells #[.int .i64 0] 3 (0, 0))) (b2 : Wr.heap[bb]? = some (.cells #[.int .u64 (m : Int)] 50 (0, 0)))
    (hd : ∀ i ∈ bitsOf m, d i < 18446744073709551616 ∧ ∀ W, Below w.heap.size w W → Calls Tryd.prog 92 #[.agg #[A1, A2], .int .i64 (i : Nat)] W fun e W'' => e = .returned (.int .u64 (d i : Nat)) ∧ Below W.heap.size W W'') :
    (behindTwo Tryd.f68).wp Tryd.prog (leavePost Tryd.f68 fun e w' => e = .returned (.int .i64 (firstOf (fun c => m &&& (18446744073709551615 - d c) == 0) (bitsOf m))) ∧ Below w.heap.size w w')
      { tmps := #[s0, s1, s2, .pointer (some ⟨w.heap.size, 0, none⟩), s4, s5, .pointer (some ⟨w.heap.size + 1, 0, none⟩), .pointer (some ⟨bb, 0, none⟩), s8, s9, s10, s11, s12, s13, s14, s15, s16, s17, s18, undef, undef, undef, undef, undef, undef, undef], defers := [] } Wr := by
  conv in (behindTwo _) => simp only [behindTwo, Tryd.f68]
  have c2 := cell_in (j := 0) b2 rfl
  have l1 := block_lt b1
  have l2 := block_lt b2
  go_wp2_with (go_at_call 93; refine (each_calls _ _).mono ?_; rintro e w' ⟨rfl, rfl⟩)
  generalize hW2 : Wr.alloc (.cells #[.int .u64 (m : Int)] 50) = W2
  have b3 : W2.heap[Wr.heap.size]? = some (.cells #[.int .u64 (m : Int)] 50 (0, 0)) := by rw [← hW2]; exact block_new _ rfl
  have b0' : W2.heap[w.heap.size]? = some (.cells #[A1, A2] 25 (0, 0)) := by rw [← hW2]; exact block_old _ b0
  have b1' : W2.heap[w.heap.size + 1]? = some (.cells #[.int .i64 0] 3 (0, 0)) := by rw [← hW2]; exact block_old _ b1
  have b2' : W2.heap[bb]? = some (.cells #[.int .u64 (m : Int)] 50 (0, 0)) := by rw [← hW2]; exact block_old _ b2
  have hbel2 : Below w.heap.size w W2 := by rw [← hW2]; exact hbel.alloc (by omega) _
  have hG2 : Glb W2 := by rw [← hW2]; exact hG.alloc _
  have hs2 : Wr.heap.size < W2.heap.size := block_lt b3
  clear hW2 b0 b1 b2 c2 hbel hG
  generalize Wr.heap.size = B at *
  refine meet_range (bl := w.heap.size) (br := w.heap.size + 1) (bb := bb) (B := B) (A1 := A1) (A2 := A2) (m := m) (d := d) (Wr := W2) (hm := hm) (hG := hG2) (b0 := b0') (b1 := b1') (b2 := b2') (b3 := b3) (hr4 := by omega) (hB4 := by omega) (hne := ⟨by omega, by omega, by omega⟩) (n₀ := w.heap.size) (hn0 := by omega) (hn1 := by omega)
    (hd := fun i hi => ⟨(hd i hi).1, fun W hW => (hd i hi).2 W (hbel2.trans hW)⟩) (hdone := ?_) (hstop := ?_)
  · rintro W ⟨hs, hno⟩ hD
    have bR : W.heap[w.heap.size + 1]? = some (.cells #[.int .i64 0] 3 (0, 0)) := (hs.block _ (by omega) (by omega)).trans b1'
    have cR := cell_in (j := 0) bR rfl
    have fR := frozen_in (j := 0) bR
    have hlD := block_lt hD
    clear b0' b1' b2' b3
    go_wp2
    refine leaves_one (D := W2.heap.size) (v := .int .i64 (-1)) ?_ ?_ ?_
    · exact block_far hD (by omega)
    · have hcell : ((W.setCell ⟨w.heap.size + 1, 0, none⟩ (.int .i64 (-1))).putObj W2.heap.size (.deferred none)).cell? ⟨w.heap.size + 1, 0, none⟩ = some (.int .i64 (-1)) :=
        cell_in (j := 0) ((World.putObj_heap_other (by omega)).trans (block_set _ bR)) rfl
      simp [results, Tryd.results68, go_sem, hcell]
    · refine ⟨by rw [firstOf_none hno], below_putObj (hbel2.trans ?_) (by omega) _⟩
      exact ((hs.mono (Y := fun k => k = B ∨ k = w.heap.size + 1) (fun k hk => Or.inl hk)).setCell (b := w.heap.size + 1) (Or.inr rfl) _ _).below (by omega) (fun k hk => by omega)
  · rintro pre W ⟨rr, hpre⟩ ⟨_, pre0, i, rfl, h2, h3, hs, hb⟩ hD
    go_wp2
    refine leaves_one (D := W2.heap.size) (v := .int .i64 (i : Int)) ?_ ?_ ?_
    · exact hD
    · have hcell : (W.putObj W2.heap.size (.deferred none)).cell? ⟨w.heap.size + 1, 0, none⟩ = some (.int .i64 (i : Int)) :=
        cell_in (j := 0) ((World.putObj_heap_other (by omega)).trans hb) rfl
      simp [results, Tryd.results68, go_sem, hcell]
    · refine ⟨?_, below_putObj (hbel2.trans (hs.below (by omega) (fun k hk => by omega))) (by omega) _⟩
      rw [← hpre, List.append_assoc]; show _ = Ending.returned (.int .i64 (firstOf _ (pre0 ++ i :: rr))); rw [firstOf_some h2 h3]

set_option maxHeartbeats 1000000 in
theorem meet_core (A1 A2 : Value) (a b : Nat) (x y : Nat) (d : Nat → Nat) (w : World) (hG : Glb w) (hx : x < 18446744073709551616) (hy : y < 18446744073709551616)
    (hd : ∀ i W, (i = a ∨ i = b ∨ i ∈ bitsOf (x &&& y)) → Below w.heap.size w W → Calls Tryd.prog 92 #[.agg #[A1, A2], .int .i64 (i : Nat)] W fun e W'' => e = .returned (.int .u64 (d i : Nat)) ∧ Below W.heap.size W W'')
    (hda : d a = x) (hdb : d b = y) (hdl : ∀ i ∈ bitsOf (x &&& y), d i < 18446744073709551616) :
    Calls Tryd.prog 68 #[.agg #[A1, A2], .int .i64 a, .int .i64 b] w fun e w' =>
      e = .returned (.int .i64 (firstOf (fun c => (x &&& y) &&& (18446744073709551615 - d c) == 0) (bitsOf (x &&& y)))) ∧ Below w.heap.size w w' := by
  refine calls_of_marks Tryd.func68 rfl ?_
  simp only [Tryd.ntmps68, List.size_toArray, List.length_cons, List.length_nil, Nat.reduceAdd, Nat.reduceSub, Array.replicate_succ, Array.replicate_zero, List.push_toArray, List.append_toArray, List.nil_append, List.cons_append]
  have hand := bits_and_u64_nat x y hx hy
  have hxyl : x &&& y < 18446744073709551616 := Nat.lt_of_le_of_lt Nat.and_le_left hx
  generalize hm : x &&& y = m at *
  have HM := Lib.hid hm; clear hm
  have HD := Lib.hid hd
  have hDa : ∀ W, Below w.heap.size w W → Calls Tryd.prog 92 #[.agg #[A1, A2], .int .i64 (a : Nat)] W fun e W'' => e = .returned (.int .u64 (x : Nat)) ∧ Below W.heap.size W W'' := by rw [← hda]; exact fun W hW => hd a W (.inl rfl) hW
  have hDb : ∀ W, Below w.heap.size w W → Calls Tryd.prog 92 #[.agg #[A1, A2], .int .i64 (b : Nat)] W fun e W'' => e = .returned (.int .u64 (y : Nat)) ∧ Below W.heap.size W W'' := by rw [← hdb]; exact fun W hW => hd b W (.inr (.inl rfl)) hW
  have HDa := Lib.hid hDa
  have HDb := Lib.hid hDb
  clear hd hda hdb hDa hDb
  go_wp2
  rename_i K hK
  have hWs : ((w.alloc (.cells #[A1, A2] 25)).alloc (.cells #[.int .i64 0] 3)).heap.size = w.heap.size + 2 := by simp
  obtain ⟨W0, hW0⟩ : ∃ W0, (w.alloc (.cells #[A1, A2] 25)).alloc (.cells #[.int .i64 0] 3) = W0 := ⟨_, rfl⟩
  rw [hW0] at hWs ⊢
  have b0 : W0.heap[w.heap.size]? = some (.cells #[A1, A2] 25 (0, 0)) := by rw [← hW0]; exact block_old _ (block_new _ rfl)
  have b1 : W0.heap[w.heap.size + 1]? = some (.cells #[.int .i64 0] 3 (0, 0)) := by rw [← hW0]; exact block_new _ (by simp)
  have hbel : Below w.heap.size w W0 := by rw [← hW0]; exact ((Below.refl _ w).alloc (Nat.le_refl _) _).alloc (by simp) _
  have hle : w.heap.size + 2 ≤ W0.heap.size := by omega
  have hN := hG.size
  clear hW0 hWs
  have c0 := cell_in (j := 0) b0 rfl
  have c1 := cell_in (j := 1) b0 rfl
  have c0' := fun o => cell_in (j := 0) (block_old o b0) rfl
  have c1' := fun o => cell_in (j := 1) (block_old o b0) rfl
  go_region_with (go_at_call 92; first
    | ((with_reducible refine (HDa.out _ ?_).mono ?_)
       · first | exact hbel.drew | exact (hbel.alloc (by omega) _).drew
       rintro e w1 ⟨rfl, hb1⟩
       have hB1 : Below w.heap.size w w1 := Below.trans (by first | exact hbel.drew | exact (hbel.alloc (by omega) _).drew) (hb1.mono (by first | omega | (simp; omega)))
       have g0 : w1.heap[w.heap.size]? = some (.cells #[A1, A2] 25 (0, 0)) := (hb1.block _ (by first | omega | (simp; omega))).trans (by first | exact b0 | exact block_old _ b0)
       have g1 : w1.heap[w.heap.size + 1]? = some (.cells #[.int .i64 0] 3 (0, 0)) := (hb1.block _ (by first | omega | (simp; omega))).trans (by first | exact b1 | exact block_old _ b1)
       have k0 := cell_in (j := 0) g0 rfl
       have k1 := cell_in (j := 1) g0 rfl
       have k0' := fun o => cell_in (j := 0) (block_old o g0) rfl
       have k1' := fun o => cell_in (j := 1) (block_old o g0) rfl
       have hs1 := block_lt g1
       (try (have gb : w1.heap[W0.heap.size]? = some (.cells #[.int .u64 0] 50 (0, 0)) := (hb1.block _ (by simp)).trans (block_new (W := W0) _ rfl)))
       clear hb1)
    | ((with_reducible refine (HDb.out _ ?_).mono ?_)
       · first | exact hB1 | exact hB1.alloc (by omega) _
       rintro e w2 ⟨rfl, hb2⟩
       have hB2 : Below w.heap.size w w2 := Below.trans (by first | exact hB1 | exact hB1.alloc (by omega) _) (hb2.mono (by first | omega | (simp; omega)))
       have m0 : w2.heap[w.heap.size]? = some (.cells #[A1, A2] 25 (0, 0)) := (hb2.block _ (by first | omega | (simp; omega))).trans (by first | exact g0 | exact block_old _ g0)
       have m1 : w2.heap[w.heap.size + 1]? = some (.cells #[.int .i64 0] 3 (0, 0)) := (hb2.block _ (by first | omega | (simp; omega))).trans (by first | exact g1 | exact block_old _ g1)
       have hs2 := block_lt m1
       (try (have gb2 := (hb2.block _ (by first | exact block_lt gb | (simp; exact Nat.lt_succ_of_lt (block_lt gb)))).trans gb; have cb2 := cell_in (j := 0) gb2 rfl; have fb2 := frozen_in (j := 0) gb2))
       (try (have gb2 := (hb2.block _ (by simp)).trans (block_new (W := w1) (.cells #[.int .u64 0] 50) rfl); have cb2 := cell_in (j := 0) gb2 rfl; have fb2 := frozen_in (j := 0) gb2))
       clear hb2))
  all_goals
    refine hK _ _ ?_
    have hs3 := block_lt m0
    refine meet_rest (A1 := A1) (A2 := A2) (m := m) (d := d) (w := w) (hm := hxyl) (hG := ?_) (hn4 := hN) (hbel := ?_) (b0 := ?_) (b1 := ?_) (b2 := ?_) (hd := fun i hi => ⟨hdl i hi, fun W hW => HD.out i W (.inr (.inr hi)) hW⟩)
    · first | exact hG.past (hB2.alloc (by omega) _) | exact hG.past (below_setCell hB2 (by omega) _ _)
    · first | exact hB2.alloc (by omega) _ | exact below_setCell hB2 (by omega) _ _
    · first | exact block_old _ m0 | exact block_far m0 (by omega)
    · first | exact block_old _ m1 | exact block_far m1 (by omega)
    · first | exact block_new _ rfl | exact block_set _ gb2
end Go.Proofs.YtjlpclcdbnfikaaDoor
