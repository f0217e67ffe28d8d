/- lat.join: the least of the points above two, as its loop finds it. -/
import Derived.Test.YtjlpclcdbnfikaaDoorRange
import Derived.Test.YtjlpclcdbnfikaaDoorP1
import Derived.Test.YtjlpclcdbnfikaaDoorRounds
import Derived.Deep.QuietTactic
import Derived.BigQuiet
import Derived.RegionTactic
import Derived.ChangeAlike
import Derived.Outline
import Derived.Sort.QuietIn
namespace Go.Proofs.YtjlpclcdbnfikaaDoor
open Go.RowKit Go.Shelf
open Go.Proofs.YtjlpclcdbnfikaaDoorW.PrintWords
attribute [local go_sem] Oper.semAt_some

set_option maxHeartbeats 1000000 in
theorem join_core (v1 : Value) (ad : Addr) (n c : Nat) (a b : Nat) (x y : Nat) (u : Nat → Nat) (w : World) (hG : Glb w) (ha : a < n) (hb : b < n) (hx : x < 18446744073709551616) (hy : y < 18446744073709551616)
    (hxy : ∀ i ∈ bitsOf (x &&& y), i < n ∧ u i < 18446744073709551616 ∧ w.cell? (ad.add i) = some (.int .u64 (u i : Nat)))
    (hca : w.cell? (ad.add a) = some (.int .u64 (x : Int))) (hcb : w.cell? (ad.add b) = some (.int .u64 (y : Int))) :
    Calls Tryd.prog 66 #[.agg #[v1, .slice (some ad) n c], .int .i64 a, .int .i64 b] w fun e w' =>
      e = .returned (.int .i64 (firstOf (fun c => (x &&& y) &&& (18446744073709551615 - u c) == 0) (bitsOf (x &&& y)))) ∧ Below w.heap.size w w' := by
  refine calls_of_marks Tryd.func66 rfl ?_
  simp only [Tryd.ntmps66, List.size_toArray, List.length_cons, List.length_nil, Nat.reduceAdd, Nat.reduceSub, Array.replicate_succ, Array.replicate_zero, List.push_toArray, List.append_toArray, List.nil_append, List.cons_append]
  have hca2 := fun o1 o2 => cell_alloc' o2 (cell_alloc' o1 hca)
  have hca3 := fun o1 o2 o3 => cell_alloc' o3 (hca2 o1 o2)
  have hcb2 := fun o1 o2 => cell_alloc' o2 (cell_alloc' o1 hcb)
  have hcb3 := fun o1 o2 o3 => cell_alloc' o3 (hcb2 o1 o2)
  have hmo : Tryd.prog.follows .mixedOrders = true := by kernel_rfl
  have hand := bits_and_u64_nat x y hx hy
  have hxyl : x &&& y < 18446744073709551616 := Nat.lt_of_le_of_lt Nat.and_le_left hx
  generalize hm : x &&& y = m at *
  have HM := Lib.hid hm; clear hm
  have HXY := Lib.hid hxy; clear hxy
  go_wp2
  go_region
  clear hca2 hca3 hcb2 hcb3
  go_wp2_with (go_at_call 93; refine (each_calls _ _).mono ?_; rintro e w' ⟨rfl, rfl⟩)
  obtain ⟨Wr, hWr⟩ : ∃ Wr, ((((w.alloc (.cells #[v1, .slice (some ad) n c] 25)).alloc (.cells #[.int .i64 0] 3)).alloc (.cells #[.int .u64 (m : Int)] 50)).alloc (.cells #[.int .u64 (m : Int)] 50)).drew = Wr := ⟨_, rfl⟩
  rw [hWr]
  have hbel : Below w.heap.size w Wr := by rw [← hWr]; exact (((((Below.refl _ w).alloc (Nat.le_refl _) _).alloc (by simp) _).alloc (by simp; omega) _).alloc (by simp; omega) _).drew
  have hsz : Wr.heap.size = w.heap.size + 4 := by rw [← hWr]; simp [World.drew]
  have b0 : Wr.heap[w.heap.size]? = some (.cells #[v1, .slice (some ad) n c] 25 (0, 0)) := by
    rw [← hWr]; exact block_drew (block_old _ (block_old _ (block_old _ (block_new _ rfl))))
  have b1 : Wr.heap[w.heap.size + 1]? = some (.cells #[.int .i64 0] 3 (0, 0)) := by
    rw [← hWr]; exact block_drew (block_old _ (block_old _ (block_new _ (by simp))))
  have b2 : Wr.heap[w.heap.size + 1 + 1]? = some (.cells #[.int .u64 (m : Int)] 50 (0, 0)) := by
    rw [← hWr]; exact block_drew (block_old _ (block_new _ (by simp)))
  have b3 : Wr.heap[w.heap.size + 1 + 1 + 1]? = some (.cells #[.int .u64 (m : Int)] 50 (0, 0)) := by
    rw [← hWr]; exact block_drew (block_new _ (by simp))
  have hsz1 : w.heap.size + 4 ≤ Wr.heap.size := by omega
  clear hWr hsz
  have hGr : Glb Wr := hG.past hbel
  have hN := hG.size
  refine join_range w.heap.size (w.heap.size + 1) (w.heap.size + 1 + 1) (w.heap.size + 1 + 1 + 1) ad n c m u v1 _ Wr _ hxyl hGr b0 b1 b2 b3 (by omega) (by omega) ⟨by omega, by omega, by omega⟩ ?_ ?_ ?_
  · intro i hi
    obtain ⟨h1, h2, h3⟩ := HXY.out i hi
    have := World.block_lt_of_cell? w _ h3
    exact ⟨h1, h2, (hbel.cell this).trans h3, by omega⟩
  · rintro W ⟨hs, hno⟩ hD
    have bR : W.heap[w.heap.size + 1]? = some (.cells #[.int .i64 0] 3 (0, 0)) := (hs.block _ (by omega) (by omega)).trans b1
    have cR := cell_in (j := 0) bR rfl
    have fR := frozen_in (j := 0) bR
    have hlD := block_lt hD
    clear b0 b1 b2 b3 hca hcb
    go_wp2
    refine leaves_one (D := Wr.heap.size) (v := .int .i64 (-1)) ?_ ?_ ?_
    · exact block_far hD (by omega)
    · have hcell : ((W.setCell ⟨w.heap.size + 1, 0, none⟩ (.int .i64 (-1))).putObj Wr.heap.size (.deferred none)).cell? ⟨w.heap.size + 1, 0, none⟩ = some (.int .i64 (-1)) :=
        cell_in (j := 0) ((World.putObj_heap_other (by omega)).trans (block_set _ bR)) rfl
      simp [results, Tryd.results66, go_sem, hcell]
    · refine ⟨by rw [firstOf_none hno], below_putObj (hbel.trans ?_) (by omega) _⟩
      exact ((hs.mono (Y := fun k => k = w.heap.size + 1 + 1 + 1 ∨ k = w.heap.size + 1) (fun k hk => Or.inl hk)).setCell (b := w.heap.size + 1) (Or.inr rfl) _ _).below (by omega) (fun k hk => by omega)
  · rintro pre W ⟨rr, hpre⟩ ⟨_, pre0, i, rfl, h2, h3, hs, hb⟩ hD
    clear hca hcb
    go_wp2
    refine leaves_one (D := Wr.heap.size) (v := .int .i64 (i : Int)) ?_ ?_ ?_
    · exact hD
    · have hcell : (W.putObj Wr.heap.size (.deferred none)).cell? ⟨w.heap.size + 1, 0, none⟩ = some (.int .i64 (i : Int)) :=
        cell_in (j := 0) ((World.putObj_heap_other (by omega)).trans hb) rfl
      simp [results, Tryd.results66, go_sem, hcell]
    · refine ⟨?_, below_putObj (hbel.trans (hs.below (by omega) (fun k hk => by omega))) (by omega) _⟩
      rw [← hpre, List.append_assoc]; show _ = Ending.returned (.int .i64 (firstOf _ (pre0 ++ i :: rr))); rw [firstOf_some h2 h3]
end Go.Proofs.YtjlpclcdbnfikaaDoor
