/- What the rows of the laws over a lattice give to their walks: the premise on the library's variables; a lattice by value, opened. -/
import Derived.Test.YtjlpclcdbnfikaaDoorRows
import Derived.Test.YtjlpclcdbnfikaaDoorGiven2
import Derived.WalkKit
import Derived.ProofKit
import Derived.OpenShut
import Derived.ChangeOld
import Derived.Below
import Derived.SliceStrings
import Derived.ChangeSlices
import Derived.Lib.SmallJoins
import Derived.Deep.DeepHandedRow
import Derived.Lib.LaidTab
namespace Go.Proofs.YtjlpclcdbnfikaaDoor
open Go.ChangeShapes Go.WideShapes Go.ChangeAt Go.RowKit Go.Joins
open Go.Proofs.YtjlpclcdbnfikaaDoorW.PrintWords

theorem own_knob : ownKnob Tryd.prog.godebug = none := by kernel_rfl
theorem laid_out : laidOutB Tryd.prog = true := by kernel_rfl
theorem gTab : Tryd.prog.globalNamed "math/bits.deBruijn64tab" = some 0 := by kernel_rfl
theorem gTabType : (Tryd.prog.globals[0]?).map (·.type) = some 147 := by kernel_rfl
theorem cells147 : Tryd.prog.cellsOf 147 = 64 := by kernel_rfl
theorem cells5 : Tryd.prog.cellsOf 5 = 1 := by kernel_rfl
theorem cells9 : Tryd.prog.cellsOf 9 = 1 := by kernel_rfl
theorem cells50 : Tryd.prog.cellsOf 50 = 1 := by kernel_rfl
theorem cells25 : Tryd.prog.cellsOf 25 = 2 := by kernel_rfl

set_option maxRecDepth 100000 in
theorem glb_of {W : World} {rest : List (String × DataW Unit)} (h : laidMet Tryd.prog (("math/bits.deBruijn64tab", Rows.laid_math_bits_deBruijn64tab) :: rest) W) (hsh : W.ShapedOpen Tryd.prog) : Glb W := by
  have tab : Lib.TabIs Tryd.prog W "math/bits.deBruijn64tab" .u8 (Lib.deBruijn64tab.map (fun (n : Nat) => (n : Int))) := Lib.tabIs_of_head (rest := rest) gTab gTabType Tryd.underlying147 Tryd.underlying5 cells5 cells147 h
  refine ⟨?_, fun j hj => ?_, Tryd.laysM146.s1_3 W hsh⟩
  · have hs : (((begin Tryd.prog (fun _ _ => 0) default).world.heap[3]?).bind Obj.row?).isSome = true := by kernel_rfl
    obtain ⟨⟨zero, t⟩, h0⟩ := Option.isSome_iff_exists.1 hs
    obtain ⟨cs, hh, _⟩ := hsh.1 3 zero t (of_decide_eq_true (by kernel_rfl)) h0
    exact (Array.getElem?_eq_some_iff.1 hh).1
  · have := tab.cell gTab j (by rw [List.length_map]; exact hj)
    rw [this, List.getD_eq_getElem?_getD, List.getElem?_map, List.getD_eq_getElem?_getD]
    cases Lib.deBruijn64tab[j]? <;> rfl

theorem scalar_C {α : Type} {enc : α → Value} {h1 : ∀ x, (enc x).oneCell' = true} {w : World} {ad : Addr} {ps : List α} (hn : ps.length ≤ 9223372036854775807) (h : ∀ (j : Nat) p, ps[j]? = some p → w.cell? (ad.add j) = some (enc p)) : (Kd.scalar enc h1).C w (some ad) ps.length ps := by
  refine ⟨rfl, hn, fun _ => ⟨ad, rfl, fun j p hj => ⟨[enc p], rfl, rfl, fun i u hi => ?_⟩⟩⟩
  cases i with
  | zero =>
    obtain rfl : enc p = u := by simpa using hi
    simpa [Kd.scalar] using h j p hj
  | succ i => simp at hi

set_option maxRecDepth 100000 in
theorem open_lat {H : Type} {enc : TypeId × Value → H} {W : World} {base b0 : Nat} {spare : Nat → Bool} {held : Bool} {v : Value} {d : DataW H} {p : List MemPlace} (hv : Value.okWide Tryd.prog W .any b0 25 v) (h : DataW.Trod enc Tryd.prog W base spare held 25 v d p) :
    ∃ (A0 : Option Addr) (c0 : Nat) (l0 : List ByteArray) (A1 : Option Addr) (c1 : Nat) (l1 : List Int), v = .agg #[.slice A0 l0.length c0, .slice A1 l1.length c1] ∧ Kd.C Kd.string W A0 l0.length l0 ∧ l0.length ≤ c0 ∧ Kd.C (Kd.int .u64) W A1 l1.length l1 ∧ l1.length ≤ c1 ∧
      P.words l1 = true ∧ ∀ s ∈ l0, s.size ≤ 9223372036854775807 := by
  obtain ⟨v0, v1, y0, y1, n, rfl, rfl, rfl, hy0, hy1⟩ := open_agg2 Tryd.underlying25 (by kernel_rfl) cells25 hv h
  obtain ⟨A0, c0, l0, rfl, k0, j0, z0⟩ : ∃ (A0 : Option Addr) (c0 : Nat) (l0 : List ByteArray), v0 = .slice A0 l0.length c0 ∧ Kd.C Kd.string W A0 l0.length l0 ∧ l0.length ≤ c0 ∧ ∀ s ∈ l0, s.size ≤ 9223372036854775807 := by
    rcases open_strings Tryd.underlying22 Tryd.underlying9 cells9 hy0 with ⟨hcs, _⟩ | ⟨a, len, cap, ss, hcs, _, hl, hm, hz, _, hcell, hws⟩
    · obtain rfl : v0 = .slice none 0 0 := by simpa using hcs
      exact ⟨none, 0, [], rfl, Kd.C_nil _ W, Nat.le_refl _, fun s hs => by cases hs⟩
    · obtain rfl : v0 = .slice (some a) len cap := by simpa using hcs
      have hle : len ≤ ss.length := by rw [hz]; split <;> omega
      have e : (ss.take len).length = len := by rw [List.length_take]; omega
      refine ⟨some a, cap, ss.take len, by rw [e], scalar_C (by rw [e]; simp only [maxLen] at hm; omega) fun j q hj => ?_, by rw [e]; exact hl, fun s hs => by have := hws s (List.mem_of_mem_take hs); simp only [maxLen] at this; omega⟩
      obtain ⟨hj1, rfl⟩ := List.getElem?_eq_some_iff.1 hj
      rw [e] at hj1
      rw [hcell j (by omega), List.getElem_take, List.getD_eq_getElem?_getD, List.getElem?_eq_getElem (by omega)]
      rfl
  obtain ⟨A1, c1, l1, rfl, k1, j1, z1⟩ : ∃ (A1 : Option Addr) (c1 : Nat) (l1 : List Int), v1 = .slice A1 l1.length c1 ∧ Kd.C (Kd.int .u64) W A1 l1.length l1 ∧ l1.length ≤ c1 ∧ P.words l1 = true := by
    rcases open_ints Tryd.underlying23 Tryd.underlying50 cells50 hy1 with ⟨hcs, _⟩ | ⟨a, len, cap, ss, hcs, _, hl, hm, hz, _, hcell, hws⟩
    · obtain rfl : v1 = .slice none 0 0 := by simpa using hcs
      exact ⟨none, 0, [], rfl, Kd.C_nil _ W, Nat.le_refl _, rfl⟩
    · obtain rfl : v1 = .slice (some a) len cap := by simpa using hcs
      have hle : len ≤ ss.length := by rw [hz]; split <;> omega
      have e : (ss.take len).length = len := by rw [List.length_take]; omega
      refine ⟨some a, cap, ss.take len, by rw [e], scalar_C (by rw [e]; simp only [maxLen] at hm; omega) fun j q hj => ?_, by rw [e]; exact hl, ?_⟩
      · obtain ⟨hj1, rfl⟩ := List.getElem?_eq_some_iff.1 hj
        rw [e] at hj1
        rw [hcell j (by omega), List.getElem_take, List.getD_eq_getElem?_getD, List.getElem?_eq_getElem (by omega)]
        rfl
      · rw [P.words, List.all_eq_true]
        intro x hx
        have hwf := hws x (List.mem_of_mem_take hx)
        have hr := bounds_u64 hwf
        rw [Bool.and_eq_true, decide_eq_true_eq, decide_eq_true_eq]
        omega
  exact ⟨A0, c0, l0, A1, c1, l1, rfl, k0, j0, k1, j1, z1, z0⟩
end Go.Proofs.YtjlpclcdbnfikaaDoor
