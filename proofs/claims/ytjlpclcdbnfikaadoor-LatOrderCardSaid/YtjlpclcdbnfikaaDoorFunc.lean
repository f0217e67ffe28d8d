/- slices.IndexFunc, slices.ContainsFunc at a row of words and whatever predicate, whose calls may make memory. -/
import Derived.Test.YtjlpclcdbnfikaaDoorGiven1
import Derived.Deep.QuietTactic
import Derived.BigQuiet
namespace Go.Proofs.YtjlpclcdbnfikaaDoor
open Go.RowKit Go.Shelf Go.Sort
open Go.Proofs.YtjlpclcdbnfikaaDoorW.PrintWords

/-- The place of the first that it is true of. -/
def idxOf (p : Int → Bool) (l : List Int) : Int := match l.findIdx? p with
  | some i => (i : Int)
  | none => -1

theorem idxOf_some {p : Int → Bool} {l : List Int} {k : Nat} (hk : k < l.length) (h0 : ∀ j, j < k → p (l.getD j 0) = false) (h1 : p (l.getD k 0) = true) : idxOf p l = k := by
  have : l.findIdx? p = some k := by
    rw [List.findIdx?_eq_some_iff_getElem]
    refine ⟨hk, ?_, fun j hj => ?_⟩
    · rw [List.getD_eq_getElem?_getD, List.getElem?_eq_getElem hk] at h1; exact h1
    · have := h0 j hj
      rw [List.getD_eq_getElem?_getD, List.getElem?_eq_getElem (by omega)] at this
      simpa using this
  rw [idxOf, this]
theorem idxOf_none {p : Int → Bool} {l : List Int} (h0 : ∀ j, j < l.length → p (l.getD j 0) = false) : idxOf p l = -1 := by
  have : l.findIdx? p = none := by
    rw [List.findIdx?_eq_none_iff]
    intro x hx
    obtain ⟨j, hj, rfl⟩ := List.mem_iff_getElem.1 hx
    have := h0 j hj
    rw [List.getD_eq_getElem?_getD, List.getElem?_eq_getElem hj] at this
    exact this
  rw [idxOf, this]

set_option maxHeartbeats 1000000 in
theorem indexFunc_calls (g : Nat) (he : ∀ args w, (callFunc g args).run Tryd.prog w = .ok (.enter g args) w) (caps : Array Value) (p : Int → Bool) (A : Option Addr) (l : List Int) (c : Nat) (w : World) (hr : Kd.C (Kd.int .u64) w A l.length l)
    (hp : ∀ W, Below w.heap.size w W → ∀ x ∈ l, Calls Tryd.prog g (#[.int .u64 x] ++ caps) W fun e W' => e = .returned (.bool (p x)) ∧ Below W.heap.size W W') :
    Calls Tryd.prog 71 #[.slice A l.length c, .func (.func g) #[] caps] w fun e w' => e = .returned (.int .i64 (idxOf p l)) ∧ Below w.heap.size w w' := by
  have hlm := hr.2.1
  have HP := Lib.hid hp
  have HR := Lib.hid hr
  clear hp hr
  go_enter Tryd.func71, Tryd.ntmps71
  go_wp2
  go_loopw [8] (fun i W => ∃ k : Nat, i = .int .i64 k ∧ k ≤ l.length ∧ Hid (∀ j, j < k → p (l.getD j 0) = false) ∧ Hid (Below w.heap.size w W)) (fun i _ => l.length - (intOf i).toNat)
  case atStart => exact ⟨0, rfl, by omega, Lib.hid fun j hj => absurd hj (by omega), Lib.hid (Below.refl _ _)⟩
  case round =>
    obtain ⟨k, rfl, hk, HN, HB⟩ := hrel
    by_cases hkn : k < l.length
    · obtain ⟨ad, rfl, hc⟩ := P.readU HR.out k hkn
      have hcell : wr.cell? (ad.add k) = some (.int .u64 (l.getD k 0)) := (HB.out.cell (block_lt_of_cell hc)).trans hc
      have hx : l.getD k 0 ∈ l := by rw [List.getD_eq_getElem?_getD, List.getElem?_eq_getElem hkn]; exact List.getElem_mem hkn
      clear hc
      have C := Lib.hid (HP.out wr HB.out _ hx)
      generalize hxx : l.getD k 0 = x at *
      have HX := Lib.hid hxx
      clear hxx
      cases hpx : p x with
      | true =>
        go_wp2_with (go_at_fn g; refine C.out.mono ?_; rintro e w' ⟨rfl, hb⟩; have HB2 := Lib.hid (HB.out.trans (hb.mono HB.out.size)); clear hb)
        go_ret
        exact ⟨by rw [idxOf_some hkn HN.out (by rw [HX.out]; exact hpx)]; rfl, HB2.out⟩
      | false =>
        have HPX := Lib.hid hpx
        go_wp2_with (go_at_fn g; refine C.out.mono ?_; rintro e w' ⟨rfl, hb⟩; have HB2 := Lib.hid (HB.out.trans (hb.mono HB.out.size)); clear hb)
        go_roundw
        case rel =>
          refine ⟨k + 1, by go_num, by omega, Lib.hid fun j hj => ?_, HB2⟩
          by_cases h : j = k
          · subst h; rw [HX.out]; exact HPX.out
          · exact HN.out j (by omega)
        case measure => simp [intOf]; omega
    · have HE := Lib.hid (show k = l.length by omega)
      go_wp2
      go_ret
      exact ⟨by rw [idxOf_none (HE.out ▸ HN.out)]; rfl, HB.out⟩

set_option maxHeartbeats 1000000 in
theorem containsFunc_calls (g : Nat) (he : ∀ args w, (callFunc g args).run Tryd.prog w = .ok (.enter g args) w) (caps : Array Value) (p : Int → Bool) (A : Option Addr) (l : List Int) (c : Nat) (w : World) (hr : Kd.C (Kd.int .u64) w A l.length l)
    (hp : ∀ W, Below w.heap.size w W → ∀ x ∈ l, Calls Tryd.prog g (#[.int .u64 x] ++ caps) W fun e W' => e = .returned (.bool (p x)) ∧ Below W.heap.size W W') :
    Calls Tryd.prog 61 #[.slice A l.length c, .func (.func g) #[] caps] w fun e w' => e = .returned (.bool (decide (0 ≤ idxOf p l))) ∧ Below w.heap.size w w' := by
  have C := Lib.hid (indexFunc_calls g he caps p A l c w hr hp)
  clear hp hr he
  go_enter Tryd.func61, Tryd.ntmps61
  go_wp2_with (go_at_call 71; refine C.out.mono ?_; rintro e w' ⟨rfl, hb⟩; have HB := Lib.hid hb; clear hb)
  go_ret
  exact ⟨by simp, HB.out⟩
theorem idxOf_any (p : Int → Bool) (l : List Int) : decide (0 ≤ idxOf p l) = l.any p := by
  unfold idxOf
  cases h : l.findIdx? p with
  | none =>
    rw [List.findIdx?_eq_none_iff] at h
    rw [List.any_eq_false.2 (fun x hx => by simp [h x hx])]
    rfl
  | some i =>
    rw [List.findIdx?_eq_some_iff_getElem] at h
    obtain ⟨hi, h1, _⟩ := h
    rw [List.any_eq_true.2 ⟨l[i], List.getElem_mem hi, h1⟩]
    simp
end Go.Proofs.YtjlpclcdbnfikaaDoor
