/- chancellaw01.LatNames: what the walk computes is true, whatever the arguments. -/
import Derived.Test.YtjlpclcdbnfikaaDoorP15
import Derived.Test.YtjlpclcdbnfikaaDoorPlain1
import Derived.Test.YtjlpclcdbnfikaaDoorPrint
import Derived.Laws.Strings
namespace Go.Proofs.YtjlpclcdbnfikaaDoor.P
open Go.RowKit
open Go.Proofs.YtjlpclcdbnfikaaDoorW.PrintWords Go.Proofs.YtjlpclcdbnfikaaDoorW.PrintLast Go.Proofs.YtjlpclcdbnfikaaDoorW.PrintMore

/-- A byte that a name may have at a place, as the law says it. -/
def okC (s : ByteArray) (i : Nat) : Bool := (decide (97 ≤ bt s i) && decide (bt s i ≤ 122)) || (decide (65 ≤ bt s i) && decide (bt s i ≤ 90)) || (decide (0 < i) && (decide (48 ≤ bt s i) && decide (bt s i ≤ 57)))
theorem letter_nat : ∀ b, b < 256 → letterB ((b : Nat) : Int) = ((decide (97 ≤ b) && decide (b ≤ 122)) || (decide (65 ≤ b) && decide (b ≤ 90))) := by decide +kernel
theorem char_ok (s : ByteArray) (i : Nat) : charB s i = okC s i := by
  obtain ⟨h0, h1⟩ := bt_range s i
  obtain ⟨b, hb⟩ : ∃ b : Nat, bt s i = b := ⟨(bt s i).toNat, by omega⟩
  have hl := letter_nat b (by omega)
  have e1 : decide ((97 : Int) ≤ (b : Int)) = decide (97 ≤ b) := by by_cases h : 97 ≤ b <;> simp [h] <;> omega
  have e2 : decide ((b : Int) ≤ 122) = decide (b ≤ 122) := by by_cases h : b ≤ 122 <;> simp [h] <;> omega
  have e3 : decide ((65 : Int) ≤ (b : Int)) = decide (65 ≤ b) := by by_cases h : 65 ≤ b <;> simp [h] <;> omega
  have e4 : decide ((b : Int) ≤ 90) = decide (b ≤ 90) := by by_cases h : b ≤ 90 <;> simp [h] <;> omega
  have e5 : decide (i ≠ 0) = decide (0 < i) := by by_cases h : i = 0 <;> simp [h] <;> omega
  rw [charB, okC, hb, hl, e1, e2, e3, e4, e5, Bool.and_assoc]
theorem name_ok (s : ByteArray) : nameB s = ((decide (1 ≤ s.size) && decide (s.size ≤ 16)) && (List.range' 0 s.size).all (okC s)) := by
  rw [nameB, Bool.and_comm]
  congr 1
  · exact congrArg _ (funext fun i => char_ok s i)

theorem named_at {l : List ByteArray} (h : namedB l = true) (x : Nat) (hx : x < l.length) : nameB (l.getD x ByteArray.empty) = true ∧ idxS l (l.getD x ByteArray.empty) = x := by
  simp only [namedB, Bool.and_eq_true, List.all_eq_true, namedAt] at h
  have := h.1 x (by simp [hx])
  exact ⟨this.1, of_decide_eq_true this.2⟩
theorem idx_none (l : List ByteArray) (s : ByteArray) (h : ∀ x, x < l.length → s.toList ≠ (l.getD x ByteArray.empty).toList) : ∀ m k, k + m = l.length → idxFrom l s m k = -1
  | 0, _, _ => rfl
  | m + 1, k, hk => by rw [idxFrom, if_neg (h k (by omega)), idx_none l s h m (k + 1) (by omega)]
theorem no_empty {l : List ByteArray} (h : namedB l = true) : idxS l ⟨#[]⟩ = -1 := by
  refine idx_none l _ (fun x hx e => ?_) _ 0 (by omega)
  have hn := (named_at h x hx).1
  generalize l.getD x ByteArray.empty = s at *
  rw [ByteArray.toList_eq, ByteArray.toList_eq] at e
  have h0 : s.size = 0 := by
    have h1 : s.data.toList.length = 0 := by rw [← e]; rfl
    rw [Array.length_toList] at h1
    exact h1
  simp [nameB, h0] at hn

/-- What the law asks behind its loop. -/
theorem names_end (s : ByteArray) (hs : s.size ≤ 9223372036854775807) (a : Int) (ha0 : 0 ≤ a) (ha1 : a ≤ 255) (l0 : List ByteArray) (l1 : List Int) (hw : words l1 = true) (hl : ∀ s ∈ l0, s.size ≤ 9223372036854775807) (fuel : Nat) (hf : s.size + 9223372036854775807 + 200 < fuel) :
    chancellaw01_LatNames.l0 (fuel + 1) s a true (nameB s) (s.size : Int) l0 l1 = some true := by
  rw [chancellaw01_LatNames.l0, if_neg (by omega), name_f s hs fuel (by omega), Option.bind_some, if_neg (by simp)]
  have hright : lat_Right.f l0 l1 = some (rightB l0 l1) := by rw [lat_Right.f, if_pos ⟨hw, hl⟩]
  rw [hright, Option.bind_some]
  cases hrb : rightB l0 l1 with
  | false => rw [if_neg (by simp)]
  | true =>
    rw [hrb] at hright
    obtain ⟨s1, s2, s3, s4, s5, s6, s7, s8⟩ := right_spec hright
    obtain ⟨y, rfl⟩ : ∃ y : Nat, a = y := ⟨a.toNat, by omega⟩
    have hwy : wrap64 (y : Int) = y := by unfold wrap64; omega
    have ht : Int.tmod (wrap64 (y : Int)) (l0.length : Int) = ((y % l0.length : Nat) : Int) := by rw [hwy]; exact (Int.ofNat_tmod y l0.length).symm
    have hx : y % l0.length < l0.length := Nat.mod_lt _ s8
    rw [ht]
    generalize y % l0.length = x at *
    obtain ⟨n1, n2⟩ := named_at s4 x hx
    have hr : rdOf ByteArray.empty l0 ((x : Nat) : Int) = l0.getD x ByteArray.empty := rfl
    have hsz : (l0.getD x ByteArray.empty).size ≤ 16 := s7 _ (by rw [List.getD_eq_getElem?_getD, List.getElem?_eq_getElem hx]; exact List.getElem_mem hx)
    rw [if_pos rfl, if_neg (by omega), if_pos rfl, if_pos (by omega), if_pos (by omega), hr, lat_Find.f, index_f l0 _ (by omega) fuel (by omega), Option.bind_some, Option.bind_some, n2, if_pos rfl,
      lat_Find.f, index_f l0 _ (by omega) fuel (by omega), Option.bind_some, Option.bind_some, no_empty s4, if_pos rfl, name_f _ (by omega) fuel (by omega), n1]
    rfl

theorem names_l0 (s : ByteArray) (hs : s.size ≤ 9223372036854775807) (a : Int) (ha0 : 0 ≤ a) (ha1 : a ≤ 255) (l0 : List ByteArray) (l1 : List Int) (hw : words l1 = true) (hl : ∀ s ∈ l0, s.size ≤ 9223372036854775807) :
    ∀ (m k fuel : Nat) (f : Bool), k + m = s.size → s.size + 9223372036854775807 + 200 + m < fuel → nameB s = (f && (List.range' k m).all (okC s)) → chancellaw01_LatNames.l0 (fuel + 1) s a true f (k : Nat) l0 l1 = some true
  | 0, k, fuel, f, hk, hf, hn => by
    obtain rfl : k = s.size := by omega
    obtain rfl : nameB s = f := by rw [hn]; simp
    exact names_end s hs a ha0 ha1 l0 l1 hw hl fuel (by omega)
  | m + 1, k, 0, f, hk, hf, hn => absurd hf (by omega)
  | m + 1, k, fuel + 1, f, hk, hf, hn => by
    have ih := fun g hg => names_l0 s hs a ha0 ha1 l0 l1 hw hl m (k + 1) fuel g (by omega) (by omega) hg
    rw [List.range'_succ, List.all_cons, ← Bool.and_assoc] at hn
    have hgo : ∀ g, g = (f && okC s k) → chancellaw01_LatNames.l0 (fuel + 1) s a true g ((k + 1 : Nat) : Int) l0 l1 = some true := fun g hg => ih g (by rw [hg]; exact hn)
    rw [chancellaw01_LatNames.l0, if_pos (by omega), if_pos (by omega), wrap_succ k _ (by omega) hs]
    have hk0 : ((k : Int) > 0) = (0 < k) := by simp
    simp only [hk0]
    generalize hb : bt s (k : Nat) = b at *
    have hok : okC s k = ((decide (97 ≤ b) && decide (b ≤ 122)) || (decide (65 ≤ b) && decide (b ≤ 90)) || (decide (0 < k) && (decide (48 ≤ b) && decide (b ≤ 57)))) := by rw [okC, hb]
    have hT : ∀ g, g = (f && okC s k) → chancellaw01_LatNames.l0 (fuel + 1) s a true g ((k + 1 : Nat) : Int) l0 l1 = some true := hgo
    rw [hok] at hT
    clear hgo ih hn hok
    cases f <;> by_cases c1 : b ≥ 97 <;> by_cases c2 : b ≤ 122 <;> by_cases c3 : b ≥ 65 <;> by_cases c4 : b ≤ 90 <;> by_cases c5 : 0 < k <;> by_cases c6 : b ≥ 48 <;> by_cases c7 : b ≤ 57 <;>
      simp only [c1, c2, c3, c4, c5, c6, c7, if_true, if_false, decide_true, decide_false, Bool.false_eq_true] <;> first | (exfalso; omega) | (refine hT _ ?_; simp [c1, c2, c3, c4, c5, c6, c7]) | (refine hT _ ?_; simp [c1, c2, c3, c4, c5, c6, c7]; omega)

theorem names_true (s : ByteArray) (hs : s.size ≤ 9223372036854775807) (a : Int) (ha0 : 0 ≤ a) (ha1 : a ≤ 255) (l0 : List ByteArray) (l1 : List Int) (hw : words l1 = true) (hl : ∀ s ∈ l0, s.size ≤ 9223372036854775807) :
    ∃ k, chancellaw01_LatNames.f k s l0 l1 a = some true := by
  refine ⟨s.size + 9223372036854775807 + 200 + s.size + 1 + 1 + 1, ?_⟩
  have key : ∀ f, f = (decide (1 ≤ s.size) && decide (s.size ≤ 16)) → chancellaw01_LatNames.j0 (s.size + 9223372036854775807 + 200 + s.size + 1 + 1 + 1) s a true f l0 l1 = some true := by
    intro f hf
    rw [chancellaw01_LatNames.j0]
    exact names_l0 s hs a ha0 ha1 l0 l1 hw hl s.size 0 _ f (by omega) (by omega) (by rw [hf]; exact name_ok s)
  rw [chancellaw01_LatNames.f, chancellaw01_examples.f, Option.bind_some, if_pos rfl]
  by_cases h1 : 1 ≤ s.size
  · rw [if_pos (by omega)]
    refine key _ ?_
    rw [decide_eq_true h1, Bool.true_and]
    by_cases h2 : s.size ≤ 16
    · rw [decide_eq_true h2, decide_eq_true (by omega)]
    · rw [decide_eq_false h2, decide_eq_false (by omega)]
  · rw [if_neg (by omega)]
    exact key _ (by rw [decide_eq_false h1, Bool.false_and])
end Go.Proofs.YtjlpclcdbnfikaaDoor.P
