/- Names, in plain words: what lat.Name, slices.Index, lat.named compute. -/
import Derived.Test.YtjlpclcdbnfikaaDoorP1
namespace Go.Proofs.YtjlpclcdbnfikaaDoor
open Go.RowKit
open Go.Proofs.YtjlpclcdbnfikaaDoorW.PrintWords Go.Proofs.YtjlpclcdbnfikaaDoorW.PrintLast Go.Proofs.YtjlpclcdbnfikaaDoorW.PrintMore

theorem wrap_succ (k n : Nat) (h : k < n) (hn : n ≤ 9223372036854775807) : wrap64 ((k : Int) + 1) = ((k + 1 : Nat) : Int) := by unfold wrap64; omega

def letterB (b : Int) : Bool := decide (Go.bits .or .u8 b 32 ≥ 97) && decide (Go.bits .or .u8 b 32 ≤ 122)
theorem letter_f (b : Int) : P.lat_letter.f b = some (letterB b) := by
  unfold P.lat_letter.f letterB
  by_cases h : Go.bits .or .u8 b 32 ≥ 97
  · rw [if_pos h, decide_eq_true h]; simp
  · rw [if_neg h, decide_eq_false h]; simp

def charB (s : ByteArray) (i : Nat) : Bool := letterB (bt s i) || (decide (i ≠ 0) && decide (48 ≤ bt s i) && decide (bt s i ≤ 57))
def nameB (s : ByteArray) : Bool := (List.range' 0 s.size).all (charB s) && (decide (0 < s.size) && decide (s.size ≤ 16))

theorem name_l0 (s : ByteArray) (hs : s.size ≤ 9223372036854775807) : ∀ (m k fuel : Nat), k + m = s.size → m < fuel →
    P.lat_Name.l0 fuel s (s.size : Int) (k : Nat) = some ((List.range' k m).all (charB s) && (decide (0 < s.size) && decide (s.size ≤ 16)))
  | _, _, 0, _, hf => absurd hf (by omega)
  | 0, k, fuel + 1, hk, _ => by
    rw [P.lat_Name.l0, if_neg (by omega)]
    by_cases h : (0 : Nat) < s.size
    · rw [if_pos (by omega)]; simp [h]; omega
    · rw [if_neg (by omega)]; simp [h]
  | m + 1, k, fuel + 1, hk, hf => by
    have ih := name_l0 s hs m (k + 1) fuel (by omega) (by omega)
    rw [P.lat_Name.l0, if_pos (by omega), if_pos (by omega), if_pos (by omega), wrap_succ k _ (by omega) hs, ih, List.range'_succ, List.all_cons, letter_f, charB]
    have e0 : ((k : Int) = 0) = (k = 0) := by simp
    simp only [Option.bind_some, e0]
    cases hl : letterB (bt s k) <;> by_cases h1 : bt s k ≥ 48 <;> by_cases h2 : k = 0 <;> by_cases h3 : bt s k ≤ 57 <;> simp [h1, h2, h3] <;> (try omega)
    all_goals (try (subst h2; simp at h1 h3 ⊢; try omega))
theorem name_f (s : ByteArray) (hs : s.size ≤ 9223372036854775807) (fuel : Nat) (hf : s.size < fuel) : P.lat_Name.f fuel s = some (nameB s) :=
  name_l0 s hs s.size 0 fuel (by omega) hf

def idxFrom (l : List ByteArray) (x : ByteArray) : Nat → Nat → Int
  | 0, _ => -1
  | m + 1, k => if x.toList = (l.getD k ByteArray.empty).toList then (k : Int) else idxFrom l x m (k + 1)
def idxS (l : List ByteArray) (x : ByteArray) : Int := idxFrom l x l.length 0
theorem index_l0 (l : List ByteArray) (x : ByteArray) (hl : l.length ≤ 9223372036854775807) : ∀ (m k fuel : Nat), k + m = l.length → m < fuel →
    P.slices_Index_string_string.l0 fuel l x (l.length : Int) (k : Nat) = some (idxFrom l x m k)
  | _, _, 0, _, hf => absurd hf (by omega)
  | 0, k, fuel + 1, hk, _ => by
    rw [P.slices_Index_string_string.l0, if_neg (by omega)]; rfl
  | m + 1, k, fuel + 1, hk, hf => by
    rw [P.slices_Index_string_string.l0, if_pos (by omega), if_pos (by omega), if_pos (by omega), wrap_succ k _ (by omega) hl, index_l0 l x hl m (k + 1) fuel (by omega) (by omega), idxFrom]
    show (if x.toList = (l.getD k ByteArray.empty).toList then _ else _) = _
    split <;> rfl
theorem index_f (l : List ByteArray) (x : ByteArray) (hl : l.length ≤ 9223372036854775807) (fuel : Nat) (hf : l.length < fuel) : P.slices_Index_string_string.f fuel l x = some (idxS l x) :=
  index_l0 l x hl l.length 0 fuel (by omega) hf

def namedAt (l : List ByteArray) (k : Nat) : Bool := nameB (l.getD k ByteArray.empty) && decide (idxS l (l.getD k ByteArray.empty) = k)
def namedB (l : List ByteArray) : Bool := (List.range' 0 l.length).all (namedAt l) && decide (0 < l.length)
theorem named_l0 (l : List ByteArray) (hl : l.length ≤ 9223372036854775807) (S : Nat) (hS : ∀ s ∈ l, s.size ≤ S) (hSl : l.length ≤ S) (hS2 : S ≤ 9223372036854775807) : ∀ (m k fuel : Nat), k + m = l.length → m + S < fuel →
    P.lat_named.l0 fuel l l (l.length : Int) (k : Nat) = some ((List.range' k m).all (namedAt l) && decide (0 < l.length))
  | _, _, 0, _, hf => absurd hf (by omega)
  | 0, k, fuel + 1, hk, _ => by
    rw [P.lat_named.l0, if_neg (by omega)]
    simp
  | m + 1, k, fuel + 1, hk, hf => by
    have hkl : k < l.length := by omega
    have hm : l.getD k ByteArray.empty ∈ l := by rw [List.getD_eq_getElem?_getD, List.getElem?_eq_getElem hkl]; exact List.getElem_mem hkl
    have hr : rdOf ByteArray.empty l (k : Nat) = l.getD k ByteArray.empty := rfl
    have hsz := hS _ hm
    rw [P.lat_named.l0, if_pos (by omega), if_pos (by omega), if_pos (by omega), wrap_succ k _ (by omega) hl, named_l0 l hl S hS hSl hS2 m (k + 1) fuel (by omega) (by omega), hr,
      name_f _ (by omega) fuel (by omega), List.range'_succ, List.all_cons, namedAt]
    simp only [Option.bind_some]
    rw [index_f l _ hl fuel (by omega)]
    simp only [Option.bind_some]
    generalize l.getD k ByteArray.empty = s at *
    cases nameB s
    · simp
    · by_cases h : idxS l s = k <;> simp [h]
theorem named_f (l : List ByteArray) (S : Nat) (hS : ∀ s ∈ l, s.size ≤ S) (hSl : l.length ≤ S) (hS2 : S ≤ 9223372036854775807) (fuel : Nat) (hf : l.length + S < fuel) : P.lat_named.f fuel l = some (namedB l) :=
  named_l0 l (by omega) S hS hSl hS2 l.length 0 fuel (by omega) hf
end Go.Proofs.YtjlpclcdbnfikaaDoor
