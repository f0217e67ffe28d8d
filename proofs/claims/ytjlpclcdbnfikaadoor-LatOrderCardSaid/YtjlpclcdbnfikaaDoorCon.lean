/- The contracts of a lattice's functions at whatever later world: of one that is right, and of one that is not. -/
import Derived.Test.YtjlpclcdbnfikaaDoorExamples
import Derived.Test.YtjlpclcdbnfikaaDoorLattice2
namespace Go.Proofs.YtjlpclcdbnfikaaDoor.P
open Go.RowKit Go.Shelf Go.Sort
open Go.Proofs.YtjlpclcdbnfikaaDoorW.PrintWords Go.Proofs.YtjlpclcdbnfikaaDoorW.PrintLast Go.Proofs.YtjlpclcdbnfikaaDoorW.PrintMore

/-- A point out of a byte. -/
theorem point_mod (a : Int) (n : Nat) (h0 : 0 ≤ a) (hn : 0 < n) : ∃ x : Nat, a % (n : Int) = (x : Nat) ∧ x < n := by
  obtain ⟨y, rfl⟩ : ∃ y : Nat, a = y := ⟨a.toNat, by omega⟩
  exact ⟨y % n, (Int.natCast_emod y n).symm, Nat.mod_lt _ hn⟩

/-- What each function answers, at every later world. -/
structure Con (w : World) (A0 : Option Addr) (c0 : Nat) (l0 : List ByteArray) (A1 : Option Addr) (c1 : Nat) (l1 : List Int) (J M : Int → Int → Int) (B T : Int) : Prop where
  jo : ∀ W, Below w.heap.size w W → ∀ a b, Calls Tryd.prog 28 #[.agg #[.slice A0 l0.length c0, .slice A1 l1.length c1], .int .i64 a, .int .i64 b] W fun e w' => e = .returned (.int .i64 (J a b)) ∧ Below W.heap.size W w'
  me : ∀ W, Below w.heap.size w W → ∀ a b, Calls Tryd.prog 30 #[.agg #[.slice A0 l0.length c0, .slice A1 l1.length c1], .int .i64 a, .int .i64 b] W fun e w' => e = .returned (.int .i64 (M a b)) ∧ Below W.heap.size W w'
  bo : ∀ W, Below w.heap.size w W → Calls Tryd.prog 32 #[.agg #[.slice A0 l0.length c0, .slice A1 l1.length c1]] W fun e w' => e = .returned (.int .i64 B) ∧ Below W.heap.size W w'
  tp : ∀ W, Below w.heap.size w W → Calls Tryd.prog 34 #[.agg #[.slice A0 l0.length c0, .slice A1 l1.length c1]] W fun e w' => e = .returned (.int .i64 T) ∧ Below W.heap.size W w'
  ex : ∀ W, Below w.heap.size w W → Calls Tryd.prog 15 #[] W fun e w' => e = .returned (.bool true) ∧ Below W.heap.size W w'
  ri : ∀ W, Below w.heap.size w W → Calls Tryd.prog 20 #[.agg #[.slice A0 l0.length c0, .slice A1 l1.length c1]] W fun e w' => e = .returned (.bool (rightB l0 l1)) ∧ Below W.heap.size W w'

theorem con_of {A0 : Option Addr} {c0 : Nat} {l0 : List ByteArray} {A1 : Option Addr} {c1 : Nat} {l1 : List Int} {w : World} {J M : Int → Int → Int} {B T : Int} (hglb : Glb w) (hr0 : Kd.C Kd.string w A0 l0.length l0) (hc0 : l0.length ≤ c0) (hr1 : Kd.C (Kd.int .u64) w A1 l1.length l1) (hc1 : l1.length ≤ c1) (hright : lat_Right.f l0 l1 = some (rightB l0 l1))
    (hJ : ∀ a b, lat_Join.f l0 l1 a b = some (J a b)) (hM : ∀ a b, lat_Meet.f l0 l1 a b = some (M a b)) (hB : lat_Bottom.f 65 l0 l1 = some B) (hT : lat_Top.f l0 l1 = some T) : Con w A0 c0 l0 A1 c1 l1 J M B T where
  jo := fun W hb a b => lat_Join.calls A0 c0 l0 A1 c1 l1 a b _ W (Kd.C_below hr0 hb) hc0 (Kd.C_below hr1 hb) hc1 (hglb.past hb) (hJ a b)
  me := fun W hb a b => lat_Meet.calls A0 c0 l0 A1 c1 l1 a b _ W (Kd.C_below hr0 hb) hc0 (Kd.C_below hr1 hb) hc1 (hglb.past hb) (hM a b)
  bo := fun W hb => lat_Bottom.calls 65 A0 c0 l0 A1 c1 l1 _ W (Kd.C_below hr0 hb) hc0 (Kd.C_below hr1 hb) hc1 (hglb.past hb) hB
  tp := fun W hb => lat_Top.calls A0 c0 l0 A1 c1 l1 _ W (Kd.C_below hr0 hb) hc0 (Kd.C_below hr1 hb) hc1 (hglb.past hb) hT
  ex := fun W hb => examples_true W (hglb.past hb)
  ri := fun W hb => lat_Right.calls A0 c0 l0 A1 c1 l1 _ W (Kd.C_below hr0 hb) hc0 (Kd.C_below hr1 hb) hc1 (hglb.past hb) hright
theorem con_le {A0 : Option Addr} {c0 : Nat} {l0 : List ByteArray} {A1 : Option Addr} {c1 : Nat} {l1 : List Int} {w : World} (hr0 : Kd.C Kd.string w A0 l0.length l0) (hc0 : l0.length ≤ c0) (hr1 : Kd.C (Kd.int .u64) w A1 l1.length l1) (hc1 : l1.length ≤ c1) (hright : lat_Right.f l0 l1 = some true) (W : World) (hb : Below w.heap.size w W) (a b : Int) :
    Calls Tryd.prog 22 #[.agg #[.slice A0 l0.length c0, .slice A1 l1.length c1], .int .i64 a, .int .i64 b] W fun e w' => e = .returned (.bool (LQ l1 a b)) ∧ Below W.heap.size W w' :=
  lat_Leq.calls A0 c0 l0 A1 c1 l1 a b _ W (Kd.C_below hr0 hb) hc0 (Kd.C_below hr1 hb) hc1 (leq_f hright a b)
/-- Of one that is right. -/
theorem con_right {A0 : Option Addr} {c0 : Nat} {l0 : List ByteArray} {A1 : Option Addr} {c1 : Nat} {l1 : List Int} {w : World} (hglb : Glb w) (hr0 : Kd.C Kd.string w A0 l0.length l0) (hc0 : l0.length ≤ c0) (hr1 : Kd.C (Kd.int .u64) w A1 l1.length l1) (hc1 : l1.length ≤ c1)
    (hright : lat_Right.f l0 l1 = some (rightB l0 l1)) (h : rightB l0 l1 = true) : Con w A0 c0 l0 A1 c1 l1 (JV l1) (MV l1) (botV l1) (topV l1) :=
  have h' : lat_Right.f l0 l1 = some true := hright.trans (by rw [h])
  con_of hglb hr0 hc0 hr1 hc1 hright (join_f h') (meet_f h') (bottom_f h') (top_f h')
/-- Of one that is not. -/
theorem con_wrong {A0 : Option Addr} {c0 : Nat} {l0 : List ByteArray} {A1 : Option Addr} {c1 : Nat} {l1 : List Int} {w : World} (hglb : Glb w) (hr0 : Kd.C Kd.string w A0 l0.length l0) (hc0 : l0.length ≤ c0) (hr1 : Kd.C (Kd.int .u64) w A1 l1.length l1) (hc1 : l1.length ≤ c1)
    (hright : lat_Right.f l0 l1 = some (rightB l0 l1)) (h : rightB l0 l1 = false) : Con w A0 c0 l0 A1 c1 l1 (fun _ _ => -1) (fun _ _ => -1) (-1) (-1) :=
  have h' : lat_Right.f l0 l1 = some false := hright.trans (by rw [h])
  con_of hglb hr0 hc0 hr1 hc1 hright (fun a b => by rw [lat_Join.f, h']; rfl) (fun a b => by rw [lat_Meet.f, h']; rfl) (by rw [lat_Bottom.f, h']; rfl) (by rw [lat_Top.f, h']; rfl)
end Go.Proofs.YtjlpclcdbnfikaaDoor.P
