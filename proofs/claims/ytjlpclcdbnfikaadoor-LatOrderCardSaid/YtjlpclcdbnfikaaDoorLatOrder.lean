/- chancellaw01.LatOrder: the walk; and that it answers true. -/
import Derived.Test.YtjlpclcdbnfikaaDoorCon
namespace Go.Proofs.YtjlpclcdbnfikaaDoor.P
open Go.RowKit Go.Shelf Go.Sort
open Go.Proofs.YtjlpclcdbnfikaaDoorW.PrintWords Go.Proofs.YtjlpclcdbnfikaaDoorW.PrintLast Go.Proofs.YtjlpclcdbnfikaaDoorW.PrintMore

set_option maxHeartbeats 4000000 in
theorem latOrder_wrong (A0 : Option Addr) (c0 : Nat) (l0 : List ByteArray) (A1 : Option Addr) (c1 : Nat) (l1 : List Int) (a1 a2 a3 : Int) (w : World) (hglb : Glb w) (hr0 : Kd.C Kd.string w A0 l0.length l0) (hc0 : l0.length ≤ c0) (hr1 : Kd.C (Kd.int .u64) w A1 l1.length l1) (hc1 : l1.length ≤ c1)
    (hright : lat_Right.f l0 l1 = some (rightB l0 l1)) (hrb : rightB l0 l1 = false) :
    Calls Tryd.prog 4 #[.agg #[.slice A0 l0.length c0, .slice A1 l1.length c1], .int .u8 a1, .int .u8 a2, .int .u8 a3] w fun e w' => e = .returned (.bool true) ∧ Below w.heap.size w w' := by
  have HL := Lib.hid (Lies.new hr0 hc0 hr1 hc1)
  have HW : Hid (Below w.heap.size w (w.alloc (.cells #[.slice A0 l0.length c0, .slice A1 l1.length c1] 25))) := Lib.hid ((Below.refl _ w).alloc (Nat.le_refl _) _)
  have CO := Lib.hid (con_wrong hglb hr0 hc0 hr1 hc1 hright hrb)
  have ri := CO.out.ri
  rw [hrb] at ri
  have RI := Lib.hid ri
  have pr : ∀ W, Below w.heap.size w W → Calls Tryd.prog 36 #[.agg #[.slice A0 l0.length c0, .slice A1 l1.length c1]] W fun e w' => e = .returned (.string ⟨#[]⟩) ∧ Below W.heap.size W w' :=
    fun W hb => lat_Print.calls A0 c0 l0 A1 c1 l1 _ W (Kd.C_below hr0 hb) hc0 (Kd.C_below hr1 hb) hc1 (hglb.past hb) (by rw [lat_Print.f, hright, hrb]; rfl)
  have PR := Lib.hid pr
  clear ri pr hr0 hr1 hglb hright hrb
  go_enter Tryd.func4, Tryd.ntmps4
  go_wp2_with (first
    | (go_at_call 15; with_reducible refine (CO.out.ex _ HW.out).mono ?_; rintro e w1 ⟨rfl, hb⟩; have L1 := HL.out.past hb; have k0 := L1.k0; have k1 := L1.k1; have LL := Lib.hid L1; have D1 := Lib.hid (HW.out.trans (hb.mono HW.out.size)); clear hb L1)
    | (go_at_call 20; with_reducible refine (RI.out _ D1.out).mono ?_; rintro e w2 ⟨rfl, hb⟩; have L2 := LL.out.past hb; clear k0 k1 LL; have k0 := L2.k0; have k1 := L2.k1; have LL := Lib.hid L2; have D2 := D1.out.trans (hb.mono D1.out.size); clear D1; have D1 := Lib.hid D2; clear hb L2 D2)
    | (go_at_call 32; with_reducible refine (CO.out.bo _ D1.out).mono ?_; rintro e w2 ⟨rfl, hb⟩; have L2 := LL.out.past hb; clear k0 k1 LL; have k0 := L2.k0; have k1 := L2.k1; have LL := Lib.hid L2; have D2 := D1.out.trans (hb.mono D1.out.size); clear D1; have D1 := Lib.hid D2; clear hb L2 D2)
    | (go_at_call 34; with_reducible refine (CO.out.tp _ D1.out).mono ?_; rintro e w2 ⟨rfl, hb⟩; have L2 := LL.out.past hb; clear k0 k1 LL; have k0 := L2.k0; have k1 := L2.k1; have LL := Lib.hid L2; have D2 := D1.out.trans (hb.mono D1.out.size); clear D1; have D1 := Lib.hid D2; clear hb L2 D2)
    | (go_at_call 36; with_reducible refine (PR.out _ D1.out).mono ?_; rintro e w2 ⟨rfl, hb⟩; have D2 := D1.out.trans (hb.mono D1.out.size); clear D1; have D1 := Lib.hid D2; clear hb D2))
  go_ret
  exact ⟨rfl, D1.out⟩

/-- What the comparisons say of three points. -/
theorem order_facts {l1 : List Int} (L : IsLat l1) {x y z : Nat} (hx : x < l1.length) (hy : y < l1.length) (hz : z < l1.length) :
    LQ l1 x x = true ∧ (LQ l1 x y = false ∨ (LQ l1 x y = true ∧ ((LQ l1 y x = true ∧ ((x : Int) == (y : Int)) = true) ∨ (LQ l1 y x = false ∧ ((x : Int) == (y : Int)) = false)) ∧ (LQ l1 y z = false ∨ (LQ l1 y z = true ∧ LQ l1 x z = true)))) := by
  refine ⟨(LQ_iff hx hx).2 (L.refl hx), ?_⟩
  cases h1 : LQ l1 x y with
  | false => exact .inl rfl
  | true =>
    have l1' := (LQ_iff hx hy).1 h1
    refine .inr ⟨rfl, ?_, ?_⟩
    · cases h2 : LQ l1 y x with
      | true => exact .inl ⟨rfl, by rw [L.antisymm hx l1' ((LQ_iff hy hx).1 h2)]; exact beq_self_eq_true _⟩
      | false =>
        refine .inr ⟨rfl, beq_eq_false_iff_ne.2 fun e => ?_⟩
        obtain rfl : x = y := by omega
        rw [(LQ_iff hx hx).2 (L.refl hx)] at h2
        cases h2
    · cases h3 : LQ l1 y z with
      | false => exact .inl rfl
      | true => exact .inr ⟨rfl, (LQ_iff hx hz).2 (L.trans hx l1' ((LQ_iff hy hz).1 h3))⟩

set_option maxHeartbeats 8000000 in
theorem latOrder_right (A0 : Option Addr) (c0 : Nat) (l0 : List ByteArray) (A1 : Option Addr) (c1 : Nat) (l1 : List Int) (a1 a2 a3 : Int) (w : World) (hglb : Glb w) (hr0 : Kd.C Kd.string w A0 l0.length l0) (hc0 : l0.length ≤ c0) (hr1 : Kd.C (Kd.int .u64) w A1 l1.length l1) (hc1 : l1.length ≤ c1)
    (hright : lat_Right.f l0 l1 = some (rightB l0 l1)) (hrb : rightB l0 l1 = true) (hx0 : 0 ≤ a1) (hx1 : a1 ≤ 255) (hy0 : 0 ≤ a2) (hy1 : a2 ≤ 255) (hz0 : 0 ≤ a3) (hz1 : a3 ≤ 255) :
    Calls Tryd.prog 4 #[.agg #[.slice A0 l0.length c0, .slice A1 l1.length c1], .int .u8 a1, .int .u8 a2, .int .u8 a3] w fun e w' => e = .returned (.bool true) ∧ Below w.heap.size w w' := by
  have HL := Lib.hid (Lies.new hr0 hc0 hr1 hc1)
  have HW : Hid (Below w.heap.size w (w.alloc (.cells #[.slice A0 l0.length c0, .slice A1 l1.length c1] 25))) := Lib.hid ((Below.refl _ w).alloc (Nat.le_refl _) _)
  have CO := Lib.hid (con_right hglb hr0 hc0 hr1 hc1 hright hrb)
  have ri := CO.out.ri
  rw [hrb] at ri hright
  have RI := Lib.hid ri
  have L := isLat_of hright
  obtain ⟨s1, s2, s3, s4, s5, s6, s7, s8⟩ := right_spec hright
  obtain ⟨x, hx, hxn⟩ := point_mod a1 l0.length hx0 s8
  obtain ⟨y, hy, hyn⟩ := point_mod a2 l0.length hy0 s8
  obtain ⟨z, hz, hzn⟩ := point_mod a3 l0.length hz0 s8
  have hxl : x < l1.length := by omega
  obtain ⟨hxx, hrest⟩ := order_facts L hxl (show y < l1.length by omega) (show z < l1.length by omega)
  obtain ⟨b, eb, hbl, hball⟩ := L.bottom
  obtain ⟨t, et, htl, htall⟩ := L.top
  have f1 : LQ l1 (botV l1) x = true := by rw [eb, (LQ_iff hbl hxl).2 (hball x hxl)]
  have f2 : LQ l1 x (topV l1) = true := by rw [et, (LQ_iff hxl htl).2 (htall x hxl)]
  have f3 : LQ l1 x (l0.length : Nat) = false := by
    have : inP l1 (l0.length : Nat) = false := by simp [inP]; omega
    rw [LQ, this, Bool.false_and, Bool.and_false]
  have f4 : LQ l1 (-1) x = false := by
    have : inP l1 (-1) = false := by simp [inP]
    rw [LQ, this, Bool.false_and]
  have n1 : ((l0.length : Int) == 0) = false := beq_eq_false_iff_ne.2 (by omega)
  have n2 : ((l0.length : Int) != 0) = true := bne_iff_ne.2 (by omega)
  have n3 : ¬ (l0 = []) := fun h => by rw [h] at s8; exact absurd s8 (by simp)
  have LE := Lib.hid (con_le hr0 hc0 hr1 hc1 hright)
  clear ri hr0 hr1 hglb hright hrb eb et hball htall s1 s2 s3 s4 s5 s6 s7 hbl htl hxl
  rcases hrest with hxy | ⟨hxy, ⟨hyx, he⟩ | ⟨hyx, he⟩, hyz | ⟨hyz, hxz⟩⟩
  all_goals
    go_enter Tryd.func4, Tryd.ntmps4
    go_wp2_with (first
      | (go_at_call 15; with_reducible refine (CO.out.ex _ HW.out).mono ?_; rintro e w1 ⟨rfl, hb⟩; have L1 := HL.out.past hb; have k0 := L1.k0; have k1 := L1.k1; have LL := Lib.hid L1; have D1 := Lib.hid (HW.out.trans (hb.mono HW.out.size)); clear hb L1)
      | (go_at_call 20; with_reducible refine (RI.out _ D1.out).mono ?_; rintro e w2 ⟨rfl, hb⟩; have L2 := LL.out.past hb; clear k0 k1 LL; have k0 := L2.k0; have k1 := L2.k1; have LL := Lib.hid L2; have D2 := D1.out.trans (hb.mono D1.out.size); clear D1; have D1 := Lib.hid D2; clear hb L2 D2)
      | (go_at_call 22; with_reducible refine (LE.out _ D1.out _ _).mono ?_; rintro e w2 ⟨rfl, hb⟩; have L2 := LL.out.past hb; clear k0 k1 LL; have k0 := L2.k0; have k1 := L2.k1; have LL := Lib.hid L2; have D2 := D1.out.trans (hb.mono D1.out.size); clear D1; have D1 := Lib.hid D2; clear hb L2 D2))
    have q0 := cell_regrown k0
    have q1 := cell_regrown k1
    have CL := Lib.hid fun d os a b => Calls.regrown_of (LE.out _ (D1.out.trans ((below_regrown _ d os).mono D1.out.size)) a b)
    have CB := Lib.hid fun d os => Calls.regrown_of (CO.out.bo _ (D1.out.trans ((below_regrown _ d os).mono D1.out.size)))
    have CT := Lib.hid fun d os => Calls.regrown_of (CO.out.tp _ (D1.out.trans ((below_regrown _ d os).mono D1.out.size)))
    refine wp_region_quiet_below (by kernel_rfl) (by kernel_rfl) ?_
    repeat (go_big_quiet_step (first | exact CL.out _ _ _ _ | exact CB.out _ _ | exact CT.out _ _))
    refine wpQuiet_nil ?_
    intro W3 hw'
    obtain ⟨⟨dq, osq⟩, hw''⟩ := hw'
    have E3 := Lib.hid (D1.out.trans ((hw'' ▸ below_regrown _ dq osq).mono D1.out.size))
    clear hw'' q0 q1 k0 k1
    go_wp2
    go_ret
    exact ⟨rfl, E3.out⟩

theorem latOrder_true (A0 : Option Addr) (c0 : Nat) (l0 : List ByteArray) (A1 : Option Addr) (c1 : Nat) (l1 : List Int) (a1 a2 a3 : Int) (w : World) (hglb : Glb w) (hr0 : Kd.C Kd.string w A0 l0.length l0) (hc0 : l0.length ≤ c0) (hr1 : Kd.C (Kd.int .u64) w A1 l1.length l1) (hc1 : l1.length ≤ c1)
    (hw : words l1 = true) (hs : ∀ s ∈ l0, s.size ≤ 9223372036854775807) (hx0 : 0 ≤ a1) (hx1 : a1 ≤ 255) (hy0 : 0 ≤ a2) (hy1 : a2 ≤ 255) (hz0 : 0 ≤ a3) (hz1 : a3 ≤ 255) :
    Calls Tryd.prog 4 #[.agg #[.slice A0 l0.length c0, .slice A1 l1.length c1], .int .u8 a1, .int .u8 a2, .int .u8 a3] w fun e w' => e = .returned (.bool true) ∧ Below w.heap.size w w' := by
  have hright : lat_Right.f l0 l1 = some (rightB l0 l1) := by rw [lat_Right.f, if_pos ⟨hw, hs⟩]
  cases hrb : rightB l0 l1 with
  | false => exact latOrder_wrong A0 c0 l0 A1 c1 l1 a1 a2 a3 w hglb hr0 hc0 hr1 hc1 hright hrb
  | true => exact latOrder_right A0 c0 l0 A1 c1 l1 a1 a2 a3 w hglb hr0 hc0 hr1 hc1 hright hrb hx0 hx1 hy0 hy1 hz0 hz1
end Go.Proofs.YtjlpclcdbnfikaaDoor.P
