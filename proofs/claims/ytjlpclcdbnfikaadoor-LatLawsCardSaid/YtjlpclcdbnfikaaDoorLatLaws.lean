/- chancellaw01.LatLaws: the walk; and that it answers true. -/
import Derived.Test.YtjlpclcdbnfikaaDoorExamples
import Derived.Test.YtjlpclcdbnfikaaDoorLattice2
namespace Go.Proofs.YtjlpclcdbnfikaaDoor.P
open Go.RowKit Go.Shelf Go.Sort
open Go.Proofs.YtjlpclcdbnfikaaDoorW.PrintWords Go.Proofs.YtjlpclcdbnfikaaDoorW.PrintLast Go.Proofs.YtjlpclcdbnfikaaDoorW.PrintMore

/-- A point out of a byte. -/
theorem point_of (a : Int) (n : Nat) (h0 : 0 ≤ a) (hn : 0 < n) : ∃ x : Nat, a % (n : Int) = (x : Nat) ∧ x < n := by
  obtain ⟨y, rfl⟩ : ∃ y : Nat, a = y := ⟨a.toNat, by omega⟩
  exact ⟨y % n, (Int.natCast_emod y n).symm, Nat.mod_lt _ hn⟩

set_option maxHeartbeats 4000000 in
theorem latLaws_true (A0 : Option Addr) (c0 : Nat) (l0 : List ByteArray) (A1 : Option Addr) (c1 : Nat) (l1 : List Int) (a1 a2 a3 : Int) (w : World) (hglb : Glb w) (hr0 : Kd.C Kd.string w A0 l0.length l0) (hc0 : l0.length ≤ c0) (hr1 : Kd.C (Kd.int .u64) w A1 l1.length l1) (hc1 : l1.length ≤ c1)
    (hw : words l1 = true) (hs : ∀ s ∈ l0, s.size ≤ 9223372036854775807) (hx0 : 0 ≤ a1) (hx1 : a1 ≤ 255) (hy0 : 0 ≤ a2) (hy1 : a2 ≤ 255) (hz0 : 0 ≤ a3) (hz1 : a3 ≤ 255) :
    Calls Tryd.prog 6 #[.agg #[.slice A0 l0.length c0, .slice A1 l1.length c1], .int .u8 a1, .int .u8 a2, .int .u8 a3] w fun e w' => e = .returned (.bool true) ∧ Below w.heap.size w w' := by
  have hright : lat_Right.f l0 l1 = some (rightB l0 l1) := by rw [lat_Right.f, if_pos ⟨hw, hs⟩]
  have hL := Lies.new hr0 hc0 hr1 hc1
  have hW : Below w.heap.size w (w.alloc (.cells #[.slice A0 l0.length c0, .slice A1 l1.length c1] 25)) := (Below.refl _ w).alloc (Nat.le_refl _) _
  have ex : ∀ W, Below w.heap.size w W → Calls Tryd.prog 15 #[] W fun e w' => e = .returned (.bool true) ∧ Below W.heap.size W w' := fun W hb => examples_true W (hglb.past hb)
  have ri : ∀ W, Below w.heap.size w W → Calls Tryd.prog 20 #[.agg #[.slice A0 l0.length c0, .slice A1 l1.length c1]] W fun e w' => e = .returned (.bool (rightB l0 l1)) ∧ Below W.heap.size W w' := fun W hb => lat_Right.calls A0 c0 l0 A1 c1 l1 _ W (Kd.C_below hr0 hb) hc0 (Kd.C_below hr1 hb) hc1 (hglb.past hb) hright
  have EX := Lib.hid ex
  have RI := Lib.hid ri
  have HL := Lib.hid hL
  have HW := Lib.hid hW
  have HC0 := Lib.hid hr0
  have HC1 := Lib.hid hr1
  have HG := Lib.hid hglb
  clear ex ri hL hW hr0 hr1 hglb
  cases hrb : rightB l0 l1 with
  | false =>
    rw [hrb] at RI
    clear hrb hright
    go_enter Tryd.func6, Tryd.ntmps6
    go_wp2_with (first
      | (go_at_call 15; with_reducible refine (EX.out _ HW.out).mono ?_; rintro e w1 ⟨rfl, hb⟩; have L1 := HL.out.past hb; have k0 := L1.k0; have k1 := L1.k1; have D1 := Lib.hid (HW.out.trans (hb.mono HW.out.size)); clear hb L1)
      | (go_at_call 20; with_reducible refine (RI.out _ D1.out).mono ?_; rintro e w2 ⟨rfl, hb⟩; have D2 := Lib.hid (D1.out.trans (hb.mono D1.out.size)); clear hb))
    go_ret
    exact ⟨rfl, D2.out⟩
  | true =>
    rw [hrb] at RI hright
    have L := isLat_of hright
    obtain ⟨s1, s2, s3, s4, s5, s6, s7, s8⟩ := right_spec hright
    obtain ⟨x, hx, hxn⟩ := point_of a1 l0.length hx0 s8
    obtain ⟨y, hy, hyn⟩ := point_of a2 l0.length hy0 s8
    obtain ⟨z, hz, hzn⟩ := point_of a3 l0.length hz0 s8
    have hxl : x < l1.length := by omega
    have hyl : y < l1.length := by omega
    have hzl : z < l1.length := by omega
    obtain ⟨_, jxy, _⟩ := L.join hxl hyl
    obtain ⟨_, jyz, _⟩ := L.join hyl hzl
    obtain ⟨_, mxy, _⟩ := L.meet hxl hyl
    obtain ⟨_, myz, _⟩ := L.meet hyl hzl
    obtain ⟨b, eb, hbl, hball⟩ := L.bottom
    obtain ⟨t, et, htl, htall⟩ := L.top
    have f1 : (JV l1 (JV l1 x y) z == JV l1 x (JV l1 y z)) = true := by rw [L.JV_eq hxl hyl, L.JV_eq hyl hzl, L.JV_eq jxy hzl, L.JV_eq hxl jyz, L.jn_assoc hxl hyl hzl]; exact beq_self_eq_true _
    have f2 : (JV l1 x y == JV l1 y x) = true := by rw [L.JV_eq hxl hyl, L.JV_eq hyl hxl, jn_comm]; exact beq_self_eq_true _
    have f3 : (JV l1 x (MV l1 x y) == (x : Int)) = true := by rw [L.MV_eq hxl hyl, L.JV_eq hxl mxy, L.jn_absorb hxl hyl]; exact beq_self_eq_true _
    have g1 : (MV l1 (MV l1 x y) z == MV l1 x (MV l1 y z)) = true := by rw [L.MV_eq hxl hyl, L.MV_eq hyl hzl, L.MV_eq mxy hzl, L.MV_eq hxl myz, L.mt_assoc hxl hyl hzl]; exact beq_self_eq_true _
    have g2 : (MV l1 x y == MV l1 y x) = true := by rw [L.MV_eq hxl hyl, L.MV_eq hyl hxl, mt, meetAt_comm]; exact beq_self_eq_true _
    have g3 : (MV l1 x (JV l1 x y) == (x : Int)) = true := by rw [L.JV_eq hxl hyl, L.MV_eq hxl jxy, L.mt_absorb hxl hyl]; exact beq_self_eq_true _
    have e1 : (JV l1 x (botV l1) == (x : Int)) = true := by rw [eb, L.JV_eq hxl hbl, L.jn_unique hxl hbl (L.refl hxl) (hball x hxl) fun w _ h _ => h]; exact beq_self_eq_true _
    have e2 : (MV l1 x (topV l1) == (x : Int)) = true := by rw [et, L.MV_eq hxl htl, L.mt_unique hxl htl hxl (L.refl hxl) (htall x hxl) fun w _ h _ => h]; exact beq_self_eq_true _
    have e3 : (JV l1 x (l0.length : Nat) == -1) = true := by
      have : inP l1 (l0.length : Nat) = false := by simp [inP]; omega
      rw [JV, this, Bool.and_false]; rfl
    have e4 : (MV l1 (-1) x == -1) = true := by
      have : inP l1 (-1) = false := by simp [inP]
      rw [MV, this, Bool.false_and]; rfl
    have n1 : ((l0.length : Int) == 0) = false := beq_eq_false_iff_ne.2 (by omega)
    have n2 : ((l0.length : Int) != 0) = true := bne_iff_ne.2 (by omega)
    have n3 : ¬ (l0 = []) := fun h => by rw [h] at s8; exact absurd s8 (by simp)
    have cj : ∀ W, Below w.heap.size w W → ∀ d os a b, Calls Tryd.prog 28 #[.agg #[.slice A0 l0.length c0, .slice A1 l1.length c1], .int .i64 a, .int .i64 b] (grow (redrawn W d) os) fun e w'' => e = .returned (.int .i64 (JV l1 a b)) ∧ ∃ p : Regrown, w'' = grow (redrawn W p.d) p.os :=
      fun W hb d os a b => Calls.regrown_of (lat_Join.calls A0 c0 l0 A1 c1 l1 a b _ _ (Kd.C_below (Kd.C_below HC0.out hb) (below_regrown W d os)) hc0 (Kd.C_below (Kd.C_below HC1.out hb) (below_regrown W d os)) hc1 ((HG.out.past hb).past (below_regrown W d os)) (join_f hright a b))
    have cm : ∀ W, Below w.heap.size w W → ∀ d os a b, Calls Tryd.prog 30 #[.agg #[.slice A0 l0.length c0, .slice A1 l1.length c1], .int .i64 a, .int .i64 b] (grow (redrawn W d) os) fun e w'' => e = .returned (.int .i64 (MV l1 a b)) ∧ ∃ p : Regrown, w'' = grow (redrawn W p.d) p.os :=
      fun W hb d os a b => Calls.regrown_of (lat_Meet.calls A0 c0 l0 A1 c1 l1 a b _ _ (Kd.C_below (Kd.C_below HC0.out hb) (below_regrown W d os)) hc0 (Kd.C_below (Kd.C_below HC1.out hb) (below_regrown W d os)) hc1 ((HG.out.past hb).past (below_regrown W d os)) (meet_f hright a b))
    have cb : ∀ W, Below w.heap.size w W → ∀ d os, Calls Tryd.prog 32 #[.agg #[.slice A0 l0.length c0, .slice A1 l1.length c1]] (grow (redrawn W d) os) fun e w'' => e = .returned (.int .i64 (botV l1)) ∧ ∃ p : Regrown, w'' = grow (redrawn W p.d) p.os :=
      fun W hb d os => Calls.regrown_of (lat_Bottom.calls 65 A0 c0 l0 A1 c1 l1 _ _ (Kd.C_below (Kd.C_below HC0.out hb) (below_regrown W d os)) hc0 (Kd.C_below (Kd.C_below HC1.out hb) (below_regrown W d os)) hc1 ((HG.out.past hb).past (below_regrown W d os)) (bottom_f hright))
    have ct : ∀ W, Below w.heap.size w W → ∀ d os, Calls Tryd.prog 34 #[.agg #[.slice A0 l0.length c0, .slice A1 l1.length c1]] (grow (redrawn W d) os) fun e w'' => e = .returned (.int .i64 (topV l1)) ∧ ∃ p : Regrown, w'' = grow (redrawn W p.d) p.os :=
      fun W hb d os => Calls.regrown_of (lat_Top.calls A0 c0 l0 A1 c1 l1 _ _ (Kd.C_below (Kd.C_below HC0.out hb) (below_regrown W d os)) hc0 (Kd.C_below (Kd.C_below HC1.out hb) (below_regrown W d os)) hc1 ((HG.out.past hb).past (below_regrown W d os)) (top_f hright))
    have CJ := Lib.hid cj
    have CM := Lib.hid cm
    have CB := Lib.hid cb
    have CT := Lib.hid ct
    clear cj cm cb ct hrb hright eb et hball htall hs hw s1 s2 s3 s4 s5 s6 s7 hxl hyl hzl jxy jyz mxy myz hbl htl
    go_enter Tryd.func6, Tryd.ntmps6
    go_wp2_with (first
      | (go_at_call 15; with_reducible refine (EX.out _ HW.out).mono ?_; rintro e w1 ⟨rfl, hb⟩; have L1 := HL.out.past hb; have k0 := L1.k0; have k1 := L1.k1; have LL := Lib.hid L1; have D1 := Lib.hid (HW.out.trans (hb.mono HW.out.size)); clear hb L1)
      | (go_at_call 20; with_reducible refine (RI.out _ D1.out).mono ?_; rintro e w2 ⟨rfl, hb⟩; have L2 := LL.out.past hb; clear k0 k1; have k0 := L2.k0; have k1 := L2.k1; have L2' := Lib.hid L2; have D2 := Lib.hid (D1.out.trans (hb.mono D1.out.size)); clear hb L2))
    have q0 := cell_regrown k0
    have q1 := cell_regrown k1
    have CJ3 := Lib.hid (CJ.out _ D2.out)
    have CM3 := Lib.hid (CM.out _ D2.out)
    refine wp_region_quiet_below (by kernel_rfl) (by kernel_rfl) ?_
    repeat (go_big_quiet_step (first | exact CJ3.out _ _ _ _ | exact CM3.out _ _ _ _))
    refine wpQuiet_nil ?_
    intro W3 hw'
    obtain ⟨⟨dq, osq⟩, hw''⟩ := hw'
    have hb3 : Below w2.heap.size w2 W3 := hw'' ▸ below_regrown w2 dq osq
    clear hw'' q0 q1 k0 k1
    have M3 := L2'.out.past hb3
    have k0 := M3.k0
    have k1 := M3.k1
    have N3 := Lib.hid M3
    have E3 := Lib.hid (D2.out.trans (hb3.mono D2.out.size))
    clear M3 hb3
    go_wp2
    have q0 := cell_regrown k0
    have q1 := cell_regrown k1
    have CJ4 := Lib.hid (CJ.out _ E3.out)
    have CM4 := Lib.hid (CM.out _ E3.out)
    refine wp_region_quiet_below (by kernel_rfl) (by kernel_rfl) ?_
    repeat (go_big_quiet_step (first | exact CJ4.out _ _ _ _ | exact CM4.out _ _ _ _))
    refine wpQuiet_nil ?_
    intro W4 hw'
    obtain ⟨⟨dq, osq⟩, hw''⟩ := hw'
    have hb4 : Below W3.heap.size W3 W4 := hw'' ▸ below_regrown W3 dq osq
    clear hw'' q0 q1 k0 k1
    have M4 := N3.out.past hb4
    have k0 := M4.k0
    have k1 := M4.k1
    have N4 := Lib.hid M4
    have E4 := Lib.hid (E3.out.trans (hb4.mono E3.out.size))
    clear M4 hb4
    go_wp2
    have q0 := cell_regrown k0
    have q1 := cell_regrown k1
    have CJ5 := Lib.hid (CJ.out _ E4.out)
    have CM5 := Lib.hid (CM.out _ E4.out)
    have CB5 := Lib.hid (CB.out _ E4.out)
    have CT5 := Lib.hid (CT.out _ E4.out)
    refine wp_region_quiet_below (by kernel_rfl) (by kernel_rfl) ?_
    repeat (go_big_quiet_step (first | exact CJ5.out _ _ _ _ | exact CM5.out _ _ _ _ | exact CB5.out _ _ | exact CT5.out _ _))
    refine wpQuiet_nil ?_
    intro W5 hw'
    obtain ⟨⟨dq, osq⟩, hw''⟩ := hw'
    have hb5 : Below W4.heap.size W4 W5 := hw'' ▸ below_regrown W4 dq osq
    clear hw'' q0 q1 k0 k1
    have M5 := N4.out.past hb5
    have k0 := M5.k0
    have k1 := M5.k1
    have N5 := Lib.hid M5
    have E5 := Lib.hid (E4.out.trans (hb5.mono E4.out.size))
    clear M5 hb5
    go_wp2
    go_ret
    exact ⟨rfl, E5.out⟩
end Go.Proofs.YtjlpclcdbnfikaaDoor.P
