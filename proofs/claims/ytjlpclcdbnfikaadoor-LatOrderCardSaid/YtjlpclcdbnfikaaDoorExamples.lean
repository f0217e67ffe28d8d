/- chancellaw01.examples: it answers true. -/
import Derived.Test.YtjlpclcdbnfikaaDoorVals
namespace Go.Proofs.YtjlpclcdbnfikaaDoor.P
open Go.RowKit Go.Shelf Go.Sort
open Go.Proofs.YtjlpclcdbnfikaaDoorW.PrintWords Go.Proofs.YtjlpclcdbnfikaaDoorW.PrintLast Go.Proofs.YtjlpclcdbnfikaaDoorW.PrintMore

/-- A lattice lies in a block. -/
structure Lies (b : Nat) (A0 : Option Addr) (c0 : Nat) (l0 : List ByteArray) (A1 : Option Addr) (c1 : Nat) (l1 : List Int) (W : World) : Prop where
  blk : W.heap[b]? = some (.cells #[.slice A0 l0.length c0, .slice A1 l1.length c1] 25 (0, 0))
  r0 : Kd.C Kd.string W A0 l0.length l0
  h0 : l0.length ≤ c0
  r1 : Kd.C (Kd.int .u64) W A1 l1.length l1
  h1 : l1.length ≤ c1
theorem Lies.past {b : Nat} {A0 : Option Addr} {c0 : Nat} {l0 : List ByteArray} {A1 : Option Addr} {c1 : Nat} {l1 : List Int} {W W' : World} (h : Lies b A0 c0 l0 A1 c1 l1 W) (hb : Below W.heap.size W W') : Lies b A0 c0 l0 A1 c1 l1 W' :=
  ⟨(hb.block _ (block_lt h.blk)).trans h.blk, Kd.C_below h.r0 hb, h.h0, Kd.C_below h.r1 hb, h.h1⟩
theorem Lies.k0 {b : Nat} {A0 : Option Addr} {c0 : Nat} {l0 : List ByteArray} {A1 : Option Addr} {c1 : Nat} {l1 : List Int} {W : World} (h : Lies b A0 c0 l0 A1 c1 l1 W) : W.cell? ⟨b, 0, none⟩ = some (.slice A0 l0.length c0) := cell_in (j := 0) h.blk rfl
theorem Lies.k1 {b : Nat} {A0 : Option Addr} {c0 : Nat} {l0 : List ByteArray} {A1 : Option Addr} {c1 : Nat} {l1 : List Int} {W : World} (h : Lies b A0 c0 l0 A1 c1 l1 W) : W.cell? ⟨b, 1, none⟩ = some (.slice A1 l1.length c1) := cell_in (j := 1) h.blk rfl
theorem Lies.new {A0 : Option Addr} {c0 : Nat} {l0 : List ByteArray} {A1 : Option Addr} {c1 : Nat} {l1 : List Int} {W : World} (r0 : Kd.C Kd.string W A0 l0.length l0) (h0 : l0.length ≤ c0) (r1 : Kd.C (Kd.int .u64) W A1 l1.length l1) (h1 : l1.length ≤ c1) :
    Lies W.heap.size A0 c0 l0 A1 c1 l1 (W.alloc (.cells #[.slice A0 l0.length c0, .slice A1 l1.length c1] 25)) :=
  ⟨block_new _ rfl, Kd.C_below r0 ((Below.refl _ _).alloc (Nat.le_refl _) _), h0, Kd.C_below r1 ((Below.refl _ _).alloc (Nat.le_refl _) _), h1⟩

/-- What the calls of the last condition find: both lattices, and what the premise is of. -/
structure Two (w : World) (b : Nat) (A0 : Option Addr) (c0 : Nat) (l0 : List ByteArray) (A1 : Option Addr) (c1 : Nat) (l1 : List Int) (b' : Nat) (A0' : Option Addr) (c0' : Nat) (l0' : List ByteArray) (A1' : Option Addr) (c1' : Nat) (l1' : List Int) (W : World) : Prop where
  hB : Below w.heap.size w W
  d : Lies b A0 c0 l0 A1 c1 l1 W
  l : Lies b' A0' c0' l0' A1' c1' l1' W
theorem Two.past {w : World} {b : Nat} {A0 : Option Addr} {c0 : Nat} {l0 : List ByteArray} {A1 : Option Addr} {c1 : Nat} {l1 : List Int} {b' : Nat} {A0' : Option Addr} {c0' : Nat} {l0' : List ByteArray} {A1' : Option Addr} {c1' : Nat} {l1' : List Int} {W W' : World}
    (h : Two w b A0 c0 l0 A1 c1 l1 b' A0' c0' l0' A1' c1' l1' W) (hb : Below W.heap.size W W') : Two w b A0 c0 l0 A1 c1 l1 b' A0' c0' l0' A1' c1' l1' W' := ⟨h.hB.trans (hb.mono h.hB.size), h.d.past hb, h.l.past hb⟩

theorem Kd.C_none {α : Type} (d : Kd α) (W : World) : d.C W none ([] : List α).length [] := Kd.C_nil d W
def exLu : List Int := [3, 2]

set_option maxHeartbeats 4000000 in
set_option maxRecDepth 20000 in
theorem examples_true (w : World) (hglb : Glb w) : Calls Tryd.prog 15 #[] w fun e w' => e = .returned (.bool true) ∧ Below w.heap.size w w' := by
  have G := fun W (hW : Below w.heap.size w W) => hglb.past hW
  have HG := Lib.hid G
  have C48 := Lib.hid (chancellaw01_diamond.calls exD exDu w rfl)
  have P1 := Lib.hid fun W (hW : Below w.heap.size w W) => lat_Parse.calls 1000 _ exL exLu 0 W (HG.out W hW) ex_parse_1
  have P2 := Lib.hid fun W (hW : Below w.heap.size w W) => lat_Parse.calls 1000 _ [] [] 3 W (HG.out W hW) ex_parse_2
  have P3 := Lib.hid fun W (hW : Below w.heap.size w W) => lat_Parse.calls 1000 _ [] [] 4 W (HG.out W hW) ex_parse_3
  have P4 := Lib.hid fun W (hW : Below w.heap.size w W) => lat_Parse.calls 1000 _ [] [] 2 W (HG.out W hW) ex_parse_4
  have j1 : ∀ b A0 c0 A1 c1 b' A0' c0' A1' c1' W, Two w b A0 c0 exD A1 c1 exDu b' A0' c0' exL A1' c1' exLu W → Calls Tryd.prog 28 #[.agg #[.slice A0' exL.length c0', .slice A1' exLu.length c1'], .int .i64 0, .int .i64 1] W fun e w' => e = .returned (.int .i64 1) ∧ Below W.heap.size W w' := fun b A0 c0 A1 c1 b' A0' c0' A1' c1' W T => lat_Join.calls _ _ _ _ _ _ 0 1 1 W T.l.r0 T.l.h0 T.l.r1 T.l.h1 (HG.out W T.hB) ex_join_l
  have J1 := Lib.hid j1
  clear j1
  have bo : ∀ b A0 c0 A1 c1 b' A0' c0' A1' c1' W, Two w b A0 c0 exD A1 c1 exDu b' A0' c0' exL A1' c1' exLu W → Calls Tryd.prog 32 #[.agg #[.slice A0' exL.length c0', .slice A1' exLu.length c1']] W fun e w' => e = .returned (.int .i64 0) ∧ Below W.heap.size W w' := fun b A0 c0 A1 c1 b' A0' c0' A1' c1' W T => lat_Bottom.calls 100 _ _ _ _ _ _ 0 W T.l.r0 T.l.h0 T.l.r1 T.l.h1 (HG.out W T.hB) ex_bottom
  have BO := Lib.hid bo
  clear bo
  have tp : ∀ b A0 c0 A1 c1 b' A0' c0' A1' c1' W, Two w b A0 c0 exD A1 c1 exDu b' A0' c0' exL A1' c1' exLu W → Calls Tryd.prog 34 #[.agg #[.slice A0' exL.length c0', .slice A1' exLu.length c1']] W fun e w' => e = .returned (.int .i64 1) ∧ Below W.heap.size W w' := fun b A0 c0 A1 c1 b' A0' c0' A1' c1' W T => lat_Top.calls _ _ _ _ _ _ 1 W T.l.r0 T.l.h0 T.l.r1 T.l.h1 (HG.out W T.hB) ex_top
  have TO := Lib.hid tp
  clear tp
  have ri : ∀ b A0 c0 A1 c1 b' A0' c0' A1' c1' W, Two w b A0 c0 exD A1 c1 exDu b' A0' c0' exL A1' c1' exLu W → Calls Tryd.prog 20 #[.agg #[.slice A0 exD.length c0, .slice A1 exDu.length c1]] W fun e w' => e = .returned (.bool true) ∧ Below W.heap.size W w' := fun b A0 c0 A1 c1 b' A0' c0' A1' c1' W T => lat_Right.calls _ _ _ _ _ _ true W T.d.r0 T.d.h0 T.d.r1 T.d.h1 (HG.out W T.hB) ex_right_d
  have RI := Lib.hid ri
  clear ri
  have j2 : ∀ b A0 c0 A1 c1 b' A0' c0' A1' c1' W, Two w b A0 c0 exD A1 c1 exDu b' A0' c0' exL A1' c1' exLu W → Calls Tryd.prog 28 #[.agg #[.slice A0 exD.length c0, .slice A1 exDu.length c1], .int .i64 1, .int .i64 2] W fun e w' => e = .returned (.int .i64 3) ∧ Below W.heap.size W w' := fun b A0 c0 A1 c1 b' A0' c0' A1' c1' W T => lat_Join.calls _ _ _ _ _ _ 1 2 3 W T.d.r0 T.d.h0 T.d.r1 T.d.h1 (HG.out W T.hB) ex_join_d
  have J2 := Lib.hid j2
  clear j2
  have me : ∀ b A0 c0 A1 c1 b' A0' c0' A1' c1' W, Two w b A0 c0 exD A1 c1 exDu b' A0' c0' exL A1' c1' exLu W → Calls Tryd.prog 30 #[.agg #[.slice A0 exD.length c0, .slice A1 exDu.length c1], .int .i64 1, .int .i64 2] W fun e w' => e = .returned (.int .i64 0) ∧ Below W.heap.size W w' := fun b A0 c0 A1 c1 b' A0' c0' A1' c1' W T => lat_Meet.calls _ _ _ _ _ _ 1 2 0 W T.d.r0 T.d.h0 T.d.r1 T.d.h1 (HG.out W T.hB) ex_meet_d
  have ME := Lib.hid me
  clear me
  have f1 : ∀ b A0 c0 A1 c1 b' A0' c0' A1' c1' W, Two w b A0 c0 exD A1 c1 exDu b' A0' c0' exL A1' c1' exLu W → Calls Tryd.prog 26 #[.agg #[.slice A0 exD.length c0, .slice A1 exDu.length c1], .string ⟨#[66]⟩] W fun e w' => e = .returned (.int .i64 2) ∧ Below W.heap.size W w' := fun b A0 c0 A1 c1 b' A0' c0' A1' c1' W T => lat_Find.calls 100 _ _ _ _ _ _ _ 2 W T.d.r0 T.d.h0 T.d.r1 T.d.h1 ex_find_b
  have F1 := Lib.hid f1
  clear f1
  have f2 : ∀ b A0 c0 A1 c1 b' A0' c0' A1' c1' W, Two w b A0 c0 exD A1 c1 exDu b' A0' c0' exL A1' c1' exLu W → Calls Tryd.prog 26 #[.agg #[.slice A0 exD.length c0, .slice A1 exDu.length c1], .string ⟨#[67]⟩] W fun e w' => e = .returned (.int .i64 (-1)) ∧ Below W.heap.size W w' := fun b A0 c0 A1 c1 b' A0' c0' A1' c1' W T => lat_Find.calls 100 _ _ _ _ _ _ _ (-1) W T.d.r0 T.d.h0 T.d.r1 T.d.h1 ex_find_c
  have F2 := Lib.hid f2
  clear f2
  have pr : ∀ b A0 c0 A1 c1 b' A0' c0' A1' c1' W, Two w b A0 c0 exD A1 c1 exDu b' A0' c0' exL A1' c1' exLu W → Calls Tryd.prog 36 #[.agg #[.slice A0' exL.length c0', .slice A1' exLu.length c1']] W fun e w' => e = .returned (.string ⟨#[76, 111, 32, 72, 105, 10, 49, 49, 10, 48, 49, 10]⟩) ∧ Below W.heap.size W w' := fun b A0 c0 A1 c1 b' A0' c0' A1' c1' W T => lat_Print.calls _ _ _ _ _ _ _ W T.l.r0 T.l.h0 T.l.r1 T.l.h1 (HG.out W T.hB) ex_print
  have PR := Lib.hid pr
  clear pr
  have q1 : ∀ b A0 c0 A1 c1 b' A0' c0' A1' c1' W, Two w b A0 c0 exD A1 c1 exDu b' A0' c0' exL A1' c1' exLu W → Calls Tryd.prog 22 #[.agg #[.slice A0 exD.length c0, .slice A1 exDu.length c1], .int .i64 1, .int .i64 3] W fun e w' => e = .returned (.bool true) ∧ Below W.heap.size W w' := fun b A0 c0 A1 c1 b' A0' c0' A1' c1' W T => lat_Leq.calls _ _ _ _ _ _ 1 3 true W T.d.r0 T.d.h0 T.d.r1 T.d.h1 ex_leq_13
  have Q1 := Lib.hid q1
  clear q1
  have q2 : ∀ b A0 c0 A1 c1 b' A0' c0' A1' c1' W, Two w b A0 c0 exD A1 c1 exDu b' A0' c0' exL A1' c1' exLu W → Calls Tryd.prog 22 #[.agg #[.slice A0 exD.length c0, .slice A1 exDu.length c1], .int .i64 1, .int .i64 2] W fun e w' => e = .returned (.bool false) ∧ Below W.heap.size W w' := fun b A0 c0 A1 c1 b' A0' c0' A1' c1' W T => lat_Leq.calls _ _ _ _ _ _ 1 2 false W T.d.r0 T.d.h0 T.d.r1 T.d.h1 ex_leq_12
  have Q2 := Lib.hid q2
  clear q2
  have n1 : ∀ W : World, Calls Tryd.prog 24 #[.string ⟨#[97, 49]⟩] W fun e w' => e = .returned (.bool true) ∧ Below W.heap.size W w' := fun W => (lat_Name.calls 100 ⟨#[97, 49]⟩ true W ex_name_a).mono fun e w' h => ⟨h.1, Drawn0.below h.2⟩
  have n2 : ∀ W : World, Calls Tryd.prog 24 #[.string ⟨#[49, 97]⟩] W fun e w' => e = .returned (.bool false) ∧ Below W.heap.size W w' := fun W => (lat_Name.calls 100 ⟨#[49, 97]⟩ false W ex_name_1).mono fun e w' h => ⟨h.1, Drawn0.below h.2⟩
  have N1 := Lib.hid n1
  have N2 := Lib.hid n2
  clear n1 n2
  have r0 : ∀ W, Below w.heap.size w W → Calls Tryd.prog 20 #[.agg #[.slice none 0 0, .slice none 0 0]] W fun e w' => e = .returned (.bool false) ∧ Below W.heap.size W w' := fun W hW => lat_Right.calls none 0 [] none 0 [] false W (Kd.C_none _ W) (Nat.le_refl _) (Kd.C_none _ W) (Nat.le_refl _) (HG.out W hW) ex_right_0
  have R0 := Lib.hid r0
  clear r0
  have hlen : (((exL.length : Nat) : Int) != 2) = false := by decide
  clear G hglb
  go_enter Tryd.func15, Tryd.ntmps15
  go_wp2_with (first
    | (go_at_call 48; refine C48.out.mono ?_; rintro e w1 ⟨v0, v1, rfl, o0, o1, hb⟩; obtain ⟨A0, c0, rfl, h0, r0⟩ := Kd.R_reads o0; obtain ⟨A1, c1, rfl, h1, r1⟩ := Kd.R_reads o1
       have D := Lies.new r0 h0 r1 h1; have LD := Lib.hid D; have HB := Lib.hid (hb.alloc hb.size (.cells #[.slice A0 exD.length c0, .slice A1 exDu.length c1] 25)); clear hb o0 o1 r0 r1 h0 h1 D)
    | (go_at_call 17; with_reducible refine (P1.out _ HB.out).mono ?_; rintro e w2 ⟨v0, v1, rfl, o0, o1, hb⟩; obtain ⟨A2, c2, rfl, h0, r0⟩ := Kd.R_reads o0; obtain ⟨A3, c3, rfl, h1, r1⟩ := Kd.R_reads o1
       have D := Lies.new r0 h0 r1 h1; have hb2 : Below w2.heap.size w2 (w2.alloc (.cells #[.slice A2 exL.length c2, .slice A3 exLu.length c3] 25)) := (Below.refl _ _).alloc (Nat.le_refl _) _
       have hb1 := HB.out.trans (hb.mono HB.out.size)
       have T := Lib.hid (Two.mk (hb1.trans (hb2.mono hb1.size)) ((LD.out.past hb).past hb2) D); clear hb hb1 hb2 o0 o1 r0 r1 h0 h1 D HB LD)
    | (go_at_call 17; with_reducible refine (P2.out _ T.out.hB).mono ?_; rintro e W_ ⟨v0, v1, rfl, o0, o1, hb⟩; obtain ⟨A3, c3, rfl, -, -⟩ := Kd.R_reads o0; obtain ⟨A4, c4, rfl, -, -⟩ := Kd.R_reads o1
       have T2 := Lib.hid ((T.out.past hb).past ((Below.refl _ _).alloc (Nat.le_refl _) (.cells #[.slice A3 ([] : List ByteArray).length c3, .slice A4 ([] : List Int).length c4] 25))); simp only [List.length_nil] at T2; clear T hb o0 o1; have T := T2; clear T2)
    | (go_at_call 17; with_reducible refine (P3.out _ T.out.hB).mono ?_; rintro e W_ ⟨v0, v1, rfl, o0, o1, hb⟩; obtain ⟨A3, c3, rfl, -, -⟩ := Kd.R_reads o0; obtain ⟨A4, c4, rfl, -, -⟩ := Kd.R_reads o1
       have T2 := Lib.hid ((T.out.past hb).past ((Below.refl _ _).alloc (Nat.le_refl _) (.cells #[.slice A3 ([] : List ByteArray).length c3, .slice A4 ([] : List Int).length c4] 25))); simp only [List.length_nil] at T2; clear T hb o0 o1; have T := T2; clear T2)
    | (go_at_call 17; with_reducible refine (P4.out _ T.out.hB).mono ?_; rintro e W_ ⟨v0, v1, rfl, o0, o1, hb⟩; obtain ⟨A3, c3, rfl, -, -⟩ := Kd.R_reads o0; obtain ⟨A4, c4, rfl, -, -⟩ := Kd.R_reads o1
       have T2 := Lib.hid ((T.out.past hb).past ((Below.refl _ _).alloc (Nat.le_refl _) (.cells #[.slice A3 ([] : List ByteArray).length c3, .slice A4 ([] : List Int).length c4] 25))); simp only [List.length_nil] at T2; have kd0 := T2.out.d.k0; have kd1 := T2.out.d.k1; have kl0 := T2.out.l.k0; have kl1 := T2.out.l.k1; clear T hb o0 o1; have T := T2; clear T2)
    | (go_at_call 28; with_reducible refine (J1.out _ _ _ _ _ _ _ _ _ _ _ T.out).mono ?_; rintro e W_ ⟨rfl, hb⟩; have T2 := T.out.past hb; clear kd0 kd1 kl0 kl1; have kd0 := T2.d.k0; have kd1 := T2.d.k1; have kl0 := T2.l.k0; have kl1 := T2.l.k1; have T3 := Lib.hid T2; clear T hb T2; have T := T3; clear T3)
    | (go_at_call 32; with_reducible refine (BO.out _ _ _ _ _ _ _ _ _ _ _ T.out).mono ?_; rintro e W_ ⟨rfl, hb⟩; have T2 := T.out.past hb; clear kd0 kd1 kl0 kl1; have kd0 := T2.d.k0; have kd1 := T2.d.k1; have kl0 := T2.l.k0; have kl1 := T2.l.k1; have T3 := Lib.hid T2; clear T hb T2; have T := T3; clear T3)
    | (go_at_call 34; with_reducible refine (TO.out _ _ _ _ _ _ _ _ _ _ _ T.out).mono ?_; rintro e W_ ⟨rfl, hb⟩; have T2 := T.out.past hb; clear kd0 kd1 kl0 kl1; have kd0 := T2.d.k0; have kd1 := T2.d.k1; have kl0 := T2.l.k0; have kl1 := T2.l.k1; have T3 := Lib.hid T2; clear T hb T2; have T := T3; clear T3)
    | (go_at_call 20; with_reducible refine (RI.out _ _ _ _ _ _ _ _ _ _ _ T.out).mono ?_; rintro e W_ ⟨rfl, hb⟩; have T2 := T.out.past hb; clear kd0 kd1 kl0 kl1; have kd0 := T2.d.k0; have kd1 := T2.d.k1; have kl0 := T2.l.k0; have kl1 := T2.l.k1; have T3 := Lib.hid T2; clear T hb T2; have T := T3; clear T3)
    | (go_at_call 28; with_reducible refine (J2.out _ _ _ _ _ _ _ _ _ _ _ T.out).mono ?_; rintro e W_ ⟨rfl, hb⟩; have T2 := T.out.past hb; clear kd0 kd1 kl0 kl1; have kd0 := T2.d.k0; have kd1 := T2.d.k1; have kl0 := T2.l.k0; have kl1 := T2.l.k1; have T3 := Lib.hid T2; clear T hb T2; have T := T3; clear T3)
    | (go_at_call 30; with_reducible refine (ME.out _ _ _ _ _ _ _ _ _ _ _ T.out).mono ?_; rintro e W_ ⟨rfl, hb⟩; have T2 := T.out.past hb; clear kd0 kd1 kl0 kl1; have kd0 := T2.d.k0; have kd1 := T2.d.k1; have kl0 := T2.l.k0; have kl1 := T2.l.k1; have T3 := Lib.hid T2; clear T hb T2; have T := T3; clear T3)
    | (go_at_call 26; with_reducible refine (F1.out _ _ _ _ _ _ _ _ _ _ _ T.out).mono ?_; rintro e W_ ⟨rfl, hb⟩; have T2 := T.out.past hb; clear kd0 kd1 kl0 kl1; have kd0 := T2.d.k0; have kd1 := T2.d.k1; have kl0 := T2.l.k0; have kl1 := T2.l.k1; have T3 := Lib.hid T2; clear T hb T2; have T := T3; clear T3)
    | (go_at_call 26; with_reducible refine (F2.out _ _ _ _ _ _ _ _ _ _ _ T.out).mono ?_; rintro e W_ ⟨rfl, hb⟩; have T2 := T.out.past hb; clear kd0 kd1 kl0 kl1; have kd0 := T2.d.k0; have kd1 := T2.d.k1; have kl0 := T2.l.k0; have kl1 := T2.l.k1; have T3 := Lib.hid T2; clear T hb T2; have T := T3; clear T3)
    | (go_at_call 36; with_reducible refine (PR.out _ _ _ _ _ _ _ _ _ _ _ T.out).mono ?_; rintro e W_ ⟨rfl, hb⟩; have T2 := T.out.past hb; clear kd0 kd1 kl0 kl1; have kd0 := T2.d.k0; have kd1 := T2.d.k1; have kl0 := T2.l.k0; have kl1 := T2.l.k1; have T3 := Lib.hid T2; clear T hb T2; have T := T3; clear T3)
    | (go_at_call 22; with_reducible refine (Q1.out _ _ _ _ _ _ _ _ _ _ _ T.out).mono ?_; rintro e W_ ⟨rfl, hb⟩; have T2 := T.out.past hb; clear kd0 kd1 kl0 kl1; have kd0 := T2.d.k0; have kd1 := T2.d.k1; have kl0 := T2.l.k0; have kl1 := T2.l.k1; have T3 := Lib.hid T2; clear T hb T2; have T := T3; clear T3)
    | (go_at_call 22; with_reducible refine (Q2.out _ _ _ _ _ _ _ _ _ _ _ T.out).mono ?_; rintro e W_ ⟨rfl, hb⟩; have T2 := T.out.past hb; clear kd0 kd1 kl0 kl1; have kd0 := T2.d.k0; have kd1 := T2.d.k1; have kl0 := T2.l.k0; have kl1 := T2.l.k1; have T3 := Lib.hid T2; clear T hb T2; have T := T3; clear T3)
    | (go_at_call 24; with_reducible refine (N1.out _).mono ?_; rintro e W_ ⟨rfl, hb⟩; have T2 := T.out.past hb; clear kd0 kd1 kl0 kl1; have kd0 := T2.d.k0; have kd1 := T2.d.k1; have kl0 := T2.l.k0; have kl1 := T2.l.k1; have T3 := Lib.hid T2; clear T hb T2; have T := T3; clear T3)
    | (go_at_call 24; with_reducible refine (N2.out _).mono ?_; rintro e W_ ⟨rfl, hb⟩; have T2 := T.out.past hb; clear kd0 kd1 kl0 kl1; have kd0 := T2.d.k0; have kd1 := T2.d.k1; have kl0 := T2.l.k0; have kl1 := T2.l.k1; have T3 := Lib.hid T2; clear T hb T2; have T := T3; clear T3)
    | (go_at_call 20; with_reducible refine (R0.out _ T.out.hB).mono ?_; rintro e W_ ⟨rfl, hb⟩; have T2 := T.out.past hb; clear kd0 kd1 kl0 kl1; have kd0 := T2.d.k0; have kd1 := T2.d.k1; have kl0 := T2.l.k0; have kl1 := T2.l.k1; have T3 := Lib.hid T2; clear T hb T2; have T := T3; clear T3))
  go_ret
  exact ⟨rfl, T.out.hB⟩
end Go.Proofs.YtjlpclcdbnfikaaDoor.P
