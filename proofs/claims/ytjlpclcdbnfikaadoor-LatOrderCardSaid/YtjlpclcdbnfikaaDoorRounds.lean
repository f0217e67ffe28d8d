/- The rounds of lat.join, lat.meet and lat.order: each loop's body, walked once; and the loops over it. -/
import Derived.Test.YtjlpclcdbnfikaaDoorRange
import Derived.Test.YtjlpclcdbnfikaaDoorRound
import Derived.Outline
namespace Go.Proofs.YtjlpclcdbnfikaaDoor
open Go.RowKit Go.Shelf Go.Sort
attribute [local go_sem] Oper.semAt_some

/-- The ranges over functions that stand in a code, from the left. -/
def rangesOf : Code → List (Code × Code)
  | .seq a b => rangesOf a ++ rangesOf b
  | .cond _ a b => rangesOf a ++ rangesOf b
  | .block _ a => rangesOf a
  | .loop a => rangesOf a
  | .rangeFunc _ _ a b => [(a, b)]
  | _ => []
def rangeBody (f : Func) (i : Nat) : Code := match f.body with
  | some c => ((rangesOf c)[i]?.map (·.2)).getD .skip
  | none => .skip

/-- What stands behind a function's first two pieces. -/
def behindTwo (f : Func) : Code := match f.body with
  | some (.seq _ (.seq _ c)) => c
  | _ => .skip
def rangeAssign (f : Func) (i : Nat) : Code := match f.body with
  | some c => ((rangesOf c)[i]?.map (·.1)).getD .skip
  | none => .skip

set_option maxHeartbeats 1000000 in
theorem join_body (l bl br bb : Nat) (ad : Addr) (n c i m u q : Nat) (v1 : Value) (W : World) {s0 s1 s2 s4 s5 s9 s10 s11 s12 s13 s14 s15 s16 s17 s18 s19 s20 s21 s22 : Value} (Q : Exit → Act → World → Prop)
    (hc0 : W.cell? ⟨bl, 1, none⟩ = some (.slice (some ad) n c)) (hc2 : W.cell? ⟨bb, 0, none⟩ = some (.int .u64 (m : Int))) (hcR : W.cell? ⟨br, 0, none⟩ = some v1) (hfR : W.frozen? ⟨br, 0, none⟩ = false)
    (hin : i < n) (hci : W.cell? (ad.add i) = some (.int .u64 (u : Int))) (hq : bits .andNot .u64 (m : Int) (u : Int) = (q : Int))
    (hyes : q = 0 → ∀ a' nq, Q .ret a' ((W.drewN nq).setCell ⟨br, 0, none⟩ (.int .i64 (i : Int)))) (hno : q ≠ 0 → ∀ a' nq, Q .normal a' (W.drewN nq)) :
    (rangeBody Tryd.f66 0).wpIn (Fence.wide.inRound l) 1 Tryd.prog Q { tmps := (List.toArray (s0 :: s1 :: s2 :: .pointer (some ⟨bl, 0, none⟩) :: s4 :: s5 :: .pointer (some ⟨br, 0, none⟩) :: .pointer (some ⟨bb, 0, none⟩) :: .int .i64 (i : Int) :: s9 :: s10 :: s11 :: s12 :: s13 :: s14 :: s15 :: s16 :: s17 :: s18 :: s19 :: s20 :: s21 :: s22 :: undef :: undef :: undef :: undef :: undef :: undef :: undef :: undef :: undef :: [])), defers := [] } W := by
  simp only [rangeBody, Tryd.f66, rangesOf, List.nil_append, List.append_nil, List.getElem?_cons_zero, Option.map_some, Option.getD_some]
  by_cases hq0 : q = 0
  · subst hq0
    have Hy := Lib.hid (hyes rfl); clear hyes hno
    gi_wp2
    refine region_quiet_round (by kernel_rfl) (by kernel_rfl) (by kernel_rfl) ?_
    iterate 8 (gi_big_quiet_step (fail))
    refine wpQuietIn_nil ?_
    rintro _ ⟨nq, rfl⟩
    gi_wp2
    exact Hy.out _ _
  · have hz : ((q : Int) == 0) = false := by rw [beq_eq_false_iff_ne]; omega
    have Hn := Lib.hid (hno hq0); clear hyes hno
    gi_wp2
    refine region_quiet_round (by kernel_rfl) (by kernel_rfl) (by kernel_rfl) ?_
    iterate 8 (gi_big_quiet_step (fail))
    refine wpQuietIn_nil ?_
    rintro _ ⟨nq, rfl⟩
    gi_wp2
    exact Hn.out _ _

/-- What a join's (a meet's) loop keeps while nothing has been met. -/
def NoneYet (Wr : World) (B : Nat) (good : Nat → Bool) (pre : List Nat) (W : World) : Prop := Sames Wr.heap.size (· = B) Wr W ∧ ∀ c ∈ pre, good c = false
/-- What it leaves where one has been met: its number in the result's variable. -/
def Met (Wr : World) (B R : Nat) (good : Nat → Bool) (cd : Code) (pre : List Nat) (W : World) : Prop :=
  cd = .ret ∧ ∃ pre0 c, pre = pre0 ++ [c] ∧ (∀ c ∈ pre0, good c = false) ∧ good c = true ∧ Sames Wr.heap.size (fun k => k = B ∨ k = R) Wr W ∧ W.heap[R]? = some (.cells #[.int .i64 (c : Nat)] 3 (0, 0))
theorem NoneYet.turn {Wr A A' : World} {B : Nat} {good : Nat → Bool} {pre : List Nat} (h : NoneYet Wr B good pre A) (ht : Turn3 B Wr.heap.size A A') : NoneYet Wr B good pre A' := ⟨h.1.turn3 ht (Nat.le_refl _) rfl (Nat.le_refl _), h.2⟩
theorem Met.turn {Wr A A' : World} {B R : Nat} {good : Nat → Bool} {cd : Code} {pre : List Nat} (hR : R < Wr.heap.size) (hne : R ≠ B) (h : Met Wr B R good cd pre A) (ht : Turn3 B Wr.heap.size A A') : Met Wr B R good cd pre A' := by
  obtain ⟨h0, pre0, c, h1, h2, h3, h4, h5⟩ := h
  have hl := block_lt h5
  exact ⟨h0, pre0, c, h1, h2, h3, h4.turn3 ht (Nat.le_refl _) (.inl rfl) (Nat.le_refl _), (ht.block _ hl (by omega) (by omega) (by omega)).trans h5⟩
theorem Glb.drewN {W : World} (h : Glb W) (n : Nat) : Glb (W.drewN n) := ⟨h.size, h.tab, h.max⟩
theorem Sames.drewN {n : Nat} {X : Nat → Prop} {A A' : World} (h : Sames n X A A') (m : Nat) : Sames n X A (A'.drewN m) := ⟨h.os, h.tape, h.output, h.size, h.block⟩
theorem Glb.setCell {W : World} (h : Glb W) {b : Nat} (hb : 4 ≤ b) (i : Nat) (v : Value) : Glb (W.setCell ⟨b, i, none⟩ v) := h.turn ((Turn.refl b W).setCell i v) hb

set_option maxHeartbeats 1000000 in
/-- The loop of lat.join: over the bits of m, the first one whose word holds all of m's. -/
theorem join_range (bl br bb B : Nat) (ad : Addr) (n c m : Nat) (u : Nat → Nat) (v1 v2 : Value) (Wr : World) {s0 s1 s2 s4 s5 s8 s9 s10 s11 s12 s13 s14 s15 s16 s17 s18 s19 s20 s22 : Value} (Q : Exit → Act → World → Prop)
    (hm : m < 18446744073709551616) (hG : Glb Wr) (b0 : Wr.heap[bl]? = some (.cells #[v1, .slice (some ad) n c] 25 (0, 0))) (b1 : Wr.heap[br]? = some (.cells #[v2] 3 (0, 0)))
    (b2 : Wr.heap[bb]? = some (.cells #[.int .u64 (m : Int)] 50 (0, 0))) (b3 : Wr.heap[B]? = some (.cells #[.int .u64 (m : Int)] 50 (0, 0))) (hr4 : 4 ≤ br) (hB4 : 4 ≤ B) (hne : bl ≠ B ∧ br ≠ B ∧ bb ≠ B)
    (hu : ∀ i ∈ bitsOf m, i < n ∧ u i < 18446744073709551616 ∧ Wr.cell? (ad.add i) = some (.int .u64 (u i : Nat)) ∧ (ad.add i).block ≠ B)
    (hdone : ∀ W, NoneYet Wr B (fun c => m &&& (18446744073709551615 - u c) == 0) (bitsOf m) W → W.heap[Wr.heap.size]? = some (.deferred (some [])) →
      Q .normal { tmps := (List.toArray (s0 :: s1 :: s2 :: .pointer (some ⟨bl, 0, none⟩) :: s4 :: s5 :: .pointer (some ⟨br, 0, none⟩) :: .pointer (some ⟨bb, 0, none⟩) :: s8 :: s9 :: s10 :: s11 :: s12 :: s13 :: s14 :: s15 :: s16 :: s17 :: s18 :: s19 :: s20 :: .func (.func 106) #[] #[.pointer (some ⟨B, 0, none⟩)] :: s22 :: undef :: undef :: undef :: undef :: undef :: undef :: undef :: undef :: undef :: [])), defers := [{ target := .collected Wr.heap.size, args := #[] }] } W)
    (hstop : ∀ pre W, pre <+: bitsOf m → Met Wr B br (fun c => m &&& (18446744073709551615 - u c) == 0) .ret pre W → W.heap[Wr.heap.size]? = some (.deferred (some [])) →
      Q .ret { tmps := (List.toArray (s0 :: s1 :: s2 :: .pointer (some ⟨bl, 0, none⟩) :: s4 :: s5 :: .pointer (some ⟨br, 0, none⟩) :: .pointer (some ⟨bb, 0, none⟩) :: s8 :: s9 :: s10 :: s11 :: s12 :: s13 :: s14 :: s15 :: s16 :: s17 :: s18 :: s19 :: s20 :: .func (.func 106) #[] #[.pointer (some ⟨B, 0, none⟩)] :: s22 :: undef :: undef :: undef :: undef :: undef :: undef :: undef :: undef :: undef :: [])), defers := [{ target := .collected Wr.heap.size, args := #[] }] } W) :
    (Code.rangeFunc (.tmp 21) #[22] (rangeAssign Tryd.f66 0) (rangeBody Tryd.f66 0)).wp Tryd.prog Q { tmps := (List.toArray (s0 :: s1 :: s2 :: .pointer (some ⟨bl, 0, none⟩) :: s4 :: s5 :: .pointer (some ⟨br, 0, none⟩) :: .pointer (some ⟨bb, 0, none⟩) :: s8 :: s9 :: s10 :: s11 :: s12 :: s13 :: s14 :: s15 :: s16 :: s17 :: s18 :: s19 :: s20 :: .func (.func 106) #[] #[.pointer (some ⟨B, 0, none⟩)] :: s22 :: undef :: undef :: undef :: undef :: undef :: undef :: undef :: undef :: undef :: [])), defers := [] } Wr := by
  have l0 := block_lt b0; have l1 := block_lt b1; have l2 := block_lt b2; have l3 := block_lt b3
  refine wp_rangeEach' B m hm hB4 rfl b3 hG (NoneYet Wr B (fun c => m &&& (18446744073709551615 - u c) == 0)) (Met Wr B br (fun c => m &&& (18446744073709551615 - u c) == 0))
    (fun s A A' h ht => h.turn ht) (fun cd s A A' h ht => h.turn l1 hne.2.1 ht) ⟨Sames.refl _ _ _, fun c hc => by cases hc⟩
    (fun i => { tmps := (List.toArray (s0 :: s1 :: s2 :: .pointer (some ⟨bl, 0, none⟩) :: s4 :: s5 :: .pointer (some ⟨br, 0, none⟩) :: .pointer (some ⟨bb, 0, none⟩) :: .int .i64 (i : Nat) :: s9 :: s10 :: s11 :: s12 :: s13 :: s14 :: s15 :: s16 :: s17 :: s18 :: s19 :: s20 :: .func (.func 106) #[] #[.pointer (some ⟨B, 0, none⟩)] :: .int .i64 (i : Nat) :: undef :: undef :: undef :: undef :: undef :: undef :: undef :: undef :: undef :: [])), defers := [] }) ?hassign ?hbody ?hdone ?hstop
  case hassign =>
    intro l i W K hK
    simp only [rangeAssign, Tryd.f66, rangesOf, List.nil_append, List.append_nil, List.getElem?_cons_zero, Option.map_some, Option.getD_some]
    gi_wp2
    exact hK
  case hbody =>
    rintro l pre i W ⟨rr, hpre⟩ ⟨hs, hno⟩ hW hgW
    obtain ⟨hin, hui, hci, hadB⟩ := hu i (by rw [hpre]; simp)
    have c0 : W.cell? ⟨bl, 1, none⟩ = some (.slice (some ad) n c) := (hs.cell (p := ⟨bl, 1, none⟩) l0 hne.1).trans (cell_in b0 rfl)
    have c2 : W.cell? ⟨bb, 0, none⟩ = some (.int .u64 (m : Int)) := (hs.cell (p := ⟨bb, 0, none⟩) l2 hne.2.2).trans (cell_in b2 rfl)
    have bR : W.heap[br]? = some (.cells #[v2] 3 (0, 0)) := (hs.block _ l1 hne.2.1).trans b1
    have hadl := World.block_lt_of_cell? Wr _ hci
    have ci : W.cell? (ad.add i) = some (.int .u64 (u i : Nat)) := (hs.cell hadl hadB).trans hci
    refine join_body l bl br bb ad n c i m (u i) _ _ W _ c0 c2 (cell_in (j := 0) bR rfl) (frozen_in (j := 0) bR) hin ci (bits_andNot_u64_nat m (u i) hm hui) ?_ ?_
    · intro hq a' nq
      have hkB : ∀ k, k ≠ br → ((W.drewN nq).setCell ⟨br, 0, none⟩ (.int .i64 (i : Int))).heap[k]? = W.heap[k]? := fun k hk => Below.heap_setCell _ _ _ k hk
      refine ⟨⟨hkB _ (Ne.symm hne.2.1), hkB _ (by omega), hkB _ (by omega), (hgW.drewN nq).setCell hr4 _ _⟩, rfl, pre, i, rfl, hno, beq_iff_eq.2 hq, ?_, ?_⟩
      · exact Sames.setCell (X := fun k => k = B ∨ k = br) ((hs.mono (fun k hk => Or.inl hk)).drewN nq) (b := br) (Or.inr rfl) _ _
      · exact block_set _ (show (W.drewN nq).heap[br]? = _ from bR)
    · intro hq a' nq
      refine ⟨⟨rfl, rfl, rfl, hgW.drewN nq⟩, hs.drewN nq, fun x hx => ?_⟩
      rcases List.mem_append.1 hx with h | h
      · exact hno x h
      · obtain rfl : x = i := by simpa using h
        exact beq_eq_false_iff_ne.2 hq
  case hdone => exact fun W h _ hD => hdone W h hD
  case hstop =>
    rintro cd pre W hpre h hD
    obtain rfl := h.1
    go_wp2
    exact hstop pre W hpre h hD
set_option maxHeartbeats 1000000 in
theorem meet_body (l bl br bb : Nat) (A1 A2 : Value) (i m u q : Nat) (v1 : Value) (W : World) {s0 s1 s2 s4 s5 s9 s10 s11 s12 s13 s14 s15 s16 s17 s18 : Value} (Q : Exit → Act → World → Prop)
    (hc0 : W.heap[bl]? = some (.cells #[A1, A2] 25 (0, 0))) (hc2 : W.heap[bb]? = some (.cells #[.int .u64 (m : Int)] 50 (0, 0))) (hcR : W.heap[br]? = some (.cells #[v1] 3 (0, 0)))
    (hd : ∀ W', Below W.heap.size W W' → Calls Tryd.prog 92 #[.agg #[A1, A2], .int .i64 (i : Int)] W' fun e W'' => e = .returned (.int .u64 (u : Int)) ∧ Below W'.heap.size W' W'') (hq : bits .andNot .u64 (m : Int) (u : Int) = (q : Int))
    (hyes : q = 0 → ∀ a' W', Below W.heap.size W W' → Q .ret a' (W'.setCell ⟨br, 0, none⟩ (.int .i64 (i : Int)))) (hno : q ≠ 0 → ∀ a' W', Below W.heap.size W W' → Q .normal a' W') :
    (rangeBody Tryd.f68 0).wpIn (Fence.wide.inRound l) 1 Tryd.prog Q { tmps := #[s0, s1, s2, .pointer (some ⟨bl, 0, none⟩), s4, s5, .pointer (some ⟨br, 0, none⟩), .pointer (some ⟨bb, 0, none⟩), .int .i64 (i : Int), s9, s10, s11, s12, s13, s14, s15, s16, s17, s18, undef, undef, undef, undef, undef, undef, undef], defers := [] } W := by
  simp only [rangeBody, Tryd.f68, rangesOf, List.nil_append, List.append_nil, List.getElem?_cons_zero, Option.map_some, Option.getD_some]
  have e0 := cell_regrown (cell_in (j := 0) hc0 rfl)
  have e1 := cell_regrown (cell_in (j := 1) hc0 rfl)
  have e2 := cell_regrown (cell_in (j := 0) hc2 rfl)
  have eD : ∀ d os, CallsIn Fence.wide 0 Tryd.prog 92 #[.agg #[A1, A2], .int .i64 (i : Int)] (grow (redrawn W d) os) fun e w'' => e = .returned (.int .u64 (u : Int)) ∧ ∃ p : Regrown, w'' = grow (redrawn W p.d) p.os := fun d os => callsIn_wide.2 (Calls.regrown_of (hd _ (below_regrown W d os)))
  by_cases hq0 : q = 0
  · subst hq0
    have Hy := Lib.hid (hyes rfl); clear hyes hno
    gi_wp2
    refine region_below_round (by kernel_rfl) (by kernel_rfl) (by kernel_rfl) ?_
    iterate 3 (quiet_step_in (fail))
    refine wpQuietIn_step (fun _ _ _ _ => trivial) (fun K hK => ?_)
    go_simp
    apply Exists.intro
    refine ⟨fun _ => ?_, hK _ ?_⟩
    · exact eD _ _
    clear hK K
    iterate 2 (quiet_step_in (fail))
    refine wpQuietIn_nil ?_
    rintro _ ⟨⟨dq, osq⟩, rfl⟩
    have hb := below_regrown W dq osq
    have cR := cell_in (j := 0) ((hb.block br (block_lt hcR)).trans hcR) rfl
    have fR := frozen_in (j := 0) ((hb.block br (block_lt hcR)).trans hcR)
    generalize grow (redrawn W dq) osq = W' at *
    gi_wp2
    exact Hy.out _ _ hb
  · have hz : ((q : Int) == 0) = false := by rw [beq_eq_false_iff_ne]; omega
    have Hn := Lib.hid (hno hq0); clear hyes hno
    gi_wp2
    refine region_below_round (by kernel_rfl) (by kernel_rfl) (by kernel_rfl) ?_
    iterate 3 (quiet_step_in (fail))
    refine wpQuietIn_step (fun _ _ _ _ => trivial) (fun K hK => ?_)
    go_simp
    apply Exists.intro
    refine ⟨fun _ => ?_, hK _ ?_⟩
    · exact eD _ _
    clear hK K
    iterate 2 (quiet_step_in (fail))
    refine wpQuietIn_nil ?_
    rintro _ ⟨⟨dq, osq⟩, rfl⟩
    have hb := below_regrown W dq osq
    generalize grow (redrawn W dq) osq = W' at *
    gi_wp2
    exact Hn.out _ _ hb

theorem Sames.below_of {n : Nat} {X : Nat → Prop} {A W W' : World} (h : Sames n X A W) (hb : Below W.heap.size W W') (hn : n ≤ A.heap.size) : Sames n X A W' :=
  ⟨hb.os.trans h.os, hb.tape.trans h.tape, hb.output.trans h.output, Nat.le_trans h.size hb.size, fun k hk hx => (hb.block k (by have := h.size; omega)).trans (h.block k hk hx)⟩

set_option maxHeartbeats 1000000 in
/-- The loop of lat.meet: over the bits of m, the first one below which all of m is. -/
theorem meet_range (bl br bb B : Nat) (A1 A2 : Value) (m : Nat) (d : Nat → Nat) (v2 : Value) (Wr : World) {s0 s1 s2 s4 s5 s8 s9 s10 s11 s12 s13 s14 s15 s16 s18 : Value} (Q : Exit → Act → World → Prop)
    (hm : m < 18446744073709551616) (hG : Glb Wr) (b0 : Wr.heap[bl]? = some (.cells #[A1, A2] 25 (0, 0))) (b1 : Wr.heap[br]? = some (.cells #[v2] 3 (0, 0)))
    (b2 : Wr.heap[bb]? = some (.cells #[.int .u64 (m : Int)] 50 (0, 0))) (b3 : Wr.heap[B]? = some (.cells #[.int .u64 (m : Int)] 50 (0, 0))) (hr4 : 4 ≤ br) (hB4 : 4 ≤ B) (hne : bl ≠ B ∧ br ≠ B ∧ bb ≠ B)
    (n₀ : Nat) (hn0 : n₀ ≤ B) (hn1 : n₀ ≤ Wr.heap.size)
    (hd : ∀ i ∈ bitsOf m, d i < 18446744073709551616 ∧ ∀ W, Below n₀ Wr W → Calls Tryd.prog 92 #[.agg #[A1, A2], .int .i64 (i : Nat)] W fun e W'' => e = .returned (.int .u64 (d i : Nat)) ∧ Below W.heap.size W W'')
    (hdone : ∀ W, NoneYet Wr B (fun c => m &&& (18446744073709551615 - d c) == 0) (bitsOf m) W → W.heap[Wr.heap.size]? = some (.deferred (some [])) →
      Q .normal { tmps := #[s0, s1, s2, .pointer (some ⟨bl, 0, none⟩), s4, s5, .pointer (some ⟨br, 0, none⟩), .pointer (some ⟨bb, 0, none⟩), s8, s9, s10, s11, s12, s13, s14, s15, s16, .func (.func 106) #[] #[.pointer (some ⟨B, 0, none⟩)], s18, undef, undef, undef, undef, undef, undef, undef], defers := [{ target := .collected Wr.heap.size, args := #[] }] } W)
    (hstop : ∀ pre W, pre <+: bitsOf m → Met Wr B br (fun c => m &&& (18446744073709551615 - d c) == 0) .ret pre W → W.heap[Wr.heap.size]? = some (.deferred (some [])) →
      Q .ret { tmps := #[s0, s1, s2, .pointer (some ⟨bl, 0, none⟩), s4, s5, .pointer (some ⟨br, 0, none⟩), .pointer (some ⟨bb, 0, none⟩), s8, s9, s10, s11, s12, s13, s14, s15, s16, .func (.func 106) #[] #[.pointer (some ⟨B, 0, none⟩)], s18, undef, undef, undef, undef, undef, undef, undef], defers := [{ target := .collected Wr.heap.size, args := #[] }] } W) :
    (Code.rangeFunc (.tmp 17) #[18] (rangeAssign Tryd.f68 0) (rangeBody Tryd.f68 0)).wp Tryd.prog Q { tmps := #[s0, s1, s2, .pointer (some ⟨bl, 0, none⟩), s4, s5, .pointer (some ⟨br, 0, none⟩), .pointer (some ⟨bb, 0, none⟩), s8, s9, s10, s11, s12, s13, s14, s15, s16, .func (.func 106) #[] #[.pointer (some ⟨B, 0, none⟩)], s18, undef, undef, undef, undef, undef, undef, undef], defers := [] } Wr := by
  have l0 := block_lt b0; have l1 := block_lt b1; have l2 := block_lt b2; have l3 := block_lt b3
  refine wp_rangeEach' B m hm hB4 rfl b3 hG (NoneYet Wr B (fun c => m &&& (18446744073709551615 - d c) == 0)) (Met Wr B br (fun c => m &&& (18446744073709551615 - d c) == 0))
    (fun s A A' h ht => h.turn ht) (fun cd s A A' h ht => h.turn l1 hne.2.1 ht) ⟨Sames.refl _ _ _, fun c hc => by cases hc⟩
    (fun i => { tmps := #[s0, s1, s2, .pointer (some ⟨bl, 0, none⟩), s4, s5, .pointer (some ⟨br, 0, none⟩), .pointer (some ⟨bb, 0, none⟩), .int .i64 (i : Nat), s9, s10, s11, s12, s13, s14, s15, s16, .func (.func 106) #[] #[.pointer (some ⟨B, 0, none⟩)], .int .i64 (i : Nat), undef, undef, undef, undef, undef, undef, undef], defers := [] }) ?hassign ?hbody ?hdone ?hstop
  case hassign =>
    intro l i W K hK
    simp only [rangeAssign, Tryd.f68, rangesOf, List.nil_append, List.append_nil, List.getElem?_cons_zero, Option.map_some, Option.getD_some]
    gi_wp2
    exact hK
  case hbody =>
    rintro l pre i W ⟨rr, hpre⟩ ⟨hs, hno⟩ hW hgW
    obtain ⟨hui, hci⟩ := hd i (by rw [hpre]; simp)
    have c0 : W.heap[bl]? = some (.cells #[A1, A2] 25 (0, 0)) := (hs.block _ l0 hne.1).trans b0
    have c2 : W.heap[bb]? = some (.cells #[.int .u64 (m : Int)] 50 (0, 0)) := (hs.block _ l2 hne.2.2).trans b2
    have bR : W.heap[br]? = some (.cells #[v2] 3 (0, 0)) := (hs.block _ l1 hne.2.1).trans b1
    have l1' := block_lt bR
    refine meet_body l bl br bb A1 A2 i m (d i) _ _ W _ c0 c2 bR (fun W' hW' => hci W' ?_) (bits_andNot_u64_nat m (d i) hm hui) ?_ ?_
    · exact (hs.below hn1 (fun k hk => by omega)).trans (hW'.mono (by have := hs.size; omega))
    · intro hq a' W' hb
      have hkB : ∀ k, k < W.heap.size → k ≠ br → (W'.setCell ⟨br, 0, none⟩ (.int .i64 (i : Int))).heap[k]? = W.heap[k]? := fun k hk hne' => (Below.heap_setCell _ _ _ k hne').trans (hb.block k hk)
      refine ⟨⟨hkB _ (by omega) (Ne.symm hne.2.1), hkB _ (by omega) (by omega), hkB _ (by omega) (by omega), (hgW.past hb).setCell hr4 _ _⟩, rfl, pre, i, rfl, hno, beq_iff_eq.2 hq, ?_, ?_⟩
      · exact Sames.setCell (X := fun k => k = B ∨ k = br) ((hs.mono (fun k hk => Or.inl hk)).below_of hb (Nat.le_refl _)) (b := br) (Or.inr rfl) _ _
      · exact block_set _ ((hb.block br l1').trans bR)
    · intro hq a' W' hb
      refine ⟨⟨hb.block _ (by omega), hb.block _ (by omega), hb.block _ (by omega), hgW.past hb⟩, hs.below_of hb (Nat.le_refl _), fun x hx => ?_⟩
      rcases List.mem_append.1 hx with h | h
      · exact hno x h
      · obtain rfl : x = i := by simpa using h
        exact beq_eq_false_iff_ne.2 hq
  case hdone => exact fun W h _ hD => hdone W h hD
  case hstop =>
    rintro cd pre W hpre h hD
    obtain rfl := h.1
    go_wp2
    exact hstop pre W hpre h hD
end Go.Proofs.YtjlpclcdbnfikaaDoor
