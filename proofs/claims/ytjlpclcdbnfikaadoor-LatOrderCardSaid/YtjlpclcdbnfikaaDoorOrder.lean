/- lat.order: is it an order? As its loops find it. -/
import Derived.Test.YtjlpclcdbnfikaaDoorRounds
import Derived.Outline
namespace Go.Proofs.YtjlpclcdbnfikaaDoor
open Go.RowKit Go.Shelf Go.Sort
attribute [local go_sem] Oper.semAt_some

/-- The marks of loops over iterators that a function has entered. -/
def marks (ds : List Nat) : List Deferred := ds.map fun D => { target := .collected D, args := #[] }

theorem leaves_marks {fn : Func} {tmps : Array Value} {R : Ending → World → Prop} {v : Value} : ∀ (ds : List Nat) (W : World), ds.Nodup → (∀ D ∈ ds, W.heap[D]? = some (.deferred (some []))) →
    (∀ W', (∀ k, k ∉ ds → W'.heap[k]? = W.heap[k]?) → W'.os = W.os → W'.tape = W.tape → W'.output = W.output → W'.heap.size = W.heap.size → (results fn tmps).run Tryd.prog W' = .ok v W' ∧ R (.returned v) W') →
    LeavesInM Fence.wide 3 Tryd.prog fn tmps R (marks ds) .returning W
  | [], W, _, _, h => by
    obtain ⟨h1, h2⟩ := h W (fun _ _ => rfl) rfl rfl rfl rfl
    exact ⟨_, h1, h2⟩
  | D :: ds, W, hn, hd, h => by
    obtain ⟨hn1, hn2⟩ := List.nodup_cons.1 hn
    refine ⟨by simp, .inl ⟨D, _, rfl, run_takeDeferred (hd D (by simp)), leaves_marks ds _ hn2 (fun D' hD' => ?_) (fun W' h1 h2 h3 h4 h5 => h W' (fun k hk => ?_) h2 h3 h4 (by simpa using h5))⟩⟩
    · exact (World.putObj_heap_other (fun e : D' = D => hn1 (e ▸ hD'))).trans (hd D' (by simp [hD']))
    · have hk' : k ≠ D ∧ k ∉ ds := by simpa using hk
      exact (h1 k hk'.2).trans (World.putObj_heap_other hk'.1)

set_option maxHeartbeats 1000000 in
theorem order_body (l bl br bu : Nat) (ad : Addr) (n c i u v q : Nat) (v0 v1 : Value) (W : World) {s0 s3 s6 s7 s8 s9 s10 s11 s12 s13 s14 s15 s16 s17 s18 s19 s20 s21 s22 s23 s24 s25 s26 s27 s28 s29 s30 s31 s32 s33 s34 s35 s36 s37 s38 s39 s40 : Value} (Q : Exit → Act → World → Prop)
    (hc0 : W.heap[bl]? = some (.cells #[v0, .slice (some ad) n c] 25 (0, 0))) (hc2 : W.heap[bu]? = some (.cells #[.int .u64 (u : Int)] 50 (0, 0))) (hcR : W.heap[br]? = some (.cells #[v1] 4 (0, 0)))
    (hin : i < n) (hci : W.cell? (ad.add i) = some (.int .u64 (v : Int))) (hq : bits .andNot .u64 (v : Int) (u : Int) = (q : Int))
    (hyes : q ≠ 0 → ∀ a' nq, Q .ret a' ((W.drewN nq).setCell ⟨br, 0, none⟩ (.bool false))) (hno : q = 0 → ∀ a' nq, Q .normal a' (W.drewN nq)) :
    (rangeBody Tryd.f52 0).wpIn (Fence.wide.inRound l) 1 Tryd.prog Q { tmps := (List.toArray (s0 :: .pointer (some ⟨bl, 0, none⟩) :: .pointer (some ⟨br, 0, none⟩) :: s3 :: .pointer (some ⟨bu, 0, none⟩) :: .int .i64 (i : Int) :: s6 :: s7 :: s8 :: s9 :: s10 :: s11 :: s12 :: s13 :: s14 :: s15 :: s16 :: s17 :: s18 :: s19 :: s20 :: s21 :: s22 :: s23 :: s24 :: s25 :: s26 :: s27 :: s28 :: s29 :: s30 :: s31 :: s32 :: s33 :: s34 :: s35 :: s36 :: s37 :: s38 :: s39 :: s40 :: [])), defers := [] } W := by
  simp only [rangeBody, Tryd.f52, rangesOf, List.nil_append, List.append_nil, List.getElem?_cons_zero, Option.map_some, Option.getD_some]
  have c1 := cell_in (j := 1) hc0 rfl
  have c2 := cell_in (j := 0) hc2 rfl
  have cR := cell_in (j := 0) hcR rfl
  have fR := frozen_in (j := 0) hcR
  clear hc0 hc2 hcR
  by_cases hq0 : q = 0
  · subst hq0
    have Hn := Lib.hid (hno rfl); clear hyes hno
    gi_wp2
    refine region_quiet_round (by kernel_rfl) (by kernel_rfl) (by kernel_rfl) ?_
    iterate 8 (gi_big_quiet_step (fail))
    refine wpQuietIn_nil ?_
    rintro _ ⟨nq, rfl⟩
    gi_wp2
    exact Hn.out _ _
  · have hz : ((q : Int) != 0) = true := by rw [bne_iff_ne]; omega
    have Hy := Lib.hid (hyes hq0); clear hyes hno
    gi_wp2
    refine region_quiet_round (by kernel_rfl) (by kernel_rfl) (by kernel_rfl) ?_
    iterate 8 (gi_big_quiet_step (fail))
    refine wpQuietIn_nil ?_
    rintro _ ⟨nq, rfl⟩
    gi_wp2
    exact Hy.out _ _

/-- What the inner loop keeps while all goes well, and what it leaves where it does not. -/
def AllYet (Wr : World) (B : Nat) (good : Nat → Bool) (pre : List Nat) (W : World) : Prop := Sames Wr.heap.size (· = B) Wr W ∧ ∀ c ∈ pre, good c = true
def Failed (Wr : World) (B R : Nat) (good : Nat → Bool) (cd : Code) (pre : List Nat) (W : World) : Prop :=
  cd = .ret ∧ (∃ c ∈ pre, good c = false) ∧ Sames Wr.heap.size (fun k => k = B ∨ k = R) Wr W ∧ W.heap[R]? = some (.cells #[.bool false] 4 (0, 0))
theorem AllYet.turn {Wr A A' : World} {B : Nat} {good : Nat → Bool} {pre : List Nat} (h : AllYet Wr B good pre A) (ht : Turn3 B Wr.heap.size A A') : AllYet Wr B good pre A' := ⟨h.1.turn3 ht (Nat.le_refl _) rfl (Nat.le_refl _), h.2⟩
theorem Failed.turn {Wr A A' : World} {B R : Nat} {good : Nat → Bool} {cd : Code} {pre : List Nat} (hR : R < Wr.heap.size) (hne : R ≠ B) (h : Failed Wr B R good cd pre A) (ht : Turn3 B Wr.heap.size A A') : Failed Wr B R good cd pre A' := by
  obtain ⟨h0, h1, h4, h5⟩ := h
  have hl := block_lt h5
  exact ⟨h0, h1, h4.turn3 ht (Nat.le_refl _) (.inl rfl) (Nat.le_refl _), (ht.block _ hl (by omega) (by omega) (by omega)).trans h5⟩

set_option maxHeartbeats 1000000 in
theorem order_range (bl br bu B : Nat) (ad : Addr) (n c u : Nat) (v : Nat → Nat) (v0 v1 : Value) (ds : List Deferred) (Wr : World) {s0 s3 s5 s6 s7 s8 s9 s10 s11 s12 s13 s14 s15 s16 s17 s18 s19 s20 s21 s22 s23 s24 s25 s26 s27 s28 s29 s31 s32 s33 s34 s35 s36 s37 s38 s39 s40 : Value} (Q : Exit → Act → World → Prop)
    (hm : u < 18446744073709551616) (hG : Glb Wr) (b0 : Wr.heap[bl]? = some (.cells #[v0, .slice (some ad) n c] 25 (0, 0))) (b1 : Wr.heap[br]? = some (.cells #[v1] 4 (0, 0)))
    (b2 : Wr.heap[bu]? = some (.cells #[.int .u64 (u : Int)] 50 (0, 0))) (b3 : Wr.heap[B]? = some (.cells #[.int .u64 (u : Int)] 50 (0, 0))) (hr4 : 4 ≤ br) (hB4 : 4 ≤ B) (hne : bl ≠ B ∧ br ≠ B ∧ bu ≠ B)
    (hu : ∀ i ∈ bitsOf u, i < n ∧ v i < 18446744073709551616 ∧ Wr.cell? (ad.add i) = some (.int .u64 (v i : Nat)) ∧ (ad.add i).block ≠ B)
    (hdone : ∀ W, AllYet Wr B (fun c => v c &&& (18446744073709551615 - u) == 0) (bitsOf u) W → Glb W → W.heap[Wr.heap.size]? = some (.deferred (some [])) →
      Q .normal { tmps := (List.toArray (s0 :: .pointer (some ⟨bl, 0, none⟩) :: .pointer (some ⟨br, 0, none⟩) :: s3 :: .pointer (some ⟨bu, 0, none⟩) :: s5 :: s6 :: s7 :: s8 :: s9 :: s10 :: s11 :: s12 :: s13 :: s14 :: s15 :: s16 :: s17 :: s18 :: s19 :: s20 :: s21 :: s22 :: s23 :: s24 :: s25 :: s26 :: s27 :: s28 :: s29 :: .func (.func 106) #[] #[.pointer (some ⟨B, 0, none⟩)] :: s31 :: s32 :: s33 :: s34 :: s35 :: s36 :: s37 :: s38 :: s39 :: s40 :: [])), defers := { target := .collected Wr.heap.size, args := #[] } :: ds } W)
    (hstop : ∀ pre W, pre <+: bitsOf u → Failed Wr B br (fun c => v c &&& (18446744073709551615 - u) == 0) .ret pre W → W.heap[Wr.heap.size]? = some (.deferred (some [])) →
      Q .ret { tmps := (List.toArray (s0 :: .pointer (some ⟨bl, 0, none⟩) :: .pointer (some ⟨br, 0, none⟩) :: s3 :: .pointer (some ⟨bu, 0, none⟩) :: s5 :: s6 :: s7 :: s8 :: s9 :: s10 :: s11 :: s12 :: s13 :: s14 :: s15 :: s16 :: s17 :: s18 :: s19 :: s20 :: s21 :: s22 :: s23 :: s24 :: s25 :: s26 :: s27 :: s28 :: s29 :: .func (.func 106) #[] #[.pointer (some ⟨B, 0, none⟩)] :: s31 :: s32 :: s33 :: s34 :: s35 :: s36 :: s37 :: s38 :: s39 :: s40 :: [])), defers := { target := .collected Wr.heap.size, args := #[] } :: ds } W) :
    (Code.rangeFunc (.tmp 30) #[31] (rangeAssign Tryd.f52 0) (rangeBody Tryd.f52 0)).wp Tryd.prog Q { tmps := (List.toArray (s0 :: .pointer (some ⟨bl, 0, none⟩) :: .pointer (some ⟨br, 0, none⟩) :: s3 :: .pointer (some ⟨bu, 0, none⟩) :: s5 :: s6 :: s7 :: s8 :: s9 :: s10 :: s11 :: s12 :: s13 :: s14 :: s15 :: s16 :: s17 :: s18 :: s19 :: s20 :: s21 :: s22 :: s23 :: s24 :: s25 :: s26 :: s27 :: s28 :: s29 :: .func (.func 106) #[] #[.pointer (some ⟨B, 0, none⟩)] :: s31 :: s32 :: s33 :: s34 :: s35 :: s36 :: s37 :: s38 :: s39 :: s40 :: [])), defers := ds } Wr := by
  have l0 := block_lt b0; have l1 := block_lt b1; have l2 := block_lt b2; have l3 := block_lt b3
  refine wp_rangeEach' B u hm hB4 rfl b3 hG (AllYet Wr B (fun c => v c &&& (18446744073709551615 - u) == 0)) (Failed Wr B br (fun c => v c &&& (18446744073709551615 - u) == 0))
    (fun s A A' h ht => h.turn ht) (fun cd s A A' h ht => h.turn l1 hne.2.1 ht) ⟨Sames.refl _ _ _, fun c hc => by cases hc⟩
    (fun i => { tmps := (List.toArray (s0 :: .pointer (some ⟨bl, 0, none⟩) :: .pointer (some ⟨br, 0, none⟩) :: s3 :: .pointer (some ⟨bu, 0, none⟩) :: .int .i64 (i : Nat) :: s6 :: s7 :: s8 :: s9 :: s10 :: s11 :: s12 :: s13 :: s14 :: s15 :: s16 :: s17 :: s18 :: s19 :: s20 :: s21 :: s22 :: s23 :: s24 :: s25 :: s26 :: s27 :: s28 :: s29 :: .func (.func 106) #[] #[.pointer (some ⟨B, 0, none⟩)] :: .int .i64 (i : Nat) :: s32 :: s33 :: s34 :: s35 :: s36 :: s37 :: s38 :: s39 :: s40 :: [])), defers := [] }) ?hassign ?hbody ?hdone ?hstop
  case hassign =>
    intro l i W K hK
    simp only [rangeAssign, Tryd.f52, rangesOf, List.nil_append, List.append_nil, List.getElem?_cons_zero, Option.map_some, Option.getD_some]
    gi_wp2
    exact hK
  case hbody =>
    rintro l pre i W ⟨rr, hpre⟩ ⟨hs, hno⟩ hW hgW
    obtain ⟨hin, hui, hci, hadB⟩ := hu i (by rw [hpre]; simp)
    have c0 : W.heap[bl]? = some (.cells #[v0, .slice (some ad) n c] 25 (0, 0)) := (hs.block _ l0 hne.1).trans b0
    have c2 : W.heap[bu]? = some (.cells #[.int .u64 (u : Int)] 50 (0, 0)) := (hs.block _ l2 hne.2.2).trans b2
    have bR : W.heap[br]? = some (.cells #[v1] 4 (0, 0)) := (hs.block _ l1 hne.2.1).trans b1
    have hadl := World.block_lt_of_cell? Wr _ hci
    have ci : W.cell? (ad.add i) = some (.int .u64 (v i : Nat)) := (hs.cell hadl hadB).trans hci
    refine order_body l bl br bu ad n c i u (v i) _ v0 _ W _ c0 c2 bR hin ci (bits_andNot_u64_nat (v i) u hui hm) ?_ ?_
    · intro hq a' nq
      have hkB : ∀ k, k ≠ br → ((W.drewN nq).setCell ⟨br, 0, none⟩ (.bool false)).heap[k]? = W.heap[k]? := fun k hk => Below.heap_setCell _ _ _ k hk
      refine ⟨⟨hkB _ (Ne.symm hne.2.1), hkB _ (by omega), hkB _ (by omega), (hgW.drewN nq).setCell hr4 _ _⟩, rfl, ⟨i, by simp, beq_eq_false_iff_ne.2 hq⟩, ?_, ?_⟩
      · exact Sames.setCell (X := fun k => k = B ∨ k = br) ((hs.mono (fun k hk => Or.inl hk)).drewN nq) (b := br) (Or.inr rfl) _ _
      · exact block_set _ (show (W.drewN nq).heap[br]? = _ from bR)
    · intro hq a' nq
      refine ⟨⟨rfl, rfl, rfl, hgW.drewN nq⟩, hs.drewN nq, fun x hx => ?_⟩
      rcases List.mem_append.1 hx with h | h
      · exact hno x h
      · obtain rfl : x = i := by simpa using h
        exact beq_iff_eq.2 hq
  case hdone => exact fun W h hg hD => hdone W h hg hD
  case hstop =>
    rintro cd pre W hpre h hD
    obtain rfl := h.1
    go_wp2
    exact hstop pre W hpre h hD
end Go.Proofs.YtjlpclcdbnfikaaDoor
