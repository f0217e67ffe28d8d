/- lat.order: is it an order? Its outer loop, around the loops over the points above. -/
import Derived.Test.YtjlpclcdbnfikaaDoorOrder
import Derived.RegionTactic
import Derived.ChangeAlike
import Derived.Outline
namespace Go.Proofs.YtjlpclcdbnfikaaDoor
open Go.RowKit Go.Shelf Go.Sort
attribute [local go_sem] Oper.semAt_some

theorem wrap_two_pow (k : Nat) (h : 2 ^ k < 18446744073709551616) : IntKind.u64.wrap (2 ^ k) = ((2 ^ k : Nat) : Int) := by
  have e : ((2 : Int) ^ k) = ((2 ^ k : Nat) : Int) := by simp
  rw [e, IntKind.wrap_u64]
  generalize 2 ^ k = p at *
  omega
theorem and_pow (x k : Nat) : x &&& 2 ^ k = if x.testBit k then 2 ^ k else 0 := by
  apply Nat.eq_of_testBit_eq
  intro i
  rw [Nat.testBit_and, Nat.testBit_two_pow]
  by_cases h : k = i
  · subst h
    cases hx : x.testBit k <;> simp
  · cases hx : x.testBit k <;> simp [h]

/-- Is all right at one point: it is below itself; what is below it and above it is it; what is above what is above it is above it. -/
def goodAt (v d : Nat → Nat) (a : Nat) : Bool := (v a).testBit a && ((v a &&& d a) == 2 ^ a) && (bitsOf (v a)).all fun b => v b &&& (18446744073709551615 - v a) == 0
def orderAt (n : Nat) (v d : Nat → Nat) : Bool := (List.range n).all (goodAt v d)

/-- What the outer loop keeps. -/
def OrdInv (v0 : Value) (A : Option Addr) (n c : Nat) (v d : Nat → Nat) (w : World) (a : Act) (W : World) : Prop :=
  ∃ (k : Nat) (ds : List Nat) (s3 s4 s5 s10 s11 s12 s13 s14 s15 s16 s17 s18 s19 s20 s21 s22 s23 s24 s25 s26 s27 s28 s29 s30 s31 s32 s33 s34 s35 s36 s37 s38 s39 s40 : Value), a = { tmps := (List.toArray (.agg #[v0, .slice A n c] :: .pointer (some ⟨w.heap.size, 0, none⟩) :: .pointer (some ⟨w.heap.size + 1, 0, none⟩) :: s3 :: s4 :: s5 :: .pointer (some ⟨w.heap.size, 1, none⟩) :: .slice A n c :: .int .i64 (n : Int) :: .int .i64 (k : Nat) :: s10 :: s11 :: s12 :: s13 :: s14 :: s15 :: s16 :: s17 :: s18 :: s19 :: s20 :: s21 :: s22 :: s23 :: s24 :: s25 :: s26 :: s27 :: s28 :: s29 :: s30 :: s31 :: s32 :: s33 :: s34 :: s35 :: s36 :: s37 :: s38 :: s39 :: s40 :: [])), defers := marks ds } ∧ k ≤ n ∧ ds.Nodup ∧ (∀ D ∈ ds, W.heap[D]? = some (.deferred (some []))) ∧ (∀ D ∈ ds, w.heap.size + 2 ≤ D) ∧
    Below w.heap.size w W ∧ W.heap[w.heap.size]? = some (.cells #[v0, .slice A n c] 25 (0, 0)) ∧ W.heap[w.heap.size + 1]? = some (.cells #[.bool false] 4 (0, 0)) ∧ ∀ i, i < k → goodAt v d i = true
def ordLeft (n : Nat) (a : Act) : Nat := n - (intOf (a.tmps[9]?.getD undef)).toNat

set_option maxHeartbeats 1000000 in
theorem order_core (v0 : Value) (A : Option Addr) (n c : Nat) (v d : Nat → Nat) (w : World) (hG : Glb w) (hn : n ≤ 64)
    (hv : ∀ i, i < n → v i < 18446744073709551616 ∧ (∀ j ∈ bitsOf (v i), j < n) ∧ ∃ ad, A = some ad ∧ w.cell? (ad.add i) = some (.int .u64 (v i : Nat)))
    (hd : ∀ i, i < n → d i < 18446744073709551616 ∧ ∀ W, Below w.heap.size w W → Calls Tryd.prog 92 #[.agg #[v0, .slice A n c], .int .i64 (i : Nat)] W fun e W'' => e = .returned (.int .u64 (d i : Nat)) ∧ Below W.heap.size W W'') :
    Calls Tryd.prog 52 #[.agg #[v0, .slice A n c]] w fun e w' => e = .returned (.bool (orderAt n v d)) ∧ Below w.heap.size w w' := by
  refine calls_of_marks Tryd.func52 rfl ?_
  simp only [Tryd.ntmps52, List.size_toArray, List.length_cons, List.length_nil, Nat.reduceAdd, Nat.reduceSub, Array.replicate_succ, Array.replicate_zero, List.push_toArray, List.append_toArray, List.nil_append, List.cons_append]
  go_wp2
  rename_i Q' K hK
  have hret : ∀ (tm : Array Value) (ds : List Nat) (W : World), tm[2]? = some (.pointer (some ⟨w.heap.size + 1, 0, none⟩)) → ds.Nodup → (∀ D ∈ ds, W.heap[D]? = some (.deferred (some []))) → (∀ D ∈ ds, w.heap.size + 2 ≤ D) →
      Below w.heap.size w W → W.heap[w.heap.size + 1]? = some (.cells #[.bool (orderAt n v d)] 4 (0, 0)) → Q' .ret { tmps := tm, defers := marks ds } W := by
    intro tm ds W htm hn hd hds hb hc
    show leavePost _ _ _ _ _
    refine leaves_marks (v := .bool (orderAt n v d)) ds W hn hd fun W' h1 h2 h3 h4 h5 => ⟨?_, rfl, ?_⟩
    · have hm : w.heap.size + 1 ∉ ds := fun h => by have := hds _ h; omega
      have hcell : W'.cell? ⟨w.heap.size + 1, 0, none⟩ = some (.bool (orderAt n v d)) := cell_in (j := 0) ((h1 _ hm).trans hc) rfl
      simp [results, Tryd.results52, go_sem, hcell, htm]
    · exact ⟨h2.trans hb.os, h3.trans hb.tape, h4.trans hb.output, by rw [h5]; exact hb.size, fun j hj => (h1 j (fun h => by have := hds _ h; omega)).trans (hb.block j hj)⟩
  have hR : ∀ (tm : Array Value) (ds : List Nat) (W : World), tm[2]? = some (.pointer (some ⟨w.heap.size + 1, 0, none⟩)) → ds.Nodup → (∀ D ∈ ds, W.heap[D]? = some (.deferred (some []))) → (∀ D ∈ ds, w.heap.size + 2 ≤ D) →
      Below w.heap.size w W → W.heap[w.heap.size + 1]? = some (.cells #[.bool (orderAt n v d)] 4 (0, 0)) → Exit.inBlock 0 (Exit.then K Q') .ret { tmps := tm, defers := marks ds } W := hret
  have hE : ∀ a W, OrdInv v0 A n c v d w a W → ordLeft n a = 0 → Exit.inBlock 0 (Exit.then K Q') (.exit 0) a W := by
    rintro a W ⟨k, ds, s3, s4, s5, s10, s11, s12, s13, s14, s15, s16, s17, s18, s19, s20, s21, s22, s23, s24, s25, s26, s27, s28, s29, s30, s31, s32, s33, s34, s35, s36, s37, s38, s39, s40, rfl, hk, hdn, hdd, hds, hbel, b0, b1, hgood⟩ hleft
    obtain rfl : k = n := by simp [ordLeft, intOf] at hleft; omega
    have hall : orderAt k v d = true := by
      rw [orderAt, List.all_eq_true]
      exact fun i hi => hgood i (List.mem_range.1 hi)
    have cR := cell_in (j := 0) b1 rfl
    have fR := frozen_in (j := 0) b1
    have HA := Lib.hid hall
    have HG := Lib.hid hgood
    have HDD := Lib.hid hdd
    clear hall hgood hdd b0
    have hv' := Lib.hid hv
    have hd' := Lib.hid hd
    clear hv hd
    refine hK _ _ ?_
    go_wp2
    refine hret _ ds _ ?_ hdn ?_ hds ?_ ?_
    · rfl
    · exact fun D hD => (Below.heap_setCell _ _ _ D (by have := hds D hD; show D ≠ w.heap.size + 1; omega)).trans (HDD.out D hD)
    · exact below_setCell hbel (by omega) _ _
    · rw [HA.out]; exact block_set _ b1
  have hs0 : (w.alloc (.cells #[v0, .slice A n c] 25)).alloc (.cells #[.bool false] 4) = (w.alloc (.cells #[v0, .slice A n c] 25)).alloc (.cells #[.bool false] 4) := rfl
  have hI : OrdInv v0 A n c v d w _ _ := ⟨0, [], undef, undef, undef, undef, undef, undef, undef, undef, undef, undef, undef, undef, undef, undef, undef, undef, undef, undef, undef, undef, undef, undef, undef, undef, undef, undef, undef, undef, undef, undef, undef, undef, undef, undef, rfl, by omega, List.nodup_nil, by simp, by simp, ((Below.refl _ w).alloc (Nat.le_refl _) _).alloc (by simp) (.cells #[.bool false] 4), block_old _ (block_new _ rfl), block_new _ (by simp), fun i hi => absurd hi (by omega)⟩
  clear hs0 hret
  generalize Exit.inBlock 0 (Exit.then K Q') = Q at *
  clear hK
  refine wp_loop (OrdInv v0 A n c v d w) (fun a _ => ordLeft n a) hI ?_
  clear hI
  rintro a W ⟨k, ds, s3, s4, s5, s10, s11, s12, s13, s14, s15, s16, s17, s18, s19, s20, s21, s22, s23, s24, s25, s26, s27, s28, s29, s30, s31, s32, s33, s34, s35, s36, s37, s38, s39, s40, rfl, hk, hdn, hdd, hds, hbel, b0, b1, hgood⟩
  by_cases hkn : k < n
  · obtain ⟨hvk, hvj, ad, hA, hcell⟩ := hv k hkn
    obtain ⟨hdk, hdc⟩ := hd k hkn
    obtain rfl := hA
    have hcW : W.cell? (ad.add k) = some (.int .u64 (v k : Nat)) := (hbel.cell (block_lt_of_cell hcell)).trans hcell
    go_wp2
    obtain ⟨W1, hW1⟩ : ∃ W1, W.alloc (.cells #[.int .u64 (v k : Nat)] 50) = W1 := ⟨_, rfl⟩
    have B1 : Below W.heap.size W W1 := hW1 ▸ (Below.refl _ W).alloc (Nat.le_refl _) _
    have g0 : W1.heap[w.heap.size]? = some (.cells #[v0, .slice (some ad) n c] 25 (0, 0)) := hW1 ▸ block_old _ b0
    have g1 : W1.heap[w.heap.size + 1]? = some (.cells #[.bool false] 4 (0, 0)) := hW1 ▸ block_old _ b1
    have g2 : W1.heap[W.heap.size]? = some (.cells #[.int .u64 (v k : Nat)] 50 (0, 0)) := hW1 ▸ block_new _ rfl
    rw [hW1]
    have k0 := cell_regrown (cell_in (j := 0) g0 rfl)
    have k1 := cell_regrown (cell_in (j := 1) g0 rfl)
    have k2 := cell_regrown (cell_in (j := 0) g2 rfl)
    have cd : ∀ d' os, Calls Tryd.prog 92 #[.agg #[v0, .slice (some ad) n c], .int .i64 (k : Nat)] (grow (redrawn W1 d') os) fun e w'' => e = .returned (.int .u64 (d k : Nat)) ∧ ∃ p : Regrown, w'' = grow (redrawn W1 p.d) p.os := fun d' os => Calls.regrown_of (hdc _ (hbel.trans ((B1.mono hbel.size).trans ((below_regrown W1 d' os).mono (Nat.le_trans hbel.size B1.size)))))
    have hs2 := block_lt b1
    have B2 : Below w.heap.size w W1 := hbel.trans (B1.mono hbel.size)
    have hdd1 : ∀ D ∈ ds, W1.heap[D]? = some (.deferred (some [])) := fun D hD => (B1.block D (block_lt (hdd D hD))).trans (hdd D hD)
    have hpow : (2 : Nat) ^ k < 18446744073709551616 := Nat.lt_of_lt_of_le (Nat.pow_lt_pow_right (by omega) (Nat.lt_of_lt_of_le hkn hn)) (by decide)
    have hwr : IntKind.u64.wrap (2 ^ k) = (2 : Int) ^ k := by rw [wrap_two_pow k hpow]; simp
    have hwr' : (2 : Int) ^ k = ((2 ^ k : Nat) : Int) := by simp
    have hq1 : bits .and .u64 (v k : Int) ((2 : Int) ^ k) = ((v k &&& 2 ^ k : Nat) : Int) := by rw [hwr']; exact bits_and_u64_nat _ _ hvk hpow
    have hq2 : bits .and .u64 (v k : Int) (d k : Int) = ((v k &&& d k : Nat) : Int) := bits_and_u64_nat _ _ hvk hdk
    have hbit := and_pow (v k) k
    have hno : goodAt v d k = false → orderAt n v d = false := fun h => by
      rw [orderAt, List.all_eq_false]
      exact ⟨k, by simp [hkn], by simp [h]⟩
    generalize v k &&& 2 ^ k = p1 at *
    generalize hp2 : v k &&& d k = p2 at *
    have hwr2 := Lib.hid hwr'; clear hwr'
    by_cases ht : (v k).testBit k = true
    · have hz : ((p1 : Int) == 0) = false := by
        rw [hbit, if_pos ht, beq_eq_false_iff_ne]; have := Nat.two_pow_pos k; omega
      clear hbit
      by_cases hp : p2 = 2 ^ k
      · have hz2 : ((p2 : Int) != (2 : Int) ^ k) = false := by rw [hwr2.out, hp]; simp
        refine wp_region_quiet_below (by kernel_rfl) (by kernel_rfl) ?_
        repeat (go_big_quiet_step (exact cd _ _))
        refine wpQuiet_nil ?_
        intro _ hw'
        obtain ⟨⟨dq, osq⟩, hw''⟩ := hw'
        subst hw''
        generalize hg : grow (redrawn W1 dq) osq = Wg
        have Bg : Below W1.heap.size W1 Wg := hg ▸ below_regrown W1 dq osq
        have G2 : Wg.heap[W.heap.size]? = some (.cells #[.int .u64 (v k : Nat)] 50 (0, 0)) := (Bg.block _ (block_lt g2)).trans g2
        have G0 : Wg.heap[w.heap.size]? = some (.cells #[v0, .slice (some ad) n c] 25 (0, 0)) := (Bg.block _ (block_lt g0)).trans g0
        have G1 : Wg.heap[w.heap.size + 1]? = some (.cells #[.bool false] 4 (0, 0)) := (Bg.block _ (block_lt g1)).trans g1
        have hddg : ∀ D ∈ ds, Wg.heap[D]? = some (.deferred (some [])) := fun D hD => (Bg.block D (block_lt (hdd1 D hD))).trans (hdd1 D hD)
        have BG : Below w.heap.size w Wg := B2.trans (Bg.mono B2.size)
        have hlg := block_lt G2
        have cG := cell_in (j := 0) G2 rfl
        have cR := cell_in (j := 0) G1 rfl
        have fR := frozen_in (j := 0) G1
        clear hg k0 k1 k2 cd hW1 B1 g0 g1 g2 Bg hdd1 hdd b0 b1 hcW hcell hdc
        have HV := Lib.hid hv
        have HDD := Lib.hid hddg
        clear hv hd hddg
        go_wp2_with (go_at_call 93; refine (each_calls _ _).mono ?_; rintro e w' ⟨rfl, rfl⟩)
        obtain ⟨Wr, hWr⟩ : ∃ Wr, Wg.alloc (.cells #[.int .u64 (v k : Nat)] 50) = Wr := ⟨_, rfl⟩
        rw [hWr]
        have B4 : Below w.heap.size w Wr := hWr ▸ BG.alloc BG.size _
        have hsz : Wr.heap.size = Wg.heap.size + 1 := by rw [← hWr]; simp
        have q0 : Wr.heap[w.heap.size]? = some (.cells #[v0, .slice (some ad) n c] 25 (0, 0)) := hWr ▸ block_old _ G0
        have q1 : Wr.heap[w.heap.size + 1]? = some (.cells #[.bool false] 4 (0, 0)) := hWr ▸ block_old _ G1
        have q2 : Wr.heap[W.heap.size]? = some (.cells #[.int .u64 (v k : Nat)] 50 (0, 0)) := hWr ▸ block_old _ G2
        have q3 : Wr.heap[Wg.heap.size]? = some (.cells #[.int .u64 (v k : Nat)] 50 (0, 0)) := hWr ▸ block_new _ rfl
        have hddr : ∀ D ∈ ds, Wr.heap[D]? = some (.deferred (some [])) := fun D hD => hWr ▸ block_old _ (HDD.out D hD)
        have hN := hG.size
        have hl0 := BG.size
        have hle : Wg.heap.size + 1 ≤ Wr.heap.size := Nat.le_of_eq hsz.symm
        have hmem : ∀ D, D ∈ ds → D < Wg.heap.size := fun D hD => block_lt (HDD.out D hD)
        have hnew : Wr.heap.size ∉ ds := fun h => by have := hmem _ h; omega
        clear hWr hsz G0 G1 G2 cG cR fR
        refine order_range w.heap.size (w.heap.size + 1) W.heap.size Wg.heap.size ad n c (v k) v v0 (.bool false) (marks ds) Wr _ hvk (hG.past B4) q0 q1 q2 q3 (by omega) (by omega) ⟨by omega, by omega, by omega⟩ ?_ ?_ ?_
        · intro i hi
          have hin := hvj i hi
          obtain ⟨h1, _, ad', h2, h3⟩ := HV.out i hin
          obtain rfl : ad = ad' := by simpa using h2
          have hb := block_lt_of_cell h3
          exact ⟨hin, h1, (B4.cell hb).trans h3, by omega⟩
        · rintro W2 ⟨hs, hall⟩ hGW hD
          have hInv : goodAt v d k = true := by
            simp only [goodAt, ht, hp2, hp, Bool.true_and, beq_self_eq_true, List.all_eq_true]
            exact hall
          have z0 := (hs.block _ (block_lt q0) (by omega)).trans q0
          have z1 := (hs.block _ (block_lt q1) (by omega)).trans q1
          have zd : ∀ D ∈ ds, W2.heap[D]? = some (.deferred (some [])) := fun D hD => (hs.block _ (block_lt (hddr D hD)) (by have := hmem D hD; omega)).trans (hddr D hD)
          have BZ : Below w.heap.size w W2 := B4.trans (hs.below (by omega) (fun j hj => by omega))
          have ZD := Lib.hid zd
          have HD := Lib.hid hD
          have HInv := Lib.hid hInv
          have HG := Lib.hid hgood
          clear q0 q1 q2 q3 hddr zd hD hInv hgood hp2 hmem
          go_wp2
          refine ⟨⟨k + 1, Wr.heap.size :: ds, _, _, _, _, _, _, _, _, _, _, _, _, _, _, _, _, _, _, _, _, _, _, _, _, _, _, _, _, _, _, _, _, _, _, rfl, by omega, List.nodup_cons.2 ⟨hnew, hdn⟩, ?_, ?_, BZ, z0, z1, ?_⟩, ?_⟩
          · intro D hD
            rcases List.mem_cons.1 hD with rfl | h
            · exact HD.out
            · exact ZD.out D h
          · intro D hD
            rcases List.mem_cons.1 hD with rfl | h
            · omega
            · exact hds D h
          · intro i hi
            by_cases he : i = k
            · subst he; exact HInv.out
            · exact HG.out i (by omega)
          · simp [ordLeft, intOf]; omega
        · rintro pre W2 ⟨rr, hpre⟩ hF hD
          obtain ⟨_, ⟨x, hx, hbad⟩, hs, hb⟩ := hF
          have hno' : goodAt v d k = false := by
            have : (bitsOf (v k)).all (fun b => v b &&& (18446744073709551615 - v k) == 0) = false := by
              rw [List.all_eq_false]; exact ⟨x, by rw [← hpre]; simp [hx], by simpa using hbad⟩
            simp [goodAt, this]
          show Q .ret _ _
          refine hR _ (Wr.heap.size :: ds) W2 ?_ (List.nodup_cons.2 ⟨hnew, hdn⟩) ?_ ?_ ?_ ?_
          · rfl
          · intro D hD'
            rcases List.mem_cons.1 hD' with rfl | h
            · exact hD
            · exact (hs.block _ (block_lt (hddr D h)) (by have := hmem D h; have := hds D h; omega)).trans (hddr D h)
          · intro D hD'
            rcases List.mem_cons.1 hD' with rfl | h
            · omega
            · exact hds D h
          · exact B4.trans (hs.below (by omega) (fun j hj => by omega))
          · rw [hno hno']; exact hb
      · have hz2 : ((p2 : Int) != (2 : Int) ^ k) = true := by rw [hwr2.out, bne_iff_ne]; intro h; exact hp (by exact_mod_cast h)
        refine wp_region_quiet_below (by kernel_rfl) (by kernel_rfl) ?_
        repeat (go_big_quiet_step (exact cd _ _))
        refine wpQuiet_nil ?_
        intro _ hw'
        obtain ⟨⟨dq, osq⟩, hw''⟩ := hw'
        subst hw''
        generalize hg : grow (redrawn W1 dq) osq = Wg
        have Bg : Below W1.heap.size W1 Wg := hg ▸ below_regrown W1 dq osq
        have G2 : Wg.heap[W.heap.size]? = some (.cells #[.int .u64 (v k : Nat)] 50 (0, 0)) := (Bg.block _ (block_lt g2)).trans g2
        have G0 : Wg.heap[w.heap.size]? = some (.cells #[v0, .slice (some ad) n c] 25 (0, 0)) := (Bg.block _ (block_lt g0)).trans g0
        have G1 : Wg.heap[w.heap.size + 1]? = some (.cells #[.bool false] 4 (0, 0)) := (Bg.block _ (block_lt g1)).trans g1
        have hddg : ∀ D ∈ ds, Wg.heap[D]? = some (.deferred (some [])) := fun D hD => (Bg.block D (block_lt (hdd1 D hD))).trans (hdd1 D hD)
        have BG : Below w.heap.size w Wg := B2.trans (Bg.mono B2.size)
        have hlg := block_lt G2
        have cG := cell_in (j := 0) G2 rfl
        have cR := cell_in (j := 0) G1 rfl
        have fR := frozen_in (j := 0) G1
        clear hg k0 k1 k2 cd hW1 B1 g0 g1 g2 Bg hdd1 hdd b0 b1 hcW hcell hdc
        have HV := Lib.hid hv
        have HDD := Lib.hid hddg
        clear hv hd hddg
        go_wp2
        refine hR _ ds _ ?_ hdn ?_ hds ?_ ?_
        · rfl
        · exact fun D hD => (Below.heap_setCell _ _ _ D (by have := hds D hD; show D ≠ w.heap.size + 1; omega)).trans (HDD.out D hD)
        · exact below_setCell BG (by omega) _ _
        · rw [hno (by simp [goodAt, hp2, hp])]
          exact block_set _ G1
    · have hz : ((p1 : Int) == 0) = true := by
        rw [hbit, if_neg ht]; rfl
      clear hbit
      refine wp_region_quiet_below (by kernel_rfl) (by kernel_rfl) ?_
      repeat (go_big_quiet_step (exact cd _ _))
      refine wpQuiet_nil ?_
      intro _ hw'
      obtain ⟨⟨dq, osq⟩, hw''⟩ := hw'
      subst hw''
      generalize hg : grow (redrawn W1 dq) osq = Wg
      have Bg : Below W1.heap.size W1 Wg := hg ▸ below_regrown W1 dq osq
      have G2 : Wg.heap[W.heap.size]? = some (.cells #[.int .u64 (v k : Nat)] 50 (0, 0)) := (Bg.block _ (block_lt g2)).trans g2
      have G0 : Wg.heap[w.heap.size]? = some (.cells #[v0, .slice (some ad) n c] 25 (0, 0)) := (Bg.block _ (block_lt g0)).trans g0
      have G1 : Wg.heap[w.heap.size + 1]? = some (.cells #[.bool false] 4 (0, 0)) := (Bg.block _ (block_lt g1)).trans g1
      have hddg : ∀ D ∈ ds, Wg.heap[D]? = some (.deferred (some [])) := fun D hD => (Bg.block D (block_lt (hdd1 D hD))).trans (hdd1 D hD)
      have BG : Below w.heap.size w Wg := B2.trans (Bg.mono B2.size)
      have hlg := block_lt G2
      have cG := cell_in (j := 0) G2 rfl
      have cR := cell_in (j := 0) G1 rfl
      have fR := frozen_in (j := 0) G1
      clear hg k0 k1 k2 cd hW1 B1 g0 g1 g2 Bg hdd1 hdd b0 b1 hcW hcell hdc
      have HV := Lib.hid hv
      have HDD := Lib.hid hddg
      clear hv hd hddg
      go_wp2
      refine hR _ ds _ ?_ hdn ?_ hds ?_ ?_
      · rfl
      · exact fun D hD => (Below.heap_setCell _ _ _ D (by have := hds D hD; show D ≠ w.heap.size + 1; omega)).trans (HDD.out D hD)
      · exact below_setCell BG (by omega) _ _
      · rw [hno (by simp [goodAt, ht])]
        exact block_set _ G1
  · obtain rfl : k = n := by omega
    go_wp2
    refine hE _ _ ⟨k, ds, _, _, _, _, _, _, _, _, _, _, _, _, _, _, _, _, _, _, _, _, _, _, _, _, _, _, _, _, _, _, _, _, _, _, rfl, by omega, hdn, hdd, hds, hbel, b0, b1, hgood⟩ ?_
    simp [ordLeft, intOf]
end Go.Proofs.YtjlpclcdbnfikaaDoor
