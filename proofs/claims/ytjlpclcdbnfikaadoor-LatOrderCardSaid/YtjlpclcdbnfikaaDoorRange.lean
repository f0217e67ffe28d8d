/- The law of a range over lat.each: what a caller owes is an invariant of its own and one walk of its own body. And how a function that holds such loops leaves. -/
import Derived.Test.YtjlpclcdbnfikaaDoorEach
namespace Go.Proofs.YtjlpclcdbnfikaaDoor
open Go.RowKit Go.Shelf
attribute [local go_sem] Oper.semAt_some

/-- Of all blocks that lay, but the iterator's variable B and the loop's two (L, L + 1), nothing has turned. -/
structure Turn3 (B L : Nat) (A A' : World) : Prop where
  os : A'.os = A.os
  tape : A'.tape = A.tape
  output : A'.output = A.output
  size : A.heap.size ≤ A'.heap.size
  block : ∀ k, k < A.heap.size → k ≠ B → k ≠ L → k ≠ L + 1 → A'.heap[k]? = A.heap[k]?
theorem Turn.three {B L : Nat} {A A' : World} (h : Turn B A A') : Turn3 B L A A' := ⟨h.os, h.tape, h.output, h.size, fun k hk h1 _ _ => h.block k hk h1⟩
theorem Turn3.putObj (B L : Nat) (A : World) (l : Nat) (o : Obj) (hl : l = L ∨ l = L + 1) : Turn3 B L A (A.putObj l o) :=
  ⟨rfl, rfl, rfl, by simp, fun k _ _ h2 h3 => World.putObj_heap_other (by rcases hl with rfl | rfl; exact h2; exact h3)⟩
theorem Glb.putObj {A : World} (h : Glb A) {l : Nat} (o : Obj) (hl : 4 ≤ l) : Glb (A.putObj l o) :=
  h.turn (B := l) ⟨rfl, rfl, rfl, by simp, fun k _ hk => World.putObj_heap_other hk⟩ hl

/-- What a round keeps: the iterator's variable, the loop's two blocks, the library's variables. -/
structure Keep3 (B L : Nat) (W W' : World) : Prop where
  b : W'.heap[B]? = W.heap[B]?
  l : W'.heap[L]? = W.heap[L]?
  r : W'.heap[L + 1]? = W.heap[L + 1]?
  g : Glb W'

/-- How the body of a round may be left. -/
def eachPost (B L : Nat) (I : List Nat → World → Prop) (Ix : Code → List Nat → World → Prop) (xs : List Nat) (W : World) : Exit → Act → World → Prop
  | .normal, _, W' => Keep3 B L W W' ∧ I xs W'
  | .ret, _, W' => Keep3 B L W W' ∧ Ix .ret xs W'
  | .exit id, _, W' => Keep3 B L W W' ∧ Ix (.exit id) xs W'
  | _, _, _ => False

/-- **A RANGE OVER lat.each** -/
theorem wp_rangeEach {g : Operand} {p : Tmp} {assign body : Code} {Q : Exit → Act → World → Prop} {a : Act} {w : World} (B x : Nat) (hx : x < 18446744073709551616) (hB4 : 4 ≤ B)
    (hg : a.eval g = .func (.func 106) #[] #[.pointer (some ⟨B, 0, none⟩)]) (hB : w.heap[B]? = some (.cells #[.int .u64 x] 50 (0, 0))) (hG : Glb w)
    (I : List Nat → World → Prop) (Ix : Code → List Nat → World → Prop)
    (hI : ∀ s A A', I s A → Turn3 B w.heap.size A A' → I s A') (hIx : ∀ c s A A', Ix c s A → Turn3 B w.heap.size A A' → Ix c s A') (h0 : I [] w) (a₁ : Nat → Act)
    (hassign : ∀ (l c : Nat) (W : World) (K : Act → World → Prop), K (a₁ c) W →
      assign.wpIn (Fence.wide.inRound l) 1 Tryd.prog (Exit.then K (fun _ _ _ => False)) { tmps := a.tmps.setIfInBounds p (.int .i64 (c : Nat)), defers := [] } W)
    (hbody : ∀ (l : Nat) (pre : List Nat) (c : Nat) (W : World), (∃ r, bitsOf x = pre ++ c :: r) → I pre W → w.heap.size + 2 ≤ W.heap.size → Glb W →
      body.wpIn (Fence.wide.inRound l) 1 Tryd.prog (eachPost B w.heap.size I Ix (pre ++ [c]) W) (a₁ c) W)
    (hdone : ∀ W, I (bitsOf x) W → Glb W → W.heap[w.heap.size]? = some (.deferred (some [])) → Q .normal { a with defers := { target := .collected w.heap.size, args := #[] } :: a.defers } W)
    (hstop : ∀ c pre W, pre <+: bitsOf x → Ix c pre W → W.heap[w.heap.size]? = some (.deferred (some [])) → c.wpIn Fence.wide 3 Tryd.prog Q { a with defers := { target := .collected w.heap.size, args := #[] } :: a.defers } W) :
    (Code.rangeFunc g #[p] assign body).wpIn Fence.wide 3 Tryd.prog Q a w := by
  have hBlt : B < w.heap.size := (Array.getElem?_eq_some_iff.1 hB).1
  have hL4 : 4 ≤ w.heap.size := hG.size
  refine wpIn_rangeFunc ?_
  intro fn _
  -- the loop's record, in each of its states
  let rec_ : LoopState → Option Code → Loop := fun st pe => { state := st, pending := pe, fn := fn, tmps := a.tmps, params := #[p], assign := assign, body := body, defers := w.heap.size }
  obtain ⟨W1, hW1⟩ : ∃ W1, (w.alloc (.deferred (some []))).alloc (.loop (rec_ .ready none)) = W1 := ⟨_, rfl⟩
  have hsz : W1.heap.size = w.heap.size + 2 := by rw [← hW1]; simp
  have hR1 : W1.heap[w.heap.size + 1]? = some (.loop (rec_ .ready none)) := by
    rw [← hW1]; have := World.alloc_heap_new (w.alloc (.deferred (some []))) (.loop (rec_ .ready none)); rwa [World.size_alloc] at this
  have hD1 : W1.heap[w.heap.size]? = some (.deferred (some [])) := by
    rw [← hW1]; exact (Below.heap_alloc _ _ _ (by simp)).trans (World.alloc_heap_new w _)
  have hbel : Below w.heap.size w W1 := by rw [← hW1]; exact ((Below.refl _ w).alloc (Nat.le_refl _) _).alloc (by simp) _
  have hB1 : W1.heap[B]? = some (.cells #[.int .u64 x] 50 (0, 0)) := (hbel.block B hBlt).trans hB
  have hG1 : Glb W1 := hG.past hbel
  have hI1 : I [] W1 := hI _ _ _ h0 ⟨hbel.os, hbel.tape, hbel.output, hbel.size, fun k hk _ _ _ => hbel.block k hk⟩
  refine ⟨w.heap.size + 1, [{ target := .collected w.heap.size, args := #[] }], W1, { target := .fn (.func 106) #[.pointer (some ⟨B, 0, none⟩)], args := #[.func (.yield (w.heap.size + 1)) #[] #[]] }, W1, 106,
    #[.func (.yield (w.heap.size + 1)) #[] #[], .pointer (some ⟨B, 0, none⟩)], W1, ?_, ?_, ?_, ?_, ?_, ?_⟩
  · rw [← hW1]; exact run_enterLoop_outer _ _ _ _ _
  · simp only [resolve, hg]
    simp [go_sem]
  · intro f' _; trivial
  · simp [invoke, go_sem]
  · intro h; cases h
  · refine (each1_in (w.heap.size + 1) B x hx hB4
      (fun s W => I s W ∧ W.heap[w.heap.size + 1]? = some (.loop (rec_ .ready none)) ∧ W.heap[w.heap.size]? = some (.deferred (some [])) ∧ Glb W)
      (fun s W => ∃ c, Ix c s W ∧ W.heap[w.heap.size + 1]? = some (.loop (rec_ .done (some c))) ∧ W.heap[w.heap.size]? = some (.deferred (some [])))
      ?_ ?_ W1 hB1 hG1 ⟨hI1, hR1, hD1, hG1⟩).mono ?_
    · rintro s A A' ⟨h1, h2, h3, h4⟩ ht
      have l2 := (Array.getElem?_eq_some_iff.1 h2).1
      exact ⟨hI _ _ _ h1 ht.three, (ht.block _ l2 (by omega)).trans h2, (ht.block _ (by omega) (by omega)).trans h3, h4.turn ht hB4⟩
    · rintro pre c W ⟨h1, h2, h3, h4⟩ hex hBW hGW
      have l2 := (Array.getElem?_eq_some_iff.1 h2).1
      have hy := run_yield (P := Tryd.prog) (args := #[.int .i64 (c : Nat)]) h2 rfl
      refine ⟨fn, _, assign, body, hy, roundIn_of_wpIn trivial ?_⟩
      have e0 : (#[p].zip #[Value.int .i64 (c : Nat)]).foldl (fun (tmps : Array Value) (t, v) => tmps.setIfInBounds t v) a.tmps = a.tmps.setIfInBounds p (.int .i64 (c : Nat)) := by simp
      refine e0 ▸ hassign (w.heap.size + 1) c W _ ?_
      refine ⟨_, run_beginRound h2 rfl, ?_⟩
      have hput : ∀ (V : World) (o : Obj), w.heap.size + 1 < V.heap.size → (V.putObj (w.heap.size + 1) o).heap[w.heap.size + 1]? = some o := fun V o hV => World.putObj_heap_same hV
      refine wpIn_mono (hbody _ pre c _ hex (hI _ _ _ h1 (Turn3.putObj _ _ _ _ _ (.inr rfl))) (by simp; omega) (h4.putObj _ (by omega))) ?_
      -- the round's end, in whichever way it is left
      have fin : ∀ (jump : Option Code) (W3 : World), Keep3 B w.heap.size (W.putObj (w.heap.size + 1) (.loop { rec_ .ready none with state := .busy })) W3 →
          (Instr.endRound (w.heap.size + 1) jump).run Tryd.prog W3 = .ok (.bool jump.isNone) (W3.putObj (w.heap.size + 1) (.loop (rec_ (if jump.isNone then .ready else .done) jump))) ∧
          (W3.putObj (w.heap.size + 1) (.loop (rec_ (if jump.isNone then .ready else .done) jump))).heap[w.heap.size + 1]? = some (.loop (rec_ (if jump.isNone then .ready else .done) jump)) ∧
          (W3.putObj (w.heap.size + 1) (.loop (rec_ (if jump.isNone then .ready else .done) jump))).heap[w.heap.size]? = some (.deferred (some [])) ∧
          (W3.putObj (w.heap.size + 1) (.loop (rec_ (if jump.isNone then .ready else .done) jump))).heap[B]? = W.heap[B]? ∧
          Glb (W3.putObj (w.heap.size + 1) (.loop (rec_ (if jump.isNone then .ready else .done) jump))) := by
        intro jump W3 hk
        have e1 := hk.r.trans (hput W _ l2)
        have e2 := hk.l.trans ((World.putObj_heap_other (w := W) (by omega)).trans h3)
        have e3 := hk.b.trans (World.putObj_heap_other (w := W) (r := w.heap.size + 1) (k := B) (by omega))
        have l3 := (Array.getElem?_eq_some_iff.1 e1).1
        exact ⟨run_endRound (P := Tryd.prog) jump e1, hput _ _ l3, (World.putObj_heap_other (by omega)).trans e2, (World.putObj_heap_other (by omega)).trans e3, hk.g.putObj _ (by omega)⟩
      rintro e a3 W3 hp
      cases e with
      | normal =>
        obtain ⟨hk, hi⟩ := hp
        obtain ⟨hr, f1, f2, f3, f4⟩ := fin none W3 hk
        exact ⟨_, _, hr, .inl ⟨rfl, ⟨hI _ _ _ hi (Turn3.putObj _ _ _ _ _ (.inr rfl)), f1, f2, f4⟩, f3, f4⟩⟩
      | ret =>
        obtain ⟨hk, hi⟩ := hp
        obtain ⟨hr, f1, f2, f3, f4⟩ := fin (some .ret) W3 hk
        exact ⟨_, _, hr, .inr ⟨rfl, .ret, hIx _ _ _ _ hi (Turn3.putObj _ _ _ _ _ (.inr rfl)), f1, f2⟩⟩
      | exit id =>
        obtain ⟨hk, hi⟩ := hp
        obtain ⟨hr, f1, f2, f3, f4⟩ := fin (some (.exit id)) W3 hk
        exact ⟨_, _, hr, .inr ⟨rfl, .exit id, hIx _ _ _ _ hi (Turn3.putObj _ _ _ _ _ (.inr rfl)), f1, f2⟩⟩
      | goto t => exact hp.elim
      | panic ch => exact hp.elim
      | outgrown => exact hp.elim
    · rintro e W2 ⟨⟨v, rfl⟩, (⟨h1, h2, h3, h4⟩ | ⟨pre, hpre, c, h1, h2, h3⟩)⟩
      · have l2 := (Array.getElem?_eq_some_iff.1 h2).1
        exact ⟨none, _, run_endLoop (P := Tryd.prog) h2 (by simp [rec_]), hdone _ (hI _ _ _ h1 (Turn3.putObj _ _ _ _ _ (.inr rfl))) (h4.putObj _ (by omega)) ((World.putObj_heap_other (by omega)).trans h3)⟩
      · exact ⟨some c, _, run_endLoop (P := Tryd.prog) h2 (by simp [rec_]), hstop c pre _ hpre (hIx _ _ _ _ h1 (Turn3.putObj _ _ _ _ _ (.inr rfl))) ((World.putObj_heap_other (by omega)).trans h3)⟩

/-! ### Small words on worlds -/
theorem block_new {W : World} {j : Nat} (o : Obj) (h : W.heap.size = j) : (W.alloc o).heap[j]? = some o := by subst h; exact World.alloc_heap_new W o
theorem block_old {W : World} {j : Nat} {o : Obj} (o' : Obj) (h : W.heap[j]? = some o) : (W.alloc o').heap[j]? = some o := (Below.heap_alloc W o' j (Array.getElem?_eq_some_iff.1 h).1).trans h
theorem block_drew {W : World} {j : Nat} {o : Obj} (h : W.heap[j]? = some o) : W.drew.heap[j]? = some o := h
theorem block_lt {W : World} {j : Nat} {o : Obj} (h : W.heap[j]? = some o) : j < W.heap.size := (Array.getElem?_eq_some_iff.1 h).1
theorem block_far {W : World} {j b i : Nat} {o : Obj} {v : Value} (h : W.heap[j]? = some o) (hne : j ≠ b) : (W.setCell ⟨b, i, none⟩ v).heap[j]? = some o := (Below.heap_setCell _ _ _ j hne).trans h
theorem cell_alloc' {W : World} {q : Addr} {v : Value} (o : Obj) (h : W.cell? q = some v) : (W.alloc o).cell? q = some v :=
  (World.cell?_alloc_lt _ _ _ (World.block_lt_of_cell? W q h)).trans h
theorem cell_in {W : World} {b j : Nat} {cs : Array Value} {t : TypeId} {v : Value} (h : W.heap[b]? = some (.cells cs t (0, 0))) (hv : cs[j]? = some v) : W.cell? ⟨b, j, none⟩ = some v := by simp [World.cell?, h, hv]
theorem frozen_in {W : World} {b j : Nat} {cs : Array Value} {t : TypeId} (h : W.heap[b]? = some (.cells cs t (0, 0))) : W.frozen? ⟨b, j, none⟩ = false := by simp [World.frozen?, h]
@[simp] theorem size_drew (W : World) : W.drew.heap.size = W.heap.size := rfl
@[simp] theorem size_setCell (W : World) (q : Addr) (v : Value) : (W.setCell q v).heap.size = W.heap.size := by simp [World.setCell]

/-- Of the blocks below n, but those of X, nothing has turned. -/
structure Sames (n : Nat) (X : Nat → Prop) (A A' : World) : Prop where
  os : A'.os = A.os
  tape : A'.tape = A.tape
  output : A'.output = A.output
  size : A.heap.size ≤ A'.heap.size
  block : ∀ k, k < n → ¬ X k → A'.heap[k]? = A.heap[k]?
theorem Sames.refl (n : Nat) (X : Nat → Prop) (A : World) : Sames n X A A := ⟨rfl, rfl, rfl, Nat.le_refl _, fun _ _ _ => rfl⟩
theorem Sames.turn3 {n B L : Nat} {X : Nat → Prop} {A A' A'' : World} (h : Sames n X A A') (ht : Turn3 B L A' A'') (hn : n ≤ A.heap.size) (hB : X B) (hL : n ≤ L) : Sames n X A A'' :=
  ⟨ht.os.trans h.os, ht.tape.trans h.tape, ht.output.trans h.output, Nat.le_trans h.size ht.size, fun k hk hx =>
    (ht.block k (by have := h.size; omega) (fun e => hx (e ▸ hB)) (by omega) (by omega)).trans (h.block k hk hx)⟩
theorem Sames.drew {n : Nat} {X : Nat → Prop} {A A' : World} (h : Sames n X A A') : Sames n X A A'.drew := ⟨h.os, h.tape, h.output, h.size, h.block⟩
theorem Sames.setCell {n : Nat} {X : Nat → Prop} {A A' : World} (h : Sames n X A A') {b : Nat} (hb : X b) (i : Nat) (v : Value) : Sames n X A (A'.setCell ⟨b, i, none⟩ v) :=
  ⟨h.os, h.tape, h.output, by simpa using h.size, fun k hk hx => (Below.heap_setCell _ _ _ k (fun e => hx (e ▸ hb))).trans (h.block k hk hx)⟩
theorem Sames.mono {n : Nat} {X Y : Nat → Prop} {A A' : World} (h : Sames n X A A') (hxy : ∀ k, X k → Y k) : Sames n Y A A' := ⟨h.os, h.tape, h.output, h.size, fun k hk hy => h.block k hk (fun hx => hy (hxy k hx))⟩
theorem Sames.cell {n : Nat} {X : Nat → Prop} {A A' : World} (h : Sames n X A A') {p : Addr} (hp : p.block < n) (hx : ¬ X p.block) : A'.cell? p = A.cell? p := World.cell?_of_block (w := A) (h.block p.block hp hx)
theorem Sames.below {n m : Nat} {X : Nat → Prop} {A A' : World} (h : Sames n X A A') (hm : m ≤ n) (hx : ∀ k, X k → m ≤ k) : Below m A A' :=
  ⟨h.os, h.tape, h.output, h.size, fun k hk => h.block k (by omega) (fun hX => by have := hx k hX; omega)⟩

/-- The first of some places that is met; -1: there is none. -/
def firstOf (good : Nat → Bool) (xs : List Nat) : Int := match xs.find? good with
  | some c => (c : Int)
  | none => -1
theorem firstOf_none {good : Nat → Bool} {xs : List Nat} (h : ∀ c ∈ xs, good c = false) : firstOf good xs = -1 := by
  unfold firstOf; rw [List.find?_eq_none.2 (fun c hc => by rw [h c hc]; decide)]
theorem firstOf_some {good : Nat → Bool} {pre r : List Nat} {c : Nat} (h : ∀ x ∈ pre, good x = false) (hc : good c = true) : firstOf good (pre ++ c :: r) = c := by
  unfold firstOf
  rw [List.find?_append, List.find?_eq_none.2 (fun x hx => by rw [h x hx]; decide)]
  simp [hc]

/-- How a function leaves over one mark: the block of the rounds' deferred calls holds none. -/
theorem leaves_one {fn : Func} {tmps : Array Value} {R : Ending → World → Prop} {D : Nat} {w : World} (hD : w.heap[D]? = some (.deferred (some []))) {v : Value}
    (hr : (results fn tmps).run Tryd.prog (w.putObj D (.deferred none)) = .ok v (w.putObj D (.deferred none))) (hR : R (.returned v) (w.putObj D (.deferred none))) :
    LeavesInM Fence.wide 3 Tryd.prog fn tmps R [{ target := .collected D, args := #[] }] .returning w :=
  ⟨by simp, .inl ⟨_, _, rfl, run_takeDeferred hD, ⟨_, hr, hR⟩⟩⟩
theorem below_setCell {n b : Nat} {A W : World} (h : Below n A W) (hb : n ≤ b) (i : Nat) (v : Value) : Below n A (W.setCell ⟨b, i, none⟩ v) := h.setCell (p := ⟨b, i, none⟩) hb v
theorem below_putObj {n D : Nat} {A W : World} (h : Below n A W) (hD : n ≤ D) (o : Obj) : Below n A (W.putObj D o) :=
  ⟨h.os, h.tape, h.output, by simpa using h.size, fun k hk => (World.putObj_heap_other (by omega)).trans (h.block k hk)⟩

/-! ### The same outside of every round, in the plain walk's words -/
/-- What a body that never panics must achieve: it leaves, marks and all. -/
def leavePost (fn : Func) (R : Ending → World → Prop) : Exit → Act → World → Prop
  | .normal, a, w | .ret, a, w => LeavesInM Fence.wide 3 Tryd.prog fn a.tmps R a.defers .returning w
  | _, _, _ => False
theorem leavePost_body {fn : Func} {R : Ending → World → Prop} : ∀ (e : Exit) (a : Act) (w : World), leavePost fn R e a w → bodyPostM Fence.wide 3 Tryd.prog fn R e a w
  | .normal, _, _, h => h
  | .ret, _, _, h => h
theorem calls_of_marks {f : FuncId} {fn : Func} {c : Code} {args : Array Value} {w : World} {R : Ending → World → Prop} (hf : Tryd.prog.funcs[f]? = some fn) (hb : fn.body = some c)
    (h : c.wp Tryd.prog (leavePost fn R) { tmps := args ++ Array.replicate (fn.ntmps - args.size) undef, defers := [] } w) : Calls Tryd.prog f args w R :=
  callsIn_wide.1 (callsIn_of_wp_marks hf hb trivial (wpIn_wide.2 (wp_mono h leavePost_body)) rfl)

theorem wp_rangeEach' {g : Operand} {p : Tmp} {assign body : Code} {Q : Exit → Act → World → Prop} {a : Act} {w : World} (B x : Nat) (hx : x < 18446744073709551616) (hB4 : 4 ≤ B)
    (hg : a.eval g = .func (.func 106) #[] #[.pointer (some ⟨B, 0, none⟩)]) (hB : w.heap[B]? = some (.cells #[.int .u64 x] 50 (0, 0))) (hG : Glb w)
    (I : List Nat → World → Prop) (Ix : Code → List Nat → World → Prop)
    (hI : ∀ s A A', I s A → Turn3 B w.heap.size A A' → I s A') (hIx : ∀ c s A A', Ix c s A → Turn3 B w.heap.size A A' → Ix c s A') (h0 : I [] w) (a₁ : Nat → Act)
    (hassign : ∀ (l c : Nat) (W : World) (K : Act → World → Prop), K (a₁ c) W →
      assign.wpIn (Fence.wide.inRound l) 1 Tryd.prog (Exit.then K (fun _ _ _ => False)) { tmps := a.tmps.setIfInBounds p (.int .i64 (c : Nat)), defers := [] } W)
    (hbody : ∀ (l : Nat) (pre : List Nat) (c : Nat) (W : World), (∃ r, bitsOf x = pre ++ c :: r) → I pre W → w.heap.size + 2 ≤ W.heap.size → Glb W →
      body.wpIn (Fence.wide.inRound l) 1 Tryd.prog (eachPost B w.heap.size I Ix (pre ++ [c]) W) (a₁ c) W)
    (hdone : ∀ W, I (bitsOf x) W → Glb W → W.heap[w.heap.size]? = some (.deferred (some [])) → Q .normal { a with defers := { target := .collected w.heap.size, args := #[] } :: a.defers } W)
    (hstop : ∀ c pre W, pre <+: bitsOf x → Ix c pre W → W.heap[w.heap.size]? = some (.deferred (some [])) → c.wp Tryd.prog Q { a with defers := { target := .collected w.heap.size, args := #[] } :: a.defers } W) :
    (Code.rangeFunc g #[p] assign body).wp Tryd.prog Q a w :=
  wpIn_wide.1 (wp_rangeEach B x hx hB4 hg hB hG I Ix hI hIx h0 a₁ hassign hbody hdone (fun c pre W h1 h2 h3 => wpIn_wide.2 (hstop c pre W h1 h2 h3)))
end Go.Proofs.YtjlpclcdbnfikaaDoor
