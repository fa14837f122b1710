/-
  Inside a fence: loads and stores of whole variables of an array type; a range over a function whose iterator keeps variables of its own.
-/
import Derived.Test.YtfkpilfnhgjmfaaPart
import Derived.RangeFuncNested
import Derived.RangeFuncBound
import Derived.RangeFuncLeaves
import Derived.OwnWalkIn
import Derived.TacticsInMore
import Derived.LoopIn
import Derived.ControlIn
namespace Go.Proofs.Ytfkpilfnhgjmfaa
open Go.RowKit
section
variable {F : Fence} {n : Nat} {P : Program} {ops : Array Oper} {rest : List Oper} {o : Oper} {a : Act} {w w' : World} {Q : Exit → Act → World → Prop}
theorem wpListIn_run (hg : o.guard = none) (next : Next) (v : Value) (hn : next = .value v ∨ next = .skip ∧ v = undef) (ha : o.about P w a.eval = none) (hd : ∀ c, o.op ≠ .defer c)
    (hr : (execOp a.eval o).run P w = .ok next w') (h : wpListIn F n P ops Q rest (a.put o.dst v) w') : wpListIn F n P ops Q (o :: rest) a w :=
  wpListIn_plain hg fun K hK => by
    refine ⟨fun f hf => ?_, ?_⟩
    · rw [ha] at hf; cases hf
    · rw [Oper.semAt_plain F _ _ hd, hr]
      rcases hn with rfl | ⟨rfl, rfl⟩
      · exact hK _ _ h
      · exact hK _ _ h
theorem wpListIn_load_in (hg : o.guard = none) (ty : TypeId) (x : Operand) (ho : o.op = .load ty x) (b off : Nat) (hx : a.eval x = .pointer (some ⟨b, off, none⟩)) (cs : List Value) (d : TypeDesc) (hc : w.rangeAt b off cs)
    (hu : P.underlying ty = some d) (hd : d.isRow = true) (hi : (P.info? ty).map (·.size) = some cs.length)
    (h : wpListIn F n P ops Q rest (a.put o.dst (.agg cs.toArray)) w) : wpListIn F n P ops Q (o :: rest) a w :=
  wpListIn_run hg _ _ (.inl rfl) (by simp [Oper.about, ho]) (by rw [ho]; intro c hc'; cases hc') (by
    unfold execOp
    simp only [ho, hx, Sem.run_bind, run_loadAt_mid w b off ty cs d hc hu hd hi, Result.andThen_ok, Sem.run_pure]) h
theorem Row.range {t : TypeId} {g : Nat} {vs : List Value} (h : Row w g t vs) : w.rangeAt g 0 vs := fun j v hv => by
  rw [Nat.zero_add]; exact h.cell hv
theorem wpListIn_load_Row (hg : o.guard = none) (ty : TypeId) (x : Operand) (ho : o.op = .load ty x) (g : Nat) (hx : a.eval x = .pointer (some ⟨g, 0, none⟩)) {t : TypeId} {vs : List Value} {m : Nat} {e : TypeId} (hr : Row w g t vs)
    (hu : P.underlying ty = some (.array m e)) (hi : (P.info? ty).map (·.size) = some vs.length)
    (h : wpListIn F n P ops Q rest (a.put o.dst (.agg vs.toArray)) w) : wpListIn F n P ops Q (o :: rest) a w :=
  wpListIn_load_in hg ty x ho g 0 hx vs _ hr.range hu rfl hi h
theorem wpListIn_store_in (hg : o.guard = none) (ty : TypeId) (x y : Operand) (ho : o.op = .store ty x y) (g off : Nat) (vs : List Value) (hx : a.eval x = .pointer (some ⟨g, off, none⟩)) (hy : a.eval y = .agg vs.toArray)
    {t : TypeId} {old : List Value} (hr : Row w g t old) (hi : (P.info? ty).map (·.size) = some vs.length) (hold : off + vs.length ≤ old.length) (h1 : ∀ v ∈ vs, v.oneCell' = true)
    (h : wpListIn F n P ops Q rest (a.put o.dst undef) (w.setCells g off vs)) : wpListIn F n P ops Q (o :: rest) a w :=
  wpListIn_run hg .skip _ (.inr ⟨rfl, rfl⟩) (by simp [Oper.about, ho]) (by rw [ho]; intro c hc'; cases hc') (by
    have := run_storeAt_mid (P := P) w g off ty vs.toArray (hr.there _ _ (by simpa using hold)) (by simpa using hi) (by simpa using h1)
    unfold execOp
    simp only [ho, hx, hy, Sem.run_bind, this, Result.andThen_ok, Sem.run_pure]) h
end
theorem Row.putAll {t : TypeId} {g : Nat} {w : World} {old : List Value} (h : Row w g t old) (vs : List Value) (hl : vs.length = old.length) : Row (w.setCells g 0 vs) g t vs := by
  have := Row.putIn (c := []) vs [] old hl (by simpa using h)
  simpa using this
theorem cells_range {w : World} {b o : Nat} {cs : List Value} (h : ∀ j v, cs[j]? = some v → w.cell? ⟨b, o + j, none⟩ = some v) : w.rangeAt b o cs := h
/-! ### A range over a function: the iterator may have variables of its own, the caller's lie ahead of the loop -/
/-- what lies at or behind M, or is named by T, lies as it lay -/
structure KeepB (M : Nat) (T : Nat → Prop) (A B : World) : Prop where
  size : A.heap.size ≤ B.heap.size
  same : ∀ k, M ≤ k ∨ T k → k < A.heap.size → B.heap[k]? = A.heap[k]?
theorem KeepB.refl (M : Nat) (T : Nat → Prop) (A : World) : KeepB M T A A := ⟨Nat.le_refl _, fun _ _ _ => rfl⟩
theorem KeepB.trans {M : Nat} {T : Nat → Prop} {A B C : World} (h : KeepB M T A B) (k : KeepB M T B C) : KeepB M T A C :=
  ⟨Nat.le_trans h.size k.size, fun i hi hl => (k.same i hi (Nat.lt_of_lt_of_le hl h.size)).trans (h.same i hi hl)⟩
theorem KeepB.later {M M' : Nat} {T : Nat → Prop} {A B : World} (h : KeepB M T A B) (hM : M ≤ M') : KeepB M' T A B :=
  ⟨h.size, fun k hk hl => h.same k (hk.imp (fun h => Nat.le_trans hM h) id) hl⟩
theorem KeepB.below {M m : Nat} {T : Nat → Prop} {A B : World} (h : Below m A B) (hm : A.heap.size ≤ m) : KeepB M T A B := ⟨h.size, fun k _ hl => h.block k (by omega)⟩
theorem KeepB.setCell {M : Nat} {T : Nat → Prop} {A B : World} (h : KeepB M T A B) {p : Addr} (hp : p.block < M ∨ A.heap.size ≤ p.block) (hT : ¬ T p.block ∨ A.heap.size ≤ p.block) (v : Value) : KeepB M T A (B.setCell p v) :=
  ⟨by simpa [World.setCell] using h.size, fun k hk hl => by
    have hne : k ≠ p.block := by
      rintro rfl
      rcases hk with hk | hk
      · rcases hp with hp | hp <;> omega
      · rcases hT with hT | hT
        · exact hT hk
        · omega
    exact (Below.heap_setCell B p v k hne).trans (h.same k hk hl)⟩
theorem KeepB.setCells {M : Nat} {T : Nat → Prop} {A : World} {g : Nat} (hp : g < M ∨ A.heap.size ≤ g) (hT : ¬ T g ∨ A.heap.size ≤ g) : ∀ (vs : List Value) (o : Nat) {B : World}, KeepB M T A B → KeepB M T A (B.setCells g o vs)
  | [], _, _, h => h
  | v :: r, o, _, h => KeepB.setCells hp hT r (o + 1) (h.setCell (p := ⟨g, o, none⟩) hp hT v)
theorem KeepB.alloc {M : Nat} {T : Nat → Prop} {A B : World} (h : KeepB M T A B) (o : Obj) : KeepB M T A (B.alloc o) :=
  ⟨by have := h.size; simp; omega, fun k hk hl => (Below.heap_alloc B o k (Nat.lt_of_lt_of_le hl h.size)).trans (h.same k hk hl)⟩
theorem KeepB.setRow {M : Nat} {T : Nat → Prop} {A B : World} (h : KeepB M T A B) {g : Nat} (hp : g < M ∨ A.heap.size ≤ g) (hT : ¬ T g ∨ A.heap.size ≤ g) (c : Array Value) : KeepB M T A (B.setRow g c) :=
  ⟨by have := h.size; rw [size_setRow]; exact this, fun k hk hl => by
    have hne : g ≠ k := by
      rintro rfl
      rcases hk with hk | hk
      · rcases hp with hp | hp <;> omega
      · rcases hT with hT | hT
        · exact hT hk
        · omega
    refine Eq.trans ?_ (h.same k hk hl)
    simp only [World.setRow, Array.getElem?_modify]
    rw [if_neg hne]⟩
theorem Row.kept {M : Nat} {T : Nat → Prop} {A B : World} {g : Nat} {t : TypeId} {vs : List Value} (h : Row A g t vs) (hk : KeepB M T A B) (hg : M ≤ g ∨ T g) : Row B g t vs := (hk.same g hg h.lt).trans h
/-- **What an iterator gives**: N rounds, round k of the values 'encs k', for whatever the rounds keep (J), as long as that speaks of nothing that is laid behind the iterator's start; the rounds leave alone what the iterator lays, and what T names. -/
def Gives (F : Fence) (n : Nat) (P : Program) (g : Nat) (lb : Array Value) (encs : Nat → Array Value) (N : Nat) (T : Nat → Prop) (W : World) : Prop :=
  ∀ (l : Nat) (J Jx : Nat → World → Prop), (∀ k A B, J k A → Below W.heap.size A B → J k B) → (∀ k A B, Jx k A → Below W.heap.size A B → Jx k B) →
    (∀ k A, k < N → J k A → W.heap.size ≤ A.heap.size → YieldAt F (n - 1) P l (encs k) A fun e B => (e = .returned (.bool true) ∧ J (k + 1) B ∧ KeepB W.heap.size T A B) ∨ (e = .returned (.bool false) ∧ Jx (k + 1) B)) →
    J 0 W → CallsIn F n P g (#[.func (.yield l) #[] #[]] ++ lb) W fun e W' => (∃ v, e = .returned v) ∧ (J N W' ∨ ∃ k, 1 ≤ k ∧ k ≤ N ∧ Jx k W')
/-- How the body of a round may be left. -/
def roundEnd (M : Nat) (T : Nat → Prop) (I : Nat → World → Prop) (Ix : Code → Nat → World → Prop) (k : Nat) (A : World) : Exit → Act → World → Prop
  | .normal, _, B => KeepB M T A B ∧ I k B
  | .ret, _, B => KeepB M T A B ∧ Ix .ret k B
  | .exit id, _, B => KeepB M T A B ∧ Ix (.exit id) k B
  | .goto t, _, B => KeepB M T A B ∧ Ix (.goto t) k B
  | .panic _, _, _ => False
  | .outgrown, _, _ => False
/-- one block is turned that is no cells: the loop's record -/
theorem below_putObj {m l : Nat} (A : World) (o : Obj) (hl : m ≤ l) : Below m A (A.putObj l o) :=
  (Below.refl m A).trans ⟨rfl, rfl, rfl, by simp [World.putObj], fun k hk => World.putObj_heap_other (by omega)⟩
theorem size_putObj (A : World) (l : Nat) (o : Obj) : (A.putObj l o).heap.size = A.heap.size := by simp [World.putObj]
theorem Row.turned {A : World} {g l : Nat} {t : TypeId} {vs : List Value} (h : Row A g t vs) (hg : g ≠ l) (o : Obj) : Row (A.putObj l o) g t vs := (World.putObj_heap_other hg).trans h
variable {F : Fence} {n : Nat} {P : Program}
/-- **The statement.** -/
theorem wpIn_range_it {g : Operand} {ps : Array Tmp} {assign body : Code} {Q : Exit → Act → World → Prop} {a : Act} {w : World}
    (hro : F.round = none) (h1 : 1 ≤ n) {gf : Nat} {lb : Array Value} (hg : a.eval g = .func (.func gf) #[] lb) (hFg : F.fn gf) (eg : ∀ args w, (callFunc gf args).run P w = .ok (.enter gf args) w)
    {encs : Nat → Array Value} {N : Nat} {T : Nat → Prop} (hT : ¬ T (w.heap.size + 1)) (hps : ∀ k, (encs k).size = ps.size)
    (hseq : ∀ W, Below w.heap.size w W → W.heap.size = w.heap.size + 1 + 1 → Gives F (n - 1) P gf lb encs N T W)
    (I : Nat → World → Prop) (Ix : Code → Nat → World → Prop) (hI : ∀ k A B, I k A → Below w.heap.size A B → I k B) (hIx : ∀ c k A B, Ix c k A → Below w.heap.size A B → Ix c k B) (h0 : I 0 w)
    (hround : ∀ (l k : Nat) (A : World), k < N → w.heap.size ≤ l → l < A.heap.size → I k A →
      assign.wpIn (F.inRound l) (n - 1 - 1) P (Exit.then (fun a₁ A₁ => KeepB w.heap.size T A A₁ ∧ ∀ o, body.wpIn (F.inRound l) (n - 1 - 1) P (roundEnd w.heap.size T I Ix (k + 1) (A₁.putObj l o)) a₁ (A₁.putObj l o)) (fun _ _ _ => False))
        { tmps := (ps.zip (encs k)).foldl (fun t (p, v) => t.setIfInBounds p v) a.tmps, defers := [] } A)
    (hdone : ∀ (D : Nat) (W : World), w.heap.size ≤ D → I N W → W.heap[D]? = some (.deferred (some [])) → Q .normal { a with defers := { target := .collected D, args := #[] } :: a.defers } W)
    (hstop : ∀ (D : Nat) (c : Code) (k : Nat) (W : World), w.heap.size ≤ D → 1 ≤ k → k ≤ N → Ix c k W → W.heap[D]? = some (.deferred (some [])) → c.wpIn F n P Q { a with defers := { target := .collected D, args := #[] } :: a.defers } W) :
    (Code.rangeFunc g ps assign body).wpIn F n P Q a w := by
  refine wpIn_rangeFunc fun fn hfn => ?_
  rw [hro]
  obtain ⟨R, hR⟩ : ∃ R : LoopState → Option Code → Loop, R = fun st pe => { state := st, pending := pe, fn, tmps := a.tmps, params := ps, assign, body, defers := w.heap.size } := ⟨_, rfl⟩
  obtain ⟨W, hW⟩ : ∃ W, (w.alloc (.deferred (some []))).alloc (.loop (R .ready none)) = W := ⟨_, rfl⟩
  have hsz : W.heap.size = w.heap.size + 1 + 1 := by rw [← hW]; simp
  have hbw : Below w.heap.size w W := by rw [← hW]; exact ((Below.refl _ w).alloc (Nat.le_refl _) _).alloc (by simp) _
  have hL : W.heap[w.heap.size + 1]? = some (.loop (R .ready none)) := by
    rw [← hW]; have := World.alloc_heap_new (w.alloc (.deferred (some []))) (.loop (R .ready none)); rwa [World.size_alloc] at this
  have hD : W.heap[w.heap.size]? = some (.deferred (some [])) := by
    rw [← hW]; exact (Below.heap_alloc _ _ _ (by simp)).trans (World.alloc_heap_new w _)
  refine ⟨w.heap.size + 1, [{ target := .collected w.heap.size, args := #[] }], W, { target := .fn (.func gf) lb, args := #[.func (.yield (w.heap.size + 1)) #[] #[]] }, W, gf,
    #[.func (.yield (w.heap.size + 1)) #[] #[]] ++ lb, W, ?_, ?_, ?_, ?_, fun _ => h1, ?_⟩
  · rw [← hW, hR]; exact run_enterLoop_outer _ _ _ _ _
  · simp only [resolve, hg]
    simp [go_sem]
  · intro f' hf'; simp [Target.leads] at hf'; subst hf'; exact hFg
  · simp [invoke, go_sem, eg]
  · refine (hseq W hbw hsz (w.heap.size + 1)
      (fun k A => I k A ∧ A.heap[w.heap.size + 1]? = some (.loop (R .ready none)) ∧ A.heap[w.heap.size]? = some (.deferred (some [])))
      (fun k A => ∃ c, Ix c k A ∧ A.heap[w.heap.size + 1]? = some (.loop (R .done (some c))) ∧ A.heap[w.heap.size]? = some (.deferred (some [])))
      (fun k A B ⟨h, h2, h3⟩ hb => ⟨hI k A B h (hb.mono (by omega)), (hb.block _ (by omega)).trans h2, (hb.block _ (by omega)).trans h3⟩)
      (fun k A B ⟨c, h, h2, h3⟩ hb => ⟨c, hIx c k A B h (hb.mono (by omega)), (hb.block _ (by omega)).trans h2, (hb.block _ (by omega)).trans h3⟩)
      ?_ ⟨hI 0 w W h0 hbw, hL, hD⟩).mono ?_
    · rintro k A hk ⟨hi, hl, hd⟩ hsA
      have hy := run_yield (P := P) (args := encs k) hl (by rw [hR]; exact hps k)
      rw [hR] at hy
      refine ⟨fn, _, assign, body, hy, roundIn_of_wpIn hfn (Code.wpIn_mono ?_ (hround (w.heap.size + 1) k A hk (by omega) (by omega) hi))⟩
      intro e a₁ A₁ he
      cases e with
      | normal =>
        obtain ⟨hk1, hb⟩ := he
        have hl1 := (hk1.same _ (.inl (by omega)) (by omega)).trans hl
        have hd1 := (hk1.same _ (.inl (Nat.le_refl _)) (by omega)).trans hd
        have hlt : w.heap.size + 1 < A₁.heap.size := by have := hk1.size; omega
        refine ⟨_, run_beginRound hl1 (by rw [hR]), Code.wpIn_mono ?_ (hb _)⟩
        have hl2 : (A₁.putObj (w.heap.size + 1) (.loop { R .ready none with state := .busy })).heap[w.heap.size + 1]? = some (.loop { R .ready none with state := .busy }) := World.putObj_heap_same hlt
        have hd2 : (A₁.putObj (w.heap.size + 1) (.loop { R .ready none with state := .busy })).heap[w.heap.size]? = some (.deferred (some [])) := (World.putObj_heap_other (by omega)).trans hd1
        have fin : ∀ (jump : Option Code) (B : World), KeepB w.heap.size T (A₁.putObj (w.heap.size + 1) (.loop { R .ready none with state := .busy })) B →
            (Instr.endRound (w.heap.size + 1) jump).run P B = .ok (.bool jump.isNone) (B.putObj (w.heap.size + 1) (.loop (R (if jump.isNone then .ready else .done) jump))) ∧
            (B.putObj (w.heap.size + 1) (.loop (R (if jump.isNone then .ready else .done) jump))).heap[w.heap.size + 1]? = some (.loop (R (if jump.isNone then .ready else .done) jump)) ∧
            (B.putObj (w.heap.size + 1) (.loop (R (if jump.isNone then .ready else .done) jump))).heap[w.heap.size]? = some (.deferred (some [])) := fun jump B hB => by
          have hl3 := (hB.same _ (.inl (by omega)) (by rw [size_putObj]; exact hlt)).trans hl2
          have hd3 := (hB.same _ (.inl (Nat.le_refl _)) (by rw [size_putObj]; omega)).trans hd2
          have := run_endRound (P := P) jump hl3
          rw [hR] at this ⊢
          exact ⟨this, World.putObj_heap_same (Array.getElem?_eq_some_iff.1 hl3).1, (World.putObj_heap_other (by omega)).trans hd3⟩
        intro e a₂ B hp
        have turn : ∀ o, Below w.heap.size B (B.putObj (w.heap.size + 1) o) := fun o => below_putObj B o (by omega)
        cases e with
        | normal =>
          obtain ⟨hkB, hiB⟩ := hp
          obtain ⟨hr, hl4, hd4⟩ := fin none B hkB
          refine ⟨_, _, hr, .inl ⟨rfl, ⟨hI _ _ _ hiB (turn _), hl4, hd4⟩, ?_⟩⟩
          have hs2 : A₁.heap.size ≤ B.heap.size := by have := hkB.size; rwa [size_putObj] at this
          refine ⟨by rw [size_putObj]; exact Nat.le_trans hk1.size hs2, fun i hi hA => ?_⟩
          have hi' : w.heap.size ≤ i ∨ T i := hi.imp (fun h => by omega) id
          by_cases e : i = w.heap.size + 1
          · rcases hi with hi | hi
            · omega
            · subst e
              exact (hT hi).elim
          · exact (World.putObj_heap_other e).trans ((hkB.same i hi' (by rw [size_putObj]; have := hk1.size; omega)).trans ((World.putObj_heap_other e).trans (hk1.same i hi' hA)))
        | ret =>
          obtain ⟨hkB, hiB⟩ := hp
          obtain ⟨hr, hl4, hd4⟩ := fin (some .ret) B hkB
          exact ⟨_, _, hr, .inr ⟨rfl, .ret, hIx _ _ _ _ hiB (turn _), hl4, hd4⟩⟩
        | exit id =>
          obtain ⟨hkB, hiB⟩ := hp
          obtain ⟨hr, hl4, hd4⟩ := fin (some (.exit id)) B hkB
          exact ⟨_, _, hr, .inr ⟨rfl, .exit id, hIx _ _ _ _ hiB (turn _), hl4, hd4⟩⟩
        | goto t =>
          obtain ⟨hkB, hiB⟩ := hp
          obtain ⟨hr, hl4, hd4⟩ := fin (some (.goto t)) B hkB
          exact ⟨_, _, hr, .inr ⟨rfl, .goto t, hIx _ _ _ _ hiB (turn _), hl4, hd4⟩⟩
        | panic ch => exact hp.elim
        | outgrown => exact hp.elim
      | ret => exact he.elim
      | exit id => exact he.elim
      | goto t => exact he.elim
      | panic ch => exact he.elim
      | outgrown => exact he.elim
    · rintro e B ⟨⟨v, rfl⟩, (⟨hi, hl, hd⟩ | ⟨k, hk1, hk2, c, hi, hl, hd⟩)⟩
      · exact ⟨none, _, by have := run_endLoop (P := P) hl (by rw [hR]; simp); rw [hR] at this; exact this, hdone _ _ (Nat.le_refl _) (hI _ _ _ hi (below_putObj B _ (by omega))) ((World.putObj_heap_other (by omega)).trans hd)⟩
      · exact ⟨some c, _, by have := run_endLoop (P := P) hl (by rw [hR]; simp); rw [hR] at this; exact this, hstop _ c k _ (Nat.le_refl _) hk1 hk2 (hIx c _ _ _ hi (below_putObj B _ (by omega))) ((World.putObj_heap_other (by omega)).trans hd)⟩
theorem wide_fn (f : FuncId) : Fence.wide.fn f = True := rfl
theorem wide_depth : Fence.wide.depth = none := rfl
/-! ### A scope through which the run goes without a jump to a label -/
theorem stepR_scope {P : Program} {b : Frame} {a : Act} {k : List Item} {cs : List Frame} {w : World} {c : Code} : step P (lone (b.atR a (.code (.scope c) :: k)) cs w) = .next (lone (b.atR a (.code c :: .inScope c :: k)) cs w) :=
  step_lone_go (by simp [stepG, stepG.exec, Frame.atR])
theorem stepR_inScope {P : Program} {b : Frame} {a : Act} {k : List Item} {cs : List Frame} {w : World} {c : Code} : step P (lone (b.atR a (.inScope c :: k)) cs w) = .next (lone (b.atR a k) cs w) :=
  step_lone_go (by simp [stepG, stepG.exec, Frame.atR])
/-- no jump to a label comes out -/
def noJump (Q : Exit → Act → World → Prop) : Exit → Act → World → Prop
  | .goto _, _, _ => False
  | e, a, w => Q e a w
theorem noJump_normal (Q : Exit → Act → World → Prop) (a : Act) (w : World) : noJump Q .normal a w = Q .normal a w := rfl
theorem noJump_exit (Q : Exit → Act → World → Prop) (id : Nat) (a : Act) (w : World) : noJump Q (.exit id) a w = Q (.exit id) a w := rfl
theorem noJump_ret (Q : Exit → Act → World → Prop) (a : Act) (w : World) : noJump Q .ret a w = Q .ret a w := rfl
theorem noJump_panic (Q : Exit → Act → World → Prop) (ch : List PanicEntry) (a : Act) (w : World) : noJump Q (.panic ch) a w = Q (.panic ch) a w := rfl
theorem wpIn_scope {c : Code} {Q : Exit → Act → World → Prop} {a : Act} {w : World} (h : c.wpIn F n P (noJump Q) a w) : (Code.scope c).wpIn F n P Q a w := by
  intro b k cs hro hb hr
  have h0 : (lone (b.atR a (.code (.scope c) :: k)) cs w).fenced P F := fenced_calm hb hr rfl
  obtain ⟨e, a₁, w₁, hq, harr⟩ := h b (.inScope c :: k) cs hro hb hr
  cases e with
  | normal => exact ⟨.normal, a₁, w₁, hq, .head h0 stepR_scope (StepsIn.trans harr (.one (fenced_calm hb hr rfl) stepR_inScope))⟩
  | exit id =>
    have hx : exitTo id (.inScope c :: k) = exitTo id k := by simp [exitTo]
    exact ⟨.exit id, a₁, w₁, hq, fun k' hk => .head h0 stepR_scope (harr.1 k' (by rw [hx]; exact hk)),
      fun hr' hk => let ⟨k₁, h1, h2⟩ := harr.2 hr' (by rw [hx]; exact hk); ⟨k₁, h1, .head h0 stepR_scope h2⟩⟩
  | goto l => exact hq.elim
  | ret => exact ⟨_, a₁, w₁, hq, .of_steps (.one h0 stepR_scope) harr⟩
  | panic ch => exact ⟨_, a₁, w₁, hq, .of_steps (.one h0 stepR_scope) harr⟩
  | outgrown => exact ⟨_, a₁, w₁, hq, .of_steps (.one h0 stepR_scope) harr⟩
end Go.Proofs.Ytfkpilfnhgjmfaa
