/-
  A range over a function whose iterator, behind its last round, still writes into older memory.
-/
import Derived.Test.YtfkpilfnhgjmfaaFen
namespace Go.Proofs.Ytfkpilfnhgjmfaa
open Go.RowKit
/-- **What such an iterator gives**: N rounds, and then Fin of what the last round left. -/
def GivesF (F : Fence) (n : Nat) (P : Program) (g : Nat) (lb : Array Value) (encs : Nat → Array Value) (N : Nat) (T : Nat → Prop) (Pre : World → Prop) (Fin : World → World → Prop) (W : World) : Prop :=
  ∀ (l : Nat) (J : Nat → World → Prop), (∀ k A B, J k A → Below W.heap.size A B → J k B) → (∀ k A, J k A → Pre A) →
    (∀ k A, k < N → J k A → W.heap.size ≤ A.heap.size → YieldAt F (n - 1) P l (encs k) A fun e B => e = .returned (.bool true) ∧ J (k + 1) B ∧ KeepB W.heap.size T A B) →
    J 0 W → CallsIn F n P g (#[.func (.yield l) #[] #[]] ++ lb) W fun e W' => (∃ v, e = .returned v) ∧ ∃ A, J N A ∧ Fin A W'
variable {F : Fence} {n : Nat} {P : Program}
theorem wpIn_range_fin {g : Operand} {ps : Array Tmp} {assign body : Code} {Q : Exit → Act → World → Prop} {a : Act} {w : World}
    (hro : F.round = none) (h1 : 1 ≤ n) {gf : Nat} {lb : Array Value} (hg : a.eval g = .func (.func gf) #[] lb) (hFg : F.fn gf) (eg : ∀ args w, (callFunc gf args).run P w = .ok (.enter gf args) w)
    {encs : Nat → Array Value} {N : Nat} {T : Nat → Prop} {Pre : World → Prop} {Fin : World → World → Prop} (hT : ¬ T (w.heap.size + 1)) (hps : ∀ k, (encs k).size = ps.size)
    (hseq : ∀ W, Below w.heap.size w W → W.heap.size = w.heap.size + 1 + 1 → GivesF F (n - 1) P gf lb encs N T Pre Fin W)
    (hfin : ∀ A B, Fin A B → A.heap.size ≤ B.heap.size ∧ ∀ k, w.heap.size ≤ k → k < A.heap.size → B.heap[k]? = A.heap[k]?)
    (I : Nat → World → Prop) (hI : ∀ k A B, I k A → Below w.heap.size A B → I k B) (hpre : ∀ k A, I k A → Pre A) (h0 : I 0 w)
    (hround : ∀ (l k : Nat) (A : World), k < N → w.heap.size ≤ l → l < A.heap.size → I k A →
      assign.wpIn (F.inRound l) (n - 1 - 1) P (Exit.then (fun a₁ A₁ => KeepB w.heap.size T A A₁ ∧ ∀ o, body.wpIn (F.inRound l) (n - 1 - 1) P (roundEnd w.heap.size T I (fun _ _ _ => False) (k + 1) (A₁.putObj l o)) a₁ (A₁.putObj l o)) (fun _ _ _ => False))
        { tmps := (ps.zip (encs k)).foldl (fun t (p, v) => t.setIfInBounds p v) a.tmps, defers := [] } A)
    (hdone : ∀ (A W : World) (o : Obj), I N A → Fin A W → (W.putObj (w.heap.size + 1) o).heap[w.heap.size]? = some (.deferred (some [])) → Q .normal { a with defers := { target := .collected w.heap.size, args := #[] } :: a.defers } (W.putObj (w.heap.size + 1) o)) :
    (Code.rangeFunc g ps assign body).wpIn F n P Q a w := by
  refine wpIn_rangeFunc fun fn hfn => ?_
  rw [hro]
  obtain ⟨R, hR⟩ : ∃ R : LoopState → Option Code → Loop, R = fun st pe => { state := st, pending := pe, fn, tmps := a.tmps, params := ps, assign, body, defers := w.heap.size } := ⟨_, rfl⟩
  obtain ⟨W, hW⟩ : ∃ W, (w.alloc (.deferred (some []))).alloc (.loop (R .ready none)) = W := ⟨_, rfl⟩
  have hsz : W.heap.size = w.heap.size + 1 + 1 := by rw [← hW]; simp
  have hbw : Below w.heap.size w W := by rw [← hW]; exact ((Below.refl _ w).alloc (Nat.le_refl _) _).alloc (by simp) _
  have hL : W.heap[w.heap.size + 1]? = some (.loop (R .ready none)) := by
    rw [← hW]; have := World.alloc_heap_new (w.alloc (.deferred (some []))) (.loop (R .ready none)); rwa [World.size_alloc] at this
  have hD : W.heap[w.heap.size]? = some (.deferred (some [])) := by
    rw [← hW]; exact (Below.heap_alloc _ _ _ (by simp)).trans (World.alloc_heap_new w _)
  refine ⟨w.heap.size + 1, [{ target := .collected w.heap.size, args := #[] }], W, { target := .fn (.func gf) lb, args := #[.func (.yield (w.heap.size + 1)) #[] #[]] }, W, gf,
    #[.func (.yield (w.heap.size + 1)) #[] #[]] ++ lb, W, ?_, ?_, ?_, ?_, fun _ => h1, ?_⟩
  · rw [← hW, hR]; exact run_enterLoop_outer _ _ _ _ _
  · simp only [resolve, hg]
    simp [go_sem]
  · intro f' hf'; simp [Target.leads] at hf'; subst hf'; exact hFg
  · simp [invoke, go_sem, eg]
  · refine (hseq W hbw hsz (w.heap.size + 1)
      (fun k A => I k A ∧ A.heap[w.heap.size + 1]? = some (.loop (R .ready none)) ∧ A.heap[w.heap.size]? = some (.deferred (some [])))
      (fun k A B ⟨h, h2, h3⟩ hb => ⟨hI k A B h (hb.mono (by omega)), (hb.block _ (by omega)).trans h2, (hb.block _ (by omega)).trans h3⟩)
      (fun k A h => hpre k A h.1) ?_ ⟨hI 0 w W h0 hbw, hL, hD⟩).mono ?_
    · rintro k A hk ⟨hi, hl, hd⟩ hsA
      have hy := run_yield (P := P) (args := encs k) hl (by rw [hR]; exact hps k)
      rw [hR] at hy
      refine ⟨fn, _, assign, body, hy, roundIn_of_wpIn hfn (Code.wpIn_mono ?_ (hround (w.heap.size + 1) k A hk (by omega) (by omega) hi))⟩
      intro e a₁ A₁ he
      cases e with
      | normal =>
        obtain ⟨hk1, hb⟩ := he
        have hl1 := (hk1.same _ (.inl (by omega)) (by omega)).trans hl
        have hd1 := (hk1.same _ (.inl (Nat.le_refl _)) (by omega)).trans hd
        have hlt : w.heap.size + 1 < A₁.heap.size := by have := hk1.size; omega
        refine ⟨_, run_beginRound hl1 (by rw [hR]), Code.wpIn_mono ?_ (hb _)⟩
        have hl2 : (A₁.putObj (w.heap.size + 1) (.loop { R .ready none with state := .busy })).heap[w.heap.size + 1]? = some (.loop { R .ready none with state := .busy }) := World.putObj_heap_same hlt
        have hd2 : (A₁.putObj (w.heap.size + 1) (.loop { R .ready none with state := .busy })).heap[w.heap.size]? = some (.deferred (some [])) := (World.putObj_heap_other (by omega)).trans hd1
        have fin : ∀ (jump : Option Code) (B : World), KeepB w.heap.size T (A₁.putObj (w.heap.size + 1) (.loop { R .ready none with state := .busy })) B →
            (Instr.endRound (w.heap.size + 1) jump).run P B = .ok (.bool jump.isNone) (B.putObj (w.heap.size + 1) (.loop (R (if jump.isNone then .ready else .done) jump))) ∧
            (B.putObj (w.heap.size + 1) (.loop (R (if jump.isNone then .ready else .done) jump))).heap[w.heap.size + 1]? = some (.loop (R (if jump.isNone then .ready else .done) jump)) ∧
            (B.putObj (w.heap.size + 1) (.loop (R (if jump.isNone then .ready else .done) jump))).heap[w.heap.size]? = some (.deferred (some [])) := fun jump B hB => by
          have hl3 := (hB.same _ (.inl (by omega)) (by rw [size_putObj]; exact hlt)).trans hl2
          have hd3 := (hB.same _ (.inl (Nat.le_refl _)) (by rw [size_putObj]; omega)).trans hd2
          have := run_endRound (P := P) jump hl3
          rw [hR] at this ⊢
          exact ⟨this, World.putObj_heap_same (Array.getElem?_eq_some_iff.1 hl3).1, (World.putObj_heap_other (by omega)).trans hd3⟩
        intro e a₂ B hp
        have turn : ∀ o, Below w.heap.size B (B.putObj (w.heap.size + 1) o) := fun o => below_putObj B o (by omega)
        cases e with
        | normal =>
          obtain ⟨hkB, hiB⟩ := hp
          obtain ⟨hr, hl4, hd4⟩ := fin none B hkB
          refine ⟨_, _, hr, rfl, ⟨hI _ _ _ hiB (turn _), hl4, hd4⟩, ?_⟩
          have hs2 : A₁.heap.size ≤ B.heap.size := by have := hkB.size; rwa [size_putObj] at this
          refine ⟨by rw [size_putObj]; exact Nat.le_trans hk1.size hs2, fun i hi hA => ?_⟩
          by_cases e : i = w.heap.size + 1
          · rcases hi with hi | hi
            · omega
            · subst e
              exact (hT hi).elim
          · have hi' : w.heap.size ≤ i ∨ T i := hi.imp (fun h => by omega) id
            exact (World.putObj_heap_other e).trans ((hkB.same i hi' (by rw [size_putObj]; have := hk1.size; omega)).trans ((World.putObj_heap_other e).trans (hk1.same i hi' hA)))
        | ret => exact hp.2.elim
        | exit id => exact hp.2.elim
        | goto t => exact hp.2.elim
        | panic ch => exact hp.elim
        | outgrown => exact hp.elim
      | ret => exact he.elim
      | exit id => exact he.elim
      | goto t => exact he.elim
      | panic ch => exact he.elim
      | outgrown => exact he.elim
    · rintro e B ⟨⟨v, rfl⟩, A, ⟨hi, hl, hd⟩, hf⟩
      obtain ⟨hs, hsame⟩ := hfin A B hf
      have hlA := (Array.getElem?_eq_some_iff.1 hl).1
      have hl' := (hsame (w.heap.size + 1) (by omega) hlA).trans hl
      have hd' := (hsame w.heap.size (by omega) (by omega)).trans hd
      exact ⟨none, _, by have := run_endLoop (P := P) hl' (by rw [hR]; simp); rw [hR] at this; exact this, hdone A B _ hi hf ((World.putObj_heap_other (by omega)).trans hd')⟩
end Go.Proofs.Ytfkpilfnhgjmfaa
