/-
  In a round: a region that draws its order and ends in a store.
-/
import Derived.Test.YtfkpilfnhgjmfaaFen2
import Derived.Test.YtfkpilfnhgjmfaaLate
namespace Go.Proofs.Ytfkpilfnhgjmfaa
open Go.RowKit
namespace Ext
section
variable {P : Program} {C : World → Prop} {F : Fence} {m : Nat}
theorem regionIn_store {id : Nat} {Q : Exit → Act → World → Prop} {a : Act} {w : World} {l : List Oper} (t : Nat) {ot : Oper} (hF : Open F P) (sp : Nat → Option Spec) (C : World → Prop) (hot : l[t]? = some ot) (hlen : l.length = t + 1) (gt : ot.guard = none) (dt : ot.dst = none) (hdf : ∀ c, ot.op ≠ .defer c)
    (hm : P.follows .mixedOrders = true) (hB : okB .any l.toArray t = true) (hnd : noDefer l.toArray = true)
    (hC : C w.drew) (hst : ∀ j s, sp j = some s → ∀ v, Stable (s.post v))
    (h : walk P .any l.toArray C sp (fun a' K => ∀ w', C w' → (∀ i, K i w') → ∃ w1, (execOp a'.eval ot).run P w' = .ok .skip w1 ∧ Q .normal a' w1) (l.take t) 0 a (fun _ _ => True)) : (Code.region id l.toArray true).wpIn F m P Q a w := by
  simp only [okB, Bool.and_eq_true, Bool.or_eq_true, decide_eq_true_eq] at hB
  obtain ⟨⟨hsel, hor⟩, hlex⟩ := hB
  have htl : (l.take t).length = t := by simp; omega
  have hs : l.toArray.size = t + 1 := by simp [hlen]
  have hor' : (t < l.toArray.size ∧ Region.sinkB .any l.toArray t = true) ∧ Region.chainB .any l.toArray t = true := by
    rcases hor with h | h
    · omega
    · exact h
  have htail : ∀ i, i < t → ∀ listed, HeadInv .any l.toArray t listed → listed.getD i true = false → ∀ j ∈ Region.ready .any l.toArray listed, j < t := fun i hi listed inv hun j hj => by
    rcases Nat.lt_or_ge j t with h' | h'
    · exact h'
    · exact absurd hj (tail_waits hor'.1.2 hor'.2 hor'.1.1 inv _ i rfl hi hun j h')
  have inv0 : HeadInv .any l.toArray t (Array.replicate l.toArray.size false) :=
    ⟨by simp, fun j oj _ hl => (by rw [getD_replicate_false] at hl; cases hl), fun t _ ht => getD_in (by simpa using ht) (getD_replicate_false _ _)⟩
  have H := lex (md := .any) (g := 1) hst hsel htail (l.take t) 0 _ a (fun _ _ => True) (fun j hj => by
    have hj' : j < t := by rw [htl] at hj; exact hj
    simp [hj']) (by simpa using htl) inv0 (fun _ _ _ _ _ => trivial) (by rw [htl]; simpa [hs, hlen] using hlex) h
  refine wpIn_region_any hm ?_
  have hot' : l.toArray[t]? = some ot := by simpa using hot
  have := anyIn_of_G (m := m) (Q' := Q) (g := 1) hF hnd hst (fun listed a' K w' hC' hK' hL => by
    obtain ⟨hseq, hq⟩ := hL
    obtain ⟨w1, hr, hq⟩ := hq w' hC' hK'
    simp only [Region.seqB, Bool.and_eq_true, decide_eq_true_eq, List.isEmpty_iff] at hseq
    refine ⟨fun h0 => (by rw [h0] at hseq; cases hseq.1), fun i hi => ?_⟩
    rw [hseq.1] at hi
    have : i = t := by simpa using hi
    subst this
    unfold wpOpIn
    simp only [hot']
    rw [if_pos (by simp [Region.wanted, gt])]
    refine ⟨fun f _ => hF.fn f, ?_⟩
    rw [Oper.semAt_plain F a'.eval ot hdf, hr]
    simp only [Oper.uponIn, dt, Act.put]
    exact ⟨hseq.2, hq⟩) _ _ _ _ w.drew (fun _ _ _ _ _ => trivial) hC (fun _ => trivial) H
  rw [htl] at this
  rw [hs]
  rw [hs] at this
  exact this
end
end Ext
end Go.Proofs.Ytfkpilfnhgjmfaa
