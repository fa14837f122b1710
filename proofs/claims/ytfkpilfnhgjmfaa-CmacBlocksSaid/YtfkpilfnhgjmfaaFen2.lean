/-
  A region that draws its order, inside a fence that lets every call through (so: in a round): the walk of the text's order serves.
-/
import Derived.Test.YtfkpilfnhgjmfaaEqs
import Derived.OrdersIn
namespace Go.Proofs.Ytfkpilfnhgjmfaa
open Go.RowKit
namespace Ext
section
variable {P : Program} {md : Region.Mode} {ops : Array Oper} {C : World → Prop} {sp : Nat → Option Spec} {F : Fence} {m : Nat}
def noDefer (ops : Array Oper) : Bool := ops.all fun o => match o.op with | .defer _ => false | _ => true
theorem noDefer_spec (h : noDefer ops = true) {j : Nat} {o : Oper} (ho : ops[j]? = some o) : ∀ c, o.op ≠ .defer c := fun c hc => by
  have := (Array.all_eq_true_iff_forall_mem.1 h) o (Array.mem_of_getElem? ho)
  simp [hc] at this
/-- a fence that lets every call through -/
structure Open (F : Fence) (P : Program) : Prop where
  fn : ∀ f, F.fn f
  depth : F.depth = none
  calls : ∀ {m : Nat} {f : FuncId} {args : Array Value} {w : World} {R : Ending → World → Prop}, Calls P f args w R → CallsIn F m P f args w R
theorem open_wide (P : Program) : Open Fence.wide P := ⟨fun _ => trivial, rfl, fun h => callsIn_wide.2 h⟩
theorem open_round (P : Program) (l : Nat) : Open (Fence.wide.inRound l) P := ⟨fun _ => trivial, rfl, fun h => CallsIn.inRound l (callsIn_wide.2 h)⟩
theorem anyIn_of_G {n g : Nat} {L : Array Bool → Act → Known → Prop} {Q' : Exit → Act → World → Prop} (hF : Open F P) (hnd : noDefer ops = true) (hst : ∀ j s, sp j = some s → ∀ v, Stable (s.post v))
    (hL : ∀ listed a K w, C w → (∀ i, K i w) → L listed a K → wpAnyIn F m P md ops Q' g listed a w) :
    ∀ (f : Nat) (listed : Array Bool) (a : Act) (K : Known) (w : World), (∀ i, Stable (K i)) → C w → (∀ i, K i w) → anyG P md ops C sp n L f listed a K → wpAnyIn F m P md ops Q' (f + g) listed a w
  | 0, listed, a, K, w, _, hC, hK, h => by rw [Nat.zero_add]; exact hL _ _ _ _ hC hK (h ⟨w, hC, hK⟩)
  | f + 1, listed, a, K, w, hS, hC, hK, h => by
    obtain ⟨hne, hall⟩ := h ⟨w, hC, hK⟩
    rw [show f + 1 + g = (f + g) + 1 by omega]
    refine ⟨fun h0 => absurd h0 hne, fun i hi => ?_⟩
    obtain ⟨_, oi, hoi, _⟩ := mem_ready.1 hi
    obtain ⟨md', hm, hnext⟩ := (hall i hi).2 oi hoi
    have hpl := Oper.semAt_plain F a.eval oi (noDefer_spec hnd hoi)
    have hdp : F.depth.isSome = true → 1 ≤ m := fun h => by rw [hF.depth] at h; cases h
    unfold wpOpIn
    simp only [hoi]
    cases md' with
    | un =>
      simp only [Mode.holds] at hm
      rw [hm, if_neg (by simp)]
      exact ⟨fun f _ => hF.fn f, anyIn_of_G hF hnd hst hL f _ _ K w hS hC hK (hnext undef rfl)⟩
    | det v =>
      obtain ⟨hw, _, hr⟩ := hm
      rw [if_pos hw]
      refine ⟨fun f _ => hF.fn f, ?_⟩
      rw [hpl]
      have h1 := hr w hC (fun i _ => hK i)
      generalize (execOp a.eval oi).run P w = r at *
      cases r with
      | ok x w' =>
        cases x <;> simp only [detRes] at h1 <;> simp only [Oper.uponIn]
        · obtain ⟨rfl, rfl⟩ := h1; exact anyIn_of_G hF hnd hst hL f _ _ K _ hS hC hK (hnext _ rfl)
        · obtain ⟨rfl, rfl⟩ := h1; exact anyIn_of_G hF hnd hst hL f _ _ K _ hS hC hK (hnext _ rfl)
      | halt x w' => simp only [detRes] at h1
    | non s =>
      obtain ⟨hw, hsp, hr⟩ := hm
      rw [if_pos hw]
      refine ⟨fun f _ => hF.fn f, ?_⟩
      rw [hpl]
      have h1 := hr w hC (fun i _ => hK i)
      have hS' : ∀ v k, Stable (upd K i (s.post v) k) := fun v k w1 w2 hw1 hb => by
        unfold upd at *
        split
        · rename_i hk
          rw [if_pos hk] at hw1
          exact ⟨hS k _ _ hw1.1 hb, hst _ _ hsp v _ _ hw1.2 hb⟩
        · rename_i hk
          rw [if_neg hk] at hw1
          exact hS k _ _ hw1 hb
      generalize (execOp a.eval oi).run P w = r at *
      cases r with
      | ok x w' =>
        cases x <;> simp only [extRes] at h1 <;> simp only [Oper.uponIn]
        · obtain ⟨c1, c2, c3, c4⟩ := h1
          exact anyIn_of_G hF hnd hst hL f _ _ _ _ (hS' _) c1 (upd_mk (fun k => hS k _ _ (hK k) c2) c4) (hnext _ c3)
        · obtain ⟨rfl, hc⟩ := h1
          refine ⟨hdp, hF.calls (hc.mono ?_)⟩
          rintro e w'' ⟨v, rfl, c1, c2, c3, c4⟩
          exact anyIn_of_G hF hnd hst hL f _ _ _ _ (hS' _) c1 (upd_mk (fun k => hS k _ _ (hK k) c2) c4) (hnext _ c3)
      | halt x w' => simp only [extRes] at h1
/-- **The region, in a round**: without a tail. -/
theorem regionIn {id : Nat} {Q : Exit → Act → World → Prop} {a : Act} {w : World} {l : List Oper} (hF : Open F P) (sp : Nat → Option Spec) (C : World → Prop) (hm : P.follows .mixedOrders = true) (hB : okB .any l.toArray l.length = true) (hnd : noDefer l.toArray = true)
    (hC : C w.drew) (hst : ∀ j s, sp j = some s → ∀ v, Stable (s.post v))
    (h : walk P .any l.toArray C sp (fun a' K => ∀ w', C w' → (∀ i, K i w') → Q .normal a' w') l 0 a (fun _ _ => True)) : (Code.region id l.toArray true).wpIn F m P Q a w := by
  simp only [okB, Bool.and_eq_true, Bool.or_eq_true, decide_eq_true_eq] at hB
  obtain ⟨⟨hsel, _⟩, hlex⟩ := hB
  have hs : l.toArray.size = l.length := by simp
  have htail : ∀ i, i < l.length → ∀ listed, HeadInv .any l.toArray l.length listed → listed.getD i true = false → ∀ j ∈ Region.ready .any l.toArray listed, j < l.length := fun i hi listed inv hun j hj => by
    obtain ⟨_, o, ho, _⟩ := mem_ready.1 hj
    have := (Array.getElem?_eq_some_iff.1 ho).1
    omega
  have inv0 : HeadInv .any l.toArray l.length (Array.replicate l.toArray.size false) :=
    ⟨by simp, fun j oj _ hl => (by rw [getD_replicate_false] at hl; cases hl), fun t _ ht => getD_in (by simpa using ht) (getD_replicate_false _ _)⟩
  have H := lex (md := .any) (g := l.toArray.size - l.length) hst hsel htail l 0 _ a (fun _ _ => True) (fun j hj => by simp) (by simp) inv0 (fun _ _ _ _ _ => trivial) hlex h
  refine wpIn_region_any hm ?_
  have := anyIn_of_G (m := m) (Q' := Q) (g := 0) hF hnd hst (fun listed a' K w' hC' hK' hL => by
    refine ⟨?_, hL.2 w' hC' hK'⟩
    have h0 := seqB_ready hL.1
    exact List.eq_nil_iff_forall_not_mem.2 fun j hj => by
      have h1 := h0 j hj
      obtain ⟨_, o, ho, _⟩ := mem_ready.1 hj
      have := (Array.getElem?_eq_some_iff.1 ho).1
      omega) _ _ _ _ w.drew (fun _ _ _ _ _ => trivial) hC (fun _ => trivial) H
  rw [hs]
  simpa using this
end
end Ext
theorem results_cell1 {fn : Func} {p : Tmp} (h : fn.results = #[.cell p 4]) (tmps : Array Value) (w : World) (g : Nat) (b : Bool)
    (hp : tmps.getD p undef = .pointer (some ⟨g, 0, none⟩)) (hc : w.cell? ⟨g, 0, none⟩ = some (.bool b)) : (results fn tmps).run Try.prog w = .ok (.bool b) w := by
  have hp' : tmps[p]?.getD undef = .pointer (some ⟨g, 0, none⟩) := by simpa using hp
  simp [results, h, hp', asAddr]
  go_simp
end Go.Proofs.Ytfkpilfnhgjmfaa
