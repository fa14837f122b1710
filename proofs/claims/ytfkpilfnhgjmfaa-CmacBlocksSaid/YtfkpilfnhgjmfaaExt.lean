/-
  A statement whose order is open, its operations adding to memory alone until a forced tail: ONE walk of the order of the text serves every order. An operation either yields one value in every world of a class, and leaves the world (loads, arithmetic), or it has a specification given ahead: which values it may yield, and what holds of memory behind it whatever is added to memory later (a call; a new variable).
-/
import Derived.Deep.Quiet
import Derived.BigQuiet
import Derived.StillTail
import Derived.Below
import Derived.KernelRfl
namespace Go.Proofs.Ytfkpilfnhgjmfaa
open Go.RowKit
namespace Ext
/-- what an operation may yield, and what stays true behind it -/
structure Spec where
  may : Value → Prop
  post : Value → World → Prop
/-- what is known of memory, operation by operation -/
abbrev Known := Nat → World → Prop
def upd (K : Known) (j : Nat) (p : World → Prop) : Known := fun i => if i = j then (fun w => K i w ∧ p w) else K i
theorem upd_imp {K : Known} {j : Nat} {p : World → Prop} {w : World} (h : ∀ i, upd K j p i w) : ∀ i, K i w := fun i => by
  have := h i
  unfold upd at this
  split at this
  · exact this.1
  · exact this
theorem upd_new {K : Known} {j : Nat} {p : World → Prop} {w : World} (h : ∀ i, upd K j p i w) : p w := by
  have := h j
  unfold upd at this
  rw [if_pos rfl] at this
  exact this.2
theorem upd_at {K : Known} {j : Nat} {p : World → Prop} {w : World} (h : upd K j p j w) : p w := by
  unfold upd at h
  rw [if_pos rfl] at h
  exact h.2
theorem upd_mk {K : Known} {j : Nat} {p : World → Prop} {w : World} (h : ∀ i, K i w) (hp : p w) : ∀ i, upd K j p i w := fun i => by
  unfold upd
  split
  · exact ⟨h i, hp⟩
  · exact h i
theorem upd_comm (K : Known) {i j : Nat} (hij : i ≠ j) (p q : World → Prop) : upd (upd K i p) j q = upd (upd K j q) i p := by
  funext k
  unfold upd
  by_cases h1 : k = i
  · subst h1; simp [hij]
  · by_cases h2 : k = j
    · subst h2; simp [h1]
    · simp [h1, h2]
def Stable (p : World → Prop) : Prop := ∀ w w', p w → Below w.heap.size w w' → p w'
inductive Mode where
  | un
  | det (v : Value)
  | non (s : Spec)
def Mode.may : Mode → Value → Prop
  | .un, v => v = undef
  | .det u, v => v = u
  | .non s, v => s.may v
def Mode.learn (m : Mode) (j : Nat) (v : Value) (K : Known) : Known :=
  match m with
  | .non s => upd K j (s.post v)
  | _ => K
/-- one value, the world left alone -/
def detRes (v : Value) (w : World) : Result Next → Prop
  | .ok (.value u) w' => w' = w ∧ u = v
  | .ok .skip w' => w' = w ∧ undef = v
  | _ => False
def extRes (P : Program) (C : World → Prop) (s : Spec) (w : World) : Result Next → Prop
  | .ok (.value v) w' => C w' ∧ Below w.heap.size w w' ∧ s.may v ∧ s.post v w'
  | .ok (.enter f args) w' => w' = w ∧ Calls P f args w fun e w'' => ∃ v, e = .returned v ∧ C w'' ∧ Below w.heap.size w w'' ∧ s.may v ∧ s.post v w''
  | _ => False
section
variable {P : Program} {md : Region.Mode} {ops : Array Oper} {C : World → Prop} {sp : Nat → Option Spec}
def deps (md : Region.Mode) (ops : Array Oper) (j : Nat) (K : Known) (w : World) : Prop := ∀ i, Region.waitsFor md ops j i = true → K i w
def Mode.holds (P : Program) (md : Region.Mode) (ops : Array Oper) (C : World → Prop) (sp : Nat → Option Spec) (j : Nat) (o : Oper) (a : Act) (K : Known) : Mode → Prop
  | .un => Region.wanted o (yielded ops a.tmps) = false
  | .det v => Region.wanted o (yielded ops a.tmps) = true ∧ sp j = none ∧ ∀ w, C w → deps md ops j K w → detRes v w ((execOp a.eval o).run P w)
  | .non s => Region.wanted o (yielded ops a.tmps) = true ∧ sp j = some s ∧ ∀ w, C w → deps md ops j K w → extRes P C s w ((execOp a.eval o).run P w)
def stepG (P : Program) (md : Region.Mode) (ops : Array Oper) (C : World → Prop) (sp : Nat → Option Spec) (j : Nat) (next : Act → Known → Prop) (a : Act) (K : Known) : Prop :=
  ∀ o, ops[j]? = some o → ∃ m : Mode, m.holds P md ops C sp j o a K ∧ ∀ v, m.may v → next (a.put o.dst v) (m.learn j v K)
def Cons (C : World → Prop) (K : Known) : Prop := ∃ w, C w ∧ ∀ i, K i w
/-- whatever order is picked, up to the tail -/
def anyG (P : Program) (md : Region.Mode) (ops : Array Oper) (C : World → Prop) (sp : Nat → Option Spec) (n : Nat) (L : Array Bool → Act → Known → Prop) : Nat → Array Bool → Act → Known → Prop
  | 0, listed, a, K => Cons C K → L listed a K
  | f + 1, listed, a, K => Cons C K →
    Region.ready md ops listed ≠ [] ∧ ∀ i ∈ Region.ready md ops listed, i < n ∧ stepG P md ops C sp i (anyG P md ops C sp n L f (listed.setIfInBounds i true)) a K
/-! ### It is so of the machine's own orders -/
theorem Mode.learn_imp {m : Mode} {j : Nat} {v : Value} {K : Known} {w : World} (h : ∀ i, m.learn j v K i w) : ∀ i, K i w := by
  cases m <;> simp only [Mode.learn] at h
  · exact h
  · exact h
  · exact upd_imp h
theorem Mode.learn_comm {m k : Mode} {i j : Nat} (hij : i ≠ j) (v u : Value) (K : Known) : m.learn i v (k.learn j u K) = k.learn j u (m.learn i v K) := by
  cases m <;> cases k <;> simp only [Mode.learn]
  exact upd_comm K (Ne.symm hij) _ _
theorem any_of_G {n g : Nat} {L : Array Bool → Act → Known → Prop} {Q' : Exit → Act → World → Prop} (hst : ∀ j s, sp j = some s → ∀ v, Stable (s.post v))
    (hL : ∀ listed a K w, C w → (∀ i, K i w) → L listed a K → wpAny P md ops Q' g listed a w) :
    ∀ (f : Nat) (listed : Array Bool) (a : Act) (K : Known) (w : World), (∀ i, Stable (K i)) → C w → (∀ i, K i w) → anyG P md ops C sp n L f listed a K → wpAny P md ops Q' (f + g) listed a w
  | 0, listed, a, K, w, _, hC, hK, h => by rw [Nat.zero_add]; exact hL _ _ _ _ hC hK (h ⟨w, hC, hK⟩)
  | f + 1, listed, a, K, w, hS, hC, hK, h => by
    obtain ⟨hne, hall⟩ := h ⟨w, hC, hK⟩
    rw [show f + 1 + g = (f + g) + 1 by omega]
    refine ⟨fun h0 => absurd h0 hne, fun i hi => ?_⟩
    obtain ⟨_, oi, hoi, _⟩ := mem_ready.1 hi
    obtain ⟨m, hm, hnext⟩ := (hall i hi).2 oi hoi
    unfold wpOp
    simp only [hoi]
    cases m with
    | un =>
      simp only [Mode.holds] at hm
      rw [hm, if_neg (by simp)]
      exact any_of_G hst hL f _ _ K w hS hC hK (hnext undef rfl)
    | det v =>
      obtain ⟨hw, _, hr⟩ := hm
      rw [if_pos hw]
      refine .inl ?_
      have h1 := hr w hC (fun i _ => hK i)
      unfold Oper.wp
      generalize (execOp a.eval oi).run P w = r at *
      cases r with
      | ok x w' =>
        cases x <;> simp only [detRes] at h1 <;> simp only [Oper.upon]
        · obtain ⟨rfl, rfl⟩ := h1; exact any_of_G hst hL f _ _ K _ hS hC hK (hnext _ rfl)
        · obtain ⟨rfl, rfl⟩ := h1; exact any_of_G hst hL f _ _ K _ hS hC hK (hnext _ rfl)
      | halt x w' => simp only [detRes] at h1
    | non s =>
      obtain ⟨hw, hsp, hr⟩ := hm
      rw [if_pos hw]
      refine .inl ?_
      have h1 := hr w hC (fun i _ => hK i)
      have hS' : ∀ v i, Stable (upd K i (s.post v) i) ∧ ∀ k, Stable (upd K i (s.post v) k) := fun v i => by
        have : ∀ k, Stable (upd K i (s.post v) k) := fun k w1 w2 hw1 hb => by
          unfold upd at *
          split
          · rename_i hk
            rw [if_pos hk] at hw1
            exact ⟨hS k _ _ hw1.1 hb, hst _ _ hsp v _ _ hw1.2 hb⟩
          · rename_i hk
            rw [if_neg hk] at hw1
            exact hS k _ _ hw1 hb
        exact ⟨this i, this⟩
      unfold Oper.wp
      generalize (execOp a.eval oi).run P w = r at *
      cases r with
      | ok x w' =>
        cases x <;> simp only [extRes] at h1 <;> simp only [Oper.upon]
        · obtain ⟨c1, c2, c3, c4⟩ := h1
          exact any_of_G hst hL f _ _ _ _ (hS' _ i).2 c1 (upd_mk (fun k => hS k _ _ (hK k) c2) c4) (hnext _ c3)
        · obtain ⟨rfl, hc⟩ := h1
          refine hc.mono ?_
          rintro e w'' ⟨v, rfl, c1, c2, c3, c4⟩
          exact any_of_G hst hL f _ _ _ _ (hS' _ i).2 c1 (upd_mk (fun k => hS k _ _ (hK k) c2) c4) (hnext _ c3)
      | halt x w' => simp only [extRes] at h1
/-! ### The order of the text serves -/
theorem calls_some {f : FuncId} {args : Array Value} {w : World} {R : Ending → World → Prop} (h : Calls P f args w R) : ∃ e w', R e w' := by
  obtain ⟨e, w', _, hR, _⟩ := h []
  exact ⟨e, w', hR⟩
theorem Mode.some_value {m : Mode} {j : Nat} {o : Oper} {a : Act} {K : Known} (hm : m.holds P md ops C sp j o a K) (hS : ∀ i, Stable (K i)) (hc : Cons C K) : ∃ v, m.may v ∧ Cons C (m.learn j v K) := by
  obtain ⟨w, hC, hK⟩ := hc
  cases m with
  | un => exact ⟨undef, rfl, w, hC, hK⟩
  | det v => exact ⟨v, rfl, w, hC, hK⟩
  | non s =>
    obtain ⟨_, _, hr⟩ := hm
    have h1 := hr w hC (fun i _ => hK i)
    generalize (execOp a.eval o).run P w = r at *
    cases r with
    | ok x w' =>
      cases x <;> simp only [extRes] at h1
      · obtain ⟨c1, c2, c3, c4⟩ := h1
        exact ⟨_, c3, w', c1, upd_mk (fun k => hS k _ _ (hK k) c2) c4⟩
      · obtain ⟨rfl, hcl⟩ := h1
        obtain ⟨e, w'', v, _, c1, c2, c3, c4⟩ := calls_some hcl
        exact ⟨v, c3, w'', c1, upd_mk (fun k => hS k _ _ (hK k) c2) c4⟩
    | halt x w' => simp only [extRes] at h1
theorem stepG_mono {j : Nat} {next next' : Act → Known → Prop} {a : Act} {K : Known} (h : ∀ a K, next a K → next' a K) (hs : stepG P md ops C sp j next a K) : stepG P md ops C sp j next' a K := fun o ho =>
  let ⟨m, h1, h2⟩ := hs o ho
  ⟨m, h1, fun v hv => h _ _ (h2 v hv)⟩
theorem deps_learn {m : Mode} {i j : Nat} {v : Value} {K : Known} {w : World} (hno : Region.waitsFor md ops j i = false) : deps md ops j (m.learn i v K) w ↔ deps md ops j K w := by
  unfold deps
  refine forall_congr' fun k => imp_congr_right fun hk => ?_
  cases m <;> simp only [Mode.learn]
  unfold upd
  rw [if_neg (fun e => by rw [e, hno] at hk; cases hk)]
/-- another operation, apart: whether this one's value is already there makes no difference to it -/
theorem Mode.holds_put {m k : Mode} {i j : Nat} {oi oj : Oper} {a : Act} {K : Known} {v : Value} (hlook : ∀ d, oi.dst = some d → d ∉ oj.looksAt ops) (hsj : ∀ cs b, oj.op ≠ .select cs b)
    (hno : Region.waitsFor md ops j i = false) : m.holds P md ops C sp j oj (a.put oi.dst v) (k.learn i v K) ↔ m.holds P md ops C sp j oj a K := by
  cases m <;> simp only [Mode.holds, wanted_put oj a oi.dst v hlook, execOp_put oj hsj a oi.dst v hlook, deps_learn hno]
theorem Mode.same {m k : Mode} {j : Nat} {o : Oper} {a : Act} {K : Known} (hm : m.holds P md ops C sp j o a K) (hk : k.holds P md ops C sp j o a K) (hc : Cons C K) : m = k := by
  cases m <;> cases k <;> simp only [Mode.holds] at hm hk
  · rfl
  · rw [hm] at hk; cases hk.1
  · rw [hm] at hk; cases hk.1
  · rw [hk] at hm; cases hm.1
  · obtain ⟨w, hC, hK⟩ := hc
    have h1 := hm.2.2 w hC (fun i _ => hK i)
    have h2 := hk.2.2 w hC (fun i _ => hK i)
    generalize (execOp a.eval o).run P w = r at *
    cases r with
    | ok x w' =>
      cases x <;> simp only [detRes] at h1 h2
      · rw [← h1.2, ← h2.2]
      · rw [← h1.2, ← h2.2]
    | halt x w' => simp only [detRes] at h1
  · rw [hm.2.1] at hk; cases hk.2.1
  · rw [hk] at hm; cases hm.1
  · rw [hm.2.1] at hk; cases hk.2.1
  · have := hm.2.1.symm.trans hk.2.1
    cases this
    rfl
theorem waits_false {j i : Nat} {oj : Oper} (hj : ops[j]? = some oj) (h : ∀ e ∈ oj.after, Region.binds md e = true → e.on ≠ i) : Region.waitsFor md ops j i = false := by
  cases hw : Region.waitsFor md ops j i
  · rfl
  · obtain ⟨o, ho, e, he, hb, hon⟩ := Region.waitsFor_spec hw
    have : o = oj := Option.some.inj (ho.symm.trans hj)
    subst this
    exact absurd hon (h e he hb)
theorem not_waits_of_ready {i j : Nat} {listed : Array Bool} (hi : i ∈ Region.ready md ops listed) (hj : j ∈ Region.ready md ops listed) {oj : Oper} (hoj : ops[j]? = some oj) : ∀ e ∈ oj.after, Region.binds md e = true → e.on ≠ i := fun e he hb heq => by
  obtain ⟨_, o, ho, hall⟩ := mem_ready.1 hj
  have : o = oj := Option.some.inj (ho.symm.trans hoj)
  subst this
  have h1 := hall e he hb
  rw [heq, getD_both (mem_ready.1 hi).1] at h1
  cases h1
theorem first {n i : Nat} {oi : Oper} {m : Mode} {L : Array Bool → Act → Known → Prop} (hi : ops[i]? = some oi) (hsel : ∀ (j : Nat) (o : Oper) cs b, ops[j]? = some o → o.op ≠ .select cs b)
    (hst : ∀ j s, sp j = some s → ∀ v, Stable (s.post v))
    (htail : ∀ listed, HeadInv md ops n listed → listed.getD i true = false → ∀ j ∈ Region.ready md ops listed, j < n) (hin : i < n)
    (hdone : ∀ listed a K, L listed a K → ∀ j ∈ Region.ready md ops listed, n ≤ j) :
    ∀ (f : Nat) (listed : Array Bool) (a : Act) (K : Known), HeadInv md ops n listed → (∀ k, Stable (K k)) →
      (∀ j oj, ops[j]? = some oj → j ≠ i → listed.getD j true = false → (∀ e ∈ oj.after, Region.binds md e = true → e.on ≠ i) → oi.apart ops oj = true) →
      i ∈ Region.ready md ops listed → m.holds P md ops C sp i oi a K →
      (∀ v, m.may v → anyG P md ops C sp n L f (listed.setIfInBounds i true) (a.put oi.dst v) (m.learn i v K)) → anyG P md ops C sp n L (f + 1) listed a K := by
  intro f
  induction f with
  | zero =>
    intro listed a K inv hS _ hr hm H hc
    have hun := (mem_ready.1 hr).1
    refine ⟨fun h => (by rw [h] at hr; cases hr), fun j hj => ⟨htail _ inv hun j hj, ?_⟩⟩
    by_cases hji : j = i
    · subst hji
      intro o ho
      have : o = oi := Option.some.inj (ho.symm.trans hi)
      subst this
      exact ⟨m, hm, H⟩
    · obtain ⟨v, hv, hc'⟩ := Mode.some_value hm hS hc
      have := hdone _ _ _ (H v hv hc') j (ready_mono hj hji)
      have := htail _ inv hun j hj
      omega
  | succ f ih =>
    intro listed a K inv hS hfree hr hm H hc
    have hun := (mem_ready.1 hr).1
    refine ⟨fun h => (by rw [h] at hr; cases hr), fun j hj => ?_⟩
    have hjn := htail _ inv hun j hj
    refine ⟨hjn, ?_⟩
    by_cases hji : j = i
    · subst hji
      intro o ho
      have : o = oi := Option.some.inj (ho.symm.trans hi)
      subst this
      exact ⟨m, hm, H⟩
    · intro oj hoj
      have hjun := (mem_ready.1 hj).1
      have hnji := not_waits_of_ready hr hj hoj
      have hnij := not_waits_of_ready hj hr hi
      obtain ⟨q1, q2, q3⟩ := Oper.apart_spec (hfree j oj hoj hji hjun hnji)
      have wji := waits_false (md := md) hoj hnji
      have wij := waits_false (md := md) hi hnij
      obtain ⟨v0, hv0, hc0⟩ := Mode.some_value hm hS hc
      obtain ⟨mj, hmj, _⟩ := ((H v0 hv0 hc0).2 j (ready_mono hj hji)).2 oj hoj
      have hmj' : mj.holds P md ops C sp j oj a K := (Mode.holds_put q1 (fun cs b => hsel j oj cs b hoj) wji).1 hmj
      refine ⟨mj, hmj', fun u hu => ?_⟩
      have hfree' : ∀ k ok, ops[k]? = some ok → k ≠ i → (listed.setIfInBounds j true).getD k true = false →
          (∀ e ∈ ok.after, Region.binds md e = true → e.on ≠ i) → oi.apart ops ok = true := fun k ok hk hki hun hno => by
        refine hfree k ok hk hki ?_ hno
        by_cases hjk : j = k
        · subst hjk; exact hjun
        · rw [getD_set_ne true hjk] at hun; exact hun
      have hS' : ∀ k, Stable (mj.learn j u K k) := fun k => by
        cases mj with
        | un => exact hS k
        | det v => exact hS k
        | non s =>
          intro w1 w2 hw1 hb
          simp only [Mode.learn, upd] at *
          split
          · rename_i hk
            rw [if_pos hk] at hw1
            exact ⟨hS k _ _ hw1.1 hb, hst _ _ hmj'.2.1 u _ _ hw1.2 hb⟩
          · rename_i hk
            rw [if_neg hk] at hw1
            exact hS k _ _ hw1 hb
      refine ih (listed.setIfInBounds j true) (a.put oj.dst u) (mj.learn j u K) (inv.set hj hjn) hS' hfree' (ready_mono hr (Ne.symm hji))
        ((Mode.holds_put q3 (fun cs b => hsel i oi cs b hi) wij).2 hm) (fun v hv => ?_)
      rw [Mode.learn_comm (Ne.symm hji), Act.put_comm a u v (fun d hd he => q2 d he hd), Array.setIfInBounds_comm _ _ (Ne.symm hji).symm]
      have key : Cons C (m.learn i v K) → anyG P md ops C sp n L f ((listed.setIfInBounds i true).setIfInBounds j true) ((a.put oi.dst v).put oj.dst u) (mj.learn j u (m.learn i v K)) := fun hcv => by
        obtain ⟨mj2, hmj2, hnext2⟩ := ((H v hv hcv).2 j (ready_mono hj hji)).2 oj hoj
        have e : mj2 = mj := Mode.same ((Mode.holds_put q1 (fun cs b => hsel j oj cs b hoj) wji).1 hmj2) hmj' hc
        subst e
        exact hnext2 u hu
      cases f with
      | zero => exact fun hcc => key (let ⟨w, c1, c2⟩ := hcc; ⟨w, c1, Mode.learn_imp c2⟩) hcc
      | succ f => exact fun hcc => key (let ⟨w, c1, c2⟩ := hcc; ⟨w, c1, Mode.learn_imp c2⟩) hcc
/-! ### The walk of the text -/
def walk (P : Program) (md : Region.Mode) (ops : Array Oper) (C : World → Prop) (sp : Nat → Option Spec) (Q : Act → Known → Prop) : List Oper → Nat → Act → Known → Prop
  | [], _, a, K => Q a K
  | o :: rest, j, a, K => ∃ m : Mode, m.holds P md ops C sp j o a K ∧ ∀ v, m.may v → walk P md ops C sp Q rest (j + 1) (a.put o.dst v) (m.learn j v K)
theorem lex {n g : Nat} {Lq : Act → Known → Prop} (hst : ∀ j s, sp j = some s → ∀ v, Stable (s.post v)) (hsel : Region.noSelect ops = true)
    (htail : ∀ i, i < n → ∀ listed, HeadInv md ops n listed → listed.getD i true = false → ∀ j ∈ Region.ready md ops listed, j < n) :
    ∀ (l : List Oper) (k : Nat) (listed : Array Bool) (a : Act) (K : Known), (∀ j, j < l.length → l[j]? = ops[k + j]?) → k + l.length = n → HeadInv md ops n listed → (∀ i, Stable (K i)) →
    Region.lexHead md ops g l.length k listed = true → walk P md ops C sp Lq l k a K →
    anyG P md ops C sp n (fun listed' a' K' => Region.seqB md ops g n listed' = true ∧ Lq a' K') l.length listed a K
  | [], k, listed, a, K, _, hk, _, _, hB, h => by
    have : k = n := by simpa using hk
    subst this
    exact fun _ => ⟨by simpa [Region.lexHead] using hB, h⟩
  | o :: l, k, listed, a, K, hl, hk, inv, hS, hB, h => by
    have h0 : ops[k]? = some o := by simpa using (hl 0 (by simp)).symm
    simp only [List.length_cons, Region.lexHead, Bool.and_eq_true] at hB
    obtain ⟨⟨hr, hf⟩, hB'⟩ := hB
    have hkn : k < n := by simp only [List.length_cons] at hk; omega
    have hr' : k ∈ Region.ready md ops listed := by simpa using hr
    obtain ⟨m, hm, hnext⟩ := h
    have hS' : ∀ v i, Stable (m.learn k v K i) := fun v i => by
      cases m with
      | un => exact hS i
      | det v => exact hS i
      | non s =>
        intro w1 w2 hw1 hb
        simp only [Mode.learn, upd] at *
        split
        · rename_i hk
          rw [if_pos hk] at hw1
          exact ⟨hS i _ _ hw1.1 hb, hst _ _ hm.2.1 v _ _ hw1.2 hb⟩
        · rename_i hk
          rw [if_neg hk] at hw1
          exact hS i _ _ hw1 hb
    exact first h0 (Region.noSelect_spec hsel) hst (htail k hkn) hkn (fun listed' a' K' hL => seqB_ready hL.1) l.length listed a K inv hS (Region.free_spec h0 hf) hr' hm
      (fun v hv => lex hst hsel htail l (k + 1) _ _ _ (fun j hj => by have := hl (j + 1) (by simp; omega); simpa [Nat.add_assoc, Nat.add_comm 1 j] using this) (by simp only [List.length_cons] at hk; omega) (inv.set hr' hkn) (hS' v) hB' (hnext v hv))
def okB (md : Region.Mode) (ops : Array Oper) (n : Nat) : Bool :=
  Region.noSelect ops && (decide (n = ops.size) || (decide (n < ops.size) && Region.sinkB md ops n && Region.chainB md ops n)) && Region.lexHead md ops (ops.size - n) n 0 (Array.replicate ops.size false)
/-- **The region.** -/
theorem region {id : Nat} {Q : Exit → Act → World → Prop} {a : Act} {w : World} {l : List Oper} (n : Nat) (sp : Nat → Option Spec) (C : World → Prop) (hm : P.follows .mixedOrders = true) (hB : okB .any l.toArray n = true)
    (hC : C w.drew) (hst : ∀ j s, sp j = some s → ∀ v, Stable (s.post v))
    (h : walk P .any l.toArray C sp (fun a' K => ∀ w', C w' → (∀ i, K i w') → wpList P l.toArray Q (l.drop n) a' w') (l.take n) 0 a (fun _ _ => True)) : (Code.region id l.toArray true).wp P Q a w := by
  simp only [okB, Bool.and_eq_true, Bool.or_eq_true, decide_eq_true_eq] at hB
  obtain ⟨⟨hsel, hor⟩, hlex⟩ := hB
  have hn : n ≤ l.length := by
    rcases hor with h | h
    · simp at h; omega
    · have := h.1.1; simp at this; omega
  have htl : (l.take n).length = n := by simp; omega
  have hdl : (l.drop n).length = l.toArray.size - n := by simp
  have htail : ∀ i, i < n → ∀ listed, HeadInv .any l.toArray n listed → listed.getD i true = false → ∀ j ∈ Region.ready .any l.toArray listed, j < n := fun i hi listed inv hun j hj => by
    rcases hor with h | h
    · rw [h]
      obtain ⟨_, o, ho, _⟩ := mem_ready.1 hj
      exact (Array.getElem?_eq_some_iff.1 ho).1
    · rcases Nat.lt_or_ge j n with h' | h'
      · exact h'
      · exact absurd hj (tail_waits h.1.2 h.2 h.1.1 inv _ i rfl hi hun j h')
  have inv0 : HeadInv .any l.toArray n (Array.replicate l.toArray.size false) :=
    ⟨by simp, fun j oj _ hl => (by rw [getD_replicate_false] at hl; cases hl), fun t _ ht => getD_in (by simpa using ht) (getD_replicate_false _ _)⟩
  have H := lex (md := .any) (g := l.toArray.size - n) hst hsel htail (l.take n) 0 _ a (fun _ _ => True) (fun j hj => by
    have hj' : j < n := by rw [htl] at hj; exact hj
    simp [hj']) (by simpa using htl) inv0 (fun _ _ _ _ _ => trivial) (by rw [htl]; exact hlex) h
  refine wp_region_any hm ?_
  have := any_of_G (Q' := Q) (g := l.toArray.size - n) hst (fun listed a' K w' hC' hK' hL => by
    have := wpAny_of_seq (md := .any) (Q' := Q) (l.drop n) n listed a' w' (fun j => by simp [List.getElem?_drop]) (by rw [hdl]; exact hL.1) (hL.2 w' hC' hK')
    rwa [hdl] at this) _ _ _ _ w.drew (fun _ _ _ _ _ => trivial) hC (fun _ => trivial) H
  rw [htl] at this
  have e : n + (l.toArray.size - n) = l.toArray.size := by simp; omega
  rw [e] at this
  exact this
theorem wpQuiet_imp {Q Q' : Act → Prop} (hq : ∀ a, Q a → Q' a) : ∀ (l : List Oper) (a : Act), wpQuiet P ops C Q l a → wpQuiet P ops C Q' l a
  | [], a, h => hq a h
  | o :: l, a, h => by
    simp only [wpQuiet] at *
    split
    · rename_i hw
      rw [if_pos hw] at h
      exact Oper.quiet_mono (fun a' h' => wpQuiet_imp hq l a' h') h
    · rename_i hw
      rw [if_neg hw] at h
      exact wpQuiet_imp hq l _ h
/-! ### Steps of the walk -/
/-- operations that surely call no function -/
def calm : Op → Bool
  | .move _ | .assign _ | .pick .. | .load .. | .binOp .. | .unOp .. | .convert .. | .sliceToArrayPointer .. | .makeInterface .. | .makeFunc .. | .slice .. | .fieldAddr .. | .field .. | .indexAddr .. | .index .. | .lookup .. | .extract .. | .build .. | .typeAssert .. => true
  | .call c => (match c.callee with | .builtin .len | .builtin .cap | .builtin .min | .builtin .max => true | _ => false)
  | _ => false
theorem run_v {s : Sem Value} {w w' : World} {f : FuncId} {args : Array Value} : ((do let x ← s; pure (Next.value x)) : Sem Next).run P w ≠ .ok (.enter f args) w' := by
  rw [Sem.run_bind]
  cases s.run P w <;> simp [Result.andThen]
theorem run_v' {r : Result Value} {w' : World} {f : FuncId} {args : Array Value} : (r.andThen fun a w' => Result.ok (Next.value a) w') ≠ .ok (.enter f args) w' := by
  cases r <;> simp [Result.andThen]
theorem calm_spec {o : Oper} (h : calm o.op = true) (ρ : Operand → Value) (w w' : World) (f : FuncId) (args : Array Value) : (execOp ρ o).run P w ≠ .ok (.enter f args) w' := by
  obtain ⟨dst, op, type, pos, after, guard⟩ := o
  cases op <;> simp only [calm, Bool.false_eq_true] at h <;> simp only [execOp]
  case call c =>
    obtain ⟨callee, cargs, at_⟩ := c
    cases callee with
    | value f => cases h
    | invoke r m => cases h
    | builtin b =>
      cases b <;> simp only [Bool.false_eq_true] at h <;>
        · simp only [resolve, Sem.run_bind, Sem.run_pure, Result.andThen_ok, invoke, builtin]
          exact run_v'
  case move x => simp
  case assign x => simp
  case pick c x y =>
    rw [Sem.run_bind]
    cases (asBool (ρ c)).run P w <;> simp [Result.andThen]
  all_goals exact run_v
def allCalm (l : List Oper) : Bool := l.all fun o => calm o.op
theorem walk_calm {Q : Act → Known → Prop} {rest : List Oper} : ∀ (l : List Oper) (j : Nat) (a : Act) (K : Known), allCalm l = true → (∀ i, j ≤ i → i < j + l.length → sp i = none) →
    wpQuiet P ops C (fun a' => walk P md ops C sp Q rest (j + l.length) a' K) l a → walk P md ops C sp Q (l ++ rest) j a K
  | [], _, _, _, _, _, h => h
  | o :: l, j, a, K, hc, hs, h => by
    simp only [allCalm, List.all_cons, Bool.and_eq_true] at hc
    simp only [wpQuiet] at h
    have e : j + (o :: l).length = j + 1 + l.length := by simp; omega
    simp only [List.cons_append, walk]
    by_cases hw : Region.wanted o (yielded ops a.tmps) = true
    · rw [if_pos hw] at h
      obtain ⟨v, hv, hn⟩ := h
      refine ⟨.det v, ⟨hw, hs j (Nat.le_refl _) (by simp), fun w hC _ => ?_⟩, ?_⟩
      · have h1 := hv w hC
        unfold Oper.quietAt at h1
        have h2 := calm_spec (P := P) (o := o) hc.1 a.eval w
        generalize (execOp a.eval o).run P w = r at *
        cases r with
        | ok x w' =>
          cases x <;> simp only [Oper.quietUpon] at h1 <;> simp only [detRes]
          · exact h1
          · exact ⟨h1.1, h1.2.symm⟩
          · exact absurd rfl (h2 _ _ _)
        | halt x w' => simp only [Oper.quietUpon] at h1
      · rintro u rfl
        exact walk_calm l (j + 1) _ K hc.2 (fun i h1 h2 => hs i (by omega) (by rw [e]; exact h2)) (by rw [e] at hn; exact hn)
    · have hw' : Region.wanted o (yielded ops a.tmps) = false := by simpa using hw
      rw [if_neg hw] at h
      refine ⟨.un, hw', ?_⟩
      rintro u rfl
      exact walk_calm l (j + 1) _ K hc.2 (fun i h1 h2 => hs i (by omega) (by rw [e]; exact h2)) (by rw [e] at h; exact h)
/-- the next n operations are calm -/
theorem walk_take {Q : Act → Known → Prop} {l : List Oper} (n : Nat) {j : Nat} {a : Act} {K : Known} (hc : allCalm (l.take n) = true) (hn : (l.take n).length = n) (hs : ((List.range n).all fun i => (sp (j + i)).isNone) = true)
    (h : wpQuiet P ops C (fun a' => walk P md ops C sp Q (l.drop n) (j + n) a' K) (l.take n) a) : walk P md ops C sp Q l j a K := by
  have := walk_calm (md := md) (sp := sp) (Q := Q) (rest := l.drop n) (l.take n) j a K hc (by
    rw [hn]
    intro i h1 h2
    have := List.all_eq_true.1 hs (i - j) (List.mem_range.2 (by omega))
    rw [show j + (i - j) = i by omega] at this
    exact Option.isNone_iff_eq_none.1 this) (by rw [hn]; exact h)
  rwa [List.take_append_drop] at this
/-- an operation with a specification -/
theorem walk_spec {Q : Act → Known → Prop} {o : Oper} {rest : List Oper} {j : Nat} {a : Act} {K : Known} (s : Spec) (hg : o.guard = none) (hs : sp j = some s)
    (h : ∀ w, C w → deps md ops j K w → extRes P C s w ((execOp a.eval o).run P w))
    (hn : ∀ v, s.may v → walk P md ops C sp Q rest (j + 1) (a.put o.dst v) (upd K j (s.post v))) : walk P md ops C sp Q (o :: rest) j a K :=
  ⟨.non s, ⟨by simp [Region.wanted, hg], hs, h⟩, hn⟩
theorem walk_spec_guarded {Q : Act → Known → Prop} {o : Oper} {rest : List Oper} {j : Nat} {a : Act} {K : Known} (s : Spec) (hg : Region.wanted o (yielded ops a.tmps) = true) (hs : sp j = some s)
    (h : ∀ w, C w → deps md ops j K w → extRes P C s w ((execOp a.eval o).run P w))
    (hn : ∀ v, s.may v → walk P md ops C sp Q rest (j + 1) (a.put o.dst v) (upd K j (s.post v))) : walk P md ops C sp Q (o :: rest) j a K :=
  ⟨.non s, ⟨hg, hs, h⟩, hn⟩
theorem walk_passed {Q : Act → Known → Prop} {o : Oper} {rest : List Oper} {j : Nat} {a : Act} {K : Known} (hg : Region.wanted o (yielded ops a.tmps) = false)
    (hn : walk P md ops C sp Q rest (j + 1) (a.put o.dst undef) K) : walk P md ops C sp Q (o :: rest) j a K :=
  ⟨.un, hg, fun v hv => by cases hv; exact hn⟩
theorem walk_end {Q : Act → Known → Prop} {j : Nat} {a : Act} {K : Known} (h : Q a K) : walk P md ops C sp Q [] j a K := h
/-- specifications by their places -/
def at_ (l : List (Nat × Spec)) : Nat → Option Spec := fun j => l.lookup j
def Calm (l : List (Nat × Spec)) : Prop := ∀ p ∈ l, ∀ v, Stable (p.2.post v)
theorem at_stable {l : List (Nat × Spec)} (h : ∀ p ∈ l, ∀ v, Stable (p.2.post v)) : ∀ j s, at_ l j = some s → ∀ v, Stable (s.post v) := fun j s hj => by
  induction l with
  | nil => cases hj
  | cons p l ih =>
    obtain ⟨i, s'⟩ := p
    simp only [at_, List.lookup] at hj
    split at hj
    · cases hj; exact h _ (List.mem_cons_self ..)
    · exact ih (fun p hp => h p (List.mem_cons_of_mem _ hp)) hj
/-- a known value, nothing said of memory -/
def eqS (v : Value) : Spec := { may := fun u => u = v, post := fun _ _ => True }
theorem eqS_stable (v u : Value) : Stable ((eqS v).post u) := fun _ _ _ _ => trivial
/-- the worlds that extend w -/
def Over (w : World) (w' : World) : Prop := Below w.heap.size w w'
theorem Over.drew (w : World) : Over w w.drew := (Below.refl _ _).drew
/-- named by an index -/
theorem over_index (w : World) : ∃ (X : Type) (_ : Nonempty X) (g : X → World), (∀ w', Over w w' ↔ ∃ x, w' = g x) :=
  ⟨{ w' // Over w w' }, ⟨⟨w, Below.refl _ _⟩⟩, Subtype.val, fun w' => ⟨fun h => ⟨⟨w', h⟩, rfl⟩, fun ⟨x, hx⟩ => hx ▸ x.2⟩⟩
/-- calm operations, then a forced tail: the world but for draws -/
theorem quiet_tail {id : Nat} {Q : Exit → Act → World → Prop} {a : Act} {w : World} {l : List Oper} (n : Nat) (hm : P.follows .mixedOrders = true) (hB : okB .any l.toArray n = true) (hc : allCalm (l.take n) = true)
    (h : wpQuiet P l.toArray (fun w' => ∃ k, w' = w.drewN k) (fun a' => ∀ k, wpList P l.toArray Q (l.drop n) a' (w.drewN k)) (l.take n) a) : (Code.region id l.toArray true).wp P Q a w := by
  refine region n (fun _ => none) (fun w' => ∃ k, w' = w.drewN k) hm hB ⟨1, rfl⟩ (fun _ _ h => by cases h) ?_
  have := walk_calm (md := .any) (sp := fun _ => none) (Q := fun a' K => ∀ w', (∃ k, w' = w.drewN k) → (∀ i, K i w') → wpList P l.toArray Q (l.drop n) a' w') (rest := []) (l.take n) 0 a (fun _ _ => True) hc (fun _ _ _ => rfl)
    (by refine wpQuiet_imp ?_ _ _ h; intro a' h'; exact walk_end (by rintro w' ⟨k, rfl⟩ _; exact h' k))
  rwa [List.append_nil] at this
theorem over_trans {w a b : World} (h : Over w a) (hb : Below a.heap.size a b) : Over w b := h.trans (hb.mono h.size)
/-- a call whose value is known, and that adds to memory alone -/
theorem call_eq {w0 : World} {X : Type} {g : X → World} (hg : ∀ w', Over w0 w' ↔ ∃ x, w' = g x) {x : X} {f : FuncId} {args : Array Value} {v : Value}
    (h : Calls P f args (g x) fun e w' => e = .returned v ∧ Below (g x).heap.size (g x) w') : extRes P (fun w' => ∃ x, w' = g x) (eqS v) (g x) (.ok (.enter f args) (g x)) :=
  ⟨rfl, h.mono fun _ _ ⟨he, hb⟩ => ⟨v, he, (hg _).1 (over_trans ((hg _).2 ⟨x, rfl⟩) hb), hb, rfl, trivial⟩⟩
/-- a call that leaves memory alone -/
theorem call_same {w0 : World} {X : Type} {g : X → World} (hg : ∀ w', Over w0 w' ↔ ∃ x, w' = g x) {x : X} {f : FuncId} {args : Array Value} {v : Value}
    (h : Calls P f args (g x) fun e w' => e = .returned v ∧ g x = w') : extRes P (fun w' => ∃ x, w' = g x) (eqS v) (g x) (.ok (.enter f args) (g x)) :=
  call_eq hg (h.mono fun _ _ ⟨he, hw⟩ => ⟨he, by rw [← hw]; exact Below.refl _ _⟩)
/-- a call of which the specification says more -/
theorem call_post {w0 : World} {X : Type} {g : X → World} (hg : ∀ w', Over w0 w' ↔ ∃ x, w' = g x) {x : X} {f : FuncId} {args : Array Value} {s : Spec}
    (h : Calls P f args (g x) fun e w' => ∃ v, e = .returned v ∧ s.may v ∧ s.post v w' ∧ Below (g x).heap.size (g x) w') : extRes P (fun w' => ∃ x, w' = g x) s (g x) (.ok (.enter f args) (g x)) :=
  ⟨rfl, h.mono fun _ _ ⟨v, he, h1, h2, hb⟩ => ⟨v, he, (hg _).1 (over_trans ((hg _).2 ⟨x, rfl⟩) hb), hb, h1, h2⟩⟩
/-- something new in memory -/
theorem made {w0 : World} {X : Type} {g : X → World} (hg : ∀ w', Over w0 w' ↔ ∃ x, w' = g x) {x : X} {s : Spec} {v : Value} {o : Obj} (h1 : s.may v) (h2 : s.post v ((g x).alloc o)) :
    extRes P (fun w' => ∃ x, w' = g x) s (g x) (.ok (.value v) ((g x).alloc o)) :=
  ⟨(hg _).1 (over_trans ((hg _).2 ⟨x, rfl⟩) ((Below.refl _ _).alloc (Nat.le_refl _) o)), (Below.refl _ _).alloc (Nat.le_refl _) o, h1, h2⟩
/-- a value that is known, though the operation is given a specification -/
theorem value_eq {w0 : World} {X : Type} {g : X → World} (hg : ∀ w', Over w0 w' ↔ ∃ x, w' = g x) {x : X} {v : Value} : extRes P (fun w' => ∃ x, w' = g x) (eqS v) (g x) (.ok (.value v) (g x)) :=
  ⟨(hg _).1 ((hg _).2 ⟨x, rfl⟩), Below.refl _ _, rfl, trivial⟩
end
end Ext
end Go.Proofs.Ytfkpilfnhgjmfaa
