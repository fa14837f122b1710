/-
  A region that draws its order and ends in a store, of which one operation that reads no memory (the second part of a tuple) may come ahead of the store or behind it: the walk of the text's order serves.
-/
import Derived.Test.YtfkpilfnhgjmfaaFen
namespace Go.Proofs.Ytfkpilfnhgjmfaa
open Go.RowKit
namespace Ext
section
variable {P : Program} {C : World → Prop} {sp : Nat → Option Spec}
theorem mem_of_ne {ops opsP : Array Oper} {j : Nat} {listed : Array Bool} (ho : opsP[j]? = ops[j]?) : j ∈ Region.ready .any ops listed ↔ j ∈ Region.ready .any opsP listed := by
  rw [mem_ready, mem_ready, ho]
theorem arr_any {α : Type} {xs : Array α} {p : α → Bool} (h : xs.any p = true) : ∃ e ∈ xs, p e = true := by
  obtain ⟨i, hi, hp⟩ := Array.any_eq_true.1 h
  exact ⟨xs[i], Array.getElem_mem hi, hp⟩
theorem extract_pure {o : Oper} {x : Operand} {n : Nat} (ho : o.op = .extract x n) (ρ : Operand → Value) (w w' : World) {v : Value} (h : detRes v w ((execOp ρ o).run P w)) : (execOp ρ o).run P w' = .ok (.value v) w' := by
  unfold execOp at *
  simp only [ho, Instr.extract] at *
  cases hx : ρ x <;> simp [hx, detRes] at h ⊢
  rename_i vs
  cases hv : vs[n]? <;> simp [hv] at h ⊢
  exact h
theorem getD_self {listed : Array Bool} {i : Nat} : (listed.setIfInBounds i true).getD i true = true := by
  simp [Array.getD_eq_getD_getElem?, Array.getElem?_setIfInBounds]
  split <;> simp_all
/-- what is asked of the operations, without a run -/
structure LateOk (ops opsP : Array Oper) (i0 t u : Nat) (o0 ot ou : Oper) (d : Tmp) : Prop where
  h0 : ops[i0]? = some o0
  hother : ∀ j, j ≠ t → opsP[j]? = ops[j]?
  ht : ops[t]? = some ot
  htP : ∃ otP, opsP[t]? = some otP ∧ (∀ e ∈ otP.after, e ∈ ot.after ∨ e.on = i0) ∧ (∀ e ∈ ot.after, e ∈ otP.after) ∧ otP.dst = ot.dst
  hu : ops[u]? = some ou
  hut : u = t + 1
  hus : ops.size = t + 2
  hit : i0 < t
  hall : ∀ j, j < t → j ≠ i0 → ∃ e ∈ ot.after, Region.binds .any e = true ∧ e.on = j
  hui : ∃ e ∈ ou.after, Region.binds .any e = true ∧ e.on = i0
  h0dep : ∀ e ∈ o0.after, Region.binds .any e = true → e.on < t ∧ e.on ≠ i0
  g0 : o0.guard = none
  gt : ot.guard = none
  gu : ou.guard = none
  d0 : o0.dst = some d
  dt : ot.dst = none
  hlook : d ∉ ot.looksAt ops
theorem late_any {ops opsP : Array Oper} {i0 t u : Nat} {o0 ot ou : Oper} {d : Tmp} (ok : LateOk ops opsP i0 t u o0 ot ou d) {x0 : Operand} {n0 : Nat} (hop : o0.op = .extract x0 n0) {xu : Operand} (hou : ou.op = .assign xu) (hselt : ∀ cs b, ot.op ≠ .select cs b)
    (hsp : sp i0 = none) (hst : ∀ j s, sp j = some s → ∀ v, Stable (s.post v)) {Q : Exit → Act → World → Prop} :
    ∀ (f : Nat) (listed : Array Bool) (a : Act) (K : Known) (w : World), listed.size = ops.size → (∀ i, Stable (K i)) → C w → (∀ i, K i w) →
      anyG P .any opsP C sp t (fun listed' a' K' => Region.seqB .any opsP 2 t listed' = true ∧ ∀ w', C w' → (∀ i, K' i w') → ∃ w1, (execOp a'.eval ot).run P w' = .ok .skip w1 ∧ Q .normal (a'.put ou.dst (a'.eval xu)) w1) f listed a K →
      wpAny P .any ops Q (f + 2) listed a w := by
  have hmem : ∀ (j : Nat) (listed : Array Bool), j ≠ t → (j ∈ Region.ready .any ops listed ↔ j ∈ Region.ready .any opsP listed) := fun j listed hj => mem_of_ne (ok.hother j hj)
  have htback : ∀ listed : Array Bool, t ∈ Region.ready .any opsP listed → t ∈ Region.ready .any ops listed := fun listed h => by
    obtain ⟨otP, hP, _, h2, _⟩ := ok.htP
    rw [mem_ready] at *
    obtain ⟨q1, o, ho, q2⟩ := h
    have : o = otP := Option.some.inj (ho.symm.trans hP)
    subst this
    exact ⟨q1, ot, ok.ht, fun e he hb => q2 e (h2 e he) hb⟩
  have htfwd : ∀ listed : Array Bool, t ∈ Region.ready .any ops listed → listed.getD i0 false = true → t ∈ Region.ready .any opsP listed := fun listed h hi => by
    obtain ⟨otP, hP, h1, _, _⟩ := ok.htP
    rw [mem_ready] at *
    obtain ⟨q1, o, ho, q2⟩ := h
    have : o = ot := Option.some.inj (ho.symm.trans ok.ht)
    subst this
    exact ⟨q1, otP, hP, fun e he hb => (h1 e he).elim (fun h => q2 e h hb) (fun h => by rw [h]; exact hi)⟩
  -- the last operation
  have last : ∀ (listed : Array Bool) (a : Act) (w : World), (∀ j, j ∈ Region.ready .any ops listed ↔ j = u) → Region.ready .any opsP (listed.setIfInBounds u true) = [] → (listed.setIfInBounds u true).getD t true = true → Q .normal (a.put ou.dst (a.eval xu)) w → wpAny P .any ops Q 1 listed a w := fun listed a w hr hnil htl hq => by
    refine ⟨fun h => ?_, fun j hj => ?_⟩
    · have := (hr u).2 rfl
      rw [h] at this
      cases this
    · have := (hr j).1 hj
      subst this
      unfold wpOp
      simp only [ok.hu]
      rw [if_pos (by simp [Region.wanted, ok.gu])]
      refine .inl ?_
      unfold Oper.wp execOp
      simp only [hou, Sem.run_pure, Oper.upon]
      refine ⟨List.eq_nil_iff_forall_not_mem.2 fun j hj => ?_, hq⟩
      by_cases hjt : j = t
      · subst hjt
        have := (mem_ready.1 hj).1
        rw [htl] at this
        cases this
      · have := (hmem j _ hjt).1 hj
        rw [hnil] at this
        cases this
  intro f
  induction f with
  | zero =>
    intro listed a K w hsz hS hC hK h
    obtain ⟨hseq, hq⟩ := h ⟨w, hC, hK⟩
    obtain ⟨w1, hr, hq⟩ := hq w hC hK
    simp only [Region.seqB, Bool.and_eq_true, decide_eq_true_eq, List.isEmpty_iff] at hseq
    obtain ⟨s1, s2, s3⟩ := hseq
    have htr : t ∈ Region.ready .any ops listed := htback listed (by rw [s1]; exact List.mem_cons_self ..)
    refine ⟨fun h0 => (by rw [h0] at htr; cases htr), fun j hj => ?_⟩
    have hjt : j = t := by
      by_cases e : j = t
      · exact e
      · have := (hmem j _ e).1 hj
        rw [s1] at this
        simpa using this
    subst hjt
    unfold wpOp
    simp only [ok.ht]
    rw [if_pos (by simp [Region.wanted, ok.gt])]
    refine .inl ?_
    unfold Oper.wp
    rw [hr]
    simp only [Oper.upon, ok.dt, Act.put]
    rw [← ok.hut] at s2 s3
    refine last _ a w1 (fun k => ?_) s3 ?_ hq
    · by_cases e : k = j
      · subst e
        constructor
        · intro h
          have := (mem_ready.1 h).1
          rw [getD_self] at this
          cases this
        · intro h
          have := ok.hut
          omega
      · rw [hmem k _ e, s2]
        simp
    · rw [getD_set_ne true (by have := ok.hut; omega), getD_self]
  | succ f ih =>
    intro listed a K w hsz hS hC hK h
    obtain ⟨hne, hall⟩ := h ⟨w, hC, hK⟩
    refine ⟨fun h0 => ?_, fun i hi => ?_⟩
    · obtain ⟨j, hj⟩ := List.exists_mem_of_ne_nil _ hne
      have : j ∈ Region.ready .any ops listed := by
        by_cases e : j = t
        · subst e; exact htback _ hj
        · exact (hmem j _ e).2 hj
      rw [h0] at this
      cases this
    · by_cases hit : i = t
      · subst hit
        -- the store comes ahead of the extract
        have hun := (mem_ready.1 hi).1
        have h0l : listed.getD i0 false = false := by
          cases hl : listed.getD i0 false
          · rfl
          · have := (hall i (htfwd listed hi hl)).1
            omega
        have hoth : ∀ j, j < i → j ≠ i0 → listed.getD j false = true := fun j hj hj0 => by
          obtain ⟨e, he, hb, hon⟩ := ok.hall j hj hj0
          obtain ⟨_, o, ho, q⟩ := mem_ready.1 hi
          have : o = ot := Option.some.inj (ho.symm.trans ok.ht)
          subst this
          have := q e he hb
          rwa [hon] at this
        have hi0s : i0 < listed.size := by have := ok.hit; have := ok.hus; omega
        have h0r : i0 ∈ Region.ready .any ops listed := mem_ready.2 ⟨getD_in hi0s h0l, o0, ok.h0, fun e he hb => hoth _ (ok.h0dep e he hb).1 (ok.h0dep e he hb).2⟩
        have h0ne : i0 ≠ i := Nat.ne_of_lt ok.hit
        obtain ⟨m, hm, hnext⟩ := (hall i0 ((hmem i0 _ h0ne).1 h0r)).2 o0 (by rw [ok.hother i0 h0ne]; exact ok.h0)
        cases m with
        | un =>
          simp only [Mode.holds, Region.wanted, ok.g0] at hm
          cases hm
        | non s =>
          have := hm.2.1
          rw [hsp] at this
          cases this
        | det v =>
          have hd := hm.2.2 w hC (fun i _ => hK i)
          have hn := hnext v rfl
          have hset : (listed.setIfInBounds i0 true).getD i0 false = true := by
            simp [Array.getD_eq_getD_getElem?, hi0s]
          have htP : i ∈ Region.ready .any opsP (listed.setIfInBounds i0 true) := htfwd _ (ready_mono hi (Ne.symm h0ne)) hset
          cases f with
          | succ f => exact absurd ((hn ⟨w, hC, hK⟩).2 i htP).1 (by omega)
          | zero =>
            obtain ⟨hseq, hq⟩ := hn ⟨w, hC, hK⟩
            obtain ⟨w1, hr, hq1⟩ := hq w hC hK
            clear hq
            simp only [Region.seqB, Bool.and_eq_true, decide_eq_true_eq, List.isEmpty_iff] at hseq
            obtain ⟨s1, s2, s3⟩ := hseq
            rw [ok.d0] at hr hq1
            rw [execOp_put (ops := ops) ot hselt a (some d) v (fun d' hd' => by cases hd'; exact ok.hlook)] at hr
            unfold wpOp
            simp only [ok.ht]
            rw [if_pos (by simp [Region.wanted, ok.gt])]
            refine .inl ?_
            unfold Oper.wp
            rw [hr]
            simp only [Oper.upon, ok.dt, Act.put]
            -- now the extract
            have h0r2 : i0 ∈ Region.ready .any ops (listed.setIfInBounds i true) := ready_mono h0r h0ne
            refine ⟨fun h0 => (by rw [h0] at h0r2; cases h0r2), fun j hj => ?_⟩
            have hj0 : j = i0 := by
              obtain ⟨q1, o, ho, q2⟩ := mem_ready.1 hj
              have hjs := (Array.getElem?_eq_some_iff.1 ho).1
              by_cases e1 : j = i0
              · exact e1
              · by_cases e2 : j = i
                · subst e2
                  rw [getD_self] at q1
                  cases q1
                · by_cases e3 : j < i
                  · rw [getD_set_ne true (Ne.symm e2)] at q1
                    have := hoth j e3 e1
                    have := getD_both q1
                    simp_all
                  · have : j = u := by have := ok.hut; have := ok.hus; omega
                    subst this
                    have : o = ou := Option.some.inj (ho.symm.trans ok.hu)
                    subst this
                    obtain ⟨e, he, hb, hon⟩ := ok.hui
                    have := q2 e he hb
                    rw [hon, getD_set_ne false (Ne.symm h0ne)] at this
                    rw [h0l] at this
                    cases this
            subst hj0
            unfold wpOp
            simp only [ok.h0]
            rw [if_pos (by simp [Region.wanted, ok.g0])]
            refine .inl ?_
            unfold Oper.wp
            rw [extract_pure hop a.eval w w1 hd]
            simp only [Oper.upon, ok.d0]
            rw [Array.setIfInBounds_comm _ _ (Ne.symm h0ne)]
            rw [← ok.hut] at s2 s3
            refine last _ (a.put (some d) v) w1 (fun k => ?_) s3 ?_ hq1
            · by_cases e : k = i
              · subst e
                constructor
                · intro h
                  have := (mem_ready.1 h).1
                  rw [getD_self] at this
                  cases this
                · intro h
                  have := ok.hut
                  omega
              · rw [hmem k _ e, s2]
                simp
            · rw [getD_set_ne true (by have := ok.hut; omega), getD_self]
      · have hiP := (hmem i _ hit).1 hi
        obtain ⟨hin, hst1⟩ := hall i hiP
        obtain ⟨_, oi, hoi, _⟩ := mem_ready.1 hi
        obtain ⟨m, hm, hnext⟩ := hst1 oi (by rw [ok.hother i hit]; exact hoi)
        have hsz' : (listed.setIfInBounds i true).size = ops.size := by simpa using hsz
        have hyd : yielded opsP a.tmps = yielded ops a.tmps := by
          funext j
          unfold yielded
          by_cases e : j = t
          · subst e
            obtain ⟨otP, hP, _, _, hdst⟩ := ok.htP
            rw [hP, ok.ht]
            simp only [Option.bind_some, hdst]
          · rw [ok.hother j e]
        unfold wpOp
        simp only [hoi]
        cases m with
        | un =>
          simp only [Mode.holds] at hm
          rw [← hyd, hm, if_neg (by simp)]
          exact ih _ _ K w hsz' hS hC hK (hnext undef rfl)
        | det v =>
          obtain ⟨hw, _, hr⟩ := hm
          rw [← hyd, if_pos hw]
          refine .inl ?_
          have h1 := hr w hC (fun i _ => hK i)
          unfold Oper.wp
          generalize (execOp a.eval oi).run P w = r at *
          cases r with
          | ok x w' =>
            cases x <;> simp only [detRes] at h1 <;> simp only [Oper.upon]
            · obtain ⟨rfl, rfl⟩ := h1; exact ih _ _ K _ hsz' hS hC hK (hnext _ rfl)
            · obtain ⟨rfl, rfl⟩ := h1; exact ih _ _ K _ hsz' hS hC hK (hnext _ rfl)
          | halt x w' => simp only [detRes] at h1
        | non s =>
          obtain ⟨hw, hspi, hr⟩ := hm
          rw [← hyd, if_pos hw]
          refine .inl ?_
          have h1 := hr w hC (fun i _ => hK i)
          have hS' : ∀ v k, Stable (upd K i (s.post v) k) := fun v k w1 w2 hw1 hb => by
            unfold upd at *
            split
            · rename_i hk
              rw [if_pos hk] at hw1
              exact ⟨hS k _ _ hw1.1 hb, hst _ _ hspi v _ _ hw1.2 hb⟩
            · rename_i hk
              rw [if_neg hk] at hw1
              exact hS k _ _ hw1 hb
          unfold Oper.wp
          generalize (execOp a.eval oi).run P w = r at *
          cases r with
          | ok x w' =>
            cases x <;> simp only [extRes] at h1 <;> simp only [Oper.upon]
            · obtain ⟨c1, c2, c3, c4⟩ := h1
              exact ih _ _ _ _ hsz' (hS' _) c1 (upd_mk (fun k => hS k _ _ (hK k) c2) c4) (hnext _ c3)
            · obtain ⟨rfl, hc⟩ := h1
              refine hc.mono ?_
              rintro e w'' ⟨v, rfl, c1, c2, c3, c4⟩
              exact ih _ _ _ _ hsz' (hS' _) c1 (upd_mk (fun k => hS k _ _ (hK k) c2) c4) (hnext _ c3)
          | halt x w' => simp only [extRes] at h1
/-- operation t of the list, with one more forerunner -/
def edged (l : List Oper) (t i : Nat) : List Oper := l.modify t fun o => { o with after := o.after.push { on := i, ground := .data } }
theorem edged_length (l : List Oper) (t i : Nat) : (edged l t i).length = l.length := by simp [edged]
/-- the same, reckoned -/
def lateB (l : List Oper) (i0 t : Nat) (d : Tmp) : Bool :=
  (l.length == t + 2) && decide (i0 < t) &&
  (match l[i0]?, l[t]?, l[t + 1]? with
   | some o0, some ot, some ou =>
     o0.guard.isNone && ot.guard.isNone && ou.guard.isNone && (o0.dst == some d) && ot.dst.isNone && !(ot.looksAt l.toArray).contains d &&
     ((List.range t).all fun j => j == i0 || ot.after.any fun e => Region.binds .any e && e.on == j) && (ou.after.any fun e => Region.binds .any e && e.on == i0) &&
     (o0.after.all fun e => !Region.binds .any e || (decide (e.on < t) && e.on != i0))
   | _, _, _ => false)
theorem lateB_ok {l : List Oper} {i0 t : Nat} {d : Tmp} {o0 ot ou : Oper} (h0 : l[i0]? = some o0) (ht : l[t]? = some ot) (hu : l[t + 1]? = some ou) (h : lateB l i0 t d = true) : LateOk l.toArray (edged l t i0).toArray i0 t (t + 1) o0 ot ou d := by
  unfold lateB at h
  simp only [h0, ht, hu, Bool.and_eq_true, decide_eq_true_eq, beq_iff_eq, Option.isNone_iff_eq_none, Bool.not_eq_true', List.all_eq_true, Bool.or_eq_true, List.mem_range] at h
  obtain ⟨⟨hlen, hlt⟩, ⟨⟨⟨⟨⟨⟨⟨⟨g0, gt⟩, gu⟩, d0⟩, dt⟩, hlook⟩, hall⟩, hui⟩, h0d⟩⟩ := h
  refine ⟨by simpa using h0, fun j hj => ?_, by simpa using ht, ?_, by simpa using hu, rfl, by simpa using hlen, hlt, ?_, ?_, ?_, g0, gt, gu, d0, dt, ?_⟩
  · simp only [List.getElem?_toArray, edged, List.getElem?_modify]
    cases l[j]? with
    | none => rfl
    | some o =>
      show some (if t = j then _ else o) = some o
      rw [if_neg (Ne.symm hj)]
  · refine ⟨{ ot with after := ot.after.push { on := i0, ground := .data } }, ?_, fun e he => ?_, fun e he => ?_, rfl⟩
    · simp [edged, ht]
    · rcases Array.mem_push.1 he with h | h
      · exact .inl h
      · exact .inr (by rw [h])
    · exact Array.mem_push.2 (.inl he)
  · intro j hj hj0
    rcases hall j hj with h | h
    · exact absurd h hj0
    · obtain ⟨e, he, hb⟩ := arr_any h
      simp only [Bool.and_eq_true, beq_iff_eq] at hb
      exact ⟨e, he, hb.1, hb.2⟩
  · obtain ⟨e, he, hb⟩ := arr_any hui
    simp only [Bool.and_eq_true, beq_iff_eq] at hb
    exact ⟨e, he, hb.1, hb.2⟩
  · intro e he hb
    have := (Array.all_eq_true_iff_forall_mem.1 h0d) e he
    simp only [hb, Bool.not_true, Bool.false_or, Bool.and_eq_true, decide_eq_true_eq, bne_iff_ne] at this
    exact this
  · intro hm
    rw [List.contains_iff_mem.2 hm] at hlook
    cases hlook
/-- **The region that ends 'x, _ := f(..)'**: the store, then one slot's assignment. -/
theorem region_late {id : Nat} {Q : Exit → Act → World → Prop} {a : Act} {w : World} {l : List Oper} (i0 t : Nat) (d : Tmp) {o0 ot ou : Oper} {x0 xu : Operand} {n0 : Nat} (sp : Nat → Option Spec) (C : World → Prop)
    (h0 : l[i0]? = some o0) (hot : l[t]? = some ot) (hu : l[t + 1]? = some ou) (hop : o0.op = .extract x0 n0) (hou : ou.op = .assign xu) (hselt : ∀ cs b, ot.op ≠ .select cs b) (hl : lateB l i0 t d = true)
    (hm : P.follows .mixedOrders = true) (hB : okB .any (edged l t i0).toArray t = true) (hC : C w.drew) (hsp : sp i0 = none) (hst : ∀ j s, sp j = some s → ∀ v, Stable (s.post v))
    (h : walk P .any (edged l t i0).toArray C sp (fun a' K => ∀ w', C w' → (∀ i, K i w') → ∃ w1, (execOp a'.eval ot).run P w' = .ok .skip w1 ∧ Q .normal (a'.put ou.dst (a'.eval xu)) w1) (l.take t) 0 a (fun _ _ => True)) : (Code.region id l.toArray true).wp P Q a w := by
  have ok := lateB_ok h0 hot hu hl
  have hsz := ok.hus
  have hel : (edged l t i0).length = t + 2 := by rw [edged_length]; simpa using hsz
  simp only [okB, Bool.and_eq_true, Bool.or_eq_true, decide_eq_true_eq] at hB
  obtain ⟨⟨hsel, hor⟩, hlex⟩ := hB
  have hor' : (t < (edged l t i0).toArray.size ∧ Region.sinkB .any (edged l t i0).toArray t = true) ∧ Region.chainB .any (edged l t i0).toArray t = true := by
    rcases hor with h | h
    · simp [hel] at h
    · exact h
  have htl : (l.take t).length = t := by simp at hsz ⊢; omega
  have htail : ∀ i, i < t → ∀ listed, HeadInv .any (edged l t i0).toArray t listed → listed.getD i true = false → ∀ j ∈ Region.ready .any (edged l t i0).toArray listed, j < t := fun i hi listed inv hun j hj => by
    rcases Nat.lt_or_ge j t with h' | h'
    · exact h'
    · exact absurd hj (tail_waits hor'.1.2 hor'.2 hor'.1.1 inv _ i rfl hi hun j h')
  have inv0 : HeadInv .any (edged l t i0).toArray t (Array.replicate (edged l t i0).toArray.size false) :=
    ⟨by simp, fun j oj _ hl => (by rw [getD_replicate_false] at hl; cases hl), fun t _ ht => getD_in (by simpa using ht) (getD_replicate_false _ _)⟩
  have H := lex (md := .any) (g := 2) hst hsel htail (l.take t) 0 _ a (fun _ _ => True) (fun j hj => by
    have hj' : j < t := by rw [htl] at hj; exact hj
    rw [Nat.zero_add, ok.hother j (by omega)]
    simp [hj']) (by simpa using htl) inv0 (fun _ _ _ _ _ => trivial) (by rw [htl]; simpa [hel] using hlex) h
  refine wp_region_any hm ?_
  have := late_any ok hop hou hselt hsp hst (Q := Q) _ (Array.replicate l.toArray.size false) a (fun _ _ => True) w.drew (by simp) (fun _ _ _ _ _ => trivial) hC (fun _ => trivial) (by
    have e : (edged l t i0).toArray.size = l.toArray.size := by simp [edged_length]
    rw [e] at H
    exact H)
  rw [htl] at this
  rw [hsz]
  rw [hsz] at this
  exact this
theorem run_op_store {w : World} {ρ : Operand → Value} {o : Oper} (ty : TypeId) (x y : Operand) (ho : o.op = .store ty x y) (g off : Nat) (vs : List Value) (hx : ρ x = .pointer (some ⟨g, off, none⟩)) (hy : ρ y = .agg vs.toArray)
    {t : TypeId} {old : List Value} (hr : Row w g t old) (hi : (P.info? ty).map (·.size) = some vs.length) (hold : off + vs.length ≤ old.length) (h1 : ∀ v ∈ vs, v.oneCell' = true) : (execOp ρ o).run P w = .ok .skip (w.setCells g off vs) := by
  have := run_storeAt_mid (P := P) w g off ty vs.toArray (hr.there _ _ (by simpa using hold)) (by simpa using hi) (by simpa using h1)
  unfold execOp
  simp only [ho, hx, hy, Sem.run_bind, this, Result.andThen_ok, Sem.run_pure]
end
end Ext
end Go.Proofs.Ytfkpilfnhgjmfaa
