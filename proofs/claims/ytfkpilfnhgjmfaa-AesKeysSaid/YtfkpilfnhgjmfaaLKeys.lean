/-
  'AesKeys' returns true for every input, and its arguments read behind the call as before. No conditions.
-/
import Derived.Test.YtfkpilfnhgjmfaaWorks
import Derived.Test.YtfkpilfnhgjmfaaLift
import Derived.Test.YtfkpilfnhgjmfaaFen2
import Derived.Test.YtfkpilfnhgjmfaaKeysM
import Derived.Test.YtfkpilfnhgjmfaaSls
import Derived.LoopN
namespace Go.Proofs.Ytfkpilfnhgjmfaa
open Go.ChangeShapes Go.WideShapes Go.ChangeAt Go.RowKit
attribute [local go_sem] Oper.semAt_some noJump_normal noJump_exit noJump_ret noJump_panic wide_fn wide_depth
theorem run_eq_nilFunc (f : Fn) (c : Array Value) (w : World) : (binOp .eql 40 (.func f #[] c) .nilFunc).run Try.prog w = .ok (.bool false) w := by kernel_rfl
theorem zero_blk (w : World) : (zeroValue 29).run Try.prog w = .ok (.agg (bv (zeroL 16)).toArray) w := by kernel_rfl
/-- what stands: the result's cell; the cipher, if there is one -/
def KA (w : World) (l : List Int) (p : Option Addr) (V : World) : Prop :=
  Row V w.heap.size 4 [.bool false] ∧ (l.length = 16 → ∃ g, p = some ⟨g, 0, none⟩ ∧ IsCip V g l) ∧ Below w.heap.size w V
theorem KA.over {w : World} {l : List Int} {p : Option Addr} {V V' : World} (h : KA w l p V) (hb : Below V.heap.size V V') : KA w l p V' := by
  obtain ⟨h1, h2, h3⟩ := h
  exact ⟨h1.below hb h1.lt, fun h => (h2 h).elim fun g hg => ⟨g, hg.1, Row.below hg.2 hb (Row.lt hg.2)⟩, h3.trans (hb.mono h3.size)⟩
theorem KA.set {w : World} {l : List Int} {p : Option Addr} {V : World} (h : KA w l p V) {gm i : Nat} (h1 : w.heap.size < gm) (h2 : ∀ g, p = some ⟨g, 0, none⟩ → gm ≠ g) (v : Value) : KA w l p (V.setCell ⟨gm, i, none⟩ v) := by
  obtain ⟨k1, k2, k3⟩ := h
  exact ⟨k1.other (by show w.heap.size ≠ gm; omega) v, fun h => (k2 h).elim fun g hg => ⟨g, hg.1, Row.other hg.2 (Ne.symm (h2 g hg.1)) v⟩, k3.setCell (p := ⟨gm, i, none⟩) (by show w.heap.size ≤ gm; omega) v⟩
/-- New of any key -/
theorem aNew_all (v : Value) (l : List Int) (w : World) (hB : Byt l) (hs : Sl w v l) :
    Calls Try.prog 25 #[v] w fun e w' => ∃ p ev, e = .returned (.tuple #[.pointer p, .int .i64 ev]) ∧ (l.length = 16 → ev = 0 ∧ ∃ g, p = some ⟨g, 0, none⟩ ∧ w.heap.size ≤ g ∧ IsCip w' g l) ∧ (l.length ≠ 16 → p = none ∧ ev = 2) ∧ Below w.heap.size w w' := by
  by_cases h : l.length = 16
  · obtain ⟨b, o, cap, rfl, hr⟩ := hs.cells (by omega)
    rw [h]
    refine (aNew_any l b o cap w h hB hr).mono ?_
    rintro e w' ⟨g, rfl, hg, hc, hb⟩
    exact ⟨_, _, rfl, fun _ => ⟨rfl, g, rfl, hg, hc⟩, fun h' => absurd rfl h', hb⟩
  · obtain ⟨p, cap, rfl⟩ := hs.form
    refine (aNew_bad p l.length cap w h).mono ?_
    rintro e w' ⟨rfl, rfl⟩
    exact ⟨_, _, rfl, fun h' => absurd h' h, fun _ => ⟨rfl, rfl⟩, Below.refl _ _⟩
/-- a slice of the eleven round keys, in a block of its own -/
def mkeysS (l : List Int) : Ext.Spec := { may := fun v => ∃ G, v = .slice (some ⟨G, 0, none⟩) 11 11, post := fun v w => ∀ G, v = .slice (some ⟨G, 0, none⟩) 11 11 → Row w G 88 (flatK l 11) }
/-- .. the first one's address -/
def mfirstS (l : List Int) : Ext.Spec := { may := fun v => ∃ G, v = .pointer (some ⟨G, 0, none⟩), post := fun v w => ∀ G, v = .pointer (some ⟨G, 0, none⟩) → Row w G 88 (flatK l 11) }
theorem mkeysS_stable (l : List Int) (v : Value) : Ext.Stable ((mkeysS l).post v) := fun _ _ h hb G e => (h G e).below hb (h G e).lt
theorem mfirstS_stable (l : List Int) (v : Value) : Ext.Stable ((mfirstS l).post v) := fun _ _ h hb G e => (h G e).below hb (h G e).lt
/-- a load that needs what has come before -/
theorem Ext.walk_load_dep {P : Program} {md : Region.Mode} {ops : Array Oper} {C : World → Prop} {sp : Nat → Option Ext.Spec} {Q : Act → Ext.Known → Prop} {o : Oper} {rest : List Oper} {j : Nat} {a : Act} {K : Ext.Known} (hw : Region.wanted o (yielded ops a.tmps) = true) (hs : sp j = none) (ty : TypeId) (x : Operand) (ho : o.op = .load ty x)
    (b off : Nat) (hx : a.eval x = .pointer (some ⟨b, off, none⟩)) (cs : List Value) (d : TypeDesc) (hc : ∀ w, C w → Ext.deps md ops j K w → w.rangeAt b off cs) (hu : P.underlying ty = some d) (hd : d.isRow = true) (hi : (P.info? ty).map (·.size) = some cs.length)
    (hn : Ext.walk P md ops C sp Q rest (j + 1) (a.put o.dst (.agg cs.toArray)) K) : Ext.walk P md ops C sp Q (o :: rest) j a K :=
  ⟨.det (.agg cs.toArray), ⟨hw, hs, fun w hC hD => by
    have : (execOp a.eval o).run P w = .ok (.value (.agg cs.toArray)) w := by
      unfold execOp
      simp only [ho, hx, Sem.run_bind, run_loadAt_mid w b off ty cs d (hc w hC hD) hu hd hi, Result.andThen_ok, Sem.run_pure]
    rw [this]
    exact ⟨rfl, rfl⟩⟩, fun u hu => by cases hu; exact hn⟩
/-- the law's second loop: i rounds are over -/
def KM (w : World) (l : List Int) (g G gq kcap D B i : Nat) (A : World) : Prop :=
  KA w l (some ⟨g, 0, none⟩) A ∧ (∃ cs : List Value, cs.length = 176 ∧ Row A G 88 cs ∧ ∀ q, i * 16 ≤ q → cs[q]? = (flatK l 11)[q]?) ∧ A.ownsRow B 29 16 (.slice (some ⟨gq, 0, none⟩) 11 kcap) 11 (flatK l 11) ∧ A.heap[D]? = some (.deferred (some [])) ∧ w.heap.size < G ∧ g ≠ G ∧ gq ≠ G ∧ D ≠ G
theorem KM.over {w : World} {l : List Int} {g G gq kcap D B i : Nat} {A A' : World} (h : KM w l g G gq kcap D B i A) (hb : Below A.heap.size A A') : KM w l g G gq kcap D B i A' := by
  obtain ⟨h1, ⟨cs, h2, h3, h4⟩, h5, h6, h7⟩ := h
  exact ⟨h1.over hb, ⟨cs, h2, h3.below hb h3.lt, h4⟩, owns_below h5 hb (fun k hk => (h5.lt k hk).2), (hb.block D (Array.getElem?_eq_some_iff.1 h6).1).trans h6, h7⟩
theorem KM.range {w : World} {l : List Int} {g G gq kcap D B i : Nat} {A : World} (h : KM w l g G gq kcap D B i A) (hl : l.length = 16) (hi : i < 11) : A.rangeAt G (i * 16) (bv (kS l i)) := fun j v hv => by
  obtain ⟨_, ⟨cs, h2, h3, h4⟩, _⟩ := h
  have hj : j < 16 := by
    have := (List.getElem?_eq_some_iff.1 hv).1
    rwa [bv_length, kS_length l hl i] at this
  rw [bv_get _ j (by rw [kS_length l hl i]; exact hj)] at hv
  exact h3.cell ((h4 _ (by omega)).trans ((flatK_get l hl i j hj 11 hi).trans hv))
theorem KM.step {w : World} {l : List Int} {g G gq kcap D B i : Nat} {A : World} (h : KM w l g G gq kcap D B i A) (v : Value) : KM w l g G gq kcap D B (i + 1) (A.setCell ⟨G, i * 16, none⟩ v) := by
  obtain ⟨h1, ⟨cs, h2, h3, h4⟩, h5, h6, h7, h8, h9, h10⟩ := h
  refine ⟨h1.set h7 (fun g' e => by cases e; exact Ne.symm h8) v, ⟨cs.set (i * 16) v, by rw [List.length_set, h2], h3.set _ _, fun q hq => ?_⟩, ownsRow_setCell_other h5 (by simp [Value.ownBlock]; exact h9) v, (Below.heap_setCell A ⟨G, i * 16, none⟩ v D h10).trans h6, h7, h8, h9, h10⟩
  rw [List.getElem?_set_ne (by omega)]
  exact h4 q (by omega)
/-- the run ends: true lies in the result's cell -/
theorem keys_end {w : World} {tmps : Array Value} {D : Nat} {A : World} (hr : Row A w.heap.size 4 [.bool false]) (hb : Below w.heap.size w A) (hd : A.heap[D]? = some (.deferred (some []))) (hD : w.heap.size < D) (ht : tmps.getD 2 undef = .pointer (some ⟨w.heap.size, 0, none⟩)) :
    bodyPostM Fence.wide 9 Try.prog Try.f9 (fun e w' => e = .returned (.bool true) ∧ Below w.heap.size w w') .ret { tmps := tmps, defers := [{ target := .collected D, args := #[] }] } (A.setCell ⟨w.heap.size, 0, none⟩ (.bool true)) := by
  have h1 : (A.setCell ⟨w.heap.size, 0, none⟩ (.bool true)).heap[D]? = some (.deferred (some [])) := (Below.heap_setCell A ⟨w.heap.size, 0, none⟩ _ D (by show D ≠ w.heap.size; omega)).trans hd
  refine ⟨by simp, .inl ⟨_, _, rfl, run_takeDeferred h1, ?_⟩⟩
  have hr2 := (hr.set 0 (.bool true)).turned (l := D) (by omega) (.deferred none)
  exact ⟨.bool true, results_cell1 rfl _ _ w.heap.size true ht (hr2.cell (i := 0) rfl), rfl, (hb.setCell (p := ⟨w.heap.size, 0, none⟩) (Nat.le_refl _) _).trans (below_putObj _ _ (by omega))⟩
/-- .. and the copy, whatever it holds -/
def KL (w : World) (l : List Int) (p pm : Option Addr) (n capm : Nat) (V : World) : Prop := KA w l p V ∧ ∃ l', l'.length = n ∧ Byt l' ∧ Own V (w.heap.size + 1) (.slice pm n capm) l'
theorem Byt.setb {l : List Int} (h : Byt l) (i : Nat) (x : Int) (h0 : 0 ≤ x) (h1 : x < 256) : Byt (l.set i x) := fun j => by
  unfold el
  rw [List.getD_eq_getElem?_getD, List.getElem?_set]
  split
  · split
    · exact ⟨h0, h1⟩
    · simp
  · have := h j
    unfold el at this
    rwa [List.getD_eq_getElem?_getD] at this
set_option maxRecDepth 100000 in
set_option maxHeartbeats 3200000 in
theorem aesKeys_walk (v0 : Value) (l : List Int) (w : World) (hB : Byt l) (hs : Sl w v0 l) :
    Calls Try.prog 9 #[v0] w fun e w' => e = .returned (.bool true) ∧ Below w.heap.size w w' := by
  have HB := Lib.hid hB
  have HS := Lib.hid hs
  have hnf := run_eq_nilFunc
  have hzb := zero_blk
  have hb0 := run_build0
  obtain ⟨p0, cap0, hv0⟩ := hs.form
  obtain ⟨n, hn⟩ : ∃ n, n = l.length := ⟨_, rfl⟩
  rw [← hn] at hv0
  have HN := Lib.hid hn
  have n0 := Row.new w 4 [.bool false]
  have HN0 := Lib.hid n0
  clear hB hs n0 hn
  subst hv0
  refine (callsIn_wide (n := 9)).1 ?_
  refine callsIn_of_wp_marks Try.func9 rfl trivial ?_ rfl
  simp only [Try.ntmps9, List.size_toArray, List.length_cons, List.length_nil, Nat.reduceAdd, Nat.reduceSub, Array.replicate_succ, Array.replicate_zero, List.push_toArray, List.append_toArray, List.nil_append, List.cons_append]
  refine wpIn_wide.2 ?_
  by_cases h100 : n > 100
  · have hd : decide ((n : Int) > 100) = true := decide_eq_true (by omega)
    go_wp2_with (fail)
    generalize hV : w.alloc _ = V
    have HV : Hid (Row V w.heap.size 4 [.bool false] ∧ Below w.heap.size w V) := by rw [← hV]; exact ⟨HN0.out, (Below.refl _ w).alloc (Nat.le_refl _) _⟩
    clear hV HN0
    refine (works3_any V).mono ?_
    rintro e w1 ⟨rfl, hb1⟩
    have c0 := (HV.out.1.below hb1 HV.out.1.lt).cell (i := 0) rfl
    have f0 := (HV.out.1.below hb1 HV.out.1.lt).frozen 0
    go_wp2
    have hr := (HV.out.1.below hb1 HV.out.1.lt).set 0 (.bool true)
    exact ⟨.bool true, results_cell1 rfl _ _ w.heap.size true rfl (hr.cell (i := 0) rfl), rfl, (HV.out.2.trans (hb1.mono HV.out.2.size)).setCell (p := ⟨w.heap.size, 0, none⟩) (Nat.le_refl _) _⟩
  · have hd : decide ((n : Int) > 100) = false := decide_eq_false (by omega)
    go_upto_region 3 with (fail)
    generalize hV : w.alloc _ = V
    have hvs : V.heap.size = w.heap.size + 1 := by rw [← hV]; simp
    have HVS := Lib.hid hvs
    have HV : Hid (Row V w.heap.size 4 [.bool false] ∧ Below w.heap.size w V) := by rw [← hV]; exact ⟨HN0.out, (Below.refl _ w).alloc (Nat.le_refl _) _⟩
    clear hV HN0 hd hvs
    have hown := own_new V [] (by simp)
    have HO := Lib.hid hown
    have hsl : Sl (V.alloc (.cells #[] 5)) (.slice p0 n cap0) l := HS.out.over ((HV.out.2.alloc HV.out.2.size _).mono (Nat.le_refl _))
    have HSL := Lib.hid hsl
    clear hown hsl
    go_wp2_with (at_builtin; refine wpList_append_bytes rfl _ _ rfl V.heap.size _ _ [] l rfl rfl HO.out HSL.out (by have := HN.out; simp only [List.length_nil]; omega) (by simp) ?_)
    intro mv w2 hown hgr
    have hVs := HVS.out
    have hb2 : Below V.heap.size V w2 := ((Below.refl _ V).alloc (Nat.le_refl _) _).trans (grown_below hgr (by simp) (fun k hk => by simp [Value.ownBlock] at hk; omega))
    have H2 : Hid (Row w2 w.heap.size 4 [.bool false] ∧ Below w.heap.size w w2 ∧ Own w2 V.heap.size mv l) := ⟨HV.out.1.below hb2 HV.out.1.lt, HV.out.2.trans (hb2.mono HV.out.2.size), hown⟩
    clear hb2 hgr hown HO HSL HV
    go_wp2_with (fail)
    refine (aNew_all mv l w2 HB.out H2.out.2.2.sl).mono ?_
    rintro e w3 ⟨p, ev, rfl, hg, hng, hb3⟩
    obtain ⟨pm, capm, hmv⟩ := H2.out.2.2.sl.form
    rw [← HN.out] at hmv
    subst hmv
    have H3 : Hid (KA w l p w3 ∧ Own w3 (w.heap.size + 1) (.slice pm n capm) l ∧ (∀ gm g, pm = some ⟨gm, 0, none⟩ → p = some ⟨g, 0, none⟩ → gm ≠ g)) := by
      obtain ⟨h1, h2, h3⟩ := H2.out
      refine ⟨⟨h1.below hb3 h1.lt, fun h => (hg h).2.elim fun g hg => ⟨g, hg.1, hg.2.2⟩, h2.trans (hb3.mono h2.size)⟩, (h3.over hb3 fun k hk => (h3.lt k hk).2).base (by omega), fun gm g e1 e2 => ?_⟩
      by_cases h : l.length = 16
      · obtain ⟨-, g', e, hg', -⟩ := hg h
        rw [e] at e2
        cases e2
        have := (h3.lt gm (by rw [e1]; rfl)).2
        omega
      · rw [(hng h).1] at e2
        cases e2
    have HG : Hid (if n = 16 then ev = 0 else (p = none ∧ ev = 2)) := by
      have := HN.out
      split
      · exact (hg (by omega)).1
      · exact hng (by omega)
    have htm := H3.out.2.1.sl.text
    have htk := (HS.out.over H3.out.1.2.2).text
    clear hg hng hb3 H2 hVs HVS
    go_wp2_with (fail)
    have HL0 : Hid (KL w l p pm n capm w3) := ⟨H3.out.1, l, HN.out.symm, HB.out, H3.out.2.1⟩
    have HNE := Lib.hid H3.out.2.2
    clear H3 htm htk
    go_loopw [6] (fun i wr => ∃ k : Nat, k ≤ n ∧ i = .int .i64 (k : Int) ∧ KL w l p pm n capm wr) (fun i _ => n - (intOf i).toNat)
    case atStart => exact ⟨0, by omega, rfl, HL0.out⟩
    case round =>
      obtain ⟨k, hk, rfl, hR⟩ := hrel
      have HR := Lib.hid hR
      clear hR HL0
      by_cases hkn : k < n
      · obtain ⟨ha, l', hl', hB', ho⟩ := HR.out
        obtain ⟨gm, hpm⟩ : ∃ gm, pm = some ⟨gm, 0, none⟩ := by
          rcases ho.2 with ⟨e, h0⟩ | ⟨g, cap, cur, e, _⟩
          · omega
          · cases e; exact ⟨_, rfl⟩
        have hgm : w.heap.size < gm := by have := (ho.lt gm (by rw [hpm]; rfl)).1; omega
        subst hpm
        have c0 := ho.cell k hkn
        have f0 := ho.frozen k
        have HA := Lib.hid ha
        have HO := Lib.hid ho
        have HB' := Lib.hid hB'
        have hlt : (k : Int) < (n : Int) := by omega
        have hk0 : (0 : Int) ≤ (k : Int) := by omega
        clear ha ho hB' HR HN
        have HF : ∀ x : Int, 0 ≤ x → x < 256 → KL w l p (some ⟨gm, 0, none⟩) n capm (wr.setCell ⟨gm, k, none⟩ (.int .u8 x)) := fun x h0 h1 =>
          ⟨HA.out.set hgm (fun g e => HNE.out gm g rfl e) _, l'.set k x, by rw [List.length_set, hl'], HB'.out.setb k x h0 h1, HO.out.set k x⟩
        have HFF := Lib.hid HF
        clear HF
        go_wp2
        go_roundw
        case rel => exact ⟨k + 1, by omega, by go_num, HFF.out _ (by omega) (by omega)⟩
        case measure => simp [intOf]; omega
      · have hkk : k = n := by omega
        subst hkk
        have hlt : decide ((k : Int) < (k : Int)) = false := decide_eq_false (by omega)
        have H4 := Lib.hid HR.out.1
        clear HR
        go_wp2_with (fail)
        refine (aMake_nil (zeroL 16) wr).mono ?_
        rintro e w4 ⟨rfl, hb4⟩
        have HA4 := Lib.hid (H4.out.over hb4)
        have n4 := Lib.hid (Row.new w4 29 (bv (zeroL 16)))
        have i16 : (Try.prog.info? 29).map (·.size) = some (bv (zeroL 16)).length := by rw [bv_length, zeroL_length]; kernel_rfl
        have I16 := Lib.hid i16
        clear i16 hb4 H4
        go_wp2_with (refine wpList_store_Row rfl 29 _ _ rfl w4.heap.size (bv (zeroL 16)) rfl rfl n4.out I16.out rfl (bv_one _) ?_; refine stay ?_)
        refine go_on ?_
        have HA5 : Hid (KA w l p ((w4.alloc (.cells (bv (zeroL 16)).toArray 29)).setRow w4.heap.size (bv (zeroL 16)).toArray)) :=
          HA4.out.over (below_setRow ((Below.refl _ w4).alloc (Nat.le_refl _) _) (Nat.le_refl _) _)
        generalize (w4.alloc _).setRow _ _ = w5 at HA5 ⊢
        clear n4 HA4
        go_wp2_with (fail)
        refine (aSteps_any none (zeroL 16) w5).mono ?_
        rintro e w6 ⟨rfl, -, -, -, hb6⟩
        have HA6 := Lib.hid (HA5.out.over hb6)
        clear hb6 HA5
        go_wp2_with (fail)
        refine (aSteps_any none (zeroL 16) w6).mono ?_
        rintro e w7 ⟨rfl, rP, rQ, -, hb7⟩
        have HA7 := Lib.hid (HA6.out.over hb7)
        have HP := Lib.hid rP
        clear hb7 HA6 rP rQ
        go_wp2_with (fail)
        refine (wpIn_wide (n := 9)).1 ?_
        refine wpIn_range_it rfl (by omega) (gf := 59) (lb := #[.pointer (some ⟨w6.heap.size, 0, none⟩), .pointer (some ⟨w6.heap.size + 1, 0, none⟩)]) rfl trivial (enters_of Try.func59 (by kernel_rfl) rfl)
          (encs := fun _ => #[undef, undef]) (N := 0) (T := fun _ => False) (fun h => h) (fun _ => rfl)
          (fun W1 hb1 _ => stepsIt_none _ w6.heap.size (w6.heap.size + 1) _ _ W1 (HP.out.below hb1 HP.out.lt))
          (fun _ A => Below w7.heap.size w7 A) (fun _ _ _ => False) (fun _ _ _ h hb => h.trans hb) (fun _ _ _ _ h _ => h) (Below.refl _ _) (fun l k A hk => absurd hk (Nat.not_lt_zero _)) ?done ?stop
        case stop =>
          rintro D c k W1 _ _ _ h _
          exact h.elim
        case done =>
          rintro D W1 hD hb1 hd
          have H8 : Hid (KA w l p W1 ∧ W1.heap[D]? = some (.deferred (some [])) ∧ D < W1.heap.size ∧ w.heap.size < D) := by
            have := HA7.out.2.2.size
            have h1 := HA7.out.1.lt
            exact ⟨HA7.out.over hb1, hd, (Array.getElem?_eq_some_iff.1 hd).1, by omega⟩
          clear hb1 hd HA7 HP hD
          go_wp2_with (fail)
          refine (num3_any 1 _).mono ?_
          rintro e w' ⟨rfl, rfl⟩
          go_wp2_with (fail)
          refine (aKeysM_nil _).mono ?_
          rintro e w' ⟨rfl, rfl⟩
          by_cases h16 : k = 16
          · have hev : ev = 0 := by have := HG.out; rw [if_pos h16] at this; exact this
            obtain ⟨g, hp, -⟩ := H8.out.1.2.1 (by rw [← HN.out, h16])
            clear HG
            subst h16 hev hp
            have hl16 : l.length = 16 := HN.out.symm
            have HL16 := Lib.hid hl16
            obtain ⟨b, o, cap', e, hr⟩ := HS.out.cells (by rw [hl16]; omega)
            rw [hl16] at e
            cases e
            have HR := Lib.hid hr
            clear hl16 hr HNE hlt h100 hk hkn HN
            go_wp2_with (fail)
            refine (aKeysM_any g l W1 HL16.out ((H8.out.1.2.1 HL16.out).elim fun g' h => by have := h.1; cases this; exact h.2)).mono ?_
            rintro e w8 ⟨rfl, hrow, hb8⟩
            have H9 : Hid (KA w l (some ⟨g, 0, none⟩) w8 ∧ Row w8 W1.heap.size 88 (flatK l 11) ∧ w8.heap[D]? = some (.deferred (some []))) := ⟨H8.out.1.over hb8, hrow, (hb8.block D H8.out.2.2.1).trans H8.out.2.1⟩
            clear hb8 hrow
            go_wp2_with (fail)
            refine (rKeys_any l b o cap0 w8 HL16.out HB.out (fun j v hv => by have := HR.out j v hv; exact (H9.out.1.2.2.cell (p := ⟨b, o + j, none⟩) (World.block_lt_of_cell? w _ this)).trans this)).mono ?_
            rintro e w9 ⟨v, rfl, ho, hb9⟩
            obtain ⟨gq, kcap, rfl⟩ := ownsRow_succ ho
            obtain ⟨G, hG⟩ : ∃ G, G = W1.heap.size := ⟨_, rfl⟩
            have H10 : Hid (KM w l g G gq kcap D w8.heap.size 0 w9) := by
              obtain ⟨h1, h2, h3⟩ := H9.out
              have hgl : g < W1.heap.size := by
                obtain ⟨g', e, hc⟩ := H8.out.1.2.1 HL16.out
                cases e
                exact Row.lt hc
              have hws := H8.out.1.2.2.size
              have hw0 := H8.out.1.1.lt
              have := (ho.lt gq rfl).1
              have hGl := h2.lt
              have hDl := H8.out.2.2.1
              subst hG
              exact ⟨h1.over hb9, ⟨flatK l 11, flatK_length l HL16.out 11, h2.below hb9 h2.lt, fun _ _ => rfl⟩, ho, (hb9.block D (Array.getElem?_eq_some_iff.1 h3).1).trans h3, hw0, by omega, by omega, by omega⟩
            have HD0 : Hid (w.heap.size < D) := H8.out.2.2.2
            rw [← hG]
            clear H9 H8 hb9 ho hG
            go_wp2_with (fail)
            refine (num3_any 0 _).mono ?_
            rintro e w' ⟨rfl, rfl⟩
            go_wp2_with (fail)
            go_loopw [12] (fun i wr => ∃ m : Nat, m ≤ 11 ∧ i = .int .i64 (m : Int) ∧ KM w l g G gq kcap D w8.heap.size m wr) (fun i _ => 11 - (intOf i).toNat)
            case atStart => exact ⟨0, by omega, rfl, H10.out⟩
            case round =>
              obtain ⟨m, hm, rfl, hRR⟩ := hrel
              have HM := Lib.hid hRR
              clear hRR H10
              by_cases hmn : m < 11
              · have hlt : (m : Int) < 11 := by omega
                have hk0 : (0 : Int) ≤ (m : Int) := by omega
                have hkl : (kS l m).length = 16 := kS_length l HL16.out m
                have hks : Byt (kS l m) := kS_byt l HB.out m
                have k16 : (Try.prog.info? 29).map (·.size) = some (bv (kS l m)).length := by rw [bv_length, hkl]; kernel_rfl
                have K16 := Lib.hid k16
                have HKS := Lib.hid hks
                clear hks k16
                go_upto_region 27 with (fail)
                obtain ⟨X, hX, gx, hgx⟩ := Ext.over_index wr
                have hmx : ∀ x', KM w l g G gq kcap D w8.heap.size m (gx x') := fun x' => HM.out.over ((hgx _).2 ⟨x', rfl⟩)
                have hr1 : ∀ x', (gx x').rangeAt G (m * 16) (bv (kS l m)) := fun x' => (hmx x').range HL16.out hmn
                have hr2 : ∀ x', (gx x').rangeAt gq (m * 16) (bv (kS l m)) := fun x' => owns_range (hmx x').2.2.1 m _ hkl (fun j hj => flatK_get l HL16.out m j hj 11 hmn)
                have HR1 := Lib.hid hr1
                have HR2 := Lib.hid hr2
                have HGI := Lib.hid hgx
                have hq := run_equal_bytes 29 16 Try.underlying29 (kS l m) (kS l m) hkl hkl
                rw [decide_eq_true rfl] at hq
                have hgu := guardBlk
                clear hmx hr1 hr2 hgx
                refine Ext.region 9 (fun _ => none) (fun w' => ∃ x, w' = gx x) (by kernel_rfl) (by kernel_rfl) ((HGI.out _).1 (Ext.Over.drew wr)) (fun j s h => by cases h) ?_
                simp only [List.take_succ_cons, List.take_zero, List.drop_succ_cons, List.drop_zero]
                refine Ext.walk_take 3 (by kernel_rfl) (by kernel_rfl) (by kernel_rfl) ?_
                simp only [List.take_succ_cons, List.take_zero, List.drop_succ_cons, List.drop_zero]
                repeat (go_big_quiet_step (fail))
                refine wpQuiet_nil ?_
                refine Ext.walk_load (by kernel_rfl) rfl 29 _ rfl G (m * 16) rfl (bv (kS l m)) _ (by rintro _ ⟨x', rfl⟩; exact HR1.out x') Try.underlying29 rfl K16.out ?_
                simp only [Act.put, List.setIfInBounds_toArray, List.set_cons_zero, List.set_cons_succ]
                refine Ext.walk_take 3 (by kernel_rfl) (by kernel_rfl) (by kernel_rfl) ?_
                simp only [List.take_succ_cons, List.take_zero, List.drop_succ_cons, List.drop_zero]
                repeat (go_big_quiet_step (fail))
                refine wpQuiet_nil ?_
                refine Ext.walk_load (by kernel_rfl) rfl 29 _ rfl gq (m * 16) rfl (bv (kS l m)) _ (by rintro _ ⟨x', rfl⟩; exact HR2.out x') Try.underlying29 rfl K16.out ?_
                simp only [Act.put, List.setIfInBounds_toArray, List.set_cons_zero, List.set_cons_succ]
                refine Ext.walk_take 1 (by kernel_rfl) (by kernel_rfl) (by kernel_rfl) ?_
                simp only [List.take_succ_cons, List.take_zero, List.drop_succ_cons, List.drop_zero]
                repeat (go_big_quiet_step (fail))
                refine wpQuiet_nil ?_
                refine Ext.walk_end ?_
                intro wx hwx _
                have HMX := Lib.hid (HM.out.over ((HGI.out _).2 hwx))
                clear hwx HR1 HR2 HGI hq hgu HM hX gx X
                go_upto_region 29 with (fail)
                obtain ⟨X, hX, gx, hgx⟩ := Ext.over_index wx
                have hmx : ∀ x', KM w l g G gq kcap D w8.heap.size m (gx x') := fun x' => HMX.out.over ((hgx _).2 ⟨x', rfl⟩)
                have hc0 : ∀ x', (gx x').cell? ⟨G, m * 16, none⟩ = some (.int .u8 (el (kS l m) 0)) := fun x' => (hmx x').range HL16.out hmn 0 _ (bv_get _ 0 (by rw [hkl]; omega))
                have HGI := Lib.hid hgx
                clear hmx hgx
                refine Ext.region 10 (fun _ => none) (fun w' => ∃ x, w' = gx x) (by kernel_rfl) (by kernel_rfl) ((HGI.out _).1 (Ext.Over.drew wx)) (fun j s h => by cases h) ?_
                simp only [List.take_succ_cons, List.take_zero, List.drop_succ_cons, List.drop_zero]
                refine Ext.walk_take 10 (by kernel_rfl) (by kernel_rfl) (by kernel_rfl) ?_
                simp only [List.take_succ_cons, List.take_zero, List.drop_succ_cons, List.drop_zero]
                repeat (go_big_quiet_step (fail))
                refine wpQuiet_nil ?_
                refine Ext.walk_end ?_
                intro wy hwy _
                have HMY := Lib.hid (HMX.out.over ((HGI.out _).2 hwy))
                clear hwy HGI HMX hc0 hX gx X
                have cG := HMY.out.range HL16.out hmn 0 _ (bv_get _ 0 (by rw [hkl]; omega))
                rw [Nat.add_zero] at cG
                obtain ⟨cs, -, hcs, -⟩ := HMY.out.2.1
                have fG := hcs.frozen (m * 16)
                clear hcs
                have HST : Hid (∀ v, KM w l g G gq kcap D w8.heap.size (m + 1) (wy.setCell ⟨G, m * 16, none⟩ v)) := fun v => HMY.out.step v
                go_wp2
                go_roundw
                case rel => exact ⟨m + 1, by omega, by go_num, HST.out _⟩
                case measure => simp [intOf]; omega
              · have hm11 : m = 11 := by omega
                subst hm11
                go_upto_region 30 with (fail)
                have hkl : (kS l 0).length = 16 := kS_length l HL16.out 0
                have k16 : (Try.prog.info? 29).map (·.size) = some (bv (kS l 0)).length := by rw [bv_length, hkl]; kernel_rfl
                have K16 := Lib.hid k16
                obtain ⟨X, hX, gx, hgx⟩ := Ext.over_index wr
                have hmx : ∀ x', KM w l g G gq kcap D w8.heap.size 11 (gx x') := fun x' => HM.out.over ((hgx _).2 ⟨x', rfl⟩)
                have hr2 : ∀ x', (gx x').rangeAt gq 0 (bv (kS l 0)) := fun x' => by
                  have := owns_range (hmx x').2.2.1 0 _ hkl (fun j hj => flatK_get l HL16.out 0 j hj 11 (by omega))
                  simpa using this
                have hcx : ∀ x', IsCip (gx x') g l := fun x' => ((hmx x').1.2.1 HL16.out).elim fun g' h => by have := h.1; cases this; exact h.2
                have HR2 := Lib.hid hr2
                have HCX := Lib.hid hcx
                have HGI := Lib.hid hgx
                have hq := run_equal_bytes 29 16 Try.underlying29 (kS l 0) (kS l 0) hkl hkl
                rw [decide_eq_true rfl] at hq
                have hgu := guardBlk
                clear hmx hr2 hgx k16 hcx
                refine Ext.region 11 (Ext.at_ [(1, mkeysS l), (2, mfirstS l), (9, Ext.eqS (.bool true))]) (fun w' => ∃ x, w' = gx x) (by kernel_rfl) (by kernel_rfl) ((HGI.out _).1 (Ext.Over.drew wr)) (Ext.at_stable (by
                  intro p hp v
                  simp only [List.mem_cons, List.not_mem_nil, or_false] at hp
                  rcases hp with rfl | rfl | rfl
                  · exact mkeysS_stable _ _
                  · exact mfirstS_stable _ _
                  · exact Ext.eqS_stable _ _)) ?_
                simp only [List.take_succ_cons, List.take_zero, List.drop_succ_cons, List.drop_zero]
                refine Ext.walk_take 1 (by kernel_rfl) (by kernel_rfl) (by kernel_rfl) ?_
                simp only [List.take_succ_cons, List.take_zero, List.drop_succ_cons, List.drop_zero]
                repeat (go_big_quiet_step (fail))
                refine wpQuiet_nil ?_
                refine Ext.walk_spec _ rfl rfl ?_ ?_
                · rintro _ ⟨x', rfl⟩ _
                  go_simp
                  refine Ext.call_post HGI.out ((aKeysM_any g l (gx x') HL16.out (HCX.out x')).mono ?_)
                  rintro e w' ⟨rfl, hrow, hbl⟩
                  exact ⟨_, rfl, ⟨_, rfl⟩, fun G' e => by cases e; exact hrow, hbl⟩
                · rintro v ⟨G1, rfl⟩
                  simp only [Act.put, List.setIfInBounds_toArray, List.set_cons_zero, List.set_cons_succ]
                  refine Ext.walk_spec _ rfl rfl ?_ ?_
                  · rintro _ ⟨x', rfl⟩ hdep
                    have h1 := (Ext.upd_at (hdep 1 (by kernel_rfl))) G1 rfl
                    go_simp
                    exact ⟨⟨x', rfl⟩, Below.refl _ _, ⟨_, rfl⟩, fun G' e => by cases e; exact h1⟩
                  · rintro v ⟨G2, rfl⟩
                    simp only [Act.put, List.setIfInBounds_toArray, List.set_cons_zero, List.set_cons_succ]
                    refine Ext.walk_load_dep (by kernel_rfl) rfl 29 _ rfl G2 0 rfl (bv (kS l 0)) _ (by
                      rintro _ ⟨x', rfl⟩ hdep
                      have h1 := (Ext.upd_at (hdep 2 (by kernel_rfl))) G2 rfl
                      have := flatK_range l HL16.out (b := G2) (n := 11) (i := 0) (by omega) (fun q v hv => h1.cell hv)
                      simpa using this) Try.underlying29 rfl K16.out ?_
                    simp only [Act.put, List.setIfInBounds_toArray, List.set_cons_zero, List.set_cons_succ]
                    refine Ext.walk_take 2 (by kernel_rfl) (by kernel_rfl) (by kernel_rfl) ?_
                    simp only [List.take_succ_cons, List.take_zero, List.drop_succ_cons, List.drop_zero]
                    repeat (go_big_quiet_step (fail))
                    refine wpQuiet_nil ?_
                    refine Ext.walk_load (by kernel_rfl) rfl 29 _ rfl gq 0 rfl (bv (kS l 0)) _ (by rintro _ ⟨x', rfl⟩; exact HR2.out x') Try.underlying29 rfl K16.out ?_
                    simp only [Act.put, List.setIfInBounds_toArray, List.set_cons_zero, List.set_cons_succ]
                    refine Ext.walk_take 2 (by kernel_rfl) (by kernel_rfl) (by kernel_rfl) ?_
                    simp only [List.take_succ_cons, List.take_zero, List.drop_succ_cons, List.drop_zero]
                    repeat (go_big_quiet_step (fail))
                    refine wpQuiet_nil ?_
                    refine Ext.walk_spec_guarded _ (by kernel_rfl) rfl (by rintro _ ⟨x', rfl⟩ _; go_simp; exact Ext.call_eq HGI.out (works3_any _)) ?_
                    rintro v rfl
                    simp only [Act.put, List.setIfInBounds_toArray, List.set_cons_zero, List.set_cons_succ]
                    refine Ext.walk_take 1 (by kernel_rfl) (by kernel_rfl) (by kernel_rfl) ?_
                    simp only [List.take_succ_cons, List.take_zero, List.drop_succ_cons, List.drop_zero]
                    repeat (go_big_quiet_step (fail))
                    refine wpQuiet_nil ?_
                    refine Ext.walk_end ?_
                    intro wx hwx _
                    have H9 := Lib.hid (HM.out.over ((HGI.out _).2 hwx))
                    clear hwx HR2 HCX HGI hq hgu HM hX gx X
                    have c2 := H9.out.1.1.cell (i := 0) rfl
                    have f2 := H9.out.1.1.frozen 0
                    go_wp2
                    exact keys_end H9.out.1.1 H9.out.1.2.2 H9.out.2.2.2.1 HD0.out rfl
          · obtain ⟨hp, hev⟩ : p = none ∧ ev = 2 := by have := HG.out; rw [if_neg h16] at this; exact this
            clear HG
            subst hev hp
            have hne : (k : Int) ≠ 16 := by omega
            clear h16
            go_wp2_with (fail)
            refine (num3_any 2 _).mono ?_
            rintro e w' ⟨rfl, rfl⟩
            go_wp2_with (fail)
            refine (works3_any _).mono ?_
            rintro e w8 ⟨rfl, hb8⟩
            have H9 : Hid (Row w8 w.heap.size 4 [.bool false] ∧ Below w.heap.size w w8 ∧ w8.heap[D]? = some (.deferred (some [])) ∧ w.heap.size < D) := by
              obtain ⟨h1, h2, h3, h4⟩ := H8.out
              have h5 := h1.over hb8
              exact ⟨h5.1, h5.2.2, (hb8.block D h3).trans h2, h4⟩
            clear hb8 H8
            have c2 := H9.out.1.cell (i := 0) rfl
            have f2 := H9.out.1.frozen 0
            go_wp2
            exact keys_end H9.out.1 H9.out.2.1 H9.out.2.2.1 H9.out.2.2.2 rfl
set_option maxRecDepth 100000 in
theorem aesKeys_lifted (os : Os) (started : os.Started) (H : Type) (enc : TypeId × Value → H) :
    ReturnsInHanded {} Try.checked os 9 .any (Rows.aesKeysSpec.pre6 enc Try.prog Try.f9 Rows.aesKeysRow.domain false) (Rows.aesKeysSpec.post enc Try.prog Try.f9 false true false false) := by
  refine returnsInHanded_of_change (C := Try.checked) own started (by kernel_rfl) Try.func9
    (ChangeSpec.witness6 (enc := enc) (C := Try.checked) false ⟨#[], #[.slice none 0 0], []⟩ 8 (by kernel_rfl) (by kernel_rfl) (by kernel_rfl) (by kernel_rfl)) ?_
  intro W base args ds gs before hval0 hW hcnd _
  have hval : ∀ (j : Nat) t v, Try.f9.params[j]? = some t → args[j]? = some v → Value.okWide Try.prog W .any base t v := hval0
  have hW' := hW
  obtain ⟨p, q, hA, hV, rfl, hfz, hnd⟩ := hW
  rw [show Try.f9.params.toList = [34] from rfl] at hA
  obtain ⟨rfl, rfl⟩ := trodVars_none hV
  obtain ⟨v0, d0, rfl, rfl, h0⟩ := trodAll_one hA
  obtain ⟨l, hs, hb, _⟩ := open_sl Try.underlying34 Try.underlying5 cells_u8 (hval 0 34 v0 rfl rfl) h0
  refine (aesKeys_walk v0 l W hb hs).mono fun e W' ⟨he, hb⟩ => ?_
  subst he
  exact post_true laidOut hW' hb rfl (by kernel_rfl) rfl Try.underlying4 rfl
theorem aesKeys_over : Rows.aesKeysRow.holds Try.pinned (OpenSpec.ofChange Rows.aesKeysSpec) :=
  OpenClaim.holds_of_wide 9 Try.f9 rfl rfl rfl rfl rfl rfl rfl ⟨rfl, rfl, rfl, rfl, rfl⟩ rfl rfl rfl rfl rfl (by kernel_rfl) Try.func9 (by kernel_rfl)
    (of_decide_eq_true (by kernel_rfl)) (by unfold Func.isWrapper; first | (rw [if_pos (by decide +kernel)]; kernel_rfl) | (rw [if_neg (by decide +kernel)]; exact ⟨rfl, rfl⟩))
    (fun os started H enc _ => aesKeys_lifted os started H enc)
theorem aesKeys_holds : Rows.AesKeysSaid := aesKeys_over
#print axioms aesKeys_holds
end Go.Proofs.Ytfkpilfnhgjmfaa
