/-
  The reference's Steps and Make.
-/
import Derived.Test.YtfkpilfnhgjmfaaRKeys
import Derived.Test.YtfkpilfnhgjmfaaStep
import Derived.Test.YtfkpilfnhgjmfaaEqs
import Derived.Test.YtfkpilfnhgjmfaaIt
namespace Go.Proofs.Ytfkpilfnhgjmfaa
open Go.RowKit
/-- the cells of the first n steps -/
def flatS (key b : List Int) : Nat → List Value
  | 0 => []
  | n + 1 => flatS key b n ++ bv (stepL key b n)
theorem flatS_length (key b : List Int) : ∀ n, (flatS key b n).length = n * 16
  | 0 => rfl
  | n + 1 => by rw [flatS, List.length_append, flatS_length key b n, bv_length, stepL_length]; omega
theorem flatS_get (key b : List Int) (i j : Nat) (hj : j < 16) : ∀ n, i < n → (flatS key b n)[i * 16 + j]? = some (.int .u8 (el (stepL key b i) j))
  | 0, hi => by omega
  | n + 1, hi => by
    rw [flatS]
    by_cases e : i = n
    · subst e
      rw [List.getElem?_append_right (by rw [flatS_length]; omega), flatS_length, Nat.add_sub_cancel_left]
      exact bv_get _ j (by rw [stepL_length]; exact hj)
    · rw [List.getElem?_append_left (by rw [flatS_length]; omega)]
      exact flatS_get key b i j hj n (by omega)
theorem flatS_one (key b : List Int) : ∀ n, ∀ v ∈ flatS key b n, v.oneCell' = true
  | 0, v, hv => by cases hv
  | n + 1, v, hv => by
    rcases List.mem_append.1 hv with h | h
    · exact flatS_one key b n v h
    · exact bv_one _ v h
theorem owns_range {w : World} {base g n cap : Nat} {xs : List Value} (h : w.ownsRow base 29 16 (.slice (some ⟨g, 0, none⟩) n cap) n xs) (i : Nat) (l : List Int) (hl : l.length = 16) (hx : ∀ j, j < 16 → xs[i * 16 + j]? = some (.int .u8 (el l j))) : w.rangeAt g (i * 16) (bv l) := fun j v hv => by
  have hj : j < 16 := by
    rcases Nat.lt_or_ge j 16 with h' | h'
    · exact h'
    · rw [List.getElem?_eq_none (by rw [bv_length, hl]; exact h')] at hv; cases hv
  rw [bv_get _ j (by rw [hl]; exact hj)] at hv
  cases hv
  have := h.cells rfl _ _ (hx j hj)
  rwa [Addr.add_mid, Nat.zero_add] at this
theorem owns_base {w : World} {base base' : Nat} {e : TypeId} {size : Nat} {v : Value} {n : Nat} {xs : List Value} (h : w.ownsRow base e size v n xs) (hb : base' ≤ base) : w.ownsRow base' e size v n xs := by
  obtain ⟨h1, h2⟩ := h
  refine ⟨h1, ?_⟩
  rcases h2 with h2 | ⟨g, cap, cur, rfl, hg, hh, r⟩
  · exact .inl h2
  · exact .inr ⟨g, cap, cur, rfl, Nat.le_trans hb hg, hh, r⟩
/-- a slice of eleven round keys -/
def keysS (B : Nat) (key : List Int) : Ext.Spec := { may := fun v => ∃ g cap, v = .slice (some ⟨g, 0, none⟩) 11 cap, post := fun v w => w.ownsRow B 29 16 v 11 (flatK key 11) }
theorem keysS_stable (B : Nat) (key : List Int) (v : Value) : Ext.Stable ((keysS B key).post v) := fun _ _ h hb => owns_below h hb fun k hk => (h.lt k hk).2
/-- what the steps keep -/
def RSt (B : Nat) (w : World) (key b : List Int) (Bt Bk gq kcap Bs n : Nat) (v : Value) (x : List Int) (wr : World) : Prop :=
  Row wr B 29 (bv x) ∧ Row wr Bt 83 tabL ∧ wr.ownsRow Bk 29 16 (.slice (some ⟨gq, 0, none⟩) 11 kcap) 11 (flatK key 11) ∧ wr.ownsRow Bs 29 16 v n (flatS key b n) ∧ Below B w wr ∧ B < Bt ∧ Bt < Bk ∧ Bk < Bs ∧ gq < Bs
theorem RSt.below {B : Nat} {w : World} {key b : List Int} {Bt Bk gq kcap Bs n : Nat} {v : Value} {x : List Int} {wr w' : World} (h : RSt B w key b Bt Bk gq kcap Bs n v x wr) (hb : Below wr.heap.size wr w') : RSt B w key b Bt Bk gq kcap Bs n v x w' := by
  obtain ⟨h0, h1, h2, h3, h4, h5⟩ := h
  exact ⟨h0.below hb h0.lt, h1.below hb h1.lt, owns_below h2 hb (fun k hk => (h2.lt k hk).2), owns_below h3 hb (fun k hk => (h3.lt k hk).2), h4.trans (hb.mono (Nat.le_of_lt h0.lt)), h5⟩
theorem owns_setRow {w : World} {base : Nat} {e : TypeId} {size : Nat} {v : Value} {n : Nat} {xs : List Value} (h : w.ownsRow base e size v n xs) {g : Nat} (hg : g < base) (c : Array Value) : (w.setRow g c).ownsRow base e size v n xs := by
  obtain ⟨h1, h2⟩ := h
  refine ⟨h1, ?_⟩
  rcases h2 with h2 | ⟨g', cap, cur, rfl, hg', hh, r⟩
  · exact .inl h2
  · exact .inr ⟨g', cap, cur, rfl, hg', by simp only [World.setRow, Array.getElem?_modify]; rw [if_neg (by omega)]; exact hh, r⟩
theorem RSt.put {B : Nat} {w : World} {key b : List Int} {Bt Bk gq kcap Bs n : Nat} {v : Value} {x : List Int} {wr : World} (h : RSt B w key b Bt Bk gq kcap Bs n v x wr) (y : List Int) : RSt B w key b Bt Bk gq kcap Bs n v y (wr.setRow B (bv y).toArray) := by
  obtain ⟨h0, h1, h2, h3, h4, h5, h6, h7, h8⟩ := h
  exact ⟨h0.put _, h1.putOther (by omega) _, owns_setRow h2 (by omega) _, owns_setRow h3 (by omega) _, below_setRow h4 (Nat.le_refl _) _, h5, h6, h7, h8⟩
set_option maxRecDepth 100000 in
set_option maxHeartbeats 1600000 in
theorem rSteps_any (bk ok kc : Nat) (key b : List Int) (w : World) (hk : key.length = 16) (hB : Byt key) (lb : b.length = 16) (hb : Byt b) (hr : w.rangeAt bk ok (bv key)) :
    Calls Try.prog 27 #[.slice (some ⟨bk, ok, none⟩) 16 kc, .agg (bv b).toArray] w fun e w' => ∃ v, e = .returned v ∧ w'.ownsRow w.heap.size 29 16 v 11 (flatS key b 11) ∧ Below w.heap.size w w' := by
  obtain ⟨HR0, HBL⟩ := rows1 w 29 (bv b)
  have HK := Lib.hid hk
  have HB := Lib.hid hB
  have HL := Lib.hid lb
  have HBb := Lib.hid hb
  have HRK := Lib.hid hr
  clear hk hB lb hb hr
  go_enter Try.func27, Try.ntmps27
  go_wp2_with fail
  refine (boxes_any _).mono ?_
  rintro e w1 ⟨rfl, hb1⟩
  have r0 := HR0.out.below hb1 HR0.out.lt
  have pb := HBL.out.trans (hb1.mono HBL.out.size)
  have n0 := (Row.new w1 83 (bv (zeroL 256)))
  have hlt := r0.lt
  clear hb1 HR0 HBL
  go_upto_region 2 with (first | (refine wpList_alloc_zero rfl 83 rfl _ (zeroTab _) ?_) | (refine wpList_store_Row rfl 83 _ _ rfl _ tabL rfl rfl n0 (by rw [tabL_length]; kernel_rfl) (by rw [bv_length, zeroL_length, tabL_length]) (by rw [tabL_eq]; exact bv_one _) ?_))
  generalize hV : ((w1.alloc (.cells (bv (zeroL 256)).toArray 83)).setRow _ _) = V
  have HV : Hid (Row V w.heap.size 29 (bv b) ∧ Row V w1.heap.size 83 tabL ∧ Below w.heap.size w V) := by
    rw [← hV]; exact ⟨(r0.alloc _).putOther (by omega) _, n0.put _, below_setRow (pb.alloc pb.size _) pb.size _⟩
  have HT := Lib.hid hlt
  clear hV r0 pb n0
  have hcell : ∀ i, i < 16 → w.cell? ⟨bk, ok + i, none⟩ = some (.int .u8 (el key i)) := fun i hi => HRK.out i _ (bv_get key i (by rw [HK.out]; exact hi))
  have hbk : bk < w.heap.size := World.block_lt_of_cell? w _ (hcell 0 (by omega))
  have HCELL := Lib.hid hcell
  have t256 : (Try.prog.info? 83).map (·.size) = some tabL.length := by rw [tabL_length]; kernel_rfl
  have T256 := Lib.hid t256
  clear t256 hcell
  obtain ⟨X, hX, g, hg⟩ := Ext.over_index V
  have hcx : ∀ x i, i < 16 → (g x).cell? ⟨bk, ok + i, none⟩ = some (.int .u8 (el key i)) := fun x i hi => (((hg _).2 ⟨x, rfl⟩ : Below _ _ _).cell (p := ⟨bk, _, none⟩) (Nat.lt_trans hbk HV.out.1.lt |> fun h => by have := HV.out.2.2.size; show bk < V.heap.size; omega)).trans ((HV.out.2.2.cell (p := ⟨bk, _, none⟩) hbk).trans (HCELL.out i hi))
  have htx : ∀ x, Row (g x) w1.heap.size 83 tabL := fun x => HV.out.2.1.below ((hg _).2 ⟨x, rfl⟩) HV.out.2.1.lt
  have hszx : ∀ x, V.heap.size ≤ (g x).heap.size := fun x => ((hg _).2 ⟨x, rfl⟩ : Below _ _ _).size
  have hbx : ∀ x, bk < (g x).heap.size := fun x => by have := hszx x; have := HV.out.2.2.size; omega
  have HGI := Lib.hid hg
  have HCX := Lib.hid hcx
  have HTX := Lib.hid htx
  have HSX := Lib.hid hszx
  have HBX := Lib.hid hbx
  clear hg hcx htx hszx hbx
  refine Ext.region 5 (Ext.at_ [(1, Ext.eqS (.agg (bv key).toArray)), (3, keysS V.heap.size key)]) (fun w' => ∃ x, w' = g x) (by kernel_rfl) (by kernel_rfl) ((HGI.out _).1 (Ext.Over.drew V)) (Ext.at_stable (by
    intro p hp v
    simp only [List.mem_cons, List.not_mem_nil, or_false] at hp
    rcases hp with rfl | rfl
    · exact Ext.eqS_stable _ _
    · exact keysS_stable _ _ _)) ?_
  simp only [Act.put, List.setIfInBounds_toArray, List.set_cons_zero, List.set_cons_succ, List.take_succ_cons, List.take_zero, List.drop_succ_cons, List.drop_zero]
  refine Ext.walk_take 1 (by kernel_rfl) (by kernel_rfl) (by kernel_rfl) ?_
  simp only [List.take_succ_cons, List.take_zero, List.drop_succ_cons, List.drop_zero]
  repeat (go_big_quiet_step (fail))
  refine wpQuiet_nil ?_
  refine Ext.walk_spec _ rfl rfl ?_ ?_
  · rintro _ ⟨x, rfl⟩ _
    go_simp
    exact Ext.call_eq HGI.out (rblock_any bk ok kc key _ HK.out (HCX.out x) (HBX.out x))
  · rintro v rfl
    refine Ext.walk_load (Ext.wanted_plain rfl) rfl 83 _ rfl w1.heap.size 0 rfl tabL _ (by rintro _ ⟨x, rfl⟩; exact (HTX.out x).range) Try.underlying83 rfl T256.out ?_
    simp only [Act.put, List.setIfInBounds_toArray, List.set_cons_zero, List.set_cons_succ]
    refine Ext.walk_spec _ rfl rfl ?_ ?_
    · rintro _ ⟨x, rfl⟩ _
      go_simp
      refine Ext.call_post HGI.out ((rkeys_any key _ HK.out HB.out).mono ?_)
      rintro e w' ⟨v, rfl, ho, hbl⟩
      obtain ⟨gq, cap, rfl⟩ := ownsRow_succ ho
      exact ⟨_, rfl, ⟨gq, cap, rfl⟩, owns_base ho (HSX.out x), hbl⟩
    · rintro v ⟨gq, kcap, rfl⟩
      simp only [Act.put, List.setIfInBounds_toArray, List.set_cons_zero, List.set_cons_succ]
      refine Ext.walk_take 1 (by kernel_rfl) (by kernel_rfl) (by kernel_rfl) ?_
      simp only [List.take_succ_cons, List.take_zero, List.drop_succ_cons, List.drop_zero]
      repeat (go_big_quiet_step (fail))
      refine wpQuiet_nil ?_
      refine Ext.walk_end ?_
      intro W hWx hK
      have hov : Ext.Over V W := (HGI.out _).2 hWx
      have hkeys : W.ownsRow V.heap.size 29 16 (.slice (some ⟨gq, 0, none⟩) 11 kcap) 11 (flatK key 11) := (hK 3).2
      have HW : Hid (Row W w.heap.size 29 (bv b) ∧ Row W w1.heap.size 83 tabL ∧ Below w.heap.size w W ∧ W.ownsRow V.heap.size 29 16 (.slice (some ⟨gq, 0, none⟩) 11 kcap) 11 (flatK key 11)) :=
        ⟨HV.out.1.below hov HV.out.1.lt, HV.out.2.1.below hov HV.out.2.1.lt, HV.out.2.2.trans (hov.mono HV.out.2.2.size), hkeys⟩
      have hVs := HV.out.2.1.lt
      clear hov hkeys hK hWx HGI HCX HTX HSX HBX HCELL HRK HV
      go_upto_region 3 with (fail)
      clear hX g X
      have i16 : (Try.prog.info? 29).map (·.size) = some (bv b).length := by rw [bv_length, HL.out]; kernel_rfl
      have I16 := Lib.hid i16
      have k16 : (Try.prog.info? 29).map (·.size) = some (bv (kS key 0)).length := by rw [bv_length, kS_length key HK.out]; kernel_rfl
      have K16 := Lib.hid k16
      have s16 : (Try.prog.info? 29).map (·.size) = some (bv (stepL key b 0)).length := by rw [bv_length, stepL_length]; kernel_rfl
      have S16 := Lib.hid s16
      clear i16 k16 s16
      obtain ⟨X, hX, g, hg⟩ := Ext.over_index W
      have hbx : ∀ x, Row (g x) w.heap.size 29 (bv b) := fun x => HW.out.1.below ((hg _).2 ⟨x, rfl⟩) HW.out.1.lt
      have hkx : ∀ x, (g x).rangeAt gq (0 * 16) (bv (kS key 0)) := fun x => owns_range (owns_below HW.out.2.2.2 ((hg _).2 ⟨x, rfl⟩) (fun k hk => (HW.out.2.2.2.lt k hk).2)) 0 _ (kS_length key HK.out 0) (fun j hj => flatK_get key HK.out 0 j hj 11 (by omega))
      rw [Nat.zero_mul] at hkx
      have HGI := Lib.hid hg
      have HBX := Lib.hid hbx
      have HKX := Lib.hid hkx
      clear hg hbx hkx
      refine Ext.region 5 (Ext.at_ [(4, Ext.eqS (.agg (bv (stepL key b 0)).toArray))]) (fun w' => ∃ x, w' = g x) (by kernel_rfl) (by kernel_rfl) ((HGI.out _).1 (Ext.Over.drew W)) (Ext.at_stable (by
        intro p hp v
        simp only [List.mem_cons, List.not_mem_nil, or_false] at hp
        rcases hp with rfl
        exact Ext.eqS_stable _ _)) ?_
      simp only [List.take_succ_cons, List.take_zero, List.drop_succ_cons, List.drop_zero]
      refine Ext.walk_load (Ext.wanted_plain rfl) rfl 29 _ rfl w.heap.size 0 rfl (bv b) _ (by rintro _ ⟨x, rfl⟩; exact (HBX.out x).range) Try.underlying29 rfl I16.out ?_
      simp only [Act.put, List.setIfInBounds_toArray, List.set_cons_zero, List.set_cons_succ]
      refine Ext.walk_take 2 (by kernel_rfl) (by kernel_rfl) (by kernel_rfl) ?_
      simp only [List.take_succ_cons, List.take_zero, List.drop_succ_cons, List.drop_zero]
      repeat (go_big_quiet_step (fail))
      refine wpQuiet_nil ?_
      refine Ext.walk_load (Ext.wanted_plain rfl) rfl 29 _ rfl gq 0 rfl (bv (kS key 0)) _ (by rintro _ ⟨x, rfl⟩; exact HKX.out x) Try.underlying29 rfl K16.out ?_
      simp only [Act.put, List.setIfInBounds_toArray, List.set_cons_zero, List.set_cons_succ]
      refine Ext.walk_spec _ rfl rfl ?_ ?_
      · rintro _ ⟨x, rfl⟩ _
        go_simp
        exact Ext.call_eq HGI.out (radd_any b (kS key 0) _ HL.out (kS_length key HK.out 0))
      · rintro v rfl
        simp only [Act.put, List.setIfInBounds_toArray, List.set_cons_zero, List.set_cons_succ]
        refine Ext.walk_end ?_
        intro W2 hWx _
        have hov : Ext.Over W W2 := (HGI.out _).2 hWx
        have r2 := HW.out.1.below hov HW.out.1.lt
        have r3 := r2.put (bv (stepL key b 0))
        refine wpList_store_Row rfl 29 _ _ rfl w.heap.size (bv (stepL key b 0)) rfl rfl r2 S16.out (by rw [bv_length, bv_length, HL.out, stepL_length]) (bv_one _) ?_
        generalize hV3 : W2.setRow _ _ = V3
        have HV3 : Hid (Row V3 w.heap.size 29 (bv (stepL key b 0)) ∧ Row V3 w1.heap.size 83 tabL ∧ Below w.heap.size w V3 ∧ V3.ownsRow V.heap.size 29 16 (.slice (some ⟨gq, 0, none⟩) 11 kcap) 11 (flatK key 11)) := by
          have hgkl := (HW.out.2.2.2.lt gq rfl)
          rw [← hV3]
          refine ⟨r3, (HW.out.2.1.below hov HW.out.2.1.lt).putOther (by omega) _, below_setRow (HW.out.2.2.1.trans (hov.mono HW.out.2.2.1.size)) (Nat.le_refl _) _, ?_⟩
          obtain ⟨h1, h2⟩ := owns_below HW.out.2.2.2 hov (fun k hk => (HW.out.2.2.2.lt k hk).2)
          refine ⟨h1, ?_⟩
          rcases h2 with h2 | ⟨g', cap', cur, e, hg', hh, r⟩
          · exact absurd h2.2 (by omega)
          · cases e
            exact .inr ⟨gq, kcap, cur, rfl, hg', by simp only [World.setRow, Array.getElem?_modify]; rw [if_neg (by omega)]; exact hh, r⟩
        clear hov hWx r2 r3 hV3 HW HBX HKX HGI
        clear hX g X
        simp only [Act.put]
        go_wp2_with (first | (refine wpList_load_Row rfl 29 _ rfl _ rfl HV3.out.1 Try.underlying29 S16.out ?_) | (refine wpList_buildBv rfl _ rfl (stepL key b 0) (stepL_length key b 0) rfl ?_; refine stay ?_))
        refine go_on ?_
        have m1 : (1 : Nat) ≤ maxLen := by decide
        have hgk3 : gq < V3.heap.size := (HV3.out.2.2.2.lt gq rfl).2
        have hgkV : V.heap.size ≤ gq := (HV3.out.2.2.2.lt gq rfl).1
        have hst : RSt w.heap.size w key b w1.heap.size V.heap.size gq kcap V3.heap.size 1 (.slice (some ⟨V3.heap.size, 0, none⟩) 1 1) (stepL key b 0) (V3.alloc (.cells (bv (stepL key b 0)).toArray 29)) := by
          obtain ⟨h0, h1, h2, h3⟩ := HV3.out
          refine ⟨h0.alloc _, h1.alloc _, owns_below h3 ((Below.refl V3.heap.size V3).alloc (Nat.le_refl _) _) (fun k hk => (h3.lt k hk).2), ⟨flatS_length key b 1, .inr ⟨V3.heap.size, 1, (bv (stepL key b 0)).toArray, rfl, Nat.le_refl _, Row.new V3 29 (bv (stepL key b 0)), Nat.le_refl _, m1, by simp [bv, stepL_length], ?_⟩⟩, h2.alloc h2.size _, hlt, hVs, by omega, hgk3⟩
          show (bv (stepL key b 0)).take (1 * 16) = [] ++ bv (stepL key b 0)
          exact List.take_of_length_le (by rw [bv_length, stepL_length]; exact Nat.le_refl _)
        have HST := Lib.hid hst
        generalize V3.alloc _ = V4 at HST ⊢
        clear hst HV3 S16 K16 I16 m1
        go_wp2_with fail
        go_loopg [7, 8] 19 (fun gh s i wr => ∃ n : Nat, 1 ≤ n ∧ n ≤ 11 ∧ gh = 20 - n ∧ i = .int .i64 n ∧ RSt w.heap.size w key b w1.heap.size V.heap.size gq kcap V3.heap.size n s (stepL key b (n - 1)) wr)
        case atStart => exact ⟨1, by omega, by omega, by omega, rfl, HST.out⟩
        case round =>
          obtain ⟨n, hn1, hn2, hg, rfl, hR⟩ := hrel
          obtain ⟨m, rfl⟩ : ∃ m, n = m + 1 := ⟨n - 1, by omega⟩
          rw [Nat.add_sub_cancel] at hR
          obtain ⟨gs, scap, rfl⟩ := ownsRow_succ hR.2.2.2.1
          have HG := Lib.hid hg
          have HM := Lib.hid hR
          clear hg hR
          by_cases hlt2 : m + 1 ≤ 10
          · have hm11 : m + 1 < 11 := by omega
            have i16 : (Try.prog.info? 29).map (·.size) = some (bv (stepL key b m)).length := by rw [bv_length, stepL_length]; kernel_rfl
            have I16 := Lib.hid i16
            have k16 : (Try.prog.info? 29).map (·.size) = some (bv (kS key (m + 1))).length := by rw [bv_length, kS_length key HK.out]; kernel_rfl
            have K16 := Lib.hid k16
            have s16 : (Try.prog.info? 29).map (·.size) = some (bv (stepL key b (m + 1))).length := by rw [bv_length, stepL_length]; kernel_rfl
            have S16 := Lib.hid s16
            have elast : roundL (stepL key b m) (kS key (m + 1)) (((m : Int) + 1) == 10) = stepL key b (m + 1) := by
              show _ = roundL _ _ (m + 1 == 10)
              by_cases h : m + 1 = 10
              · rw [show (m + 1 == 10) = true by simpa using h, show ((m : Int) + 1 == 10) = true by simp only [beq_iff_eq]; omega]
              · rw [show (m + 1 == 10) = false by simpa using h, show ((m : Int) + 1 == 10) = false by simp only [beq_eq_false_iff_ne, ne_eq]; omega]
            have EL := Lib.hid elast
            clear i16 k16 s16 elast
            go_upto_region 8 with (fail)
            obtain ⟨X, hX, g, hg⟩ := Ext.over_index wr
            have hrx : ∀ x, RSt w.heap.size w key b w1.heap.size V.heap.size gq kcap V3.heap.size (m + 1) (.slice (some ⟨gs, 0, none⟩) (m + 1) scap) (stepL key b m) (g x) := fun x => HM.out.below ((hg _).2 ⟨x, rfl⟩)
            have HGI := Lib.hid hg
            have HRX := Lib.hid hrx
            have hkx : ∀ x, (g x).rangeAt gq ((m + 1) * 16) (bv (kS key (m + 1))) := fun x => owns_range (hrx x).2.2.1 (m + 1) _ (kS_length key HK.out (m + 1)) (fun j hj => flatK_get key HK.out (m + 1) j hj 11 hm11)
            have HKX := Lib.hid hkx
            clear hg hrx hkx
            refine Ext.region 9 (Ext.at_ [(8, Ext.eqS (.agg (bv (stepL key b (m + 1))).toArray))]) (fun w' => ∃ x, w' = g x) (by kernel_rfl) (by kernel_rfl) ((HGI.out _).1 (Ext.Over.drew wr)) (Ext.at_stable (by
              intro p hp v
              simp only [List.mem_cons, List.not_mem_nil, or_false] at hp
              rcases hp with rfl
              exact Ext.eqS_stable _ _)) ?_
            simp only [List.take_succ_cons, List.take_zero, List.drop_succ_cons, List.drop_zero]
            refine Ext.walk_load (Ext.wanted_plain rfl) rfl 29 _ rfl w.heap.size 0 rfl (bv (stepL key b m)) _ (by rintro _ ⟨x, rfl⟩; exact (HRX.out x).1.range) Try.underlying29 rfl I16.out ?_
            simp only [Act.put, List.setIfInBounds_toArray, List.set_cons_zero, List.set_cons_succ]
            refine Ext.walk_take 3 (by kernel_rfl) (by kernel_rfl) (by kernel_rfl) ?_
            simp only [List.take_succ_cons, List.take_zero, List.drop_succ_cons, List.drop_zero]
            repeat (go_big_quiet_step (fail))
            refine wpQuiet_nil ?_
            refine Ext.walk_load (Ext.wanted_plain rfl) rfl 29 _ rfl gq ((m + 1) * 16) rfl (bv (kS key (m + 1))) _ (by rintro _ ⟨x, rfl⟩; exact HKX.out x) Try.underlying29 rfl K16.out ?_
            simp only [Act.put, List.setIfInBounds_toArray, List.set_cons_zero, List.set_cons_succ]
            refine Ext.walk_take 2 (by kernel_rfl) (by kernel_rfl) (by kernel_rfl) ?_
            simp only [List.take_succ_cons, List.take_zero, List.drop_succ_cons, List.drop_zero]
            repeat (go_big_quiet_step (fail))
            refine wpQuiet_nil ?_
            refine Ext.walk_load (Ext.wanted_plain rfl) rfl 83 _ rfl w1.heap.size 0 rfl tabL _ (by rintro _ ⟨x, rfl⟩; exact (HRX.out x).2.1.range) Try.underlying83 rfl T256.out ?_
            simp only [Act.put, List.setIfInBounds_toArray, List.set_cons_zero, List.set_cons_succ]
            refine Ext.walk_spec _ rfl rfl ?_ ?_
            · rintro _ ⟨x, rfl⟩ _
              go_simp
              refine Ext.call_eq HGI.out ?_
              rw [← EL.out]
              exact rround_any (stepL key b m) (kS key (m + 1)) _ _ (stepL_length key b m) (kS_length key HK.out _) (stepL_byt key b HB.out HBb.out m)
            · rintro v rfl
              simp only [Act.put, List.setIfInBounds_toArray, List.set_cons_zero, List.set_cons_succ]
              refine Ext.walk_end ?_
              intro W5 hWx _
              have hov : Ext.Over wr W5 := (HGI.out _).2 hWx
              have H5 := Lib.hid (HM.out.below hov)
              refine wpList_store_Row rfl 29 _ _ rfl w.heap.size (bv (stepL key b (m + 1))) rfl rfl H5.out.1 S16.out (by rw [bv_length, bv_length, stepL_length, stepL_length]) (bv_one _) ?_
              have H6 := Lib.hid (H5.out.put (stepL key b (m + 1)))
              generalize W5.setRow _ _ = W6 at H6 ⊢
              clear hov hWx HRX HKX HGI H5 HM I16 K16 EL
              clear hX g X
              simp only [Act.put]
              have happ := Row.new W6 29 (bv (stepL key b (m + 1)))
              have HA := Lib.hid happ
              obtain ⟨i0, hi, hz0, hz1, hz2⟩ := info_parts infoBlk
              have hm0 : m + 1 + 1 ≤ maxLen := Nat.le_trans (show m + 1 + 1 ≤ 12 by omega) (by decide)
              have h3s : V3.heap.size ≤ W6.heap.size := by have := (H6.out.2.2.2.1.lt gs rfl); omega
              clear happ
              go_wp2_with (first
                | (refine wpList_load_Row rfl 29 _ rfl _ rfl H6.out.1 Try.underlying29 S16.out ?_)
                | (refine wpList_buildBv rfl _ rfl (stepL key b (m + 1)) (stepL_length key b (m + 1)) rfl ?_)
                | (at_builtin; refine wpList_append_own _ rfl _ _ 37 rfl V3.heap.size 29 i0 _ 16 16 Try.underlying37 hi hz0 hz1 hz2 (by simp [Value.cells, bv, zeroL, tab]) (by decide) _ (m + 1) (flatS key b (m + 1)) rfl (owns_below H6.out.2.2.2.1 ((Below.refl W6.heap.size W6).alloc (Nat.le_refl _) _) (fun k hk => (H6.out.2.2.2.1.lt k hk).2)) ⟨W6.heap.size, 0, none⟩ 1 1 (bv (stepL key b (m + 1))) rfl (by rw [bv_length, stepL_length]) (fun j u hu => by rw [Addr.add_mid, Nat.zero_add]; exact HA.out.cell hu) (bv_one _) hm0 (by omega) (by simp; omega) ?_))
              intro v' w7 hown' hgrow _
              have hR' : RSt w.heap.size w key b w1.heap.size V.heap.size gq kcap V3.heap.size (m + 1 + 1) v' (stepL key b (m + 1)) w7 := by
                obtain ⟨h0, h1, h2, h3, h4, h5, h6, h7, h8⟩ := H6.out
                have hgs := (h3.lt gs rfl).1
                have blk : ∀ k, k < V3.heap.size → w7.heap[k]? = W6.heap[k]? := fun k hk => (hgrow.block k (by simp; omega) (by intro e; simp [Value.ownBlock] at e; omega)).trans (Below.heap_alloc W6 _ k (by omega))
                have hbl : Below V3.heap.size W6 w7 := ⟨hgrow.os, hgrow.tape, hgrow.output, by have := hgrow.size; simp at this; omega, fun k hk => blk k hk⟩
                exact ⟨h0.below hbl (by omega), h1.below hbl (by omega), owns_below h2 hbl (fun k hk => by cases hk; omega), hown', h4.trans (hbl.mono (by omega)), h5, h6, h7, h8⟩
              have HR' := Lib.hid hR'
              clear hR' hown' hgrow H6 HA
              go_wp2
              go_roundg (20 - (m + 1 + 1))
              case measure => have := HG.out; omega
              case rel => exact ⟨m + 1 + 1, by omega, by omega, rfl, by go_num, by rw [Nat.add_sub_cancel]; exact HR'.out⟩
          · have hm : m + 1 = 11 := by omega
            rw [hm] at HM
            have hR := HM.out
            clear HM
            go_wp2
            refine bodyPost_ret (results_tmp rfl _ _ _) rfl ⟨.slice (some ⟨gs, 0, none⟩) (m + 1) scap, rfl, ?_, hR.2.2.2.2.1⟩
            rw [hm]
            exact owns_base hR.2.2.2.1 (by omega)
end Go.Proofs.Ytfkpilfnhgjmfaa
