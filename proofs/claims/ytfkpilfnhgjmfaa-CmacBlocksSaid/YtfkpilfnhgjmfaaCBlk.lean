/-
  few; the key's blocks, by the code and by the reference.
-/
import Derived.Test.YtfkpilfnhgjmfaaCTag
import Derived.Test.YtfkpilfnhgjmfaaCDblR
import Derived.Test.YtfkpilfnhgjmfaaRMake
namespace Go.Proofs.Ytfkpilfnhgjmfaa
open Go.RowKit
set_option maxRecDepth 100000 in
set_option maxHeartbeats 800000 in
theorem few_any (v : Value) (L : List (List Int)) (w : World) (hp : Pts w v L) (hn : L.length ≤ 1000000) :
    Calls Try.prog 36 #[v] w fun e w' => ∃ r, e = .returned (.bool r) ∧ w = w' ∧ (r = true ↔ ∀ j, j < L.length → (L.getD j []).length ≤ 200) := by
  obtain ⟨p, pc, hv, hpt⟩ := hp
  have HP := Lib.hid hpt
  obtain ⟨n, hnn⟩ : ∃ n, n = L.length := ⟨_, rfl⟩
  rw [← hnn] at hv hn ⊢
  have HN := Lib.hid hnn
  clear hpt hnn
  subst hv
  go_enter Try.func36, Try.ntmps36
  go_wp2_with (fail)
  go_loopw [3] (fun i wr => ∃ k : Nat, k ≤ n ∧ i = .int .i64 (k : Int) ∧ wr = w ∧ ∀ j, j < k → (L.getD j []).length ≤ 200) (fun i _ => n - (intOf i).toNat)
  case atStart => exact ⟨0, Nat.zero_le _, rfl, rfl, fun j hj => absurd hj (Nat.not_lt_zero _)⟩
  case round =>
    obtain ⟨k, hk, rfl, rfl, hall⟩ := hrel
    have HA := Lib.hid hall
    clear hall
    by_cases hkn : k < n
    · obtain ⟨pb, po, u, rfl, hcu, hsu⟩ := HP.out k (by rw [← HN.out]; exact hkn)
      obtain ⟨pu, cu, hu⟩ := hsu.form
      obtain ⟨m, hm⟩ : ∃ m, m = (L.getD k []).length := ⟨_, rfl⟩
      rw [← hm] at hu
      have HM := Lib.hid hm
      subst hu
      have hk0 : (0 : Int) ≤ (k : Int) := by omega
      have hki : (k : Int) < (n : Int) := by omega
      clear hsu hm
      by_cases hbig : m > 200
      · have hd : decide ((m : Int) > 200) = true := decide_eq_true (by omega)
        go_wp2
        go_ret
        exact ⟨false, rfl, by first | rfl | trivial, ⟨fun h => (by cases h), fun h => (by have := h k hkn; have := HM.out; omega)⟩⟩
      · have hd : decide ((m : Int) > 200) = false := decide_eq_false (by omega)
        have HS : Hid (∀ j, j < k + 1 → (L.getD j []).length ≤ 200) := fun j hj => by
          by_cases e : j = k
          · subst e
            have := HM.out
            omega
          · exact HA.out j (by omega)
        go_wp2
        go_roundw
        case rel => exact ⟨k + 1, hkn, by go_num, by first | rfl | trivial, HS.out⟩
        case measure => simp [intOf]; omega
    · have hkk : k = n := by omega
      subst hkk
      go_wp2
      go_ret
      exact ⟨true, rfl, by first | rfl | trivial, ⟨fun _ => HA.out, fun _ => rfl⟩⟩
theorem results_Row3 {P : Program} {fn : Func} {p q u : Tmp} {ty : TypeId} (h : fn.results = #[.cell p ty, .cell q ty, .tmp u]) (tmps : Array Value) (w : World) (g g' : Nat) {t t' : TypeId} {vs vs' : List Value} {n : Nat} {e : TypeId}
    (hp : tmps.getD p undef = .pointer (some ⟨g, 0, none⟩)) (hq : tmps.getD q undef = .pointer (some ⟨g', 0, none⟩)) (hg : Row w g t vs) (hg' : Row w g' t' vs')
    (hu : P.underlying ty = some (.array n e)) (hi : (P.info? ty).map (·.size) = some vs.length) (hi' : (P.info? ty).map (·.size) = some vs'.length) :
    (results fn tmps).run P w = .ok (.tuple #[.agg vs.toArray, .agg vs'.toArray, tmps.getD u undef]) w := by
  have hp' : tmps[p]?.getD undef = .pointer (some ⟨g, 0, none⟩) := by simpa using hp
  have hq' : tmps[q]?.getD undef = .pointer (some ⟨g', 0, none⟩) := by simpa using hq
  have hl := run_loadVar_mid (P := P) w g 0 ty vs _ hg.range hu rfl hi
  have hl' := run_loadVar_mid (P := P) w g' 0 ty vs' _ hg'.range hu rfl hi'
  simp [results, h, hp', hq', asAddr, hl, hl']
set_option maxRecDepth 100000 in
set_option maxHeartbeats 1600000 in
theorem r4Blocks_any (key : List Int) (b o cap : Nat) (w : World) (hk : key.length = 16) (hB : Byt key) (hr : w.rangeAt b o (bv key)) :
    Calls Try.prog 39 #[.slice (some ⟨b, o, none⟩) 16 cap] w fun e w' => e = .returned (.tuple #[.agg (bv (k1L key)).toArray, .agg (bv (k2L key)).toArray]) ∧ Below w.heap.size w w' := by
  have HK := Lib.hid hk
  have HB := Lib.hid hB
  have HR := Lib.hid hr
  have hzb := zero_blk'
  obtain ⟨HR0, HR1, HBL⟩ := rows2 w 29 29 (bv (zeroL 16)) (bv (zeroL 16))
  have i16 : ∀ l : List Int, l.length = 16 → (Try.prog.info? 29).map (·.size) = some (bv l).length := fun l h => by rw [bv_length, h]; kernel_rfl
  have I16 := Lib.hid i16
  have lin : ∀ l : List Int, l.length = 16 → (bv (zeroL 16)).length = (bv l).length := fun l h => by rw [bv_length, bv_length, h, zeroL_length]
  have LIN := Lib.hid lin
  obtain ⟨c, hc⟩ : ∃ c, c = k1L key := ⟨_, rfl⟩
  obtain ⟨d, hd⟩ : ∃ d, d = k2L key := ⟨_, rfl⟩
  have hcl : c.length = 16 := by rw [hc]; exact k1L_length _
  have hdl : d.length = 16 := by rw [hd]; exact k2L_length _
  have hd1 : ∀ w' : World, Calls Try.prog 34 #[.agg (bv (stepL key (zeroL 16) 10)).toArray] w' fun e w'' => e = .returned (.agg (bv c).toArray) ∧ Below w'.heap.size w' w'' := fun w' => by
    rw [hc]; exact r4Double_any _ w' (makeL_length _ _) (makeL_byt hB (zeroL_byt 16))
  have hd2 : ∀ w' : World, Calls Try.prog 34 #[.agg (bv c).toArray] w' fun e w'' => e = .returned (.agg (bv d).toArray) ∧ Below w'.heap.size w' w'' := fun w' => by
    rw [hd, k2L, ← hc]; exact r4Double_any _ w' hcl (by rw [hc]; exact k1L_byt hB)
  have HD1 := Lib.hid hd1
  have HD2 := Lib.hid hd2
  rw [← hc, ← hd]
  clear hk hB hr i16 lin hc hd hd1 hd2
  go_enter Try.func39, Try.ntmps39
  go_wp2_with (fail)
  generalize hV : (w.alloc _).alloc _ = V
  have HV : Hid (Row V w.heap.size 29 (bv (zeroL 16)) ∧ Row V (w.heap.size + 1) 29 (bv (zeroL 16)) ∧ Below w.heap.size w V) := by rw [← hV]; exact ⟨HR0.out, HR1.out, HBL.out⟩
  clear hV HR0 HR1 HBL
  refine (rMake_any b o cap key (zeroL 16) V HK.out HB.out (zeroL_length 16) (zeroL_byt 16) (fun j u hu => by have := HR.out j u hu; exact (HV.out.2.2.cell (p := ⟨b, o + j, none⟩) (World.block_lt_of_cell? w _ this)).trans this)).mono ?_
  rintro e w1 ⟨rfl, hb1⟩
  go_wp2_with (fail)
  refine (HD1.out w1).mono ?_
  rintro e w2 ⟨rfl, hb2⟩
  have hbV : Below V.heap.size V w2 := hb1.trans (hb2.mono hb1.size)
  have H2 : Hid (Row w2 w.heap.size 29 (bv (zeroL 16)) ∧ Row w2 (w.heap.size + 1) 29 (bv (zeroL 16)) ∧ Below w.heap.size w w2) := ⟨HV.out.1.below hbV HV.out.1.lt, HV.out.2.1.below hbV HV.out.2.1.lt, HV.out.2.2.trans (hbV.mono HV.out.2.2.size)⟩
  have n2 := Lib.hid (Row.new w2 29 (bv (zeroL 16)))
  clear hb1 hb2 hbV HV HR
  go_wp2_with (refine wpList_store_Row rfl 29 _ _ rfl w2.heap.size (bv c) rfl rfl n2.out (I16.out c hcl) (LIN.out c hcl) (bv_one _) ?_; refine stay ?_)
  refine go_on ?_
  have hF : Row ((w2.alloc (.cells (bv (zeroL 16)).toArray 29)).setRow w2.heap.size (bv c).toArray) w2.heap.size 29 (bv c) ∧ Below w2.heap.size w2 ((w2.alloc (.cells (bv (zeroL 16)).toArray 29)).setRow w2.heap.size (bv c).toArray) :=
    ⟨n2.out.put _, below_setRow ((Below.refl _ w2).alloc (Nat.le_refl _) _) (Nat.le_refl _) _⟩
  generalize hW3 : (w2.alloc _).setRow _ _ = w3
  have H3 : Hid (Row w3 w2.heap.size 29 (bv c) ∧ Row w3 w.heap.size 29 (bv (zeroL 16)) ∧ Row w3 (w.heap.size + 1) 29 (bv (zeroL 16)) ∧ Below w.heap.size w w3) := by
    rw [← hW3]; exact ⟨hF.1, H2.out.1.below hF.2 H2.out.1.lt, H2.out.2.1.below hF.2 H2.out.2.1.lt, H2.out.2.2.trans (hF.2.mono H2.out.2.2.size)⟩
  clear hW3 hF n2 H2
  go_upto_region 2 with (fail)
  obtain ⟨X, hX, gx, hgx⟩ := Ext.over_index w3
  have hra : ∀ x', Row (gx x') w2.heap.size 29 (bv c) := fun x' => H3.out.1.below ((hgx _).2 ⟨x', rfl⟩) H3.out.1.lt
  have HRA := Lib.hid hra
  have HGI := Lib.hid hgx
  clear hra hgx
  refine Ext.region 3 (Ext.at_ [(2, Ext.eqS (.agg (bv d).toArray))]) (fun w' => ∃ x, w' = gx x) (by kernel_rfl) (by kernel_rfl) ((HGI.out _).1 (Ext.Over.drew w3)) (Ext.at_stable (by
    intro p hp v
    simp only [List.mem_cons, List.not_mem_nil, or_false] at hp
    rcases hp with rfl
    exact Ext.eqS_stable _ _)) ?_
  simp only [List.take_succ_cons, List.take_zero, List.drop_succ_cons, List.drop_zero]
  refine Ext.walk_load (Ext.wanted_plain rfl) rfl 29 _ rfl w2.heap.size 0 rfl (bv c) _ (by rintro _ ⟨x', rfl⟩; exact (HRA.out x').range) Try.underlying29 rfl (I16.out c hcl) ?_
  simp only [Act.put, List.setIfInBounds_toArray, List.set_cons_zero, List.set_cons_succ]
  refine Ext.walk_load (Ext.wanted_plain rfl) rfl 29 _ rfl w2.heap.size 0 rfl (bv c) _ (by rintro _ ⟨x', rfl⟩; exact (HRA.out x').range) Try.underlying29 rfl (I16.out c hcl) ?_
  simp only [Act.put, List.setIfInBounds_toArray, List.set_cons_zero, List.set_cons_succ]
  refine Ext.walk_spec _ rfl rfl (by rintro _ ⟨x', rfl⟩ _; go_simp; exact Ext.call_eq HGI.out (HD2.out _)) ?_
  rintro v rfl
  simp only [Act.put, List.setIfInBounds_toArray, List.set_cons_zero, List.set_cons_succ]
  refine Ext.walk_end ?_
  intro wx hwx _
  have hov : Below w3.heap.size w3 wx := (HGI.out _).2 hwx
  have H4 : Hid (Row wx w.heap.size 29 (bv (zeroL 16)) ∧ Row wx (w.heap.size + 1) 29 (bv (zeroL 16)) ∧ Below w.heap.size w wx) := ⟨H3.out.2.1.below hov H3.out.2.1.lt, H3.out.2.2.1.below hov H3.out.2.2.1.lt, H3.out.2.2.2.trans (hov.mono H3.out.2.2.2.size)⟩
  clear hwx hov HRA HGI hX gx X H3
  refine wpList_store_Row rfl 29 _ _ rfl w.heap.size (bv c) rfl rfl H4.out.1 (I16.out c hcl) (LIN.out c hcl) (bv_one _) ?_
  refine wpList_store_Row rfl 29 _ _ rfl (w.heap.size + 1) (bv d) rfl rfl (H4.out.2.1.putOther (by omega) _) (I16.out d hdl) (LIN.out d hdl) (bv_one _) ?_
  have H5 : Hid (Row ((wx.setRow w.heap.size (bv c).toArray).setRow (w.heap.size + 1) (bv d).toArray) w.heap.size 29 (bv c) ∧ Row ((wx.setRow w.heap.size (bv c).toArray).setRow (w.heap.size + 1) (bv d).toArray) (w.heap.size + 1) 29 (bv d) ∧ Below w.heap.size w ((wx.setRow w.heap.size (bv c).toArray).setRow (w.heap.size + 1) (bv d).toArray)) :=
    ⟨(H4.out.1.put _).putOther (by omega) _, (H4.out.2.1.putOther (by omega) _).put _, below_setRow (below_setRow H4.out.2.2 (Nat.le_refl _) _) (Nat.le_succ _) _⟩
  generalize (wx.setRow _ _).setRow _ _ = W at H5 ⊢
  clear H4
  go_wp2
  exact bodyPost_ret (results_Row2 rfl _ _ w.heap.size (w.heap.size + 1) rfl rfl H5.out.1 H5.out.2.1 Try.underlying29 (I16.out c hcl) (I16.out d hdl)) rfl ⟨rfl, H5.out.2.2⟩
end Go.Proofs.Ytfkpilfnhgjmfaa
