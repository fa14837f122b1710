/-
  cmac: the tag of what came.
-/
import Derived.Test.YtfkpilfnhgjmfaaCFill
namespace Go.Proofs.Ytfkpilfnhgjmfaa
open Go.RowKit
theorem fillL_length (key r : List Int) : (fillL key r).length = 16 := by unfold fillL; split <;> exact xorL_length _ _
theorem tab16_byt {r : List Int} (h : Byt r) : Byt (tab 16 (el r)) := byt_tab fun i _ => h i
theorem set_byt {l : List Int} (h : Byt l) (i : Nat) (x : Int) (h0 : 0 ≤ x) (h1 : x < 256) : Byt (l.set i x) := fun j => by
  unfold el
  rw [List.getD_eq_getElem?_getD, List.getElem?_set]
  split
  · split
    · exact ⟨h0, h1⟩
    · simp
  · have := h j
    unfold el at this
    rwa [List.getD_eq_getElem?_getD] at this
theorem fillL_byt {key r : List Int} (hk : Byt key) (hr : Byt r) : Byt (fillL key r) := by
  unfold fillL
  split
  · exact xorL_byt (tab16_byt hr) (k1L_byt hk)
  · exact xorL_byt (set_byt (tab16_byt hr) _ _ (by omega) (by omega)) (k2L_byt hk)
set_option maxRecDepth 100000 in
set_option maxHeartbeats 1600000 in
theorem cMTag_any (B g : Nat) (key x r : List Int) (lv : Value) (w : World) (hk : key.length = 16) (hB : Byt key) (hx : x.length = 16) (hbx : Byt x) (hbr : Byt r) (hr : r.length ≤ 16) (rc : IsCip w g key) (rB : Row w B 101 (macL (some ⟨g, 0, none⟩) x lv)) (hs : Sl w lv r) :
    Calls Try.prog 46 #[.pointer (some ⟨B, 0, none⟩)] w fun e w' => e = .returned (.tuple #[.agg (bv (makeL key (xorL x (fillL key r)))).toArray, .int .i64 0]) ∧ Below w.heap.size w w' := by
  have HK := Lib.hid hk
  have HB := Lib.hid hB
  have HX := Lib.hid hx
  have HBX := Lib.hid hbx
  have HR := Lib.hid hr
  obtain ⟨a, ha⟩ : ∃ a, a = k1L key := ⟨_, rfl⟩
  obtain ⟨b, hb⟩ : ∃ b, b = k2L key := ⟨_, rfl⟩
  have hal : a.length = 16 := by rw [ha]; exact k1L_length _
  have hbl : b.length = 16 := by rw [hb]; exact k2L_length _
  obtain ⟨f, hf⟩ : ∃ f, f = fillL key r := ⟨_, rfl⟩
  have hfl : f.length = 16 := by rw [hf]; exact fillL_length _ _
  have hfb : Byt f := by rw [hf]; exact fillL_byt hB hbr
  obtain ⟨u, hu⟩ : ∃ u, u = makeL key (xorL x f) := ⟨_, rfl⟩
  have hul : u.length = 16 := by rw [hu]; exact makeL_length _ _
  have H0 := Lib.hid (And.intro rc (And.intro rB hs))
  have HFB := Lib.hid hfb
  have HAB := Lib.hid (And.intro ha (And.intro hb (And.intro hf hu)))
  rw [← hf, ← hu]
  have i16 : ∀ l : List Int, l.length = 16 → (Try.prog.info? 29).map (·.size) = some (bv l).length := fun l h => by rw [bv_length, h]; kernel_rfl
  have I16 := Lib.hid i16
  have lin : ∀ l : List Int, l.length = 16 → (bv (zeroL 16)).length = (bv l).length := fun l h => by rw [bv_length, bv_length, h, zeroL_length]
  have LIN := Lib.hid lin
  obtain ⟨HR0, HR1, HBL⟩ := rows2 w 67 29 [.pointer (some ⟨B, 0, none⟩)] (bv (zeroL 16))
  clear hk hB hx hbx hbr hr rc rB hs ha hb hf hu hfb i16 lin
  go_enter Try.func46, Try.ntmps46
  go_wp2_with (fail)
  generalize hV : (w.alloc _).alloc _ = V
  have HV : Hid (Row V w.heap.size 67 [.pointer (some ⟨B, 0, none⟩)] ∧ Row V (w.heap.size + 1) 29 (bv (zeroL 16)) ∧ Below w.heap.size w V ∧ IsCip V g key ∧ Row V B 101 (macL (some ⟨g, 0, none⟩) x lv) ∧ Sl V lv r) := by
    have hb : Below w.heap.size w V := by rw [← hV]; exact HBL.out
    exact ⟨by rw [← hV]; exact HR0.out, by rw [← hV]; exact HR1.out, hb, Row.below H0.out.1 hb (Row.lt H0.out.1), H0.out.2.1.below hb H0.out.2.1.lt, H0.out.2.2.over hb⟩
  clear hV HR0 HR1 HBL H0
  have c0 := HV.out.1.cell (i := 0) rfl
  refine (cNone_any B g x lv V HV.out.2.2.2.2.1).mono ?_
  rintro e w' ⟨rfl, rfl⟩
  go_wp2_with (fail)
  have how := cOwn_any B g key x lv V HK.out HB.out HV.out.2.2.2.1 HV.out.2.2.2.2.1
  rw [← HAB.out.1, ← HAB.out.2.1] at how
  refine how.mono ?_
  clear how
  rintro e w1 ⟨rfl, hb1⟩
  have H1 : Hid (Row w1 w.heap.size 67 [.pointer (some ⟨B, 0, none⟩)] ∧ Row w1 (w.heap.size + 1) 29 (bv (zeroL 16)) ∧ Below w.heap.size w w1 ∧ IsCip w1 g key ∧ Row w1 B 101 (macL (some ⟨g, 0, none⟩) x lv) ∧ Sl w1 lv r) := by
    obtain ⟨h1, h2, h3, h4, h5, h6⟩ := HV.out
    exact ⟨h1.below hb1 h1.lt, h2.below hb1 h2.lt, h3.trans (hb1.mono h3.size), Row.below h4 hb1 (Row.lt h4), h5.below hb1 h5.lt, h6.over hb1⟩
  clear hb1 HV c0
  obtain ⟨HS0, HS1, HSB⟩ := rows2 w1 29 29 (bv (zeroL 16)) (bv (zeroL 16))
  have hput : Row ((w1.alloc (.cells (bv (zeroL 16)).toArray 29)).alloc (.cells (bv (zeroL 16)).toArray 29)) w1.heap.size 29 (bv (zeroL 16)) := HS0.out
  go_wp2_with (refine wpList_store_Row rfl 29 _ _ rfl w1.heap.size (bv a) rfl rfl HS0.out (I16.out a hal) (LIN.out a hal) (bv_one _) ?_; refine stay ?_)
  refine go_on ?_
  refine wpList_store_Row rfl 29 _ _ rfl (w1.heap.size + 1) (bv b) rfl rfl (HS1.out.putOther (by omega) _) (I16.out b hbl) (LIN.out b hbl) (bv_one _) ?_
  have H2 : Hid (Row ((((w1.alloc (.cells (bv (zeroL 16)).toArray 29)).alloc (.cells (bv (zeroL 16)).toArray 29)).setRow w1.heap.size (bv a).toArray).setRow (w1.heap.size + 1) (bv b).toArray) w1.heap.size 29 (bv a) ∧
      Row ((((w1.alloc (.cells (bv (zeroL 16)).toArray 29)).alloc (.cells (bv (zeroL 16)).toArray 29)).setRow w1.heap.size (bv a).toArray).setRow (w1.heap.size + 1) (bv b).toArray) (w1.heap.size + 1) 29 (bv b) ∧
      Below w1.heap.size w1 ((((w1.alloc (.cells (bv (zeroL 16)).toArray 29)).alloc (.cells (bv (zeroL 16)).toArray 29)).setRow w1.heap.size (bv a).toArray).setRow (w1.heap.size + 1) (bv b).toArray)) :=
    ⟨(HS0.out.put _).putOther (by omega) _, (HS1.out.putOther (by omega) _).put _, below_setRow (below_setRow HSB.out (Nat.le_refl _) _) (Nat.le_succ _) _⟩
  generalize hW2 : (((w1.alloc _).alloc _).setRow _ _).setRow _ _ = w2
  have H2' : Hid (Row w2 w1.heap.size 29 (bv a) ∧ Row w2 (w1.heap.size + 1) 29 (bv b) ∧ Below w1.heap.size w1 w2) := by rw [← hW2]; exact H2.out
  clear HS0 HS1 HSB hput H2 hW2
  have H3 : Hid (Row w2 w.heap.size 67 [.pointer (some ⟨B, 0, none⟩)] ∧ Row w2 (w.heap.size + 1) 29 (bv (zeroL 16)) ∧ Below w.heap.size w w2 ∧ IsCip w2 g key ∧ Row w2 B 101 (macL (some ⟨g, 0, none⟩) x lv) ∧ Sl w2 lv r ∧ Row w2 w1.heap.size 29 (bv a) ∧ Row w2 (w1.heap.size + 1) 29 (bv b)) := by
    obtain ⟨h1, h2, h3, h4, h5, h6⟩ := H1.out
    obtain ⟨q1, q2, hb1⟩ := H2'.out
    exact ⟨h1.below hb1 h1.lt, h2.below hb1 h2.lt, h3.trans (hb1.mono h3.size), Row.below h4 hb1 (Row.lt h4), h5.below hb1 h5.lt, h6.over hb1, q1, q2⟩
  clear H1 H2'
  go_upto_region 5 with (fail)
  obtain ⟨X, hX, gx, hgx⟩ := Ext.over_index w2
  have hov : ∀ x', Below w2.heap.size w2 (gx x') := fun x' => (hgx _).2 ⟨x', rfl⟩
  have c0 : ∀ x', (gx x').cell? ⟨w.heap.size, 0, none⟩ = some (.pointer (some ⟨B, 0, none⟩)) := fun x' => (H3.out.1.below (hov x') H3.out.1.lt).cell (i := 0) rfl
  have hrB : ∀ x', Row (gx x') B 101 (macL (some ⟨g, 0, none⟩) x lv) := fun x' => H3.out.2.2.2.2.1.below (hov x') H3.out.2.2.2.2.1.lt
  have hcx : ∀ x', IsCip (gx x') g key := fun x' => Row.below H3.out.2.2.2.1 (hov x') (Row.lt H3.out.2.2.2.1)
  have hfx : ∀ x', Calls Try.prog 70 #[.pointer (some ⟨w.heap.size, 0, none⟩), .pointer (some ⟨w1.heap.size, 0, none⟩), .pointer (some ⟨w1.heap.size + 1, 0, none⟩)] (gx x') fun e w' => e = .returned (.agg (bv f).toArray) ∧ Below (gx x').heap.size (gx x') w' := fun x' => by
    obtain ⟨h1, h2, h3, h4, h5, h6, h7, h8⟩ := H3.out
    rw [HAB.out.1] at h7
    rw [HAB.out.2.1] at h8
    rw [HAB.out.2.2.1]
    exact cFilled_any _ _ _ B g key x r lv (gx x') (h1.below (hov x') h1.lt) (hrB x') HX.out (h6.over (hov x')) HR.out (h7.below (hov x') h7.lt) (h8.below (hov x') h8.lt)
  have HRB := Lib.hid hrB
  have HCX := Lib.hid hcx
  have HFX := Lib.hid hfx
  have HGI := Lib.hid hgx
  clear hov hrB hcx hfx hgx
  refine Ext.region 9 (Ext.at_ [(6, Ext.eqS (.agg (bv f).toArray)), (7, Ext.eqS (.agg (bv (xorL x f)).toArray)), (8, Ext.eqS (.agg (bv u).toArray))]) (fun w' => ∃ x, w' = gx x) (by kernel_rfl) (by kernel_rfl) ((HGI.out _).1 (Ext.Over.drew w2)) (Ext.at_stable (by
    intro p hp v
    simp only [List.mem_cons, List.not_mem_nil, or_false] at hp
    rcases hp with rfl | rfl | rfl <;> exact Ext.eqS_stable _ _)) ?_
  simp only [List.take_succ_cons, List.take_zero, List.drop_succ_cons, List.drop_zero]
  refine Ext.walk_take 2 (by kernel_rfl) (by kernel_rfl) (by kernel_rfl) ?_
  simp only [List.take_succ_cons, List.take_zero, List.drop_succ_cons, List.drop_zero]
  repeat (go_big_quiet_step (fail))
  refine wpQuiet_nil ?_
  refine Ext.walk_det (.pointer (some ⟨B, 0, none⟩)) (Ext.wanted_plain rfl) rfl (by intro _ _; go_simp) ?_
  simp only [Act.put, List.setIfInBounds_toArray, List.set_cons_zero, List.set_cons_succ]
  refine Ext.walk_take 1 (by kernel_rfl) (by kernel_rfl) (by kernel_rfl) ?_
  simp only [List.take_succ_cons, List.take_zero, List.drop_succ_cons, List.drop_zero]
  repeat (go_big_quiet_step (fail))
  refine wpQuiet_nil ?_
  refine Ext.walk_load (by kernel_rfl) rfl 29 _ rfl B 1 rfl (bv x) _ (by rintro _ ⟨x', rfl⟩; exact mac_range (HRB.out x')) Try.underlying29 rfl (I16.out x HX.out) ?_
  simp only [Act.put, List.setIfInBounds_toArray, List.set_cons_zero, List.set_cons_succ]
  refine Ext.walk_take 1 (by kernel_rfl) (by kernel_rfl) (by kernel_rfl) ?_
  simp only [List.take_succ_cons, List.take_zero, List.drop_succ_cons, List.drop_zero]
  repeat (go_big_quiet_step (fail))
  refine wpQuiet_nil ?_
  refine Ext.walk_spec _ rfl rfl (by rintro _ ⟨x', rfl⟩ _; go_simp; exact Ext.call_eq HGI.out (HFX.out x')) ?_
  rintro v rfl
  simp only [Act.put, List.setIfInBounds_toArray, List.set_cons_zero, List.set_cons_succ]
  refine Ext.walk_spec _ rfl rfl (by rintro _ ⟨x', rfl⟩ _; go_simp; exact Ext.call_eq HGI.out (cXor_any x f _ HX.out hfl)) ?_
  rintro v rfl
  simp only [Act.put, List.setIfInBounds_toArray, List.set_cons_zero, List.set_cons_succ]
  refine Ext.walk_spec _ rfl rfl (by
    rintro _ ⟨x', rfl⟩ _
    go_simp
    refine Ext.call_eq HGI.out ?_
    rw [HAB.out.2.2.2]
    exact cMade_any B g key x (xorL x f) lv _ HK.out HB.out (xorL_length _ _) (xorL_byt HBX.out HFB.out) (HCX.out x') (HRB.out x')) ?_
  rintro v rfl
  simp only [Act.put, List.setIfInBounds_toArray, List.set_cons_zero, List.set_cons_succ]
  refine Ext.walk_end ?_
  intro wx hwx _
  have hov : Below w2.heap.size w2 wx := (HGI.out _).2 hwx
  have H4 : Hid (Row wx (w.heap.size + 1) 29 (bv (zeroL 16)) ∧ Below w.heap.size w wx) := ⟨H3.out.2.1.below hov H3.out.2.1.lt, H3.out.2.2.1.trans (hov.mono H3.out.2.2.1.size)⟩
  clear hwx hov HRB HCX HFX HGI c0 hX gx X H3
  refine wpList_store_Row rfl 29 _ _ rfl (w.heap.size + 1) (bv u) rfl rfl H4.out.1 (I16.out u hul) (LIN.out u hul) (bv_one _) ?_
  have H5 : Row (wx.setRow (w.heap.size + 1) (bv u).toArray) (w.heap.size + 1) 29 (bv u) ∧ Below w.heap.size w (wx.setRow (w.heap.size + 1) (bv u).toArray) := ⟨H4.out.1.put _, below_setRow H4.out.2 (Nat.le_succ _) _⟩
  generalize wx.setRow _ _ = W at H5 ⊢
  clear H4
  go_wp2
  exact bodyPost_ret (results_Row_tmp rfl _ _ (w.heap.size + 1) rfl H5.1 Try.underlying29 (I16.out u hul)) rfl ⟨rfl, H5.2⟩
end Go.Proofs.Ytfkpilfnhgjmfaa
