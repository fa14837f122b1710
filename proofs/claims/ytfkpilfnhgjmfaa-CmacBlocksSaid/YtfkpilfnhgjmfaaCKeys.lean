/-
  cmac: the key's two blocks.
-/
import Derived.Test.YtfkpilfnhgjmfaaCOwn
namespace Go.Proofs.Ytfkpilfnhgjmfaa
open Go.RowKit
theorem results_Row2 {P : Program} {fn : Func} {p q : Tmp} {ty : TypeId} (h : fn.results = #[.cell p ty, .cell q ty]) (tmps : Array Value) (w : World) (g g' : Nat) {t t' : TypeId} {vs vs' : List Value} {n : Nat} {e : TypeId}
    (hp : tmps.getD p undef = .pointer (some ⟨g, 0, none⟩)) (hq : tmps.getD q undef = .pointer (some ⟨g', 0, none⟩)) (hg : Row w g t vs) (hg' : Row w g' t' vs')
    (hu : P.underlying ty = some (.array n e)) (hi : (P.info? ty).map (·.size) = some vs.length) (hi' : (P.info? ty).map (·.size) = some vs'.length) :
    (results fn tmps).run P w = .ok (.tuple #[.agg vs.toArray, .agg vs'.toArray]) w := by
  have hp' : tmps[p]?.getD undef = .pointer (some ⟨g, 0, none⟩) := by simpa using hp
  have hq' : tmps[q]?.getD undef = .pointer (some ⟨g', 0, none⟩) := by simpa using hq
  have hl := run_loadVar_mid (P := P) w g 0 ty vs _ hg.range hu rfl hi
  have hl' := run_loadVar_mid (P := P) w g' 0 ty vs' _ hg'.range hu rfl hi'
  simp [results, h, hp', hq', asAddr, hl, hl']
theorem zero_blk' (w : World) : (zeroValue 29).run Try.prog w = .ok (.agg (bv (zeroL 16)).toArray) w := by kernel_rfl
theorem zeroL_byt (n : Nat) : Byt (zeroL n) := byt_tab fun _ _ => by omega
/-- the key's blocks -/
def k1L (key : List Int) : List Int := dblL (makeL key (zeroL 16))
def k2L (key : List Int) : List Int := dblL (k1L key)
theorem k1L_length (key : List Int) : (k1L key).length = 16 := dblL_length _
theorem k2L_length (key : List Int) : (k2L key).length = 16 := dblL_length _
theorem k1L_byt {key : List Int} (hk : Byt key) : Byt (k1L key) := dblL_byt (makeL_byt hk (zeroL_byt 16))
theorem k2L_byt {key : List Int} (hk : Byt key) : Byt (k2L key) := dblL_byt (k1L_byt hk)
set_option maxRecDepth 100000 in
set_option maxHeartbeats 800000 in
theorem cOwn_any (B g : Nat) (key x : List Int) (lv : Value) (w : World) (hk : key.length = 16) (hB : Byt key) (rc : IsCip w g key) (h : Row w B 101 (macL (some ⟨g, 0, none⟩) x lv)) :
    Calls Try.prog 65 #[.pointer (some ⟨B, 0, none⟩)] w fun e w' => e = .returned (.tuple #[.agg (bv (k1L key)).toArray, .agg (bv (k2L key)).toArray]) ∧ Below w.heap.size w w' := by
  obtain ⟨HR0, HR1, HBL⟩ := rows2 w 29 29 (bv (zeroL 16)) (bv (zeroL 16))
  have HK := Lib.hid hk
  have HB := Lib.hid hB
  have H0 := Lib.hid (And.intro rc h)
  have hzb := zero_blk'
  have i16 : ∀ l : List Int, l.length = 16 → (Try.prog.info? 29).map (·.size) = some (bv l).length := fun l h => by rw [bv_length, h]; kernel_rfl
  have I16 := Lib.hid i16
  have lin : ∀ l : List Int, l.length = 16 → (bv (zeroL 16)).length = (bv l).length := fun l h => by rw [bv_length, bv_length, h, zeroL_length]
  have LIN := Lib.hid lin
  obtain ⟨a, ha⟩ : ∃ a, a = k1L key := ⟨_, rfl⟩
  obtain ⟨b, hb⟩ : ∃ b, b = k2L key := ⟨_, rfl⟩
  have hal : a.length = 16 := by rw [ha]; exact k1L_length _
  have hbl : b.length = 16 := by rw [hb]; exact k2L_length _
  have hab : Byt a := by rw [ha]; exact k1L_byt hB
  have HAB := Lib.hid hab
  have hd1 : ∀ w' : World, Calls Try.prog 33 #[.agg (bv (makeL key (zeroL 16))).toArray] w' fun e w'' => e = .returned (.agg (bv a).toArray) ∧ Below w'.heap.size w' w'' := fun w' => by
    rw [ha]; exact cDouble_any _ w' (makeL_length _ _) (makeL_byt hB (zeroL_byt 16))
  have hd2 : ∀ w' : World, Calls Try.prog 33 #[.agg (bv a).toArray] w' fun e w'' => e = .returned (.agg (bv b).toArray) ∧ Below w'.heap.size w' w'' := fun w' => by
    rw [hb, k2L, ← ha]; exact cDouble_any _ w' hal hab
  have HD1 := Lib.hid hd1
  have HD2 := Lib.hid hd2
  rw [← ha, ← hb]
  clear hk hB rc h i16 lin ha hb hab hd1 hd2
  go_enter Try.func65, Try.ntmps65
  go_wp2_with (fail)
  generalize hV : (w.alloc _).alloc _ = V
  have HV : Hid (Row V w.heap.size 29 (bv (zeroL 16)) ∧ Row V (w.heap.size + 1) 29 (bv (zeroL 16)) ∧ Below w.heap.size w V) := by rw [← hV]; exact ⟨HR0.out, HR1.out, HBL.out⟩
  clear hV HR0 HR1 HBL
  refine (cMade_any B g key x (zeroL 16) lv V HK.out HB.out (zeroL_length 16) (zeroL_byt 16) (Row.below H0.out.1 HV.out.2.2 (Row.lt H0.out.1)) (H0.out.2.below HV.out.2.2 H0.out.2.lt)).mono ?_
  rintro e w1 ⟨rfl, hb1⟩
  go_wp2_with (fail)
  refine (HD1.out w1).mono ?_
  rintro e w2 ⟨rfl, hb2⟩
  have hbV : Below V.heap.size V w2 := hb1.trans (hb2.mono hb1.size)
  have H2 : Hid (Row w2 w.heap.size 29 (bv (zeroL 16)) ∧ Row w2 (w.heap.size + 1) 29 (bv (zeroL 16)) ∧ Below w.heap.size w w2) := ⟨HV.out.1.below hbV HV.out.1.lt, HV.out.2.1.below hbV HV.out.2.1.lt, HV.out.2.2.trans (hbV.mono HV.out.2.2.size)⟩
  clear hb1 hb2 hbV HV H0
  go_wp2_with (refine wpList_store_Row rfl 29 _ _ rfl w.heap.size (bv a) rfl rfl H2.out.1 (I16.out a hal) (LIN.out a hal) (bv_one _) ?_; refine stay ?_)
  refine go_on ?_
  have H3 : Hid (Row (w2.setRow w.heap.size (bv a).toArray) w.heap.size 29 (bv a) ∧ Row (w2.setRow w.heap.size (bv a).toArray) (w.heap.size + 1) 29 (bv (zeroL 16)) ∧ Below w.heap.size w (w2.setRow w.heap.size (bv a).toArray)) :=
    ⟨H2.out.1.put _, H2.out.2.1.putOther (by omega) _, below_setRow H2.out.2.2 (Nat.le_refl _) _⟩
  generalize w2.setRow _ _ = w3 at H3 ⊢
  clear H2
  go_upto_region 2 with (fail)
  obtain ⟨X, hX, gx, hgx⟩ := Ext.over_index w3
  have hra : ∀ x', Row (gx x') w.heap.size 29 (bv a) := fun x' => H3.out.1.below ((hgx _).2 ⟨x', rfl⟩) H3.out.1.lt
  have HRA := Lib.hid hra
  have HGI := Lib.hid hgx
  clear hra hgx
  refine Ext.region 3 (Ext.at_ [(2, Ext.eqS (.agg (bv b).toArray))]) (fun w' => ∃ x, w' = gx x) (by kernel_rfl) (by kernel_rfl) ((HGI.out _).1 (Ext.Over.drew w3)) (Ext.at_stable (by
    intro p hp v
    simp only [List.mem_cons, List.not_mem_nil, or_false] at hp
    rcases hp with rfl
    exact Ext.eqS_stable _ _)) ?_
  simp only [List.take_succ_cons, List.take_zero, List.drop_succ_cons, List.drop_zero]
  refine Ext.walk_load (Ext.wanted_plain rfl) rfl 29 _ rfl w.heap.size 0 rfl (bv a) _ (by rintro _ ⟨x', rfl⟩; exact (HRA.out x').range) Try.underlying29 rfl (I16.out a hal) ?_
  simp only [Act.put, List.setIfInBounds_toArray, List.set_cons_zero, List.set_cons_succ]
  refine Ext.walk_load (Ext.wanted_plain rfl) rfl 29 _ rfl w.heap.size 0 rfl (bv a) _ (by rintro _ ⟨x', rfl⟩; exact (HRA.out x').range) Try.underlying29 rfl (I16.out a hal) ?_
  simp only [Act.put, List.setIfInBounds_toArray, List.set_cons_zero, List.set_cons_succ]
  refine Ext.walk_spec _ rfl rfl (by rintro _ ⟨x', rfl⟩ _; go_simp; exact Ext.call_eq HGI.out (HD2.out _)) ?_
  rintro v rfl
  simp only [Act.put, List.setIfInBounds_toArray, List.set_cons_zero, List.set_cons_succ]
  refine Ext.walk_end ?_
  intro wx hwx _
  have hov : Below w3.heap.size w3 wx := (HGI.out _).2 hwx
  have H4 : Hid (Row wx w.heap.size 29 (bv a) ∧ Row wx (w.heap.size + 1) 29 (bv (zeroL 16)) ∧ Below w.heap.size w wx) := ⟨H3.out.1.below hov H3.out.1.lt, H3.out.2.1.below hov H3.out.2.1.lt, H3.out.2.2.trans (hov.mono H3.out.2.2.size)⟩
  clear hwx hov HRA HGI hX gx X H3
  refine wpList_store_Row rfl 29 _ _ rfl w.heap.size (bv a) rfl rfl H4.out.1 (I16.out a hal) rfl (bv_one _) ?_
  refine wpList_store_Row rfl 29 _ _ rfl (w.heap.size + 1) (bv b) rfl rfl (H4.out.2.1.putOther (by omega) _) (I16.out b hbl) (LIN.out b hbl) (bv_one _) ?_
  have H5 : Hid (Row ((wx.setRow w.heap.size (bv a).toArray).setRow (w.heap.size + 1) (bv b).toArray) w.heap.size 29 (bv a) ∧ Row ((wx.setRow w.heap.size (bv a).toArray).setRow (w.heap.size + 1) (bv b).toArray) (w.heap.size + 1) 29 (bv b) ∧ Below w.heap.size w ((wx.setRow w.heap.size (bv a).toArray).setRow (w.heap.size + 1) (bv b).toArray)) :=
    ⟨(H4.out.1.put _).putOther (by omega) _, (H4.out.2.1.putOther (by omega) _).put _, below_setRow (below_setRow H4.out.2.2 (Nat.le_refl _) _) (Nat.le_succ _) _⟩
  generalize (wx.setRow _ _).setRow _ _ = W at H5 ⊢
  clear H4
  go_wp2
  exact bodyPost_ret (results_Row2 rfl _ _ w.heap.size (w.heap.size + 1) rfl rfl H5.out.1 H5.out.2.1 Try.underlying29 (I16.out a hal) (I16.out b hbl)) rfl ⟨rfl, H5.out.2.2⟩
end Go.Proofs.Ytfkpilfnhgjmfaa
