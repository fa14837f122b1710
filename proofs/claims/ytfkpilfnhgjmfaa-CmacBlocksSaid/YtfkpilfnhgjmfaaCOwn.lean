/-
  cmac: a block that is made; the key's blocks.
-/
import Derived.Test.YtfkpilfnhgjmfaaCMac
import Derived.Test.YtfkpilfnhgjmfaaLate
namespace Go.Proofs.Ytfkpilfnhgjmfaa
open Go.RowKit
/-- a new variable of this value, behind what there is -/
def mnewS (b : Nat) (t : TypeId) (vs : List Value) : Ext.Spec := { may := fun v => ∃ g, v = .pointer (some ⟨g, 0, none⟩), post := fun v w => ∃ g, v = .pointer (some ⟨g, 0, none⟩) ∧ b ≤ g ∧ Row w g t vs }
theorem mnewS_stable (b : Nat) (t : TypeId) (vs : List Value) (v : Value) : Ext.Stable ((mnewS b t vs).post v) := fun _ _ ⟨g, e, hg, h⟩ hb => ⟨g, e, hg, h.below hb h.lt⟩
/-- the block that AES makes -/
def makeL (key b : List Int) : List Int := stepL key b 10
theorem makeL_length (key b : List Int) : (makeL key b).length = 16 := stepL_length key b 10
theorem makeL_byt {key b : List Int} (hk : Byt key) (hb : Byt b) : Byt (makeL key b) := stepL_byt key b hk hb 10
set_option maxRecDepth 100000 in
set_option maxHeartbeats 800000 in
theorem cMade_any (B g : Nat) (key x b : List Int) (lv : Value) (w : World) (hk : key.length = 16) (hB : Byt key) (lb : b.length = 16) (hb : Byt b) (rc : IsCip w g key) (h : Row w B 101 (macL (some ⟨g, 0, none⟩) x lv)) :
    Calls Try.prog 68 #[.pointer (some ⟨B, 0, none⟩), .agg (bv b).toArray] w fun e w' => e = .returned (.agg (bv (makeL key b)).toArray) ∧ Below w.heap.size w w' := by
  obtain ⟨HR0, HR1, HBL⟩ := rows2 w 29 29 (bv b) (bv (zeroL 16))
  have i16 : (Try.prog.info? 29).map (·.size) = some (bv b).length := by rw [bv_length, lb]; kernel_rfl
  have I16 := Lib.hid i16
  obtain ⟨y, hy⟩ : ∃ y, y = makeL key b := ⟨_, rfl⟩
  have hyl : y.length = 16 := by rw [hy]; exact makeL_length _ _
  have y16 : (Try.prog.info? 29).map (·.size) = some (bv y).length := by rw [bv_length, hyl]; kernel_rfl
  have Y16 := Lib.hid y16
  have yin : (bv (zeroL 16)).length = (bv y).length := by rw [bv_length, bv_length, hyl, zeroL_length]
  have YIN := Lib.hid yin
  have hmk : ∀ w' : World, IsCip w' g key → Calls Try.prog 26 #[.pointer (some ⟨g, 0, none⟩), .agg (bv b).toArray] w' fun e w'' => e = .returned (.tuple #[.agg (bv y).toArray, .int .i64 0]) ∧ Below w'.heap.size w' w'' := fun w' hc => by
    rw [hy]; exact aMake_any g key b w' hk hB lb hb hc
  have HMK := Lib.hid hmk
  rw [← hy]
  have H0 := Lib.hid (And.intro rc h)
  clear hk hB lb hb rc h i16 y16 yin hy hmk
  go_enter Try.func68, Try.ntmps68
  go_upto_region 1 with (fail)
  generalize hV : (w.alloc _).alloc _ = V
  have HV : Hid (Row V w.heap.size 29 (bv b) ∧ Row V (w.heap.size + 1) 29 (bv (zeroL 16)) ∧ Below w.heap.size w V ∧ IsCip V g key ∧ V.cell? ⟨B, 0, none⟩ = some (.pointer (some ⟨g, 0, none⟩))) := by
    have hb' : Below w.heap.size w V := by rw [← hV]; exact HBL.out
    exact ⟨by rw [← hV]; exact HR0.out, by rw [← hV]; exact HR1.out, hb', Row.below H0.out.1 hb' (Row.lt H0.out.1), (H0.out.2.below hb' H0.out.2.lt).cell (mac_ptr _ _ _)⟩
  clear hV HR0 HR1 HBL H0
  obtain ⟨X, hX, gx, hgx⟩ := Ext.over_index V
  have hov : ∀ x', Below V.heap.size V (gx x') := fun x' => (hgx _).2 ⟨x', rfl⟩
  have hcB : ∀ x', (gx x').cell? ⟨B, 0, none⟩ = some (.pointer (some ⟨g, 0, none⟩)) := fun x' => ((hov x').cell (p := ⟨B, 0, none⟩) (World.block_lt_of_cell? V _ HV.out.2.2.2.2)).trans HV.out.2.2.2.2
  have hrb : ∀ x', Row (gx x') w.heap.size 29 (bv b) := fun x' => HV.out.1.below (hov x') HV.out.1.lt
  have hcx : ∀ x', IsCip (gx x') g key := fun x' => Row.below HV.out.2.2.2.1 (hov x') (Row.lt HV.out.2.2.2.1)
  have hsx : ∀ x', V.heap.size ≤ (gx x').heap.size := fun x' => (hov x').size
  have HRB := Lib.hid hrb
  have HCX := Lib.hid hcx
  have HSX := Lib.hid hsx
  have HGI := Lib.hid hgx
  clear hov hrb hcx hsx hgx
  refine Ext.region_late 8 10 15 (Ext.at_ [(5, Ext.eqS (.tuple #[.agg (bv y).toArray, .int .i64 0])), (9, mnewS V.heap.size 29 (bv (zeroL 16)))]) (fun w' => ∃ x, w' = gx x) rfl rfl rfl rfl rfl (fun _ _ h => by cases h) (by kernel_rfl) (by kernel_rfl) (by kernel_rfl) ((HGI.out _).1 (Ext.Over.drew V)) rfl (Ext.at_stable (by
    intro p hp v
    simp only [List.mem_cons, List.not_mem_nil, or_false] at hp
    rcases hp with rfl | rfl
    · exact Ext.eqS_stable _ _
    · exact mnewS_stable _ _ _ _)) ?_
  simp only [List.take_succ_cons, List.take_zero, Ext.edged, List.modify_succ_cons, List.modify_zero_cons, List.push_toArray, List.cons_append, List.nil_append]
  refine Ext.walk_take 1 (by kernel_rfl) (by kernel_rfl) (by kernel_rfl) ?_
  simp only [List.take_succ_cons, List.take_zero, List.drop_succ_cons, List.drop_zero]
  repeat (go_big_quiet_step (fail))
  refine wpQuiet_nil ?_
  refine Ext.walk_det (.pointer (some ⟨B, 0, none⟩)) (Ext.wanted_plain rfl) rfl (by intro _ _; go_simp) ?_
  simp only [Act.put, List.setIfInBounds_toArray, List.set_cons_zero, List.set_cons_succ]
  refine Ext.walk_take 2 (by kernel_rfl) (by kernel_rfl) (by kernel_rfl) ?_
  simp only [List.take_succ_cons, List.take_zero, List.drop_succ_cons, List.drop_zero]
  repeat (go_big_quiet_step (fail))
  refine wpQuiet_nil ?_
  refine Ext.walk_load (Ext.wanted_plain rfl) rfl 29 _ rfl w.heap.size 0 rfl (bv b) _ (by rintro _ ⟨x', rfl⟩; exact (HRB.out x').range) Try.underlying29 rfl I16.out ?_
  simp only [Act.put, List.setIfInBounds_toArray, List.set_cons_zero, List.set_cons_succ]
  refine Ext.walk_spec _ rfl rfl ?_ ?_
  · rintro _ ⟨x', rfl⟩ _
    go_simp
    exact Ext.call_eq HGI.out (HMK.out _ (HCX.out x'))
  · rintro v rfl
    simp only [Act.put, List.setIfInBounds_toArray, List.set_cons_zero, List.set_cons_succ]
    refine Ext.walk_take 3 (by kernel_rfl) (by kernel_rfl) (by kernel_rfl) ?_
    simp only [List.take_succ_cons, List.take_zero, List.drop_succ_cons, List.drop_zero]
    repeat (go_big_quiet_step (fail))
    refine wpQuiet_nil ?_
    refine Ext.walk_spec _ rfl rfl ?_ ?_
    · rintro _ ⟨x', rfl⟩ _
      go_simp
      exact Ext.made HGI.out ⟨_, rfl⟩ ⟨_, rfl, HSX.out x', Row.new (gx x') 29 (bv (zeroL 16))⟩
    · rintro v ⟨gn, rfl⟩
      simp only [Act.put, List.setIfInBounds_toArray, List.set_cons_zero, List.set_cons_succ]
      refine Ext.walk_end ?_
      intro wx hwx hK
      obtain ⟨g2, e2, hgn, hrow⟩ := Ext.upd_new hK
      cases e2
      have hov : Below V.heap.size V wx := (HGI.out _).2 hwx
      have H1 := Lib.hid (And.intro hgn (And.intro hrow hov))
      clear hwx hK hgn hrow hov HRB HCX HSX HGI hcB hX gx X
      refine ⟨_, Ext.run_op_store 29 _ _ rfl gn 0 (bv y) rfl rfl H1.out.2.1 Y16.out (by rw [bv_length, bv_length, hyl, zeroL_length]; omega) (bv_one _), ?_⟩
      have H2 : Hid (Row (wx.setCells gn 0 (bv y)) gn 29 (bv y) ∧ Row (wx.setCells gn 0 (bv y)) (w.heap.size + 1) 29 (bv (zeroL 16)) ∧ Below w.heap.size w (wx.setCells gn 0 (bv y))) := by
        obtain ⟨h1, h2, h3⟩ := H1.out
        have h4 : Below V.heap.size V (wx.setCells gn 0 (bv y)) := below_setCells h1 _ _ h3
        exact ⟨h2.putAll _ YIN.out.symm, HV.out.2.1.below h4 HV.out.2.1.lt, HV.out.2.2.1.trans (h4.mono HV.out.2.2.1.size)⟩
      generalize wx.setCells _ _ _ = W at H2 ⊢
      clear H1 HV
      go_wp2_with (first | (refine wpList_load_Row rfl 29 _ rfl _ rfl H2.out.1 Try.underlying29 Y16.out ?_) | (refine wpList_store_Row rfl 29 _ _ rfl (w.heap.size + 1) (bv y) rfl rfl H2.out.2.1 Y16.out YIN.out (bv_one _) ?_; refine stay ?_))
      refine go_on ?_
      have HW : Row (W.setRow (w.heap.size + 1) (bv y).toArray) (w.heap.size + 1) 29 (bv y) ∧ Below w.heap.size w (W.setRow (w.heap.size + 1) (bv y).toArray) := ⟨H2.out.2.1.put _, below_setRow H2.out.2.2 (Nat.le_succ _) _⟩
      generalize W.setRow _ _ = W2 at HW ⊢
      clear H2
      go_wp2
      exact bodyPost_ret (results_Row rfl _ _ (w.heap.size + 1) rfl HW.1 Try.underlying29 Y16.out) rfl ⟨rfl, HW.2⟩
end Go.Proofs.Ytfkpilfnhgjmfaa
