/-
  'CmacDoubles' returns true for every input, and its argument reads behind the call as before. No conditions.
-/
import Derived.Test.YtfkpilfnhgjmfaaCWorks
import Derived.Test.YtfkpilfnhgjmfaaCDblR
import Derived.Test.YtfkpilfnhgjmfaaLift
import Derived.Test.YtfkpilfnhgjmfaaEqs
namespace Go.Proofs.Ytfkpilfnhgjmfaa
open Go.ChangeShapes Go.WideShapes Go.ChangeAt Go.RowKit
theorem cells26 : Try.prog.cellsOf 29 = 16 := by kernel_rfl
set_option maxRecDepth 100000 in
set_option maxHeartbeats 1600000 in
theorem cmacDoubles_walk (c : List Int) (w : World) (hc : c.length = 16) (hB : Byt c) : Calls Try.prog 10 #[.agg (bv c).toArray] w fun e w' => e = .returned (.bool true) ∧ Below w.heap.size w w' := by
  obtain ⟨HR0, HBL⟩ := rows1 w 29 (bv c)
  have HC := Lib.hid hc
  have HB := Lib.hid hB
  have i4 : (Try.prog.info? 29).map (·.size) = some (bv c).length := by rw [bv_length, hc]; kernel_rfl
  have I16 := Lib.hid i4
  clear hc hB i4
  go_enter Try.func10, Try.ntmps10
  go_upto_region 1 with (fail)
  generalize hV : w.alloc _ = V
  have HV : Hid (Row V w.heap.size 29 (bv c) ∧ Below w.heap.size w V) := by rw [← hV]; exact ⟨HR0.out, HBL.out⟩
  clear hV HR0 HBL
  obtain ⟨X, hX, g, hg⟩ := Ext.over_index V
  have hrow : ∀ x, Row (g x) w.heap.size 29 (bv c) := fun x => HV.out.1.below ((hg _).2 ⟨x, rfl⟩) HV.out.1.lt
  have HROW := Lib.hid hrow
  have heq := run_equal_bytes 29 16 Try.underlying29 (dblL c) (dblL c) (tab_length _ _) (tab_length _ _)
  rw [decide_eq_true rfl] at heq
  have hgu := guardBlk
  clear hrow
  have HGI := Lib.hid hg
  clear hg
  refine Ext.region 9 (Ext.at_ [(1, Ext.eqS (.agg (bv (dblL c)).toArray)), (3, Ext.eqS (.agg (bv (dblL c)).toArray)), (6, Ext.eqS (.bool true))]) (fun w' => ∃ x, w' = g x) (by kernel_rfl) (by kernel_rfl) ((HGI.out _).1 (Ext.Over.drew V)) (Ext.at_stable (by
    intro p hp v
    simp only [List.mem_cons, List.not_mem_nil, or_false] at hp
    rcases hp with rfl | rfl | rfl <;> exact Ext.eqS_stable _ _)) ?_
  simp only [List.take_succ_cons, List.take_zero, List.drop_succ_cons, List.drop_zero]
  refine Ext.walk_load (Ext.wanted_plain rfl) rfl 29 _ rfl w.heap.size 0 rfl (bv c) _ (by rintro _ ⟨x, rfl⟩; exact (HROW.out x).range) Try.underlying29 rfl I16.out ?_
  simp only [Act.put, List.setIfInBounds_toArray, List.set_cons_zero, List.set_cons_succ]
  refine Ext.walk_spec _ rfl rfl ?_ ?_
  · rintro _ ⟨x, rfl⟩ _
    go_simp
    exact Ext.call_eq HGI.out (cDouble_any c _ HC.out HB.out)
  · rintro v rfl
    refine Ext.walk_load (Ext.wanted_plain rfl) rfl 29 _ rfl w.heap.size 0 rfl (bv c) _ (by rintro _ ⟨x, rfl⟩; exact (HROW.out x).range) Try.underlying29 rfl I16.out ?_
    simp only [Act.put, List.setIfInBounds_toArray, List.set_cons_zero, List.set_cons_succ]
    refine Ext.walk_spec _ rfl rfl ?_ ?_
    · rintro _ ⟨x, rfl⟩ _
      go_simp
      exact Ext.call_eq HGI.out (r4Double_any c _ HC.out HB.out)
    · rintro v rfl
      simp only [Act.put, List.setIfInBounds_toArray, List.set_cons_zero, List.set_cons_succ]
      refine Ext.walk_take 2 (by kernel_rfl) (by kernel_rfl) (by kernel_rfl) ?_
      simp only [List.take_succ_cons, List.take_zero, List.drop_succ_cons, List.drop_zero]
      repeat (go_big_quiet_step (fail))
      refine wpQuiet_nil ?_
      refine Ext.walk_spec_guarded _ (by kernel_rfl) rfl ?_ ?_
      · rintro _ ⟨x, rfl⟩ _
        go_simp
        exact Ext.call_eq HGI.out (works4_any _)
      · rintro v rfl
        simp only [Act.put, List.setIfInBounds_toArray, List.set_cons_zero, List.set_cons_succ]
        refine Ext.walk_take 2 (by kernel_rfl) (by kernel_rfl) (by kernel_rfl) ?_
        simp only [List.take_succ_cons, List.take_zero, List.drop_succ_cons, List.drop_zero]
        repeat (go_big_quiet_step (fail))
        refine wpQuiet_nil ?_
        refine Ext.walk_end ?_
        intro wx hwx _
        have HX := Lib.hid (HV.out.2.trans (((HGI.out _).2 hwx : Below _ _ _).mono HV.out.2.size))
        clear hwx HROW HGI HV
        go_wp2
        go_ret
        exact ⟨rfl, HX.out⟩
set_option maxRecDepth 100000 in
theorem cmacDoubles_lifted (os : Os) (started : os.Started) (H : Type) (enc : TypeId × Value → H) :
    ReturnsInHanded {} Try.checked os 10 .any (Rows.cmacDoublesSpec.pre6 enc Try.prog Try.f10 Rows.cmacDoublesRow.domain false) (Rows.cmacDoublesSpec.post enc Try.prog Try.f10 false true false false) := by
  refine returnsInHanded_of_change (C := Try.checked) own started (by kernel_rfl) Try.func10
    (ChangeSpec.witness6 (enc := enc) (C := Try.checked) false ⟨#[], #[.agg (Array.replicate 16 (.int .u8 0))], []⟩ 8 (by kernel_rfl) (by kernel_rfl) (by kernel_rfl) (by kernel_rfl)) ?_
  intro W base args ds gs before hval0 hW hcnd _
  have hval : ∀ (j : Nat) t v, Try.f10.params[j]? = some t → args[j]? = some v → Value.okWide Try.prog W .any base t v := hval0
  have hW' := hW
  obtain ⟨p, q, hA, hV, rfl, hfz, hnd⟩ := hW
  rw [show Try.f10.params.toList = [29] from rfl] at hA
  obtain ⟨rfl, rfl⟩ := trodVars_none hV
  obtain ⟨v0, d0, rfl, rfl, h0⟩ := trodAll_one hA
  obtain ⟨c, rfl, hc, hB⟩ := open_bytes Try.underlying29 Try.underlying5 cells_u8 cells26 (hval 0 29 v0 rfl rfl) h0
  refine (cmacDoubles_walk c W hc hB).mono fun e W' ⟨he, hb⟩ => ?_
  subst he
  exact post_true laidOut hW' hb rfl (by kernel_rfl) rfl Try.underlying4 rfl
theorem cmacDoubles_over : Rows.cmacDoublesRow.holds Try.pinned (OpenSpec.ofChange Rows.cmacDoublesSpec) :=
  OpenClaim.holds_of_wide 10 Try.f10 rfl rfl rfl rfl rfl rfl rfl ⟨rfl, rfl, rfl, rfl, rfl⟩ rfl rfl rfl rfl rfl (by kernel_rfl) Try.func10 (by kernel_rfl)
    (of_decide_eq_true (by kernel_rfl)) (by unfold Func.isWrapper; first | (rw [if_pos (by decide +kernel)]; kernel_rfl) | (rw [if_neg (by decide +kernel)]; exact ⟨rfl, rfl⟩))
    (fun os started H enc _ => cmacDoubles_lifted os started H enc)
theorem cmacDoubles_holds : Rows.CmacDoublesSaid := cmacDoubles_over
#print axioms cmacDoubles_holds
end Go.Proofs.Ytfkpilfnhgjmfaa
