/-
  cmac.Blocks. 
-/
import Derived.Test.YtfkpilfnhgjmfaaCBlk
namespace Go.Proofs.Ytfkpilfnhgjmfaa
open Go.RowKit
/-- what is laid where it lay -/
theorem setRow_self {w : World} {g : Nat} {t : TypeId} {vs : List Value} (h : Row w g t vs) : w.setRow g vs.toArray = w := by
  unfold Row at h
  obtain ⟨heap, tape, drawn, os, output⟩ := w
  simp only [World.setRow]
  congr 1
  apply Array.ext_getElem?
  intro i
  rw [Array.getElem?_modify]
  split
  · rename_i e
    subst e
    simp only [] at h
    rw [h]
    rfl
  · rfl
/-- a store that lays down what lies there -/
theorem Ext.walk_same {P : Program} {md : Region.Mode} {ops : Array Oper} {C : World → Prop} {sp : Nat → Option Ext.Spec} {Q : Act → Ext.Known → Prop} {o : Oper} {rest : List Oper} {j : Nat} {a : Act} {K : Ext.Known} (hw : Region.wanted o (yielded ops a.tmps) = true) (hs : sp j = none) (ty : TypeId) (x y : Operand) (ho : o.op = .store ty x y)
    (g : Nat) (vs : List Value) (hx : a.eval x = .pointer (some ⟨g, 0, none⟩)) (hy : a.eval y = .agg vs.toArray) {t : TypeId} (hr : ∀ w, C w → Row w g t vs) (hi : (P.info? ty).map (·.size) = some vs.length) (h1 : ∀ v ∈ vs, v.oneCell' = true)
    (hn : Ext.walk P md ops C sp Q rest (j + 1) (a.put o.dst undef) K) : Ext.walk P md ops C sp Q (o :: rest) j a K :=
  ⟨.det undef, ⟨hw, hs, fun w hC _ => by
    have hrow := hr w hC
    have := run_storeVar_row (P := P) w g t ty vs.toArray vs.toArray hrow (by simpa using hi) rfl (by simpa using h1)
    have e : (execOp a.eval o).run P w = .ok .skip w := by
      rw [setRow_self hrow] at this
      unfold execOp
      simp only [ho, hx, hy, Instr.storeAt, Instr.sureAddr, Sem.run_bind, Sem.run_pure, Result.andThen_ok, this]
    rw [e]
    exact ⟨rfl, rfl⟩⟩, fun u hu => by cases hu; exact hn⟩
set_option maxRecDepth 100000 in
set_option maxHeartbeats 1600000 in
theorem cBlocks_any (key : List Int) (b o cap : Nat) (w : World) (hk : key.length = 16) (hB : Byt key) (hr : w.rangeAt b o (bv key)) :
    Calls Try.prog 37 #[.slice (some ⟨b, o, none⟩) 16 cap] w fun e w' => e = .returned (.tuple #[.agg (bv (k1L key)).toArray, .agg (bv (k2L key)).toArray, .int .i64 0]) ∧ Below w.heap.size w w' := by
  have HK := Lib.hid hk
  have HB := Lib.hid hB
  have HR := Lib.hid hr
  obtain ⟨HR0, HR1, HBL⟩ := rows2 w 29 29 (bv (zeroL 16)) (bv (zeroL 16))
  have i16 : ∀ l : List Int, l.length = 16 → (Try.prog.info? 29).map (·.size) = some (bv l).length := fun l h => by rw [bv_length, h]; kernel_rfl
  have I16 := Lib.hid i16
  have lin : ∀ l : List Int, l.length = 16 → (bv (zeroL 16)).length = (bv l).length := fun l h => by rw [bv_length, bv_length, h, zeroL_length]
  have LIN := Lib.hid lin
  obtain ⟨c, hc⟩ : ∃ c, c = k1L key := ⟨_, rfl⟩
  obtain ⟨d, hd⟩ : ∃ d, d = k2L key := ⟨_, rfl⟩
  have hcl : c.length = 16 := by rw [hc]; exact k1L_length _
  have hdl : d.length = 16 := by rw [hd]; exact k2L_length _
  have HCD := Lib.hid (And.intro hc hd)
  rw [← hc, ← hd]
  clear hk hB hr i16 lin hc hd
  go_enter Try.func37, Try.ntmps37
  go_wp2_with (fail)
  generalize hV : (w.alloc _).alloc _ = V
  have HV : Hid (Row V w.heap.size 29 (bv (zeroL 16)) ∧ Row V (w.heap.size + 1) 29 (bv (zeroL 16)) ∧ Below w.heap.size w V) := by rw [← hV]; exact ⟨HR0.out, HR1.out, HBL.out⟩
  clear hV HR0 HR1 HBL
  refine (cNew_any key b o cap V HK.out HB.out (fun j u hu => by have := HR.out j u hu; exact (HV.out.2.2.cell (p := ⟨b, o + j, none⟩) (World.block_lt_of_cell? w _ this)).trans this)).mono ?_
  rintro e w1 ⟨B, g, rfl, hg1, hg2, hci, hrB, hb1⟩
  have H1 : Hid (Row w1 w.heap.size 29 (bv (zeroL 16)) ∧ Row w1 (w.heap.size + 1) 29 (bv (zeroL 16)) ∧ Below w.heap.size w w1 ∧ IsCip w1 g key ∧ Row w1 B 101 (macL (some ⟨g, 0, none⟩) (zeroL 16) (.slice none 0 0))) :=
    ⟨HV.out.1.below hb1 HV.out.1.lt, HV.out.2.1.below hb1 HV.out.2.1.lt, HV.out.2.2.trans (hb1.mono HV.out.2.2.size), hci, hrB⟩
  clear hg1 hg2 hci hrB hb1 HV HR
  go_wp2_with (fail)
  have how := cOwn_any B g key (zeroL 16) (.slice none 0 0) w1 HK.out HB.out H1.out.2.2.2.1 H1.out.2.2.2.2
  rw [← HCD.out.1, ← HCD.out.2] at how
  refine how.mono ?_
  clear how
  rintro e w2 ⟨rfl, hb2⟩
  have H2 : Hid (Row w2 w.heap.size 29 (bv (zeroL 16)) ∧ Row w2 (w.heap.size + 1) 29 (bv (zeroL 16)) ∧ Below w.heap.size w w2) := ⟨H1.out.1.below hb2 H1.out.1.lt, H1.out.2.1.below hb2 H1.out.2.1.lt, H1.out.2.2.1.trans (hb2.mono H1.out.2.2.1.size)⟩
  clear hb2 H1
  go_wp2_with (refine wpList_store_Row rfl 29 _ _ rfl w.heap.size (bv c) rfl rfl H2.out.1 (I16.out c hcl) (LIN.out c hcl) (bv_one _) ?_; refine stay ?_)
  refine go_on ?_
  refine wpList_store_Row rfl 29 _ _ rfl (w.heap.size + 1) (bv d) rfl rfl (H2.out.2.1.putOther (by omega) _) (I16.out d hdl) (LIN.out d hdl) (bv_one _) ?_
  have H3 : Hid (Row ((w2.setRow w.heap.size (bv c).toArray).setRow (w.heap.size + 1) (bv d).toArray) w.heap.size 29 (bv c) ∧ Row ((w2.setRow w.heap.size (bv c).toArray).setRow (w.heap.size + 1) (bv d).toArray) (w.heap.size + 1) 29 (bv d) ∧ Below w.heap.size w ((w2.setRow w.heap.size (bv c).toArray).setRow (w.heap.size + 1) (bv d).toArray)) :=
    ⟨(H2.out.1.put _).putOther (by omega) _, (H2.out.2.1.putOther (by omega) _).put _, below_setRow (below_setRow H2.out.2.2 (Nat.le_refl _) _) (Nat.le_succ _) _⟩
  generalize (w2.setRow _ _).setRow _ _ = w3 at H3 ⊢
  clear H2
  go_upto_region 4 with (fail)
  obtain ⟨X, hX, gx, hgx⟩ := Ext.over_index w3
  have hra : ∀ x', Row (gx x') w.heap.size 29 (bv c) ∧ Row (gx x') (w.heap.size + 1) 29 (bv d) := fun x' =>
    have hov : Below w3.heap.size w3 (gx x') := (hgx _).2 ⟨x', rfl⟩
    ⟨H3.out.1.below hov H3.out.1.lt, H3.out.2.1.below hov H3.out.2.1.lt⟩
  have HRA := Lib.hid hra
  have HGI := Lib.hid hgx
  clear hra hgx
  refine Ext.region 6 (fun _ => none) (fun w' => ∃ x, w' = gx x) (by kernel_rfl) (by kernel_rfl) ((HGI.out _).1 (Ext.Over.drew w3)) (fun j s h => by cases h) ?_
  simp only [List.take_succ_cons, List.take_zero, List.drop_succ_cons, List.drop_zero]
  refine Ext.walk_load (Ext.wanted_plain rfl) rfl 29 _ rfl w.heap.size 0 rfl (bv c) _ (by rintro _ ⟨x', rfl⟩; exact (HRA.out x').1.range) Try.underlying29 rfl (I16.out c hcl) ?_
  simp only [Act.put, List.setIfInBounds_toArray, List.set_cons_zero, List.set_cons_succ]
  refine Ext.walk_load (Ext.wanted_plain rfl) rfl 29 _ rfl (w.heap.size + 1) 0 rfl (bv d) _ (by rintro _ ⟨x', rfl⟩; exact (HRA.out x').2.range) Try.underlying29 rfl (I16.out d hdl) ?_
  simp only [Act.put, List.setIfInBounds_toArray, List.set_cons_zero, List.set_cons_succ]
  refine Ext.walk_take 1 (by kernel_rfl) (by kernel_rfl) (by kernel_rfl) ?_
  simp only [List.take_succ_cons, List.take_zero, List.drop_succ_cons, List.drop_zero]
  repeat (go_big_quiet_step (fail))
  refine wpQuiet_nil ?_
  refine Ext.walk_same (by kernel_rfl) rfl 29 _ _ rfl w.heap.size (bv c) rfl rfl (by rintro _ ⟨x', rfl⟩; exact (HRA.out x').1) (I16.out c hcl) (bv_one _) ?_
  simp only [Act.put]
  refine Ext.walk_same (by kernel_rfl) rfl 29 _ _ rfl (w.heap.size + 1) (bv d) rfl rfl (by rintro _ ⟨x', rfl⟩; exact (HRA.out x').2) (I16.out d hdl) (bv_one _) ?_
  simp only [Act.put]
  refine Ext.walk_take 1 (by kernel_rfl) (by kernel_rfl) (by kernel_rfl) ?_
  simp only [List.take_succ_cons, List.take_zero, List.drop_succ_cons, List.drop_zero]
  repeat (go_big_quiet_step (fail))
  refine wpQuiet_nil ?_
  refine Ext.walk_end ?_
  intro wx hwx _
  have hov : Below w3.heap.size w3 wx := (HGI.out _).2 hwx
  have H9 : Hid (Row wx w.heap.size 29 (bv c) ∧ Row wx (w.heap.size + 1) 29 (bv d) ∧ Below w.heap.size w wx) := ⟨H3.out.1.below hov H3.out.1.lt, H3.out.2.1.below hov H3.out.2.1.lt, H3.out.2.2.trans (hov.mono H3.out.2.2.size)⟩
  clear hwx hov HRA HGI hX gx X
  go_wp2
  exact bodyPost_ret (results_Row3 rfl _ _ w.heap.size (w.heap.size + 1) rfl rfl H9.out.1 H9.out.2.1 Try.underlying29 (I16.out c hcl) (I16.out d hdl)) rfl ⟨rfl, H9.out.2.2⟩
set_option maxRecDepth 100000 in
set_option maxHeartbeats 1600000 in
theorem cBlocks_bad (p : Option Addr) (n cap : Nat) (w : World) (hn : n ≠ 16) :
    Calls Try.prog 37 #[.slice p n cap] w fun e w' => e = .returned (.tuple #[.agg (bv (zeroL 16)).toArray, .agg (bv (zeroL 16)).toArray, .int .i64 2]) ∧ Below w.heap.size w w' := by
  obtain ⟨HR0, HR1, HBL⟩ := rows2 w 29 29 (bv (zeroL 16)) (bv (zeroL 16))
  have i16 : ∀ l : List Int, l.length = 16 → (Try.prog.info? 29).map (·.size) = some (bv l).length := fun l h => by rw [bv_length, h]; kernel_rfl
  have I16 := Lib.hid i16
  have lin : ∀ l : List Int, l.length = 16 → (bv (zeroL 16)).length = (bv l).length := fun l h => by rw [bv_length, bv_length, h, zeroL_length]
  have LIN := Lib.hid lin
  have hzl := zeroL_length 16
  clear i16 lin
  go_enter Try.func37, Try.ntmps37
  go_wp2_with (fail)
  generalize hV : (w.alloc _).alloc _ = V
  have HV : Hid (Row V w.heap.size 29 (bv (zeroL 16)) ∧ Row V (w.heap.size + 1) 29 (bv (zeroL 16)) ∧ Below w.heap.size w V) := by rw [← hV]; exact ⟨HR0.out, HR1.out, HBL.out⟩
  clear hV HR0 HR1 HBL
  refine (cNew_bad p n cap V hn).mono ?_
  rintro e w' ⟨rfl, rfl⟩
  go_upto_region 4 with (fail)
  obtain ⟨X, hX, gx, hgx⟩ := Ext.over_index V
  have hra : ∀ x', Row (gx x') w.heap.size 29 (bv (zeroL 16)) ∧ Row (gx x') (w.heap.size + 1) 29 (bv (zeroL 16)) := fun x' =>
    have hov : Below V.heap.size V (gx x') := (hgx _).2 ⟨x', rfl⟩
    ⟨HV.out.1.below hov HV.out.1.lt, HV.out.2.1.below hov HV.out.2.1.lt⟩
  have HRA := Lib.hid hra
  have HGI := Lib.hid hgx
  clear hra hgx
  refine Ext.region 6 (fun _ => none) (fun w' => ∃ x, w' = gx x) (by kernel_rfl) (by kernel_rfl) ((HGI.out _).1 (Ext.Over.drew V)) (fun j s h => by cases h) ?_
  simp only [List.take_succ_cons, List.take_zero, List.drop_succ_cons, List.drop_zero]
  refine Ext.walk_load (Ext.wanted_plain rfl) rfl 29 _ rfl w.heap.size 0 rfl (bv (zeroL 16)) _ (by rintro _ ⟨x', rfl⟩; exact (HRA.out x').1.range) Try.underlying29 rfl (I16.out (zeroL 16) hzl) ?_
  simp only [Act.put, List.setIfInBounds_toArray, List.set_cons_zero, List.set_cons_succ]
  refine Ext.walk_load (Ext.wanted_plain rfl) rfl 29 _ rfl (w.heap.size + 1) 0 rfl (bv (zeroL 16)) _ (by rintro _ ⟨x', rfl⟩; exact (HRA.out x').2.range) Try.underlying29 rfl (I16.out (zeroL 16) hzl) ?_
  simp only [Act.put, List.setIfInBounds_toArray, List.set_cons_zero, List.set_cons_succ]
  refine Ext.walk_take 1 (by kernel_rfl) (by kernel_rfl) (by kernel_rfl) ?_
  simp only [List.take_succ_cons, List.take_zero, List.drop_succ_cons, List.drop_zero]
  repeat (go_big_quiet_step (fail))
  refine wpQuiet_nil ?_
  refine Ext.walk_same (by kernel_rfl) rfl 29 _ _ rfl w.heap.size (bv (zeroL 16)) rfl rfl (by rintro _ ⟨x', rfl⟩; exact (HRA.out x').1) (I16.out (zeroL 16) hzl) (bv_one _) ?_
  simp only [Act.put]
  refine Ext.walk_same (by kernel_rfl) rfl 29 _ _ rfl (w.heap.size + 1) (bv (zeroL 16)) rfl rfl (by rintro _ ⟨x', rfl⟩; exact (HRA.out x').2) (I16.out (zeroL 16) hzl) (bv_one _) ?_
  simp only [Act.put]
  refine Ext.walk_take 1 (by kernel_rfl) (by kernel_rfl) (by kernel_rfl) ?_
  simp only [List.take_succ_cons, List.take_zero, List.drop_succ_cons, List.drop_zero]
  repeat (go_big_quiet_step (fail))
  refine wpQuiet_nil ?_
  refine Ext.walk_end ?_
  intro wx hwx _
  have hov : Below V.heap.size V wx := (HGI.out _).2 hwx
  have H9 : Hid (Row wx w.heap.size 29 (bv (zeroL 16)) ∧ Row wx (w.heap.size + 1) 29 (bv (zeroL 16)) ∧ Below w.heap.size w wx) := ⟨HV.out.1.below hov HV.out.1.lt, HV.out.2.1.below hov HV.out.2.1.lt, HV.out.2.2.trans (hov.mono HV.out.2.2.size)⟩
  clear hwx hov HRA HGI hX gx X
  go_wp2
  exact bodyPost_ret (results_Row3 rfl _ _ w.heap.size (w.heap.size + 1) rfl rfl H9.out.1 H9.out.2.1 Try.underlying29 (I16.out (zeroL 16) hzl) (I16.out (zeroL 16) hzl)) rfl ⟨rfl, H9.out.2.2⟩
end Go.Proofs.Ytfkpilfnhgjmfaa
