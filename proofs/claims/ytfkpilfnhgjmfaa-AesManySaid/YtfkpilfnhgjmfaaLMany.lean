/-
  'AesMany' returns true for every input, and its arguments read behind the call as before. No conditions.
-/
import Derived.Test.YtfkpilfnhgjmfaaWorks
import Derived.Test.YtfkpilfnhgjmfaaLift
import Derived.Test.YtfkpilfnhgjmfaaRMake
namespace Go.Proofs.Ytfkpilfnhgjmfaa
open Go.ChangeShapes Go.WideShapes Go.ChangeAt Go.RowKit
/-- what the loop keeps -/
def AM (w : World) (one two : List Int) (g1 g2 : Nat) (wr : World) : Prop :=
  Row wr w.heap.size 29 (bv one) ∧ Row wr (w.heap.size + 1) 29 (bv two) ∧ IsCip wr g1 one ∧ IsCip wr g2 two ∧ Below w.heap.size w wr
theorem AM.over {w : World} {one two : List Int} {g1 g2 : Nat} {wr w' : World} (h : AM w one two g1 g2 wr) (hb : Below wr.heap.size wr w') : AM w one two g1 g2 w' := by
  obtain ⟨h0, h1, h2, h3, h4⟩ := h
  exact ⟨h0.below hb h0.lt, h1.below hb h1.lt, h2.below hb h2.lt, h3.below hb h3.lt, h4.trans (hb.mono h4.size)⟩
theorem run_sliceAll (b : Nat) (w : World) : (Instr.sliceAt 29 (.pointer (some ⟨b, 0, none⟩)) none none none).run Try.prog w = .ok (.slice (some ⟨b, 0, none⟩) 16 16) w := by kernel_rfl
set_option maxRecDepth 100000 in
set_option maxHeartbeats 1600000 in
theorem aesMany_walk (one two : List Int) (p : Option Addr) (n cap : Nat) (L : Nat → List Int) (w : World) (h1 : one.length = 16) (hB1 : Byt one) (h2 : two.length = 16) (hB2 : Byt two) (hL : Blks w p n L) :
    Calls Try.prog 7 #[.agg (bv one).toArray, .agg (bv two).toArray, .slice p n cap] w fun e w' => e = .returned (.bool true) ∧ Below w.heap.size w w' := by
  obtain ⟨HR0, HR1, HBL⟩ := rows2 w 29 29 (bv one) (bv two)
  have H1 := Lib.hid h1
  have H2 := Lib.hid h2
  have HB1 := Lib.hid hB1
  have HB2 := Lib.hid hB2
  have HLL := Lib.hid hL
  have hsl := run_sliceAll
  clear h1 h2 hB1 hB2 hL
  by_cases h8 : n ≤ 8
  · go_enter Try.func7, Try.ntmps7
    go_wp2_with (fail)
    generalize hV : (w.alloc _).alloc _ = V
    have HV : Hid (Row V w.heap.size 29 (bv one) ∧ Row V (w.heap.size + 1) 29 (bv two) ∧ Below w.heap.size w V) := by rw [← hV]; exact ⟨HR0.out, HR1.out, HBL.out⟩
    clear hV HR0 HR1 HBL
    refine (aNew_any one w.heap.size 0 16 V H1.out HB1.out HV.out.1.range).mono ?_
    rintro e w1 ⟨g1, rfl, hg1, hc1, hb1⟩
    have HW : Hid (Row w1 w.heap.size 29 (bv one) ∧ Row w1 (w.heap.size + 1) 29 (bv two) ∧ IsCip w1 g1 one ∧ Below w.heap.size w w1) :=
      ⟨HV.out.1.below hb1 HV.out.1.lt, HV.out.2.1.below hb1 HV.out.2.1.lt, hc1, HV.out.2.2.trans (hb1.mono HV.out.2.2.size)⟩
    clear HV hb1 hg1 hc1
    go_wp2_with (fail)
    refine (aNew_any two (w.heap.size + 1) 0 16 w1 H2.out HB2.out HW.out.2.1.range).mono ?_
    rintro e w2 ⟨g2, rfl, hg2, hc2, hb2⟩
    have HM : Hid (AM w one two g1 g2 w2) :=
      ⟨HW.out.1.below hb2 HW.out.1.lt, HW.out.2.1.below hb2 HW.out.2.1.lt, HW.out.2.2.1.below hb2 HW.out.2.2.1.lt, hc2, HW.out.2.2.2.trans (hb2.mono HW.out.2.2.2.size)⟩
    clear HW hb2 hg2 hc2
    go_wp2_with (fail)
    go_loopw [11] (fun i wr => ∃ k : Nat, k ≤ n ∧ i = .int .i64 k ∧ AM w one two g1 g2 wr) (fun i _ => n - (intOf i).toNat)
    case atStart => exact ⟨0, by omega, rfl, HM.out⟩
    case round =>
      obtain ⟨k, hk, rfl, hR⟩ := hrel
      have HR := Lib.hid hR
      clear hR HM
      by_cases hlt : k < n
      · obtain ⟨bl, off, rfl, hrg, lk, bk⟩ := HLL.out k hlt
        have hblw : bl < w.heap.size := World.block_lt_of_cell? w _ (hrg 0 _ (bv_get _ 0 (by omega)))
        have k16 : (Try.prog.info? 29).map (·.size) = some (bv (L k)).length := by rw [bv_length, lk]; kernel_rfl
        have K16 := Lib.hid k16
        have LK := Lib.hid lk
        have BK := Lib.hid bk
        have HRG := Lib.hid hrg
        have hrw : wr.rangeAt bl (off + k * 16) (bv (L k)) := fun j v hv => (HR.out.2.2.2.2.cell (p := ⟨bl, off + k * 16 + j, none⟩) hblw).trans (hrg j v hv)
        have HRW := Lib.hid hrw
        obtain ⟨x, hx⟩ : ∃ x, x = stepL one (L k) 10 := ⟨_, rfl⟩
        obtain ⟨y, hy⟩ : ∃ y, y = stepL two (L k) 10 := ⟨_, rfl⟩
        have hxl : x.length = 16 := by rw [hx]; exact stepL_length _ _ 10
        have hyl : y.length = 16 := by rw [hy]; exact stepL_length _ _ 10
        clear k16 lk bk hrg hrw
        go_wp2_with (refine wpList_load_mid rfl 29 _ rfl bl (off + k * 16) rfl (bv (L k)) _ HRW.out Try.underlying29 rfl K16.out ?_; refine stay ?_)
        refine go_on ?_
        have x16 : (Try.prog.info? 29).map (·.size) = some (bv x).length := by rw [bv_length, hxl]; kernel_rfl
        have X16 := Lib.hid x16
        have xin : (bv (zeroL 16)).length = (bv x).length := by rw [bv_length, bv_length, hxl, zeroL_length]
        have XIN := Lib.hid xin
        have y16 : (Try.prog.info? 29).map (·.size) = some (bv y).length := by rw [bv_length, hyl]; kernel_rfl
        have Y16 := Lib.hid y16
        have yin : (bv (zeroL 16)).length = (bv y).length := by rw [bv_length, bv_length, hyl, zeroL_length]
        have YIN := Lib.hid yin
        have HX := Lib.hid hx
        have HY := Lib.hid hy
        clear x16 xin y16 yin hx hy HRW
        go_wp2_with (fail)
        have hmk := aMake_any g1 one (L k) wr H1.out HB1.out LK.out BK.out HR.out.2.2.1
        rw [← HX.out] at hmk
        refine hmk.mono ?_
        clear hmk
        rintro e w3 ⟨rfl, hb3⟩
        have HR3 := Lib.hid (HR.out.over hb3)
        have n3 := Lib.hid (Row.new w3 29 (bv (zeroL 16)))
        clear hb3 HR
        go_wp2_with (refine wpList_store_Row rfl 29 _ _ rfl w3.heap.size (bv x) rfl rfl n3.out X16.out XIN.out (bv_one _) ?_; refine stay ?_)
        refine go_on ?_
        have hF : Row ((w3.alloc (.cells (bv (zeroL 16)).toArray 29)).setRow w3.heap.size (bv x).toArray) w3.heap.size 29 (bv x) ∧ Below w3.heap.size w3 ((w3.alloc (.cells (bv (zeroL 16)).toArray 29)).setRow w3.heap.size (bv x).toArray) :=
          ⟨n3.out.put _, below_setRow ((Below.refl _ w3).alloc (Nat.le_refl _) _) (Nat.le_refl _) _⟩
        generalize hW4 : (w3.alloc _).setRow _ _ = w4
        have HF4 : Hid (Row w4 w3.heap.size 29 (bv x) ∧ AM w one two g1 g2 w4 ∧ w3.heap.size < w4.heap.size) := by
          rw [← hW4]; exact ⟨hF.1, HR3.out.over hF.2, hF.1.lt⟩
        clear hW4 hF n3 HR3
        have hrw4 : w4.rangeAt bl (off + k * 16) (bv (L k)) := fun j v hv => (HF4.out.2.1.2.2.2.2.cell (p := ⟨bl, off + k * 16 + j, none⟩) hblw).trans (HRG.out j v hv)
        have HRW4 := Lib.hid hrw4
        clear hrw4
        go_wp2_with (refine wpList_load_mid rfl 29 _ rfl bl (off + k * 16) rfl (bv (L k)) _ HRW4.out Try.underlying29 rfl K16.out ?_; refine stay ?_)
        refine go_on ?_
        go_wp2_with (fail)
        have hmk := aMake_any g2 two (L k) w4 H2.out HB2.out LK.out BK.out HF4.out.2.1.2.2.2.1
        rw [← HY.out] at hmk
        refine hmk.mono ?_
        clear hmk
        rintro e w5 ⟨rfl, hb5⟩
        have HR5 : Hid (Row w5 w3.heap.size 29 (bv x) ∧ AM w one two g1 g2 w5 ∧ w3.heap.size < w5.heap.size) :=
          ⟨HF4.out.1.below hb5 HF4.out.2.2, HF4.out.2.1.over hb5, Nat.lt_of_lt_of_le HF4.out.2.2 hb5.size⟩
        have n5 := Lib.hid (Row.new w5 29 (bv (zeroL 16)))
        clear hb5 HF4 HRW4
        go_wp2_with (refine wpList_store_Row rfl 29 _ _ rfl w5.heap.size (bv y) rfl rfl n5.out Y16.out YIN.out (bv_one _) ?_; refine stay ?_)
        refine go_on ?_
        have hF : Row ((w5.alloc (.cells (bv (zeroL 16)).toArray 29)).setRow w5.heap.size (bv y).toArray) w5.heap.size 29 (bv y) ∧ Below w5.heap.size w5 ((w5.alloc (.cells (bv (zeroL 16)).toArray 29)).setRow w5.heap.size (bv y).toArray) :=
          ⟨n5.out.put _, below_setRow ((Below.refl _ w5).alloc (Nat.le_refl _) _) (Nat.le_refl _) _⟩
        generalize hW6 : (w5.alloc _).setRow _ _ = w6
        have HF6 : Hid (Row w6 w3.heap.size 29 (bv x) ∧ Row w6 w5.heap.size 29 (bv y) ∧ AM w one two g1 g2 w6) := by
          rw [← hW6]; exact ⟨HR5.out.1.below hF.2 HR5.out.2.2, hF.1, HR5.out.2.1.over hF.2⟩
        clear hW6 hF n5 HR5
        go_upto_region 10 with (fail)
        obtain ⟨X, hX, g, hg⟩ := Ext.over_index w6
        have hgx : ∀ x', Row (g x') w3.heap.size 29 (bv x) ∧ Row (g x') w5.heap.size 29 (bv y) ∧ AM w one two g1 g2 (g x') := fun x' =>
          ⟨HF6.out.1.below ((hg _).2 ⟨x', rfl⟩) HF6.out.1.lt, HF6.out.2.1.below ((hg _).2 ⟨x', rfl⟩) HF6.out.2.1.lt, HF6.out.2.2.over ((hg _).2 ⟨x', rfl⟩)⟩
        have hrx : ∀ x', (g x').rangeAt bl (off + k * 16) (bv (L k)) := fun x' j v hv => ((hgx x').2.2.2.2.2.2.cell (p := ⟨bl, off + k * 16 + j, none⟩) hblw).trans (HRG.out j v hv)
        have HGX := Lib.hid hgx
        have HRX := Lib.hid hrx
        have HGI := Lib.hid hg
        have hq1 := run_equal_bytes 29 16 Try.underlying29 x x hxl hxl
        rw [decide_eq_true rfl] at hq1
        have hq2 := run_equal_bytes 29 16 Try.underlying29 y y hyl hyl
        rw [decide_eq_true rfl] at hq2
        have hgu := guardBlk
        clear hgx hrx hg
        refine Ext.region 26 (Ext.at_ [(1, Ext.eqS (.int .i64 0)), (3, Ext.eqS (.int .i64 0)), (13, Ext.eqS (.agg (bv x).toArray)), (23, Ext.eqS (.agg (bv y).toArray))]) (fun w' => ∃ x, w' = g x) (by kernel_rfl) (by kernel_rfl) ((HGI.out _).1 (Ext.Over.drew w6)) (Ext.at_stable (by
          intro p hp v
          simp only [List.mem_cons, List.not_mem_nil, or_false] at hp
          rcases hp with rfl | rfl | rfl | rfl <;> exact Ext.eqS_stable _ _)) ?_
        simp only [List.take_succ_cons, List.take_zero, List.drop_succ_cons, List.drop_zero]
        refine Ext.walk_take 1 (by kernel_rfl) (by kernel_rfl) (by kernel_rfl) ?_
        simp only [List.take_succ_cons, List.take_zero, List.drop_succ_cons, List.drop_zero]
        repeat (go_big_quiet_step (fail))
        refine wpQuiet_nil ?_
        refine Ext.walk_spec _ rfl rfl (by rintro _ ⟨x', rfl⟩ _; go_simp; exact Ext.call_same HGI.out (num3_any 0 _)) ?_
        rintro v rfl
        simp only [Act.put, List.setIfInBounds_toArray, List.set_cons_zero, List.set_cons_succ]
        refine Ext.walk_take 1 (by kernel_rfl) (by kernel_rfl) (by kernel_rfl) ?_
        simp only [List.take_succ_cons, List.take_zero, List.drop_succ_cons, List.drop_zero]
        repeat (go_big_quiet_step (fail))
        refine wpQuiet_nil ?_
        refine Ext.walk_spec _ rfl rfl (by rintro _ ⟨x', rfl⟩ _; go_simp; exact Ext.call_same HGI.out (num3_any 0 _)) ?_
        rintro v rfl
        simp only [Act.put, List.setIfInBounds_toArray, List.set_cons_zero, List.set_cons_succ]
        refine Ext.walk_take 3 (by kernel_rfl) (by kernel_rfl) (by kernel_rfl) ?_
        simp only [List.take_succ_cons, List.take_zero, List.drop_succ_cons, List.drop_zero]
        repeat (go_big_quiet_step (fail))
        refine wpQuiet_nil ?_
        refine Ext.walk_load (by kernel_rfl) rfl 29 _ rfl (w3.heap.size) 0 rfl (bv x) _ (by rintro _ ⟨x', rfl⟩; exact (HGX.out x').1.range) Try.underlying29 rfl X16.out ?_
        simp only [Act.put, List.setIfInBounds_toArray, List.set_cons_zero, List.set_cons_succ]
        refine Ext.walk_take 4 (by kernel_rfl) (by kernel_rfl) (by kernel_rfl) ?_
        simp only [List.take_succ_cons, List.take_zero, List.drop_succ_cons, List.drop_zero]
        repeat (go_big_quiet_step (fail))
        refine wpQuiet_nil ?_
        refine Ext.walk_load (by kernel_rfl) rfl 29 _ rfl bl (off + k * 16) rfl (bv (L k)) _ (by rintro _ ⟨x', rfl⟩; exact HRX.out x') Try.underlying29 rfl K16.out ?_
        simp only [Act.put, List.setIfInBounds_toArray, List.set_cons_zero, List.set_cons_succ]
        refine Ext.walk_spec_guarded _ (by kernel_rfl) rfl (by rintro _ ⟨x', rfl⟩ _; go_simp; refine Ext.call_eq HGI.out ?_; rw [HX.out]; exact rMake_any (w.heap.size) 0 16 one (L k) _ H1.out HB1.out LK.out BK.out (HGX.out x').2.2.1.range) ?_
        rintro v rfl
        simp only [Act.put, List.setIfInBounds_toArray, List.set_cons_zero, List.set_cons_succ]
        refine Ext.walk_take 3 (by kernel_rfl) (by kernel_rfl) (by kernel_rfl) ?_
        simp only [List.take_succ_cons, List.take_zero, List.drop_succ_cons, List.drop_zero]
        repeat (go_big_quiet_step (fail))
        refine wpQuiet_nil ?_
        refine Ext.walk_load (by kernel_rfl) rfl 29 _ rfl (w5.heap.size) 0 rfl (bv y) _ (by rintro _ ⟨x', rfl⟩; exact (HGX.out x').2.1.range) Try.underlying29 rfl Y16.out ?_
        simp only [Act.put, List.setIfInBounds_toArray, List.set_cons_zero, List.set_cons_succ]
        refine Ext.walk_take 4 (by kernel_rfl) (by kernel_rfl) (by kernel_rfl) ?_
        simp only [List.take_succ_cons, List.take_zero, List.drop_succ_cons, List.drop_zero]
        repeat (go_big_quiet_step (fail))
        refine wpQuiet_nil ?_
        refine Ext.walk_load (by kernel_rfl) rfl 29 _ rfl bl (off + k * 16) rfl (bv (L k)) _ (by rintro _ ⟨x', rfl⟩; exact HRX.out x') Try.underlying29 rfl K16.out ?_
        simp only [Act.put, List.setIfInBounds_toArray, List.set_cons_zero, List.set_cons_succ]
        refine Ext.walk_spec_guarded _ (by kernel_rfl) rfl (by rintro _ ⟨x', rfl⟩ _; go_simp; refine Ext.call_eq HGI.out ?_; rw [HY.out]; exact rMake_any (w.heap.size + 1) 0 16 two (L k) _ H2.out HB2.out LK.out BK.out (HGX.out x').2.2.2.1.range) ?_
        rintro v rfl
        simp only [Act.put, List.setIfInBounds_toArray, List.set_cons_zero, List.set_cons_succ]
        refine Ext.walk_take 2 (by kernel_rfl) (by kernel_rfl) (by kernel_rfl) ?_
        simp only [List.take_succ_cons, List.take_zero, List.drop_succ_cons, List.drop_zero]
        repeat (go_big_quiet_step (fail))
        refine wpQuiet_nil ?_
        refine Ext.walk_end ?_
        intro wx hwx _
        obtain ⟨x', rfl⟩ := hwx
        have HAM := Lib.hid (HGX.out x').2.2
        clear HGX HRX HGI hq1 hq2 hgu HF6
        go_wp2
        go_roundw
        case rel => exact ⟨k + 1, by omega, by go_num, HAM.out⟩
        case measure => simp [intOf]; omega
      · go_wp2_with (fail)
        refine (num3_any 0 _).mono ?_
        rintro e w' ⟨rfl, rfl⟩
        go_wp2_with (fail)
        refine (num3_any 0 _).mono ?_
        rintro e w' ⟨rfl, rfl⟩
        go_wp2_with (fail)
        refine (works3_any _).mono ?_
        rintro e w9 ⟨rfl, hb9⟩
        go_wp2
        go_ret
        exact ⟨rfl, HR.out.2.2.2.2.trans (hb9.mono HR.out.2.2.2.2.size)⟩
  · go_enter Try.func7, Try.ntmps7
    go_wp2_with (fail)
    refine (works3_any _).mono ?_
    rintro e w1 ⟨rfl, hb1⟩
    go_wp2
    go_ret
    exact ⟨rfl, HBL.out.trans (hb1.mono HBL.out.size)⟩
theorem cells16 : Try.prog.cellsOf 29 = 16 := by kernel_rfl
set_option maxRecDepth 100000 in
theorem aesMany_lifted (os : Os) (started : os.Started) (H : Type) (enc : TypeId × Value → H) :
    ReturnsInHanded {} Try.checked os 7 .any (Rows.aesManySpec.pre6 enc Try.prog Try.f7 Rows.aesManyRow.domain false) (Rows.aesManySpec.post enc Try.prog Try.f7 false true false false) := by
  refine returnsInHanded_of_change (C := Try.checked) own started (by kernel_rfl) Try.func7
    (ChangeSpec.witness6 (enc := enc) (C := Try.checked) false ⟨#[], #[.agg (Array.replicate 16 (.int .u8 0)), .agg (Array.replicate 16 (.int .u8 0)), .slice none 0 0], []⟩ 8 (by kernel_rfl) (by kernel_rfl) (by kernel_rfl) (by kernel_rfl)) ?_
  intro W base args ds gs before hval0 hW hcnd _
  have hval : ∀ (j : Nat) t v, Try.f7.params[j]? = some t → args[j]? = some v → Value.okWide Try.prog W .any base t v := hval0
  have hW' := hW
  obtain ⟨p, q, hA, hV, rfl, hfz, hnd⟩ := hW
  rw [show Try.f7.params.toList = [29, 29, 37] from rfl] at hA
  obtain ⟨rfl, rfl⟩ := trodVars_none hV
  obtain ⟨v0, v1, v2, d0, d1, d2, p0, p1, p2, rfl, rfl, rfl, h0, h1, h2⟩ := trodAll_three hA
  obtain ⟨one, rfl, l1, b1⟩ := open_bytes Try.underlying29 Try.underlying5 cells_u8 cells16 (hval 0 29 v0 rfl rfl) h0
  obtain ⟨two, rfl, l2, b2⟩ := open_bytes Try.underlying29 Try.underlying5 cells_u8 cells16 (hval 1 29 v1 rfl rfl) h1
  obtain ⟨a, n, cap, L, rfl, _, hL⟩ := open_blks Try.underlying37 Try.underlying29 Try.underlying5 cells_u8 cells16 (hval 2 37 v2 rfl rfl) h2
  refine (aesMany_walk one two a n cap L W l1 b1 l2 b2 hL).mono fun e W' ⟨he, hb⟩ => ?_
  subst he
  exact post_true laidOut hW' hb rfl (by kernel_rfl) rfl Try.underlying4 rfl
theorem aesMany_over : Rows.aesManyRow.holds Try.pinned (OpenSpec.ofChange Rows.aesManySpec) :=
  OpenClaim.holds_of_wide 7 Try.f7 rfl rfl rfl rfl rfl rfl rfl ⟨rfl, rfl, rfl, rfl, rfl⟩ rfl rfl rfl rfl rfl (by kernel_rfl) Try.func7 (by kernel_rfl)
    (of_decide_eq_true (by kernel_rfl)) (by unfold Func.isWrapper; first | (rw [if_pos (by decide +kernel)]; kernel_rfl) | (rw [if_neg (by decide +kernel)]; exact ⟨rfl, rfl⟩))
    (fun os started H enc _ => aesMany_lifted os started H enc)
theorem aesMany_holds : Rows.AesManySaid := aesMany_over
#print axioms aesMany_holds
end Go.Proofs.Ytfkpilfnhgjmfaa
