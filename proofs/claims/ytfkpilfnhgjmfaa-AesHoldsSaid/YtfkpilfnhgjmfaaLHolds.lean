/-
  'AesHolds' returns true for every input, and its arguments read behind the call as before. No conditions.
-/
import Derived.Test.YtfkpilfnhgjmfaaWorks
import Derived.Test.YtfkpilfnhgjmfaaFive
import Derived.Test.YtfkpilfnhgjmfaaFen2
import Derived.Test.YtfkpilfnhgjmfaaInj
namespace Go.Proofs.Ytfkpilfnhgjmfaa
open Go.ChangeShapes Go.WideShapes Go.ChangeAt Go.RowKit
attribute [local go_sem] Oper.semAt_some noJump_normal noJump_exit noJump_ret noJump_panic wide_fn wide_depth
theorem run_slice_blk (b : Nat) (w : World) : (Instr.sliceAt 29 (.pointer (some ⟨b, 0, none⟩)) none none none).run Try.prog w = .ok (.slice (some ⟨b, 0, none⟩) 16 16) w := by kernel_rfl
theorem run_eq_nilFunc (f : Fn) (c : Array Value) (w : World) : (binOp .eql 40 (.func f #[] c) .nilFunc).run Try.prog w = .ok (.bool false) w := by kernel_rfl
theorem zero_blk (w : World) : (zeroValue 29).run Try.prog w = .ok (.agg (bv (zeroL 16)).toArray) w := by kernel_rfl
/-- what stands: the key, the blocks, the cipher -/
def HH (w : World) (key x y : List Int) (g : Nat) (V : World) : Prop :=
  Row V w.heap.size 29 (bv key) ∧ Row V (w.heap.size + 1) 29 (bv x) ∧ Row V (w.heap.size + 1 + 1) 29 (bv y) ∧ IsCip V g key ∧ Below w.heap.size w V
theorem HH.over {w : World} {key x y : List Int} {g : Nat} {V V' : World} (h : HH w key x y g V) (hb : Below V.heap.size V V') : HH w key x y g V' := by
  obtain ⟨h0, h1, h2, h4, h5⟩ := h
  exact ⟨h0.below hb h0.lt, h1.below hb h1.lt, h2.below hb h2.lt, Row.below h4 hb h4.lt, h5.trans (hb.mono h5.size)⟩
/-- .. and the two that are made -/
def HM (w : World) (key x y u v : List Int) (g Bu Bv : Nat) (V : World) : Prop := HH w key x y g V ∧ Row V Bu 29 (bv u) ∧ Row V Bv 29 (bv v)
theorem HM.over {w : World} {key x y u v : List Int} {g Bu Bv : Nat} {V V' : World} (h : HM w key x y u v g Bu Bv V) (hb : Below V.heap.size V V') : HM w key x y u v g Bu Bv V' :=
  ⟨h.1.over hb, h.2.1.below hb h.2.1.lt, h.2.2.below hb h.2.2.lt⟩
/-- k rounds are over: what came last -/
def LK (key x : List Int) (W : World) (k : Nat) (A : World) : Prop := Row A W.heap.size 29 (bv (lastL key x k)) ∧ Below W.heap.size W A
theorem LK.stay {key x : List Int} {W : World} {k : Nat} {A B : World} {H : Nat} (hH : W.heap.size < H) (h : LK key x W k A) (hb : Below H A B) : LK key x W k B :=
  ⟨h.1.below hb hH, h.2.trans (hb.mono (Nat.le_of_lt hH))⟩
set_option maxRecDepth 100000 in
set_option maxHeartbeats 3200000 in
theorem aesHolds_walk (a b : Int) (key x y : List Int) (w : World) (a0 : 0 ≤ a) (a1 : a < 256) (b0 : 0 ≤ b) (b1 : b < 256) (hk : key.length = 16) (hB : Byt key) (lx : x.length = 16) (hbx : Byt x) (ly : y.length = 16) (hby : Byt y) :
    Calls Try.prog 8 #[.int .u8 a, .int .u8 b, .agg (bv key).toArray, .agg (bv x).toArray, .agg (bv y).toArray] w fun e w' => e = .returned (.bool true) ∧ Below w.heap.size w w' := by
  have HK := Lib.hid hk
  have HB := Lib.hid hB
  have LX := Lib.hid lx
  have HBX := Lib.hid hbx
  have LY := Lib.hid ly
  have HBY := Lib.hid hby
  obtain ⟨u, hu⟩ : ∃ u, u = stepL key x 10 := ⟨_, rfl⟩
  obtain ⟨v, hv⟩ : ∃ v, v = stepL key y 10 := ⟨_, rfl⟩
  have hul : u.length = 16 := by rw [hu]; exact stepL_length _ _ 10
  have hvl : v.length = 16 := by rw [hv]; exact stepL_length _ _ 10
  have hone : decide (u = v) = decide (x = y) := by
    by_cases h : x = y
    · rw [decide_eq_true h, decide_eq_true (by rw [hu, hv, h])]
    · rw [decide_eq_false h, decide_eq_false (fun h' => h (stepL_one hB lx ly hbx hby 10 (by rw [← hu, ← hv]; exact h')))]
  have hbox : (box8 a == box8 b) = (a == b) := by
    by_cases h : a = b
    · subst h; simp
    · have h' : box8 a ≠ box8 b := fun h' => h (box_one a0 a1 b0 b1 h')
      rw [beq_eq_false_iff_ne.2 h, beq_eq_false_iff_ne.2 h']
  have HONE := Lib.hid hone
  have HBOX := Lib.hid hbox
  have HU := Lib.hid hu
  have HV' := Lib.hid hv
  have i16 : ∀ l : List Int, l.length = 16 → (Try.prog.info? 29).map (·.size) = some (bv l).length := fun l h => by rw [bv_length, h]; kernel_rfl
  have I16 := Lib.hid i16
  have lin : ∀ l : List Int, l.length = 16 → (bv (zeroL 16)).length = (bv l).length := fun l h => by rw [bv_length, bv_length, h, zeroL_length]
  have LIN := Lib.hid lin
  have hsl := run_slice_blk
  have hnf := run_eq_nilFunc
  have hzb := zero_blk
  clear hk hB lx hbx ly hby hu hv hone hbox i16 lin
  refine (callsIn_wide (n := 9)).1 ?_
  refine callsIn_of_wp_marks Try.func8 rfl trivial ?_ rfl
  simp only [Try.ntmps8, List.size_toArray, List.length_cons, List.length_nil, Nat.reduceAdd, Nat.reduceSub, Array.replicate_succ, Array.replicate_zero, List.push_toArray, List.append_toArray, List.nil_append, List.cons_append]
  refine wpIn_wide.2 ?_
  go_wp2_with (fail)
  generalize hV : ((w.alloc _).alloc _).alloc _ = V
  have HV : Hid (Row V w.heap.size 29 (bv key) ∧ Row V (w.heap.size + 1) 29 (bv x) ∧ Row V (w.heap.size + 1 + 1) 29 (bv y) ∧ Below w.heap.size w V) := by
    rw [← hV]; exact (rows3 w 29 29 29 (bv key) (bv x) (bv y)).elim fun h0 h => ⟨h0.out, h.1.out, h.2.1.out, h.2.2.out⟩
  clear hV
  refine (aNew_any key w.heap.size 0 16 V HK.out HB.out HV.out.1.range).mono ?_
  rintro e w1 ⟨g, rfl, hg, hc, hb1⟩
  have HM1 : Hid (HH w key x y g w1) := by
    obtain ⟨h0, h1, h2, h4⟩ := HV.out
    exact ⟨h0.below hb1 h0.lt, h1.below hb1 h1.lt, h2.below hb1 h2.lt, hc, h4.trans (hb1.mono h4.size)⟩
  clear HV hg hc hb1
  go_wp2_with (refine wpList_load_Row rfl 29 _ rfl _ rfl HM1.out.2.1 Try.underlying29 (I16.out x LX.out) ?_; refine stay ?_)
  refine go_on ?_
  go_wp2_with (fail)
  have hmk := aMake_any g key x w1 HK.out HB.out LX.out HBX.out HM1.out.2.2.2.1
  rw [← HU.out] at hmk
  refine hmk.mono ?_
  clear hmk
  rintro e w2 ⟨rfl, hb2⟩
  have HM2 := Lib.hid (HM1.out.over hb2)
  have n2 := Lib.hid (Row.new w2 29 (bv (zeroL 16)))
  clear hb2 HM1
  go_wp2_with (refine wpList_store_Row rfl 29 _ _ rfl w2.heap.size (bv u) rfl rfl n2.out (I16.out u hul) (LIN.out u hul) (bv_one _) ?_; refine stay ?_)
  refine go_on ?_
  have hF : Row ((w2.alloc (.cells (bv (zeroL 16)).toArray 29)).setRow w2.heap.size (bv u).toArray) w2.heap.size 29 (bv u) ∧ Below w2.heap.size w2 ((w2.alloc (.cells (bv (zeroL 16)).toArray 29)).setRow w2.heap.size (bv u).toArray) :=
    ⟨n2.out.put _, below_setRow ((Below.refl _ w2).alloc (Nat.le_refl _) _) (Nat.le_refl _) _⟩
  generalize hW3 : (w2.alloc _).setRow _ _ = w3
  have H3 : Hid (Row w3 w2.heap.size 29 (bv u) ∧ HH w key x y g w3) := by
    rw [← hW3]; exact ⟨hF.1, HM2.out.over hF.2⟩
  clear hW3 hF n2 HM2
  go_wp2_with (refine wpList_load_Row rfl 29 _ rfl _ rfl H3.out.2.2.2.1 Try.underlying29 (I16.out y LY.out) ?_; refine stay ?_)
  refine go_on ?_
  go_wp2_with (fail)
  have hmk := aMake_any g key y w3 HK.out HB.out LY.out HBY.out H3.out.2.2.2.2.1
  rw [← HV'.out] at hmk
  refine hmk.mono ?_
  clear hmk
  rintro e w4 ⟨rfl, hb4⟩
  have HM4 : Hid (Row w4 w2.heap.size 29 (bv u) ∧ HH w key x y g w4) := ⟨H3.out.1.below hb4 H3.out.1.lt, H3.out.2.over hb4⟩
  have n4 := Lib.hid (Row.new w4 29 (bv (zeroL 16)))
  clear hb4 H3
  go_wp2_with (refine wpList_store_Row rfl 29 _ _ rfl w4.heap.size (bv v) rfl rfl n4.out (I16.out v hvl) (LIN.out v hvl) (bv_one _) ?_; refine stay ?_)
  refine go_on ?_
  have hF : Row ((w4.alloc (.cells (bv (zeroL 16)).toArray 29)).setRow w4.heap.size (bv v).toArray) w4.heap.size 29 (bv v) ∧ Below w4.heap.size w4 ((w4.alloc (.cells (bv (zeroL 16)).toArray 29)).setRow w4.heap.size (bv v).toArray) :=
    ⟨n4.out.put _, below_setRow ((Below.refl _ w4).alloc (Nat.le_refl _) _) (Nat.le_refl _) _⟩
  generalize hW5 : (w4.alloc _).setRow _ _ = w5
  have H5 : Hid (HM w key x y u v g w2.heap.size w4.heap.size w5) := by
    rw [← hW5]; exact ⟨HM4.out.2.over hF.2, HM4.out.1.below hF.2 HM4.out.1.lt, hF.1⟩
  clear hW5 hF n4 HM4
  have n5 := Lib.hid (Row.new w5 29 (bv (zeroL 16)))
  go_wp2_with (refine wpList_store_Row rfl 29 _ _ rfl w5.heap.size (bv (zeroL 16)) rfl rfl n5.out (I16.out _ (zeroL_length 16)) rfl (bv_one _) ?_; refine stay ?_)
  refine go_on ?_
  have hF : LK key x w5 0 ((w5.alloc (.cells (bv (zeroL 16)).toArray 29)).setRow w5.heap.size (bv (zeroL 16)).toArray) :=
    ⟨n5.out.put _, below_setRow ((Below.refl _ w5).alloc (Nat.le_refl _) _) (Nat.le_refl _) _⟩
  generalize hW6 : (w5.alloc _).setRow _ _ = w6
  have H6 : Hid (LK key x w5 0 w6) := by rw [← hW6]; exact hF
  have hs6 : w5.heap.size < w6.heap.size := H6.out.1.lt
  clear hW6 hF n5
  go_wp2_with (refine wpList_load_Row rfl 29 _ rfl _ rfl (H5.out.over H6.out.2).1.2.1 Try.underlying29 (I16.out x LX.out) ?_; refine stay ?_)
  refine go_on ?_
  go_wp2_with (fail)
  refine (aSteps_any (some ⟨g, 0, none⟩) x w6).mono ?_
  rintro e w7 ⟨rfl, -, -, -, hb7⟩
  have H7 : Hid (LK key x w5 0 w7) := H6.out.stay hs6 hb7
  have hs7 : w5.heap.size < w7.heap.size := H7.out.1.lt
  clear H6 hb7
  go_wp2_with (refine wpList_load_Row rfl 29 _ rfl _ rfl (H5.out.over H7.out.2).1.2.1 Try.underlying29 (I16.out x LX.out) ?_; refine stay ?_)
  refine go_on ?_
  go_wp2_with (fail)
  refine (aSteps_any (some ⟨g, 0, none⟩) x w7).mono ?_
  rintro e w8 ⟨rfl, rP, rQ, -, hb8⟩
  have H8 : Hid (LK key x w5 0 w8 ∧ Row w8 w7.heap.size 30 [.pointer (some ⟨g, 0, none⟩)] ∧ Row w8 (w7.heap.size + 1) 29 (bv x)) := ⟨H7.out.stay hs7 hb8, rP, rQ⟩
  have hs8 : w5.heap.size < w8.heap.size := H8.out.1.1.lt
  clear H7 hb8 rP rQ
  go_wp2_with (fail)
  refine (wpIn_wide (n := 9)).1 ?_
  refine wpIn_range_it rfl (by omega) (gf := 59) (lb := #[.pointer (some ⟨w7.heap.size, 0, none⟩), .pointer (some ⟨w7.heap.size + 1, 0, none⟩)]) rfl trivial (enters_of Try.func59 (by kernel_rfl) rfl)
    (encs := fun k => #[.int .i64 (k : Int), .agg (bv (stepL key x k)).toArray]) (N := 11) (T := fun _ => False) (fun h => h) (fun _ => rfl)
    (fun W1 hb1 _ => by
      have hm := (H5.out.over H8.out.1.2).1.2.2.2.1
      exact stepsIt_gives _ w7.heap.size (w7.heap.size + 1) g key x _ W1 HK.out HB.out LX.out HBX.out (H8.out.2.1.below hb1 H8.out.2.1.lt) (H8.out.2.2.below hb1 H8.out.2.2.lt) (Row.below hm hb1 (Row.lt hm)))
    (LK key x w5) (fun _ _ _ => False)
    (fun k A B h hb => h.stay hs8 hb) (fun _ _ _ _ h _ => h) H8.out.1 ?round ?done ?stop
  case stop =>
    rintro D c k W1 _ _ _ h _
    exact h.elim
  case round =>
    rintro l k A hk hl1 hl2 hlk
    have HLK := Lib.hid hlk
    have hszA : w5.heap.size < A.heap.size := hlk.1.lt
    clear hlk
    obtain ⟨z, hz⟩ : ∃ z, z = stepL key x k := ⟨_, rfl⟩
    have hzl : z.length = 16 := by rw [hz]; exact stepL_length _ _ k
    have z16 := I16.out z hzl
    have Z16 := Lib.hid z16
    have zin : 0 + (bv z).length ≤ (bv (zeroL 16)).length := by rw [bv_length, bv_length, hzl, zeroL_length]; omega
    have ZIN := Lib.hid zin
    have uin : 0 + (bv z).length ≤ (bv (lastL key x k)).length := by rw [bv_length, bv_length, hzl, lastL_length]; omega
    have UIN := Lib.hid uin
    rw [← hz]
    have HZ := Lib.hid hz
    have n0 := Lib.hid (Row.new A 29 (bv (zeroL 16)))
    clear z16 zin uin hz
    gi_wp2_with (refine wpListIn_store_in rfl 29 _ _ rfl A.heap.size 0 (bv z) rfl rfl n0.out Z16.out ZIN.out (bv_one _) ?_; refine stay ?_)
    refine go_on ?_
    have hA1 : Row ((A.alloc (.cells (bv (zeroL 16)).toArray 29)).setCells A.heap.size 0 (bv z)) A.heap.size 29 (bv z) ∧
        Below A.heap.size A ((A.alloc (.cells (bv (zeroL 16)).toArray 29)).setCells A.heap.size 0 (bv z)) :=
      ⟨n0.out.putAll _ (by rw [bv_length, bv_length, hzl, zeroL_length]), below_setCells (Nat.le_refl _) _ _ ((Below.refl _ A).alloc (Nat.le_refl _) _)⟩
    generalize hA : (A.alloc _).setCells A.heap.size 0 _ = A1
    have HA1 : Hid (Row A1 A.heap.size 29 (bv z) ∧ Below A.heap.size A A1) := by rw [← hA]; exact hA1
    clear hA hA1 n0 ZIN
    gi_wp2
    refine ⟨KeepB.below HA1.out.2 (Nat.le_refl _), fun o => ?_⟩
    have hA2 : Row (A1.putObj l o) A.heap.size 29 (bv z) ∧ LK key x w5 k (A1.putObj l o) :=
      ⟨HA1.out.1.turned (by omega) _, (HLK.out.stay hs8 (HA1.out.2.mono (by omega))).stay hs8 (below_putObj A1 o (by omega))⟩
    generalize A1.putObj l o = A2 at hA2 ⊢
    have HA2 := Lib.hid hA2
    clear hA2 HA1 HLK
    gi_wp2_with (first | (refine wpListIn_load_Row rfl 29 _ rfl _ rfl HA2.out.1 Try.underlying29 Z16.out ?_) | (refine wpListIn_store_in rfl 29 _ _ rfl w5.heap.size 0 (bv z) rfl rfl HA2.out.2.1 Z16.out UIN.out (bv_one _) ?_; refine stay ?_))
    refine go_on ?_
    have HKB : Hid (KeepB w8.heap.size (fun _ => False) A2 (A2.setCells w5.heap.size 0 (bv z)) ∧ LK key x w5 (k + 1) (A2.setCells w5.heap.size 0 (bv z))) := by
      refine ⟨KeepB.setCells (.inl hs8) (.inl fun h => h) _ _ (KeepB.refl _ _ _), ?_, below_setCells (Nat.le_refl _) _ _ HA2.out.2.2⟩
      have := HA2.out.2.1.putAll (bv z) (by rw [bv_length, bv_length, hzl, lastL_length])
      rw [lastL, ← HZ.out]
      exact this
    gi_wp2
    exact HKB.out
  case done =>
    rintro D W1 hD hlk hd
    have hlast : lastL key x 11 = u := by rw [HU.out, lastL]
    have HN : Hid (HM w key x y u v g w2.heap.size w4.heap.size W1 ∧ Row W1 w5.heap.size 29 (bv u) ∧ W1.heap[D]? = some (.deferred (some [])) ∧ D < W1.heap.size ∧ w.heap.size < D) := by
      obtain ⟨h1, h2⟩ := hlk
      rw [hlast] at h1
      have := H5.out.1.1.lt
      exact ⟨H5.out.over h2, h1, hd, (Array.getElem?_eq_some_iff.1 hd).1, by omega⟩
    clear hlk hd hlast H8 H5
    by_cases ha : a = 0
    · have hb0 : (a == 0) = true := by simpa using ha
      clear hb0
      subst ha
      go_wp2_with (fail)
      have hz := aInv_any 0 W1 (by omega) (by omega)
      rw [inv_of_zero] at hz
      refine hz.mono ?_
      clear hz
      rintro e w' ⟨rfl, rfl⟩
      go_upto_region 12 with (fail)
      clear hnf hsl hzb hs6 hs7 hs8 hD
      obtain ⟨X, hX, gx, hgx⟩ := Ext.over_index W1
      have hmx : ∀ x', HM w key x y u v g w2.heap.size w4.heap.size (gx x') ∧ Row (gx x') w5.heap.size 29 (bv u) := fun x' =>
        have hov : Below W1.heap.size W1 (gx x') := (hgx _).2 ⟨x', rfl⟩
        ⟨HN.out.1.over hov, HN.out.2.1.below hov HN.out.2.1.lt⟩
      have HMX := Lib.hid hmx
      have HGI := Lib.hid hgx
      have hqu := run_equal_bytes 29 16 Try.underlying29 u u hul hul
      rw [decide_eq_true rfl] at hqu
      have hqx := run_equal_bytes 29 16 Try.underlying29 x y LX.out LY.out
      have hqv := run_equal_bytes 29 16 Try.underlying29 u v hul hvl
      rw [HONE.out] at hqv
      have hbx := HBOX.out
      have hbx' : decide (box8 0 = box8 b) = decide (0 = b) := by have := HBOX.out; rw [Bool.eq_iff_iff] at this; simpa using this
      have hgu := guardBlk
      clear hmx hgx
      refine Ext.region 38 (Ext.at_ [(1, Ext.eqS (.int .i64 0)), (3, Ext.eqS (.int .i64 0)), (6, Ext.eqS (.int .i64 0)), (14, Ext.eqS (.int .u8 (box8 0))), (16, Ext.eqS (.int .u8 (box8 b))), (35, Ext.eqS (.bool true))]) (fun w' => ∃ x, w' = gx x) (by kernel_rfl) (by kernel_rfl) ((HGI.out _).1 (Ext.Over.drew W1)) (Ext.at_stable (by
        intro p hp v
        simp only [List.mem_cons, List.not_mem_nil, or_false] at hp
        rcases hp with rfl | rfl | rfl | rfl | rfl | rfl <;> exact Ext.eqS_stable _ _)) ?_
      simp only [List.take_succ_cons, List.take_zero, List.drop_succ_cons, List.drop_zero]
      refine Ext.walk_take 1 (by kernel_rfl) (by kernel_rfl) (by kernel_rfl) ?_
      simp only [List.take_succ_cons, List.take_zero, List.drop_succ_cons, List.drop_zero]
      repeat (go_big_quiet_step (fail))
      refine wpQuiet_nil ?_
      refine Ext.walk_spec _ (by kernel_rfl) rfl (by rintro _ ⟨x', rfl⟩ _; go_simp; exact Ext.call_same HGI.out (num3_any 0 _)) ?_
      rintro v' rfl
      simp only [Act.put, List.setIfInBounds_toArray, List.set_cons_zero, List.set_cons_succ]
      refine Ext.walk_take 1 (by kernel_rfl) (by kernel_rfl) (by kernel_rfl) ?_
      simp only [List.take_succ_cons, List.take_zero, List.drop_succ_cons, List.drop_zero]
      repeat (go_big_quiet_step (fail))
      refine wpQuiet_nil ?_
      refine Ext.walk_spec _ (by kernel_rfl) rfl (by rintro _ ⟨x', rfl⟩ _; go_simp; exact Ext.call_same HGI.out (num3_any 0 _)) ?_
      rintro v' rfl
      simp only [Act.put, List.setIfInBounds_toArray, List.set_cons_zero, List.set_cons_succ]
      refine Ext.walk_take 2 (by kernel_rfl) (by kernel_rfl) (by kernel_rfl) ?_
      simp only [List.take_succ_cons, List.take_zero, List.drop_succ_cons, List.drop_zero]
      repeat (go_big_quiet_step (fail))
      refine wpQuiet_nil ?_
      refine Ext.walk_spec _ (by kernel_rfl) rfl (by rintro _ ⟨x', rfl⟩ _; go_simp; exact Ext.call_same HGI.out (num3_any 0 _)) ?_
      rintro v' rfl
      simp only [Act.put, List.setIfInBounds_toArray, List.set_cons_zero, List.set_cons_succ]
      refine Ext.walk_take 7 (by kernel_rfl) (by kernel_rfl) (by kernel_rfl) ?_
      simp only [List.take_succ_cons, List.take_zero, List.drop_succ_cons, List.drop_zero]
      repeat (go_big_quiet_step (fail))
      refine wpQuiet_nil ?_
      refine Ext.walk_spec_guarded _ (by kernel_rfl) rfl (by rintro _ ⟨x', rfl⟩ _; go_simp; exact Ext.call_eq HGI.out (aBox_any 0 _ a0 a1)) ?_
      rintro v' rfl
      simp only [Act.put, List.setIfInBounds_toArray, List.set_cons_zero, List.set_cons_succ]
      refine Ext.walk_take 1 (by kernel_rfl) (by kernel_rfl) (by kernel_rfl) ?_
      simp only [List.take_succ_cons, List.take_zero, List.drop_succ_cons, List.drop_zero]
      repeat (go_big_quiet_step (fail))
      refine wpQuiet_nil ?_
      refine Ext.walk_spec_guarded _ (by kernel_rfl) rfl (by rintro _ ⟨x', rfl⟩ _; go_simp; exact Ext.call_eq HGI.out (aBox_any b _ b0 b1)) ?_
      rintro v' rfl
      simp only [Act.put, List.setIfInBounds_toArray, List.set_cons_zero, List.set_cons_succ]
      refine Ext.walk_take 4 (by kernel_rfl) (by kernel_rfl) (by kernel_rfl) ?_
      simp only [List.take_succ_cons, List.take_zero, List.drop_succ_cons, List.drop_zero]
      repeat (go_big_quiet_step (fail))
      refine wpQuiet_nil ?_
      refine Ext.walk_load (by kernel_rfl) rfl 29 _ rfl w5.heap.size 0 rfl (bv u) _ (by rintro _ ⟨x', rfl⟩; exact (HMX.out x').2.range) Try.underlying29 rfl (I16.out u hul) ?_
      simp only [Act.put, List.setIfInBounds_toArray, List.set_cons_zero, List.set_cons_succ]
      refine Ext.walk_load (by kernel_rfl) rfl 29 _ rfl w2.heap.size 0 rfl (bv u) _ (by rintro _ ⟨x', rfl⟩; exact (HMX.out x').1.2.1.range) Try.underlying29 rfl (I16.out u hul) ?_
      simp only [Act.put, List.setIfInBounds_toArray, List.set_cons_zero, List.set_cons_succ]
      refine Ext.walk_take 3 (by kernel_rfl) (by kernel_rfl) (by kernel_rfl) ?_
      simp only [List.take_succ_cons, List.take_zero, List.drop_succ_cons, List.drop_zero]
      repeat (go_big_quiet_step (fail))
      refine wpQuiet_nil ?_
      refine Ext.walk_load (by kernel_rfl) rfl 29 _ rfl (w.heap.size + 1) 0 rfl (bv x) _ (by rintro _ ⟨x', rfl⟩; exact (HMX.out x').1.1.2.1.range) Try.underlying29 rfl (I16.out x LX.out) ?_
      simp only [Act.put, List.setIfInBounds_toArray, List.set_cons_zero, List.set_cons_succ]
      refine Ext.walk_load (by kernel_rfl) rfl 29 _ rfl (w.heap.size + 1 + 1) 0 rfl (bv y) _ (by rintro _ ⟨x', rfl⟩; exact (HMX.out x').1.1.2.2.1.range) Try.underlying29 rfl (I16.out y LY.out) ?_
      simp only [Act.put, List.setIfInBounds_toArray, List.set_cons_zero, List.set_cons_succ]
      refine Ext.walk_take 1 (by kernel_rfl) (by kernel_rfl) (by kernel_rfl) ?_
      simp only [List.take_succ_cons, List.take_zero, List.drop_succ_cons, List.drop_zero]
      repeat (go_big_quiet_step (fail))
      refine wpQuiet_nil ?_
      refine Ext.walk_load (by kernel_rfl) rfl 29 _ rfl w2.heap.size 0 rfl (bv u) _ (by rintro _ ⟨x', rfl⟩; exact (HMX.out x').1.2.1.range) Try.underlying29 rfl (I16.out u hul) ?_
      simp only [Act.put, List.setIfInBounds_toArray, List.set_cons_zero, List.set_cons_succ]
      refine Ext.walk_load (by kernel_rfl) rfl 29 _ rfl w4.heap.size 0 rfl (bv v) _ (by rintro _ ⟨x', rfl⟩; exact (HMX.out x').1.2.2.range) Try.underlying29 rfl (I16.out v hvl) ?_
      simp only [Act.put, List.setIfInBounds_toArray, List.set_cons_zero, List.set_cons_succ]
      refine Ext.walk_take 4 (by kernel_rfl) (by kernel_rfl) (by kernel_rfl) ?_
      simp only [List.take_succ_cons, List.take_zero, List.drop_succ_cons, List.drop_zero]
      repeat (go_big_quiet_step (fail))
      refine wpQuiet_nil ?_
      refine Ext.walk_spec_guarded _ (by kernel_rfl) rfl (by rintro _ ⟨x', rfl⟩ _; go_simp; exact Ext.call_eq HGI.out (works3_any _)) ?_
      rintro v' rfl
      simp only [Act.put, List.setIfInBounds_toArray, List.set_cons_zero, List.set_cons_succ]
      refine Ext.walk_take 2 (by kernel_rfl) (by kernel_rfl) (by kernel_rfl) ?_
      simp only [List.take_succ_cons, List.take_zero, List.drop_succ_cons, List.drop_zero]
      repeat (go_big_quiet_step (fail))
      refine wpQuiet_nil ?_
      refine Ext.walk_end ?_
      intro wx hwx _
      have hov : Below W1.heap.size W1 wx := (HGI.out _).2 hwx
      have HZ : Hid (wx.heap[D]? = some (.deferred (some [])) ∧ w.heap.size < D ∧ Below w.heap.size w wx) :=
        ⟨(hov.block D HN.out.2.2.2.1).trans HN.out.2.2.1, HN.out.2.2.2.2, (HN.out.1.1.over hov).2.2.2.2⟩
      clear hwx hov HMX HGI hqu hqx hqv hbx hbx' hgu hX gx X
      go_wp2
      refine ⟨by simp, .inl ⟨_, _, rfl, run_takeDeferred HZ.out.1, ?_⟩⟩
      exact ⟨_, results_tmp rfl _ _ _, rfl, HZ.out.2.2.trans (below_putObj wx _ (by have := HZ.out.2.1; omega))⟩
    · have hinv : mul8 a (inv8 a) = 1 := mul_inv a (by omega) a1
      have hib := inv8_bd a a0 a1
      go_wp2_with (fail)
      refine (aInv_any a _ a0 a1).mono ?_
      rintro e w' ⟨rfl, rfl⟩
      go_wp2_with (fail)
      refine (aMul_any a (inv8 a) _ a0 a1 hib.1 hib.2).mono ?_
      rw [hinv]
      rintro e w' ⟨rfl, rfl⟩
      clear hib hinv
      go_upto_region 12 with (fail)
      clear hnf hsl hzb hs6 hs7 hs8 hD
      obtain ⟨X, hX, gx, hgx⟩ := Ext.over_index W1
      have hmx : ∀ x', HM w key x y u v g w2.heap.size w4.heap.size (gx x') ∧ Row (gx x') w5.heap.size 29 (bv u) := fun x' =>
        have hov : Below W1.heap.size W1 (gx x') := (hgx _).2 ⟨x', rfl⟩
        ⟨HN.out.1.over hov, HN.out.2.1.below hov HN.out.2.1.lt⟩
      have HMX := Lib.hid hmx
      have HGI := Lib.hid hgx
      have hqu := run_equal_bytes 29 16 Try.underlying29 u u hul hul
      rw [decide_eq_true rfl] at hqu
      have hqx := run_equal_bytes 29 16 Try.underlying29 x y LX.out LY.out
      have hqv := run_equal_bytes 29 16 Try.underlying29 u v hul hvl
      rw [HONE.out] at hqv
      have hbx := HBOX.out
      have hbx' : decide (box8 a = box8 b) = decide (a = b) := by have := HBOX.out; rw [Bool.eq_iff_iff] at this; simpa using this
      have hgu := guardBlk
      clear hmx hgx
      refine Ext.region 38 (Ext.at_ [(1, Ext.eqS (.int .i64 0)), (3, Ext.eqS (.int .i64 0)), (6, Ext.eqS (.int .i64 0)), (14, Ext.eqS (.int .u8 (box8 a))), (16, Ext.eqS (.int .u8 (box8 b))), (35, Ext.eqS (.bool true))]) (fun w' => ∃ x, w' = gx x) (by kernel_rfl) (by kernel_rfl) ((HGI.out _).1 (Ext.Over.drew W1)) (Ext.at_stable (by
        intro p hp v
        simp only [List.mem_cons, List.not_mem_nil, or_false] at hp
        rcases hp with rfl | rfl | rfl | rfl | rfl | rfl <;> exact Ext.eqS_stable _ _)) ?_
      simp only [List.take_succ_cons, List.take_zero, List.drop_succ_cons, List.drop_zero]
      refine Ext.walk_take 1 (by kernel_rfl) (by kernel_rfl) (by kernel_rfl) ?_
      simp only [List.take_succ_cons, List.take_zero, List.drop_succ_cons, List.drop_zero]
      repeat (go_big_quiet_step (fail))
      refine wpQuiet_nil ?_
      refine Ext.walk_spec _ (by kernel_rfl) rfl (by rintro _ ⟨x', rfl⟩ _; go_simp; exact Ext.call_same HGI.out (num3_any 0 _)) ?_
      rintro v' rfl
      simp only [Act.put, List.setIfInBounds_toArray, List.set_cons_zero, List.set_cons_succ]
      refine Ext.walk_take 1 (by kernel_rfl) (by kernel_rfl) (by kernel_rfl) ?_
      simp only [List.take_succ_cons, List.take_zero, List.drop_succ_cons, List.drop_zero]
      repeat (go_big_quiet_step (fail))
      refine wpQuiet_nil ?_
      refine Ext.walk_spec _ (by kernel_rfl) rfl (by rintro _ ⟨x', rfl⟩ _; go_simp; exact Ext.call_same HGI.out (num3_any 0 _)) ?_
      rintro v' rfl
      simp only [Act.put, List.setIfInBounds_toArray, List.set_cons_zero, List.set_cons_succ]
      refine Ext.walk_take 2 (by kernel_rfl) (by kernel_rfl) (by kernel_rfl) ?_
      simp only [List.take_succ_cons, List.take_zero, List.drop_succ_cons, List.drop_zero]
      repeat (go_big_quiet_step (fail))
      refine wpQuiet_nil ?_
      refine Ext.walk_spec _ (by kernel_rfl) rfl (by rintro _ ⟨x', rfl⟩ _; go_simp; exact Ext.call_same HGI.out (num3_any 0 _)) ?_
      rintro v' rfl
      simp only [Act.put, List.setIfInBounds_toArray, List.set_cons_zero, List.set_cons_succ]
      refine Ext.walk_take 7 (by kernel_rfl) (by kernel_rfl) (by kernel_rfl) ?_
      simp only [List.take_succ_cons, List.take_zero, List.drop_succ_cons, List.drop_zero]
      repeat (go_big_quiet_step (fail))
      refine wpQuiet_nil ?_
      refine Ext.walk_spec_guarded _ (by kernel_rfl) rfl (by rintro _ ⟨x', rfl⟩ _; go_simp; exact Ext.call_eq HGI.out (aBox_any a _ a0 a1)) ?_
      rintro v' rfl
      simp only [Act.put, List.setIfInBounds_toArray, List.set_cons_zero, List.set_cons_succ]
      refine Ext.walk_take 1 (by kernel_rfl) (by kernel_rfl) (by kernel_rfl) ?_
      simp only [List.take_succ_cons, List.take_zero, List.drop_succ_cons, List.drop_zero]
      repeat (go_big_quiet_step (fail))
      refine wpQuiet_nil ?_
      refine Ext.walk_spec_guarded _ (by kernel_rfl) rfl (by rintro _ ⟨x', rfl⟩ _; go_simp; exact Ext.call_eq HGI.out (aBox_any b _ b0 b1)) ?_
      rintro v' rfl
      simp only [Act.put, List.setIfInBounds_toArray, List.set_cons_zero, List.set_cons_succ]
      refine Ext.walk_take 4 (by kernel_rfl) (by kernel_rfl) (by kernel_rfl) ?_
      simp only [List.take_succ_cons, List.take_zero, List.drop_succ_cons, List.drop_zero]
      repeat (go_big_quiet_step (fail))
      refine wpQuiet_nil ?_
      refine Ext.walk_load (by kernel_rfl) rfl 29 _ rfl w5.heap.size 0 rfl (bv u) _ (by rintro _ ⟨x', rfl⟩; exact (HMX.out x').2.range) Try.underlying29 rfl (I16.out u hul) ?_
      simp only [Act.put, List.setIfInBounds_toArray, List.set_cons_zero, List.set_cons_succ]
      refine Ext.walk_load (by kernel_rfl) rfl 29 _ rfl w2.heap.size 0 rfl (bv u) _ (by rintro _ ⟨x', rfl⟩; exact (HMX.out x').1.2.1.range) Try.underlying29 rfl (I16.out u hul) ?_
      simp only [Act.put, List.setIfInBounds_toArray, List.set_cons_zero, List.set_cons_succ]
      refine Ext.walk_take 3 (by kernel_rfl) (by kernel_rfl) (by kernel_rfl) ?_
      simp only [List.take_succ_cons, List.take_zero, List.drop_succ_cons, List.drop_zero]
      repeat (go_big_quiet_step (fail))
      refine wpQuiet_nil ?_
      refine Ext.walk_load (by kernel_rfl) rfl 29 _ rfl (w.heap.size + 1) 0 rfl (bv x) _ (by rintro _ ⟨x', rfl⟩; exact (HMX.out x').1.1.2.1.range) Try.underlying29 rfl (I16.out x LX.out) ?_
      simp only [Act.put, List.setIfInBounds_toArray, List.set_cons_zero, List.set_cons_succ]
      refine Ext.walk_load (by kernel_rfl) rfl 29 _ rfl (w.heap.size + 1 + 1) 0 rfl (bv y) _ (by rintro _ ⟨x', rfl⟩; exact (HMX.out x').1.1.2.2.1.range) Try.underlying29 rfl (I16.out y LY.out) ?_
      simp only [Act.put, List.setIfInBounds_toArray, List.set_cons_zero, List.set_cons_succ]
      refine Ext.walk_take 1 (by kernel_rfl) (by kernel_rfl) (by kernel_rfl) ?_
      simp only [List.take_succ_cons, List.take_zero, List.drop_succ_cons, List.drop_zero]
      repeat (go_big_quiet_step (fail))
      refine wpQuiet_nil ?_
      refine Ext.walk_load (by kernel_rfl) rfl 29 _ rfl w2.heap.size 0 rfl (bv u) _ (by rintro _ ⟨x', rfl⟩; exact (HMX.out x').1.2.1.range) Try.underlying29 rfl (I16.out u hul) ?_
      simp only [Act.put, List.setIfInBounds_toArray, List.set_cons_zero, List.set_cons_succ]
      refine Ext.walk_load (by kernel_rfl) rfl 29 _ rfl w4.heap.size 0 rfl (bv v) _ (by rintro _ ⟨x', rfl⟩; exact (HMX.out x').1.2.2.range) Try.underlying29 rfl (I16.out v hvl) ?_
      simp only [Act.put, List.setIfInBounds_toArray, List.set_cons_zero, List.set_cons_succ]
      refine Ext.walk_take 4 (by kernel_rfl) (by kernel_rfl) (by kernel_rfl) ?_
      simp only [List.take_succ_cons, List.take_zero, List.drop_succ_cons, List.drop_zero]
      repeat (go_big_quiet_step (fail))
      refine wpQuiet_nil ?_
      refine Ext.walk_spec_guarded _ (by kernel_rfl) rfl (by rintro _ ⟨x', rfl⟩ _; go_simp; exact Ext.call_eq HGI.out (works3_any _)) ?_
      rintro v' rfl
      simp only [Act.put, List.setIfInBounds_toArray, List.set_cons_zero, List.set_cons_succ]
      refine Ext.walk_take 2 (by kernel_rfl) (by kernel_rfl) (by kernel_rfl) ?_
      simp only [List.take_succ_cons, List.take_zero, List.drop_succ_cons, List.drop_zero]
      repeat (go_big_quiet_step (fail))
      refine wpQuiet_nil ?_
      refine Ext.walk_end ?_
      intro wx hwx _
      have hov : Below W1.heap.size W1 wx := (HGI.out _).2 hwx
      have HZ : Hid (wx.heap[D]? = some (.deferred (some [])) ∧ w.heap.size < D ∧ Below w.heap.size w wx) :=
        ⟨(hov.block D HN.out.2.2.2.1).trans HN.out.2.2.1, HN.out.2.2.2.2, (HN.out.1.1.over hov).2.2.2.2⟩
      clear hwx hov HMX HGI hqu hqx hqv hbx hbx' hgu hX gx X
      go_wp2
      refine ⟨by simp, .inl ⟨_, _, rfl, run_takeDeferred HZ.out.1, ?_⟩⟩
      exact ⟨_, results_tmp rfl _ _ _, rfl, HZ.out.2.2.trans (below_putObj wx _ (by have := HZ.out.2.1; omega))⟩
theorem cells16 : Try.prog.cellsOf 29 = 16 := by kernel_rfl
set_option maxRecDepth 100000 in
theorem aesHolds_lifted (os : Os) (started : os.Started) (H : Type) (enc : TypeId × Value → H) :
    ReturnsInHanded {} Try.checked os 8 .any (Rows.aesHoldsSpec.pre6 enc Try.prog Try.f8 Rows.aesHoldsRow.domain false) (Rows.aesHoldsSpec.post enc Try.prog Try.f8 false true false false) := by
  refine returnsInHanded_of_change (C := Try.checked) own started (by kernel_rfl) Try.func8
    (ChangeSpec.witness6 (enc := enc) (C := Try.checked) false ⟨#[], #[.int .u8 0, .int .u8 0, .agg (Array.replicate 16 (.int .u8 0)), .agg (Array.replicate 16 (.int .u8 0)), .agg (Array.replicate 16 (.int .u8 0))], []⟩ 8 (by kernel_rfl) (by kernel_rfl) (by kernel_rfl) (by kernel_rfl)) ?_
  intro W base args ds gs before hval0 hW hcnd _
  have hval : ∀ (j : Nat) t v, Try.f8.params[j]? = some t → args[j]? = some v → Value.okWide Try.prog W .any base t v := hval0
  have hW' := hW
  obtain ⟨p, q, hA, hV, rfl, hfz, hnd⟩ := hW
  rw [show Try.f8.params.toList = [5, 5, 29, 29, 29] from rfl] at hA
  obtain ⟨rfl, rfl⟩ := trodVars_none hV
  obtain ⟨v0, v1, v2, v3, v4, d0, d1, d2, d3, d4, p0, p1, p2, p3, p4, rfl, rfl, rfl, h0, h1, h2, h3, h4⟩ := trodAll_five hA
  obtain ⟨a, rfl, rfl, rfl, wa⟩ := open_int Try.underlying5 (hval 0 5 v0 rfl rfl) h0
  obtain ⟨b, rfl, rfl, rfl, wb⟩ := open_int Try.underlying5 (hval 1 5 v1 rfl rfl) h1
  have ba := bounds_u8 wa
  have bb := bounds_u8 wb
  obtain ⟨key, rfl, lk, bk⟩ := open_bytes Try.underlying29 Try.underlying5 cells_u8 cells16 (hval 2 29 v2 rfl rfl) h2
  obtain ⟨x, rfl, lx, bx⟩ := open_bytes Try.underlying29 Try.underlying5 cells_u8 cells16 (hval 3 29 v3 rfl rfl) h3
  obtain ⟨y, rfl, ly, by'⟩ := open_bytes Try.underlying29 Try.underlying5 cells_u8 cells16 (hval 4 29 v4 rfl rfl) h4
  refine (aesHolds_walk a b key x y W (by omega) (by omega) (by omega) (by omega) lk bk lx bx ly by').mono fun e W' ⟨he, hb⟩ => ?_
  subst he
  exact post_true laidOut hW' hb rfl (by kernel_rfl) rfl Try.underlying4 rfl
theorem aesHolds_over : Rows.aesHoldsRow.holds Try.pinned (OpenSpec.ofChange Rows.aesHoldsSpec) :=
  OpenClaim.holds_of_wide 8 Try.f8 rfl rfl rfl rfl rfl rfl rfl ⟨rfl, rfl, rfl, rfl, rfl⟩ rfl rfl rfl rfl rfl (by kernel_rfl) Try.func8 (by kernel_rfl)
    (of_decide_eq_true (by kernel_rfl)) (by unfold Func.isWrapper; first | (rw [if_pos (by decide +kernel)]; kernel_rfl) | (rw [if_neg (by decide +kernel)]; exact ⟨rfl, rfl⟩))
    (fun os started H enc _ => aesHolds_lifted os started H enc)
theorem aesHolds_holds : Rows.AesHoldsSaid := aesHolds_over
#print axioms aesHolds_holds
end Go.Proofs.Ytfkpilfnhgjmfaa
