/-
  The function 'works' of the statements on cmac: it returns true.
-/
import Derived.Test.YtfkpilfnhgjmfaaCTag
import Derived.Test.YtfkpilfnhgjmfaaCNums
import Derived.Test.YtfkpilfnhgjmfaaWorks
namespace Go.Proofs.Ytfkpilfnhgjmfaa
open Go.RowKit
theorem num4_any (v : Int) (w : World) : Calls Try.prog 38 #[.int .i64 v] w fun e w' => e = .returned (.int .i64 v) ∧ w = w' := by
  go_enter Try.func38, Try.ntmps38
  go_wp2
  go_ret
  exact ⟨rfl, rfl⟩
set_option maxRecDepth 100000 in
set_option maxHeartbeats 800000 in
theorem cTag_bad (p : Option Addr) (n cap : Nat) (v : Value) (w : World) (hn : n ≠ 16) :
    Calls Try.prog 40 #[.slice p n cap, v] w fun e w' => e = .returned (.tuple #[.agg (bv (zeroL 16)).toArray, .int .i64 2]) ∧ Below w.heap.size w w' := by
  have n0 := Lib.hid (Row.new w 29 (bv (zeroL 16)))
  have hzb := zero_blk'
  have i16 : (Try.prog.info? 29).map (·.size) = some (bv (zeroL 16)).length := by rw [bv_length, zeroL_length]; kernel_rfl
  have I16 := Lib.hid i16
  clear i16
  go_enter Try.func40, Try.ntmps40
  go_wp2_with (fail)
  have hbV : Below w.heap.size w (w.alloc (.cells (bv (zeroL 16)).toArray 29)) := (Below.refl _ w).alloc (Nat.le_refl _) _
  generalize hV : w.alloc _ = V
  have HV : Hid (Row V w.heap.size 29 (bv (zeroL 16)) ∧ Below w.heap.size w V) := by rw [← hV]; exact ⟨n0.out, hbV⟩
  clear hV hbV n0
  refine (cNew_bad p n cap V hn).mono ?_
  rintro e w' ⟨rfl, rfl⟩
  go_wp2_with (refine wpList_store_Row rfl 29 _ _ rfl w.heap.size (bv (zeroL 16)) rfl rfl HV.out.1 I16.out rfl (bv_one _) ?_; refine stay ?_)
  refine go_on ?_
  have H6 : Row (V.setRow w.heap.size (bv (zeroL 16)).toArray) w.heap.size 29 (bv (zeroL 16)) ∧ Below w.heap.size w (V.setRow w.heap.size (bv (zeroL 16)).toArray) := ⟨HV.out.1.put _, below_setRow HV.out.2 (Nat.le_refl _) _⟩
  generalize V.setRow _ _ = W at H6 ⊢
  clear HV
  go_wp2
  exact bodyPost_ret (results_Row_tmp rfl _ _ w.heap.size rfl H6.1 Try.underlying29 I16.out) rfl ⟨rfl, H6.2⟩
theorem pts_nil (w : World) : Pts w (.slice none 0 0) [] := ⟨none, 0, rfl, fun _ h => absurd h (Nat.not_lt_zero _)⟩
theorem wM1_byt : Byt wM1 := Byt.of_mem (by decide)
theorem wM2_byt : Byt wM2 := Byt.of_mem (by decide)
theorem row_sl {w : World} {g : Nat} {t : TypeId} {l : List Int} (h : Row w g t (bv l)) (n cap : Nat) (hn : n ≤ l.length) : Sl w (.slice (some ⟨g, 0, none⟩) n cap) (l.take n) := by
  refine .inr ⟨⟨g, 0, none⟩, cap, by rw [List.length_take, Nat.min_eq_left hn], fun j u hu => ?_⟩
  have hj : j < n := by
    have := (List.getElem?_eq_some_iff.1 hu).1
    rwa [bv_length, List.length_take, Nat.min_eq_left hn] at this
  rw [Addr.add_mid, Nat.zero_add]
  refine h.cell ?_
  rw [← hu]
  simp [bv, hj]
theorem row_sl_all {w : World} {g : Nat} {t : TypeId} {l : List Int} (h : Row w g t (bv l)) (n cap : Nat) (hn : n = l.length) : Sl w (.slice (some ⟨g, 0, none⟩) n cap) l := by
  have := row_sl h n cap (by omega)
  rwa [List.take_of_length_le (by omega)] at this
set_option maxRecDepth 100000 in
set_option maxHeartbeats 1600000 in
theorem works4_any (w : World) : Calls Try.prog 35 #[] w fun e w' => e = .returned (.bool true) ∧ Below w.heap.size w w' := by
  have n0 := Lib.hid (Row.new w 5 (bv wK))
  obtain ⟨x, hx⟩ : ∃ x, x = tagL wK [] := ⟨_, rfl⟩
  obtain ⟨y, hy⟩ : ∃ y, y = tagL wK wM := ⟨_, rfl⟩
  have hxl : x.length = 16 := by rw [hx]; exact tagL_length _ _
  have hyl : y.length = 16 := by rw [hy]; exact tagL_length _ _
  have hx4 : x.take 4 = [187, 29, 105, 41] := by rw [hx, tag_none]; rfl
  have hy4 : y.take 4 = [7, 10, 22, 180] := by rw [hy, tag_some]; rfl
  have HXY := Lib.hid (And.intro hx (And.intro hy (And.intro hx4 hy4)))
  have i16 : ∀ l : List Int, l.length = 16 → (Try.prog.info? 29).map (·.size) = some (bv l).length := fun l h => by rw [bv_length, h]; kernel_rfl
  have I16 := Lib.hid i16
  have lin : ∀ l : List Int, l.length = 16 → (bv (zeroL 16)).length = (bv l).length := fun l h => by rw [bv_length, bv_length, h, zeroL_length]
  have LIN := Lib.hid lin
  clear hx hy hx4 hy4 i16 lin
  go_enter Try.func35, Try.ntmps35
  go_wp2_with (fail)
  have hbV : Below w.heap.size w (w.alloc (.cells (bv wK).toArray 5)) := (Below.refl _ w).alloc (Nat.le_refl _) _
  generalize hV : w.alloc _ = V
  have HV : Hid (Row V w.heap.size 5 (bv wK) ∧ Below w.heap.size w V) := by rw [← hV]; exact ⟨n0.out, hbV⟩
  clear hV hbV n0
  have ht := cTag_any wK w.heap.size 0 16 (.slice none 0 0) [] V rfl wK_byt HV.out.1.range (pts_nil V) (by simp) (by simp) (by simp)
  rw [List.flatten_nil, ← HXY.out.1] at ht
  refine ht.mono ?_
  clear ht
  rintro e w1 ⟨rfl, hb1⟩
  have H1 : Hid (Row w1 w.heap.size 5 (bv wK) ∧ Below w.heap.size w w1) := ⟨HV.out.1.below hb1 HV.out.1.lt, HV.out.2.trans (hb1.mono HV.out.2.size)⟩
  have n1 := Lib.hid (Row.new w1 29 (bv (zeroL 16)))
  clear hb1 HV
  go_wp2_with (refine wpList_store_Row rfl 29 _ _ rfl w1.heap.size (bv x) rfl rfl n1.out (I16.out x hxl) (LIN.out x hxl) (bv_one _) ?_; refine stay ?_)
  refine go_on ?_
  have hF : Row ((w1.alloc (.cells (bv (zeroL 16)).toArray 29)).setRow w1.heap.size (bv x).toArray) w1.heap.size 29 (bv x) ∧ Below w1.heap.size w1 ((w1.alloc (.cells (bv (zeroL 16)).toArray 29)).setRow w1.heap.size (bv x).toArray) :=
    ⟨n1.out.put _, below_setRow ((Below.refl _ w1).alloc (Nat.le_refl _) _) (Nat.le_refl _) _⟩
  generalize hW2 : (w1.alloc _).setRow _ _ = w2
  have H2 : Hid (Row w2 w1.heap.size 29 (bv x) ∧ Row w2 w.heap.size 5 (bv wK) ∧ Below w.heap.size w w2) := by
    rw [← hW2]; exact ⟨hF.1, H1.out.1.below hF.2 H1.out.1.lt, H1.out.2.trans (hF.2.mono H1.out.2.size)⟩
  clear hW2 hF n1 H1
  obtain ⟨q0, q1, q2, qb⟩ := rows3 w2 5 5 34 (bv wM1) (bv wM2) [.slice (some ⟨w2.heap.size, 0, none⟩) 8 8, .slice (some ⟨w2.heap.size + 1, 0, none⟩) 8 8]
  go_wp2_with (fail)
  generalize hW3 : ((w2.alloc _).alloc _).alloc _ = w3
  have H3 : Hid (Row w3 w2.heap.size 5 (bv wM1) ∧ Row w3 (w2.heap.size + 1) 5 (bv wM2) ∧ Row w3 (w2.heap.size + 1 + 1) 34 [.slice (some ⟨w2.heap.size, 0, none⟩) 8 8, .slice (some ⟨w2.heap.size + 1, 0, none⟩) 8 8] ∧ Row w3 w1.heap.size 29 (bv x) ∧ Row w3 w.heap.size 5 (bv wK) ∧ Below w.heap.size w w3) := by
    have hb : Below w2.heap.size w2 w3 := by rw [← hW3]; exact qb.out
    exact ⟨by rw [← hW3]; exact q0.out, by rw [← hW3]; exact q1.out, by rw [← hW3]; exact q2.out, H2.out.1.below hb H2.out.1.lt, H2.out.2.1.below hb H2.out.2.1.lt, H2.out.2.2.trans (hb.mono H2.out.2.2.size)⟩
  clear hW3 q0 q1 q2 qb H2
  have hpt : Pts w3 (.slice (some ⟨w2.heap.size + 1 + 1, 0, none⟩) 2 2) [wM1, wM2] := ⟨_, _, rfl, fun i hi => by
    have hi2 : i < 2 := hi
    rcases (by omega : i = 0 ∨ i = 1) with rfl | rfl
    · exact ⟨_, _, _, rfl, H3.out.2.2.1.cell (i := 0) rfl, row_sl_all H3.out.1 8 8 rfl⟩
    · exact ⟨_, _, _, rfl, H3.out.2.2.1.cell (i := 1) rfl, row_sl_all H3.out.2.1 8 8 rfl⟩⟩
  have ht := cTag_any wK w.heap.size 0 16 _ [wM1, wM2] w3 rfl wK_byt H3.out.2.2.2.2.1.range hpt (by intro l hl; rcases List.mem_cons.1 hl with rfl | hl; exact wM1_byt; rcases List.mem_cons.1 hl with rfl | hl; exact wM2_byt; cases hl) (by simp [wM1, wM2]) (by simp)
  rw [show [wM1, wM2].flatten = wM from rfl, ← HXY.out.2.1] at ht
  refine ht.mono ?_
  clear ht hpt
  rintro e w4 ⟨rfl, hb4⟩
  have H4 : Hid (Row w4 w1.heap.size 29 (bv x) ∧ Row w4 w.heap.size 5 (bv wK) ∧ Below w.heap.size w w4) :=
    ⟨H3.out.2.2.2.1.below hb4 H3.out.2.2.2.1.lt, H3.out.2.2.2.2.1.below hb4 H3.out.2.2.2.2.1.lt, H3.out.2.2.2.2.2.trans (hb4.mono H3.out.2.2.2.2.2.size)⟩
  have n4 := Lib.hid (Row.new w4 29 (bv (zeroL 16)))
  clear hb4 H3
  go_wp2_with (refine wpList_store_Row rfl 29 _ _ rfl w4.heap.size (bv y) rfl rfl n4.out (I16.out y hyl) (LIN.out y hyl) (bv_one _) ?_; refine stay ?_)
  refine go_on ?_
  have hF : Row ((w4.alloc (.cells (bv (zeroL 16)).toArray 29)).setRow w4.heap.size (bv y).toArray) w4.heap.size 29 (bv y) ∧ Below w4.heap.size w4 ((w4.alloc (.cells (bv (zeroL 16)).toArray 29)).setRow w4.heap.size (bv y).toArray) :=
    ⟨n4.out.put _, below_setRow ((Below.refl _ w4).alloc (Nat.le_refl _) _) (Nat.le_refl _) _⟩
  generalize hW5 : (w4.alloc _).setRow _ _ = w5
  have H5 : Hid (Row w5 w1.heap.size 29 (bv x) ∧ Row w5 w4.heap.size 29 (bv y) ∧ Below w.heap.size w w5) := by
    rw [← hW5]; exact ⟨H4.out.1.below hF.2 H4.out.1.lt, hF.1, H4.out.2.2.trans (hF.2.mono H4.out.2.2.size)⟩
  clear hW5 hF n4 H4
  go_wp2_with (fail)
  refine (cTag_bad _ 15 16 _ w5 (by decide)).mono ?_
  rintro e w6 ⟨rfl, hb6⟩
  have H6 : Hid (Row w6 w1.heap.size 29 (bv x) ∧ Row w6 w4.heap.size 29 (bv y) ∧ Below w.heap.size w w6) := ⟨H5.out.1.below hb6 H5.out.1.lt, H5.out.2.1.below hb6 H5.out.2.1.lt, H5.out.2.2.trans (hb6.mono H5.out.2.2.size)⟩
  have n6 := Lib.hid (Row.new w6 29 (bv (zeroL 16)))
  clear hb6 H5
  go_wp2_with (refine wpList_store_Row rfl 29 _ _ rfl w6.heap.size (bv (zeroL 16)) rfl rfl n6.out (I16.out _ (zeroL_length 16)) rfl (bv_one _) ?_; refine stay ?_)
  refine go_on ?_
  have hF : Below w6.heap.size w6 ((w6.alloc (.cells (bv (zeroL 16)).toArray 29)).setRow w6.heap.size (bv (zeroL 16)).toArray) := below_setRow ((Below.refl _ w6).alloc (Nat.le_refl _) _) (Nat.le_refl _) _
  generalize hW7 : (w6.alloc _).setRow _ _ = w7
  have hF : Below w6.heap.size w6 w7 := by rw [← hW7]; exact hF
  have H7 : Hid (Row w7 w1.heap.size 29 (bv x) ∧ Row w7 w4.heap.size 29 (bv y) ∧ Below w.heap.size w w7) := ⟨H6.out.1.below hF H6.out.1.lt, H6.out.2.1.below hF H6.out.2.1.lt, H6.out.2.2.trans (hF.mono H6.out.2.2.size)⟩
  clear hF n6 H6 hW7
  have htx := (row_sl H7.out.1 4 16 (by omega)).text
  have hty := (row_sl H7.out.2.1 4 16 (by omega)).text
  rw [HXY.out.2.2.1] at htx
  rw [HXY.out.2.2.2] at hty
  have ex : strOfNums [187, 29, 105, 41] = ⟨#[187, 29, 105, 41]⟩ := rfl
  have ey : strOfNums [7, 10, 22, 180] = ⟨#[7, 10, 22, 180]⟩ := rfl
  rw [ex] at htx
  rw [ey] at hty
  clear ex ey
  go_wp2_with (fail)
  refine (num4_any 0 _).mono ?_
  rintro e w' ⟨rfl, rfl⟩
  go_wp2_with (fail)
  refine (num4_any 0 _).mono ?_
  rintro e w' ⟨rfl, rfl⟩
  go_wp2_with (fail)
  refine (num4_any 2 _).mono ?_
  rintro e w' ⟨rfl, rfl⟩
  go_wp2
  go_ret
  exact ⟨rfl, H7.out.2.2⟩
end Go.Proofs.Ytfkpilfnhgjmfaa
