/-
  A block, doubled, by the reference.
-/
import Derived.Test.YtfkpilfnhgjmfaaCDbl
namespace Go.Proofs.Ytfkpilfnhgjmfaa
open Go.RowKit
theorem x8_nil (a : Int) (h0 : 0 ≤ a) (h1 : a < 256) : x8 a 0 = a := by
  rw [x8, u8_xor a 0 h0 h1 (by omega) (by omega)]; simp; omega
theorem dblEnd_low {b : List Int} (hb : Byt b) (h : el b 0 < 128) : dblEnd b = dblAt b 15 := by
  have h0 := hb 0
  have h1 := dblAt_bd hb 15
  rw [dblEnd, show el b 0 / 128 * 135 = 0 by omega, x8_nil _ h1.1 h1.2]
theorem dblEnd_high {b : List Int} (hb : Byt b) (h : ¬ el b 0 < 128) : dblEnd b = x8 (dblAt b 15) 135 := by
  have h0 := hb 0
  rw [dblEnd, show el b 0 / 128 * 135 = 135 by omega]
set_option maxRecDepth 100000 in
set_option maxHeartbeats 800000 in
theorem r4Double_any (b : List Int) (w : World) (lb : b.length = 16) (hb : Byt b) :
    Calls Try.prog 34 #[.agg (bv b).toArray] w fun e w' => e = .returned (.agg (bv (dblL b)).toArray) ∧ Below w.heap.size w w' := by
  obtain ⟨HR0, HR1, HR2, HBL⟩ := rows3 w 29 29 29 (bv b) (bv (zeroL 16)) (bv (zeroL 16))
  have HBB := Lib.hid hb
  clear hb
  go_enter Try.func34, Try.ntmps34
  go_wp2
  go_loopw [4] (fun i wr => ∃ k : Nat, k ≤ 16 ∧ i = .int .i64 (k : Int) ∧ Row wr w.heap.size 29 (bv b) ∧ Row wr (w.heap.size + 1) 29 (bv (zeroL 16)) ∧ Row wr (w.heap.size + 1 + 1) 29 (bv (upto 16 k (dblAt b) (fun _ => 0))) ∧ Below w.heap.size w wr) (fun i _ => 16 - (intOf i).toNat)
  case atStart => exact ⟨0, by omega, rfl, HR0.out, HR1.out, by rw [upto_zero]; exact HR2.out, HBL.out⟩
  case round =>
    obtain ⟨k, hk, rfl, r0, r1, r2, hbel⟩ := hrel
    by_cases hlt : k < 16
    · have c0 := r0.cell (bv_get b k (by omega))
      have f2 := r2.frozen k
      have c2 := r2.cell (bv_get _ k (by rw [upto_length]; omega))
      have hb0 := HBB.out k
      have hb1 := HBB.out (k + 1)
      have n1 : w.heap.size + 1 + 1 ≠ w.heap.size := by omega
      have HR : Hid (∀ v v', v' = dblAt b k → Row ((wr.setCell ⟨w.heap.size + 1 + 1, k, none⟩ (.int .u8 v)).setCell ⟨w.heap.size + 1 + 1, k, none⟩ (.int .u8 v')) w.heap.size 29 (bv b) ∧ Row ((wr.setCell ⟨w.heap.size + 1 + 1, k, none⟩ (.int .u8 v)).setCell ⟨w.heap.size + 1 + 1, k, none⟩ (.int .u8 v')) (w.heap.size + 1) 29 (bv (zeroL 16)) ∧
          Row ((wr.setCell ⟨w.heap.size + 1 + 1, k, none⟩ (.int .u8 v)).setCell ⟨w.heap.size + 1 + 1, k, none⟩ (.int .u8 v')) (w.heap.size + 1 + 1) 29 (bv (upto 16 (k + 1) (dblAt b) (fun _ => 0))) ∧ Below w.heap.size w ((wr.setCell ⟨w.heap.size + 1 + 1, k, none⟩ (.int .u8 v)).setCell ⟨w.heap.size + 1 + 1, k, none⟩ (.int .u8 v'))) := by
        rintro v v' rfl
        refine ⟨(r0.other (by simp; omega) _).other (by simp; omega) _, (r1.other (by simp) _).other (by simp) _, ?_, (hbel.setCell (p := ⟨w.heap.size + 1 + 1, k, none⟩) (by simp; omega) _).setCell (p := ⟨w.heap.size + 1 + 1, k, none⟩) (by simp; omega) _⟩
        have := (r2.set k (.int .u8 v)).set k (.int .u8 (dblAt b k))
        rw [List.set_set, bv_set, upto_set _ _ _ _ _ (fun _ => rfl)] at this
        exact this
      have HR1' : Hid (Row (wr.setCell ⟨w.heap.size + 1 + 1, k, none⟩ (.int .u8 (dblAt b k))) w.heap.size 29 (bv b) ∧ Row (wr.setCell ⟨w.heap.size + 1 + 1, k, none⟩ (.int .u8 (dblAt b k))) (w.heap.size + 1) 29 (bv (zeroL 16)) ∧
          Row (wr.setCell ⟨w.heap.size + 1 + 1, k, none⟩ (.int .u8 (dblAt b k))) (w.heap.size + 1 + 1) 29 (bv (upto 16 (k + 1) (dblAt b) (fun _ => 0))) ∧ Below w.heap.size w (wr.setCell ⟨w.heap.size + 1 + 1, k, none⟩ (.int .u8 (dblAt b k)))) := by
        refine ⟨r0.other (by simp; omega) _, r1.other (by simp) _, ?_, hbel.setCell (p := ⟨w.heap.size + 1 + 1, k, none⟩) (by simp; omega) _⟩
        have := r2.set k (.int .u8 (dblAt b k))
        rw [bv_set, upto_set _ _ _ _ _ (fun _ => rfl)] at this
        exact this
      by_cases h15 : k < 15
      · have hd15 : decide ((k : Int) < 15) = true := decide_eq_true (by omega)
        have c0' := r0.cell (bv_get b (k + 1) (by omega))
        have hda : el b k * 2 % 256 + el b (k + 1) / 128 = dblAt b k := by rw [dblAt, if_pos h15]
        have HDA := Lib.hid hda
        have hlim : (el b k * 2 % 256 + el b (k + 1) / 128) % 256 = dblAt b k := by rw [hda]; have := dblAt_bd HBB.out k; omega
        have hs2 := r2.set k (.int .u8 (el b k * 2 % 256))
        have hs0 : Row (wr.setCell ⟨w.heap.size + 1 + 1, k, none⟩ (.int .u8 (el b k * 2 % 256))) w.heap.size 29 (bv b) := r0.other (by simp; omega) _
        have hc2 := hs2.cell (i := k) (by rw [List.getElem?_set_self (by rw [bv_length, upto_length]; omega)])
        have hf2 := hs2.frozen k
        have hc1 := hs0.cell (bv_get b (k + 1) (by omega))
        have HR7 := Lib.hid (HR.out (el b k * 2 % 256) (dblAt b k) rfl)
        have HC := Lib.hid (And.intro hc2 (And.intro hf2 hc1))
        clear hda r0 r1 r2 hbel HR0 HR1 HR2 HBL HR1' hs2 hs0 hc2 hf2 hc1 HR
        go_wp2
        generalize wr.setCell _ _ = W1 at HR7 HC ⊢
        clear c0 f2 c2 c0'
        obtain ⟨c2, f2, c1⟩ := HC.out
        have hw : IntKind.i64.wrap ((k : Int) + 1) = (k : Int) + 1 := by rw [IntKind.wrap_i64]; omega
        have hk1 : (0 : Int) ≤ (k : Int) + 1 := by omega
        have hk2 : (k : Int) + 1 < 16 := by omega
        go_still_tail 11, (by kernel_rfl)
        go_wp2
        go_roundw
        case rel =>
          have hq := HR7.out
          rw [← HDA.out] at hq
          obtain ⟨q0, q1, q2, q3⟩ := hq
          exact ⟨k + 1, by omega, by go_num, q0.drew, q1.drew, q2.drew, q3.drew⟩
        case measure => simp [intOf]; omega
      · have hk15 : k = 15 := by omega
        subst hk15
        have hda : el b 15 * 2 % 256 = dblAt b 15 := by rw [dblAt, if_neg (by omega), Int.add_zero]
        clear r0 r1 r2 hbel HR0 HR1 HR2 HBL HR h15
        go_wp2
        go_roundw
        case rel => exact ⟨16, by omega, rfl, HR1'.out⟩
        case measure => simp [intOf]
    · have hk16 : k = 16 := by omega
      subst hk16
      rw [upto_full] at r2
      have c0 := r0.cell (bv_get b 0 (by omega))
      have c2 := r2.cell (bv_get (tab 16 (dblAt b)) 15 (by rw [tab_length]; omega))
      rw [tab_el _ _ _ (by omega)] at c2
      have f2 := r2.frozen 15
      have i16 : (Try.prog.info? 29).map (·.size) = some (bv (dblL b)).length := by rw [bv_length, dblL_length]; kernel_rfl
      have I16 := Lib.hid i16
      have zin : (bv (zeroL 16)).length = (bv (dblL b)).length := by rw [bv_length, bv_length, zeroL_length, dblL_length]
      have ZIN := Lib.hid zin
      clear i16 zin
      have fin : ∀ W : World, Row W (w.heap.size + 1) 29 (bv (zeroL 16)) → Below w.heap.size w W → Row (W.setRow (w.heap.size + 1) (bv (dblL b)).toArray) (w.heap.size + 1) 29 (bv (dblL b)) ∧ Below w.heap.size w (W.setRow (w.heap.size + 1) (bv (dblL b)).toArray) := fun W h1 h2 =>
        ⟨h1.put _, below_setRow h2 (Nat.le_succ _) _⟩
      have FIN := Lib.hid fin
      clear fin
      by_cases h128 : el b 0 < 128
      · have hd : decide (el b 0 ≥ 128) = false := decide_eq_false (by omega)
        have eD : tab 16 (dblAt b) = dblL b := tab_congr fun j hj => by
          by_cases h : j = 15
          · subst h; rw [if_pos rfl, dblEnd_low HBB.out h128]
          · rw [if_neg h]
        rw [eD] at r2
        have HR : Hid (Row wr (w.heap.size + 1) 29 (bv (zeroL 16)) ∧ Row wr (w.heap.size + 1 + 1) 29 (bv (dblL b)) ∧ Below w.heap.size w wr) := ⟨r1, r2, hbel⟩
        clear r0 r1 r2 hbel HR0 HR1 HR2 HBL eD h128 c2 f2
        go_wp2_with (first | (refine wpList_load_Row rfl 29 _ rfl _ rfl HR.out.2.1 Try.underlying29 I16.out ?_) | (refine wpList_store_Row rfl 29 _ _ rfl (w.heap.size + 1) (bv (dblL b)) rfl rfl HR.out.1 I16.out ZIN.out (bv_one _) ?_; refine stay ?_))
        refine go_on ?_
        have HW := FIN.out wr HR.out.1 HR.out.2.2
        generalize wr.setRow _ _ = W at HW ⊢
        go_wp2
        exact bodyPost_ret (results_Row rfl _ _ (w.heap.size + 1) rfl HW.1 Try.underlying29 I16.out) rfl ⟨rfl, HW.2⟩
      · have hd : decide (el b 0 ≥ 128) = true := decide_eq_true (by omega)
        have hx : bits .xor .u8 (dblAt b 15) 135 = dblEnd b := (dblEnd_high HBB.out h128).symm
        have HR : Hid (Row (wr.setCell ⟨w.heap.size + 1 + 1, 15, none⟩ (.int .u8 (dblEnd b))) (w.heap.size + 1) 29 (bv (zeroL 16)) ∧ Row (wr.setCell ⟨w.heap.size + 1 + 1, 15, none⟩ (.int .u8 (dblEnd b))) (w.heap.size + 1 + 1) 29 (bv (dblL b)) ∧ Below w.heap.size w (wr.setCell ⟨w.heap.size + 1 + 1, 15, none⟩ (.int .u8 (dblEnd b)))) := by
          refine ⟨r1.other (by simp) _, ?_, hbel.setCell (p := ⟨w.heap.size + 1 + 1, 15, none⟩) (by simp; omega) _⟩
          have := r2.set 15 (.int .u8 (dblEnd b))
          have e : (tab 16 (dblAt b)).set 15 (dblEnd b) = dblL b := tab_set (fun _ => (if_pos rfl).symm) (fun j _ hj => (if_neg hj).symm)
          rw [bv_set, e] at this
          exact this
        clear r0 r1 r2 hbel HR0 HR1 HR2 HBL h128
        go_wp2_with (first | (refine wpList_load_Row rfl 29 _ rfl _ rfl HR.out.2.1 Try.underlying29 I16.out ?_) | (refine wpList_store_Row rfl 29 _ _ rfl (w.heap.size + 1) (bv (dblL b)) rfl rfl HR.out.1 I16.out ZIN.out (bv_one _) ?_; refine stay ?_))
        refine go_on ?_
        have HW := FIN.out _ HR.out.1 HR.out.2.2
        generalize (wr.setCell _ _).setRow _ _ = W at HW ⊢
        clear HR c2 f2
        go_wp2
        exact bodyPost_ret (results_Row rfl _ _ (w.heap.size + 1) rfl HW.1 Try.underlying29 I16.out) rfl ⟨rfl, HW.2⟩
end Go.Proofs.Ytfkpilfnhgjmfaa
