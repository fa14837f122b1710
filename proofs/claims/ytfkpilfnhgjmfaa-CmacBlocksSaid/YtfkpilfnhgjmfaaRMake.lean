/-
  The reference's Make.
-/
import Derived.Test.YtfkpilfnhgjmfaaRSteps
namespace Go.Proofs.Ytfkpilfnhgjmfaa
open Go.RowKit
set_option maxRecDepth 100000 in
set_option maxHeartbeats 800000 in
theorem rMake_any (bk ok kc : Nat) (key b : List Int) (w : World) (hk : key.length = 16) (hB : Byt key) (lb : b.length = 16) (hb : Byt b) (hr : w.rangeAt bk ok (bv key)) :
    Calls Try.prog 30 #[.slice (some ⟨bk, ok, none⟩) 16 kc, .agg (bv b).toArray] w fun e w' => e = .returned (.agg (bv (stepL key b 10)).toArray) ∧ Below w.heap.size w w' := by
  obtain ⟨x, hx⟩ : ∃ x, x = stepL key b 10 := ⟨_, rfl⟩
  have hxl : x.length = 16 := by rw [hx]; exact stepL_length key b 10
  have hget : ∀ j, j < 16 → (flatS key b 11)[10 * 16 + j]? = some (.int .u8 (el x j)) := fun j hj => by rw [hx]; exact flatS_get key b 10 j hj 11 (by omega)
  have HGET := Lib.hid hget
  rw [← hx]
  clear hx hget
  obtain ⟨HR0, HR1, HBL⟩ := rows2 w 29 29 (bv b) (bv (zeroL 16))
  have hbk : bk < w.heap.size := World.block_lt_of_cell? w _ (hr 0 _ (bv_get key 0 (by omega)))
  have i16 : (Try.prog.info? 29).map (·.size) = some (bv b).length := by rw [bv_length, lb]; kernel_rfl
  have I16 := Lib.hid i16
  have x16 : (Try.prog.info? 29).map (·.size) = some (bv x).length := by rw [bv_length, hxl]; kernel_rfl
  have X16 := Lib.hid x16
  have xin : (bv (zeroL 16)).length = (bv x).length := by rw [bv_length, bv_length, hxl, zeroL_length]
  have XIN := Lib.hid xin
  have HK := Lib.hid hk
  have HB := Lib.hid hB
  have HL := Lib.hid lb
  have HBb := Lib.hid hb
  have HRK := Lib.hid hr
  clear hk hB lb hb hr i16 x16 xin
  go_enter Try.func30, Try.ntmps30
  go_wp2_with (refine wpList_load_Row rfl 29 _ rfl _ rfl HR0.out Try.underlying29 I16.out ?_; refine stay ?_)
  refine go_on ?_
  generalize hV : ((w.alloc (.cells (bv b).toArray 29)).alloc _) = V
  have HV : Hid (Row V w.heap.size 29 (bv b) ∧ Row V (w.heap.size + 1) 29 (bv (zeroL 16)) ∧ Below w.heap.size w V) := by rw [← hV]; exact ⟨HR0.out, HR1.out, HBL.out⟩
  clear hV HR0 HR1 HBL
  go_wp2_with fail
  have hrV : V.rangeAt bk ok (bv key) := fun j v hv => (HV.out.2.2.cell (p := ⟨bk, ok + j, none⟩) hbk).trans (HRK.out j v hv)
  refine (rSteps_any bk ok kc key b V HK.out HB.out HL.out HBb.out hrV).mono ?_
  rintro e w2 ⟨v, rfl, ho, hb2⟩
  obtain ⟨gs, cap, rfl⟩ := ownsRow_succ ho
  have HRG := Lib.hid (owns_range ho 10 x hxl HGET.out)
  have r1 := HV.out.2.1.below hb2 HV.out.2.1.lt
  have R1 := Lib.hid r1
  have HBB := Lib.hid (HV.out.2.2.trans (hb2.mono HV.out.2.2.size))
  clear ho hb2 r1 HV hrV HGET
  go_wp2_with (first | (refine wpList_load_mid rfl 29 _ rfl gs (10 * 16) rfl (bv x) _ HRG.out Try.underlying29 rfl X16.out ?_) | (refine wpList_store_Row rfl 29 _ _ rfl (w.heap.size + 1) (bv x) rfl rfl R1.out X16.out XIN.out (bv_one _) ?_; refine stay ?_))
  refine go_on ?_
  have HF : Hid (Row (w2.setRow (w.heap.size + 1) (bv x).toArray) (w.heap.size + 1) 29 (bv x) ∧ Below w.heap.size w (w2.setRow (w.heap.size + 1) (bv x).toArray)) := ⟨R1.out.put _, below_setRow HBB.out (Nat.le_succ _) _⟩
  generalize w2.setRow (w.heap.size + 1) (bv x).toArray = w3 at HF ⊢
  go_wp2
  exact bodyPost_ret (results_Row rfl _ _ _ rfl HF.out.1 Try.underlying29 X16.out) rfl ⟨rfl, HF.out.2⟩
end Go.Proofs.Ytfkpilfnhgjmfaa
