/-
  The function 'works' of the statements on aes: it returns true.
-/
import Derived.Test.YtfkpilfnhgjmfaaNums
namespace Go.Proofs.Ytfkpilfnhgjmfaa
open Go.RowKit
theorem wK_byt : Byt wK := Byt.of_mem (by decide)
theorem wB_byt : Byt wB := Byt.of_mem (by decide)
theorem wX_get (i : Nat) (v : Int) (h : (bv (stepL wK wB 10))[i]? = some (.int .u8 v)) {w : World} {g : Nat} {t : TypeId} (hr : Row w g t (bv (stepL wK wB 10))) : w.cell? ⟨g, i, none⟩ = some (.int .u8 v) := hr.cell h
theorem num3_any (v : Int) (w : World) : Calls Try.prog 29 #[.int .i64 v] w fun e w' => e = .returned (.int .i64 v) ∧ w = w' := by
  go_enter Try.func29, Try.ntmps29
  go_wp2
  go_ret
  exact ⟨rfl, rfl⟩
set_option maxRecDepth 100000 in
set_option maxHeartbeats 1600000 in
theorem works3_any (w : World) : Calls Try.prog 18 #[] w fun e w' => e = .returned (.bool true) ∧ Below w.heap.size w w' := by
  have hS := rows1 w 5 (bv wK)
  obtain ⟨x, hx⟩ : ∃ x, x = stepL wK wB 10 := ⟨_, rfl⟩
  have hxl : x.length = 16 := by rw [hx]; exact stepL_length wK wB 10
  have g0 : (bv x)[0]? = some (.int .u8 57) := by rw [hx, wS10]; rfl
  have g15 : (bv x)[15]? = some (.int .u8 50) := by rw [hx, wS10]; rfl
  have x16 : (Try.prog.info? 29).map (·.size) = some (bv x).length := by rw [bv_length, hxl]; kernel_rfl
  have X16 := Lib.hid x16
  have hm : ∀ (g : Nat) (w : World), IsCip w g wK → Calls Try.prog 26 #[.pointer (some ⟨g, 0, none⟩), .agg (bv wB).toArray] w fun e w' => e = .returned (.tuple #[.agg (bv x).toArray, .int .i64 0]) ∧ Below w.heap.size w w' := fun g w h => by
    rw [hx]; exact aMake_any g wK wB w rfl wK_byt rfl wB_byt h
  have HM := Lib.hid hm
  have xin : (bv (zeroL 16)).length = (bv x).length := by rw [bv_length, bv_length, hxl, zeroL_length]
  have XIN := Lib.hid xin
  clear hx hm x16 xin
  go_enter Try.func18, Try.ntmps18
  go_wp2_with (fail)
  refine (aNew_any wK w.heap.size 0 16 _ rfl wK_byt hS.1.out.range).mono ?_
  rintro e w1 ⟨g, rfl, hg, hc, hb1⟩
  have hb0 := hS.2.out.trans (hb1.mono (by simp))
  clear hS hb1 hg
  go_wp2_with (fail)
  refine (HM.out g w1 hc).mono ?_
  rintro e w2 ⟨rfl, hb2⟩
  have hb02 := hb0.trans (hb2.mono hb0.size)
  have n0 := Lib.hid (Row.new w2 29 (bv (zeroL 16)))
  clear hc hb2 HM
  go_wp2_with (refine wpList_store_Row rfl 29 _ _ rfl w2.heap.size (bv x) rfl rfl n0.out X16.out XIN.out (bv_one _) ?_; refine stay ?_)
  refine go_on ?_
  have hF : Row ((w2.alloc (.cells (bv (zeroL 16)).toArray 29)).setRow w2.heap.size (bv x).toArray) w2.heap.size 29 (bv x) ∧ Below w.heap.size w ((w2.alloc (.cells (bv (zeroL 16)).toArray 29)).setRow w2.heap.size (bv x).toArray) :=
    ⟨n0.out.put _, below_setRow (hb02.alloc hb02.size _) hb02.size _⟩
  generalize hW : (w2.alloc _).setRow _ _ = W
  have HF : Hid (Row W w2.heap.size 29 (bv x) ∧ Below w.heap.size w W) := by rw [← hW]; exact hF
  have c0 := HF.out.1.cell g0
  have c15 := HF.out.1.cell g15
  have HB := Lib.hid HF.out.2
  clear hW hF n0 hb02 g0 g15 X16 XIN HF hxl hb0
  have e1 : box8 0 = 99 := by kernel_rfl
  have e2 : box8 83 = 237 := by kernel_rfl
  have e3 : mul8 87 19 = 254 := by kernel_rfl
  have e4 : inv8 83 = 202 := by kernel_rfl
  have hnum : ∀ (v : Int) (w : World), Calls Try.prog 29 #[.int .i64 v] w fun e w' => e = .returned (.int .i64 v) ∧ w = w' := fun v w => num3_any v w
  have e1' : ∀ w : World, Calls Try.prog 21 #[.int .u8 0] w fun e w' => e = .returned (.int .u8 99) ∧ Below w.heap.size w w' := fun w => by rw [← e1]; exact aBox_any 0 w (by omega) (by omega)
  have e2' : ∀ w : World, Calls Try.prog 21 #[.int .u8 83] w fun e w' => e = .returned (.int .u8 237) ∧ Below w.heap.size w w' := fun w => by rw [← e2]; exact aBox_any 83 w (by omega) (by omega)
  have e3' : ∀ w : World, Calls Try.prog 16 #[.int .u8 87, .int .u8 19] w fun e w' => e = .returned (.int .u8 254) ∧ w = w' := fun w => by rw [← e3]; exact aMul_any 87 19 w (by omega) (by omega) (by omega) (by omega)
  have e4' : ∀ w : World, Calls Try.prog 19 #[.int .u8 83] w fun e w' => e = .returned (.int .u8 202) ∧ w = w' := fun w => by rw [← e4]; exact aInv_any 83 w (by omega) (by omega)
  have E1 := Lib.hid e1'
  have E2 := Lib.hid e2'
  have E3 := Lib.hid e3'
  have E4 := Lib.hid e4'
  have EN := Lib.hid hnum
  clear e1 e2 e3 e4 e1' e2' e3' e4' hnum
  go_upto_region 4 with (fail)
  go_wp2_with (fail)
  refine (EN.out _ _).mono ?_
  rintro e w' ⟨rfl, rfl⟩
  go_wp2_with (fail)
  refine (EN.out _ _).mono ?_
  rintro e w' ⟨rfl, rfl⟩
  go_wp2_with (fail)
  refine (E1.out _).mono ?_
  rintro e wa ⟨rfl, hba⟩
  have HBA := Lib.hid (HB.out.trans (hba.mono HB.out.size))
  clear hba HB c0 c15
  go_wp2_with (fail)
  refine (E2.out _).mono ?_
  rintro e wb ⟨rfl, hbb⟩
  have HBB := Lib.hid (HBA.out.trans (hbb.mono HBA.out.size))
  clear hbb HBA
  go_wp2_with (fail)
  refine (E3.out _).mono ?_
  rintro e w' ⟨rfl, rfl⟩
  go_wp2_with (fail)
  refine (E4.out _).mono ?_
  rintro e w' ⟨rfl, rfl⟩
  go_wp2_with (fail)
  go_ret
  exact ⟨rfl, HBB.out⟩
end Go.Proofs.Ytfkpilfnhgjmfaa
