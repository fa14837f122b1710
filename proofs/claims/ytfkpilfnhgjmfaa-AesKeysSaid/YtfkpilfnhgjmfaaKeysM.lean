/-
  Keys of a cipher and of the reference; what no cipher answers.
-/
import Derived.Test.YtfkpilfnhgjmfaaMake
import Derived.Test.YtfkpilfnhgjmfaaRSteps
namespace Go.Proofs.Ytfkpilfnhgjmfaa
open Go.RowKit
attribute [local go_sem] Oper.semAt_some noJump_normal noJump_exit noJump_ret noJump_panic wide_fn wide_depth
theorem run_slice_sch (b : Nat) (w : World) : (Instr.sliceAt 88 (.pointer (some ⟨b, 0, none⟩)) none none none).run Try.prog w = .ok (.slice (some ⟨b, 0, none⟩) 11 11) w := by kernel_rfl
set_option maxRecDepth 100000 in
set_option maxHeartbeats 800000 in
theorem aKeysM_any (g : Nat) (key : List Int) (w : World) (hk : key.length = 16) (rc : IsCip w g key) :
    Calls Try.prog 31 #[.pointer (some ⟨g, 0, none⟩)] w fun e w' => e = .returned (.slice (some ⟨w.heap.size, 0, none⟩) 11 11) ∧ Row w' w.heap.size 88 (flatK key 11) ∧ Below w.heap.size w w' := by
  have i176 : (Try.prog.info? 88).map (·.size) = some (flatK key 11).length := by rw [flatK_length key hk]; kernel_rfl
  have I176 := Lib.hid i176
  have hrg : w.rangeAt g 0 (flatK key 11) := rangeAt_app (a := []) (c := [.bool true]) rc
  have HRG := Lib.hid hrg
  have hsl := run_slice_sch
  have hno := aNone_any key g w hk rc
  have n0 := Lib.hid (Row.new w 88 (bv (zeroL 176)))
  have hin : (bv (zeroL 176)).length = (flatK key 11).length := by rw [bv_length, zeroL_length, flatK_length key hk]
  have HIN := Lib.hid hin
  clear hk rc i176 hrg hin
  go_enter Try.func31, Try.ntmps31
  go_wp2_with (fail)
  refine hno.mono ?_
  rintro e w' ⟨rfl, rfl⟩
  clear hno
  go_wp2_with (first | (refine wpList_load_mid rfl 88 _ rfl g 0 rfl (flatK key 11) _ HRG.out Try.underlying88 rfl I176.out ?_) | (refine wpList_store_Row rfl 88 _ _ rfl w.heap.size (flatK key 11) rfl rfl n0.out I176.out HIN.out (flatK_one key 11) ?_; refine stay ?_))
  refine go_on ?_
  have hF : Row ((w.alloc (.cells (bv (zeroL 176)).toArray 88)).setRow w.heap.size (flatK key 11).toArray) w.heap.size 88 (flatK key 11) ∧ Below w.heap.size w ((w.alloc (.cells (bv (zeroL 176)).toArray 88)).setRow w.heap.size (flatK key 11).toArray) :=
    ⟨n0.out.put _, below_setRow ((Below.refl _ w).alloc (Nat.le_refl _) _) (Nat.le_refl _) _⟩
  have HF := Lib.hid hF
  clear hF
  go_wp2
  go_ret
  exact ⟨rfl, HF.out.1, HF.out.2⟩
set_option maxRecDepth 100000 in
theorem aKeysM_nil (w : World) : Calls Try.prog 31 #[.pointer none] w fun e w' => e = .returned (.slice none 0 0) ∧ w = w' := by
  go_enter Try.func31, Try.ntmps31
  go_wp2_with (fail)
  refine (aNone_nil w).mono ?_
  rintro e w' ⟨rfl, rfl⟩
  go_wp2
  go_ret
  exact ⟨rfl, rfl⟩
set_option maxRecDepth 100000 in
set_option maxHeartbeats 800000 in
theorem rKeys_any (key : List Int) (b o cap : Nat) (w : World) (hk : key.length = 16) (hB : Byt key) (hr : w.rangeAt b o (bv key)) :
    Calls Try.prog 32 #[.slice (some ⟨b, o, none⟩) 16 cap] w fun e w' => ∃ v, e = .returned v ∧ w'.ownsRow w.heap.size 29 16 v 11 (flatK key 11) ∧ Below w.heap.size w w' := by
  have HK := Lib.hid hk
  have HB := Lib.hid hB
  have hc : ∀ i, i < 16 → w.cell? ⟨b, o + i, none⟩ = some (.int .u8 (el key i)) := fun i hi => hr i _ (bv_get key i (by omega))
  have hb : b < w.heap.size := World.block_lt_of_cell? w _ (hc 0 (by omega))
  have hbl := rblock_any b o cap key w hk hc hb
  clear hk hB hr hc hb
  go_enter Try.func32, Try.ntmps32
  go_wp2_with (fail)
  refine hbl.mono ?_
  clear hbl
  rintro e w1 ⟨rfl, hb1⟩
  go_wp2_with (fail)
  refine (boxes_any w1).mono ?_
  rintro e w2 ⟨rfl, hb2⟩
  go_wp2_with (fail)
  refine (rkeys_any key w2 HK.out HB.out).mono ?_
  rintro e w3 ⟨v, rfl, ho, hb3⟩
  go_wp2
  go_ret
  have h12 := hb1.trans (hb2.mono hb1.size)
  exact ⟨_, rfl, owns_base ho h12.size, h12.trans (hb3.mono h12.size)⟩
/-- no cipher makes no block -/
theorem aMake_nil (b : List Int) (w : World) :
    Calls Try.prog 26 #[.pointer none, .agg (bv b).toArray] w fun e w' => e = .returned (.tuple #[.agg (bv (zeroL 16)).toArray, .int .i64 1]) ∧ Below w.heap.size w w' := by
  obtain ⟨HR0, HR1, HBL⟩ := rows2 w 29 29 (bv b) (bv (zeroL 16))
  have i16 : (Try.prog.info? 29).map (·.size) = some (bv (zeroL 16)).length := by rw [bv_length, zeroL_length]; kernel_rfl
  have I16 := Lib.hid i16
  clear i16
  go_enter Try.func26, Try.ntmps26
  go_wp2_with (fail)
  generalize hV : (w.alloc _).alloc _ = V
  have HV : Hid (Row V (w.heap.size + 1) 29 (bv (zeroL 16)) ∧ Below w.heap.size w V) := by rw [← hV]; exact ⟨HR1.out, HBL.out⟩
  clear hV HR0 HR1 HBL
  refine (aNone_nil V).mono ?_
  rintro e V' ⟨rfl, rfl⟩
  go_wp2_with (first | (refine wpList_load_Row rfl 29 _ rfl _ rfl HV.out.1 Try.underlying29 I16.out ?_) | (refine wpList_store_Row rfl 29 _ _ rfl (w.heap.size + 1) (bv (zeroL 16)) rfl rfl HV.out.1 I16.out rfl (bv_one _) ?_; refine stay ?_))
  refine go_on ?_
  have HW : Hid (Row (V.setRow (w.heap.size + 1) (bv (zeroL 16)).toArray) (w.heap.size + 1) 29 (bv (zeroL 16)) ∧ Below w.heap.size w (V.setRow (w.heap.size + 1) (bv (zeroL 16)).toArray)) :=
    ⟨HV.out.1.put _, below_setRow HV.out.2 (Nat.le_succ _) _⟩
  generalize V.setRow _ _ = W at HW ⊢
  clear HV
  go_wp2
  exact bodyPost_ret (results_Row_tmp rfl _ _ (w.heap.size + 1) rfl HW.out.1 Try.underlying29 I16.out) rfl ⟨rfl, HW.out.2⟩
/-- .. nor steps -/
theorem stepsIt_none (n P Q : Nat) (encs : Nat → Array Value) (T : Nat → Prop) (W : World) (rP : Row W P 30 [.pointer none]) :
    Gives Fence.wide n Try.prog 59 #[.pointer (some ⟨P, 0, none⟩), .pointer (some ⟨Q, 0, none⟩)] encs 0 T W := by
  intro l J Jx hJ hJx hY h0
  have cP := rP.cell (i := 0) rfl
  clear rP
  refine callsIn_of_wp Try.func59 rfl trivial ?_ rfl
  simp only [Try.ntmps59, List.size_toArray, List.length_cons, List.length_nil, Nat.reduceAdd, Nat.reduceSub, Array.replicate_succ, Array.replicate_zero, List.push_toArray, List.append_toArray, List.nil_append, List.cons_append]
  refine wpIn_scope ?_
  gi_wp2_with (first | (gi_at_call 53; refine (callsIn_wide.2 (aNone_nil W)).mono ?_; rintro e w' ⟨rfl, rfl⟩))
  simp only [noJump_ret]
  exact bodyPost_ret (results_none rfl _ _ _) rfl ⟨⟨_, rfl⟩, .inl h0⟩
end Go.Proofs.Ytfkpilfnhgjmfaa
