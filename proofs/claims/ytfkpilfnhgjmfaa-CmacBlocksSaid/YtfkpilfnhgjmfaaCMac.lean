/-
  cmac: xor; New, none, made, own.
-/
import Derived.Test.YtfkpilfnhgjmfaaCDbl
import Derived.Test.YtfkpilfnhgjmfaaMake
import Derived.Test.YtfkpilfnhgjmfaaEqs
namespace Go.Proofs.Ytfkpilfnhgjmfaa
open Go.RowKit
set_option maxRecDepth 100000 in
set_option maxHeartbeats 800000 in
theorem cXor_any (a b : List Int) (w : World) (ha : a.length = 16) (hb : b.length = 16) :
    Calls Try.prog 69 #[.agg (bv a).toArray, .agg (bv b).toArray] w fun e w' => e = .returned (.agg (bv (xorL a b)).toArray) ∧ Below w.heap.size w w' := by
  obtain ⟨HR0, HR1, HR2, HBL⟩ := rows3 w 29 29 29 (bv a) (bv b) (bv (zeroL 16))
  have i16 : (Try.prog.info? 29).map (·.size) = some (bv b).length := by rw [bv_length, hb]; kernel_rfl
  have I16 := Lib.hid i16
  have hix : ∀ (k : Nat) (w : World), k < 16 → (Instr.index 29 (.agg (bv b).toArray) (.int .i64 (k : Int))).run Try.prog w = .ok (.int .u8 (el b k)) w := fun k w hk =>
    run_index_bytes 29 16 Try.underlying29 (bv b).toArray .i64 k hk _ (by simpa using bv_get b k (by omega)) w
  have HIX := Lib.hid hix
  clear i16 hix
  go_enter Try.func69, Try.ntmps69
  go_wp2_with (refine wpList_load_Row rfl 29 _ rfl _ rfl HR1.out Try.underlying29 I16.out ?_)
  go_loopw [8] (fun i wr => ∃ k : Nat, k ≤ 16 ∧ i = .int .i64 k ∧ Row wr w.heap.size 29 (bv (upto 16 k (fun i => x8 (el a i) (el b i)) (el a))) ∧ Row wr (w.heap.size + 1 + 1) 29 (bv (zeroL 16)) ∧ Below w.heap.size w wr) (fun i _ => 16 - (intOf i).toNat)
  case atStart => exact ⟨0, by omega, rfl, by rw [upto_zero, ← tab_of a ha]; exact HR0.out, HR2.out, HBL.out⟩
  case round =>
    obtain ⟨k, hk, rfl, r0, r2, hbel⟩ := hrel
    by_cases hlt : k < 16
    · have c0 := r0.cell (bv_get _ k (by rw [upto_length]; omega))
      rw [upto_el _ _ _ _ _ hlt, if_neg (by omega)] at c0
      have f0 := r0.frozen k
      have hixk := fun w => HIX.out k w hlt
      have HN : Hid (Row (wr.setCell ⟨w.heap.size, k, none⟩ (.int .u8 (x8 (el a k) (el b k)))) w.heap.size 29 (bv (upto 16 (k + 1) (fun i => x8 (el a i) (el b i)) (el a))) ∧ Row (wr.setCell ⟨w.heap.size, k, none⟩ (.int .u8 (x8 (el a k) (el b k)))) (w.heap.size + 1 + 1) 29 (bv (zeroL 16)) ∧ Below w.heap.size w (wr.setCell ⟨w.heap.size, k, none⟩ (.int .u8 (x8 (el a k) (el b k))))) := by
        refine ⟨?_, r2.other (by simp; omega) _, hbel.setCell (p := ⟨w.heap.size, k, none⟩) (Nat.le_refl _) _⟩
        have h := r0.set k (.int .u8 (x8 (el a k) (el b k)))
        rw [bv_set, upto_set _ _ _ _ _ (fun _ => rfl)] at h
        exact h
      clear r0 r2 hbel HR0 HR1 HR2 HBL
      go_wp2
      go_roundw
      case rel => exact ⟨k + 1, by omega, by go_num, HN.out⟩
      case measure => simp [intOf]; omega
    · have hk16 : k = 16 := by omega
      subst hk16
      have e : upto 16 16 (fun i => x8 (el a i) (el b i)) (el a) = xorL a b := by rw [upto_full]; rfl
      rw [e] at r0
      go_wp2_with (first | (refine wpList_load_Row rfl 29 _ rfl _ rfl r0 Try.underlying29 (by rw [bv_length, xorL_length]; kernel_rfl) ?_) | (refine wpList_store_Row rfl 29 _ _ rfl _ _ rfl rfl r2 (by rw [bv_length, xorL_length]; kernel_rfl) (by rw [bv_length, bv_length, xorL_length]; rfl) (bv_one _) ?_))
      exact bodyPost_ret (results_Row rfl _ _ _ rfl (r2.put _) Try.underlying29 (by rw [bv_length, xorL_length]; kernel_rfl)) rfl ⟨rfl, below_setRow hbel (by omega) _⟩
/-- the cells of a tag under way -/
def macL (p : Option Addr) (x : List Int) (lv : Value) : List Value := .pointer p :: (bv x ++ [lv])
theorem built_mac (p : Option Addr) : Try.prog.built 101 [(0, .pointer p)] = some (macL p (zeroL 16) (.slice none 0 0)).toArray := by kernel_rfl
theorem mac_ptr (p : Option Addr) (x : List Int) (lv : Value) : (macL p x lv)[0]? = some (.pointer p) := rfl
theorem mac_last (p : Option Addr) (x : List Int) (lv : Value) (hx : x.length = 16) : (macL p x lv)[17]? = some lv := by
  simp [macL, bv, hx]
theorem mac_range {w : World} {B : Nat} {p : Option Addr} {x : List Int} {lv : Value} (h : Row w B 101 (macL p x lv)) : w.rangeAt B 1 (bv x) := rangeAt_app (a := [.pointer p]) (c := [lv]) h
set_option maxRecDepth 100000 in
set_option maxHeartbeats 800000 in
/-- behind New of a key of 16 bytes -/
theorem cNew_any (key : List Int) (b o cap : Nat) (w : World) (hk : key.length = 16) (hB : Byt key) (hr : w.rangeAt b o (bv key)) :
    Calls Try.prog 44 #[.slice (some ⟨b, o, none⟩) 16 cap] w fun e w' => ∃ B g, e = .returned (.tuple #[.pointer (some ⟨B, 0, none⟩), .int .i64 0]) ∧ w.heap.size ≤ g ∧ g < B ∧ IsCip w' g key ∧ Row w' B 101 (macL (some ⟨g, 0, none⟩) (zeroL 16) (.slice none 0 0)) ∧ Below w.heap.size w w' := by
  have hn := aNew_any key b o cap w hk hB hr
  clear hk hB hr
  go_enter Try.func44, Try.ntmps44
  go_wp2_with (fail)
  refine hn.mono ?_
  clear hn
  rintro e w1 ⟨g, rfl, hg, hc, hb1⟩
  have H1 := Lib.hid (And.intro hg (And.intro hc hb1))
  clear hg hc hb1
  have hbu := built_mac (some ⟨g, 0, none⟩)
  have HBU := Lib.hid hbu
  clear hbu
  go_wp2_with (refine wpList_built rfl 101 _ rfl _ HBU.out ?_)
  have hrow := Row.new w1 101 (macL (some ⟨g, 0, none⟩) (zeroL 16) (.slice none 0 0))
  have hgl := Row.lt H1.out.2.1
  go_ret2
  exact ⟨w1.heap.size, g, rfl, H1.out.1, hgl, Row.alloc H1.out.2.1 _, hrow, H1.out.2.2.alloc H1.out.2.2.size _⟩
set_option maxRecDepth 100000 in
theorem cNew_bad (p : Option Addr) (n cap : Nat) (w : World) (hn : n ≠ 16) :
    Calls Try.prog 44 #[.slice p n cap] w fun e w' => e = .returned (.tuple #[.pointer none, .int .i64 2]) ∧ w = w' := by
  go_enter Try.func44, Try.ntmps44
  go_wp2_with (fail)
  refine (aNew_bad p n cap w hn).mono ?_
  rintro e w' ⟨rfl, rfl⟩
  go_wp2
  go_ret2
  exact ⟨rfl, rfl⟩
set_option maxRecDepth 100000 in
theorem cNone_any (B g : Nat) (x : List Int) (lv : Value) (w : World) (h : Row w B 101 (macL (some ⟨g, 0, none⟩) x lv)) :
    Calls Try.prog 66 #[.pointer (some ⟨B, 0, none⟩)] w fun e w' => e = .returned (.bool false) ∧ w = w' := by
  have c0 := h.cell (mac_ptr _ _ _)
  clear h
  go_enter Try.func66, Try.ntmps66
  go_wp2
  go_ret
  exact ⟨rfl, rfl⟩
set_option maxRecDepth 100000 in
theorem cNone_nil (w : World) :
    Calls Try.prog 66 #[.pointer none] w fun e w' => e = .returned (.bool true) ∧ w = w' := by
  go_enter Try.func66, Try.ntmps66
  go_wp2
  go_ret
  exact ⟨rfl, rfl⟩
end Go.Proofs.Ytfkpilfnhgjmfaa
