/-
  Functions on blocks: the reference's block, boxes, roll, box; the code's add and each.
-/
import Derived.Test.YtfkpilfnhgjmfaaRows0
import Derived.Test.YtfkpilfnhgjmfaaTable
namespace Go.Proofs.Ytfkpilfnhgjmfaa
open Go.RowKit
theorem bv_list (vs : List Value) (l : List Int) (h : vs = bv l) : vs.toArray = (bv l).toArray := by rw [h]
set_option maxRecDepth 100000 in
set_option maxHeartbeats 400000 in
theorem rblock_any (b o cap : Nat) (l : List Int) (w : World) (hl : l.length = 16) (hc : ∀ i, i < 16 → w.cell? ⟨b, o + i, none⟩ = some (.int .u8 (el l i))) (hb : b < w.heap.size) :
    Calls Try.prog 56 #[.slice (some ⟨b, o, none⟩) 16 cap] w fun e w' => e = .returned (.agg (bv l).toArray) ∧ Below w.heap.size w w' := by
  obtain ⟨HR0, HR1, HBL⟩ := rows2 w 29 29 (bv (zeroL 16)) (bv (zeroL 16))
  have HC := Lib.hid hc
  clear hc
  go_enter Try.func56, Try.ntmps56
  go_wp2
  go_loopw [4] (fun i wr => ∃ k : Nat, k ≤ 16 ∧ i = .int .i64 k ∧ Row wr w.heap.size 29 (bv (zeroL 16)) ∧ Row wr (w.heap.size + 1) 29 (bv (upto 16 k (el l) (fun _ => 0))) ∧ Below w.heap.size w wr) (fun i _ => 16 - (intOf i).toNat)
  case atStart => exact ⟨0, by omega, rfl, HR0.out, by rw [upto_zero]; exact HR1.out, HBL.out⟩
  case round =>
    obtain ⟨k, hk, rfl, r0, r1, hbel⟩ := hrel
    by_cases hlt : k < 16
    · have c0 := (hbel.cell (p := ⟨b, o + k, none⟩) hb).trans (HC.out k hlt)
      have c1 := r1.cell (bv_get _ k (by rw [upto_length]; omega))
      have f1 := r1.frozen k
      go_wp2
      go_roundw
      case rel =>
        refine ⟨k + 1, by omega, by go_num, r0.other (by simp) _, ?_, hbel.setCell (p := ⟨w.heap.size + 1, k, none⟩) (Nat.le_succ _) _⟩
        have h := r1.set k (.int .u8 (el l k))
        rw [bv_set, upto_set _ _ _ _ _ (fun _ => rfl)] at h
        exact h
      case measure => simp [intOf]; omega
    · have hk16 : k = 16 := by omega
      have HK := Lib.hid hk16
      clear hk16
      go_wp2_with (first | (refine wpList_load_Row rfl 29 _ rfl _ rfl r1 Try.underlying29 (by rw [bv_length, upto_length]; kernel_rfl) ?_) | (refine wpList_store_Row rfl 29 _ _ rfl _ _ rfl rfl r0 (by rw [bv_length, upto_length]; kernel_rfl) (by rw [bv_length, bv_length, upto_length]; rfl) (bv_one _) ?_))
      have e : upto 16 k (el l) (fun _ => 0) = l := by rw [HK.out, upto_full, ← tab_of l hl]
      rw [e]
      exact bodyPost_ret (results_Row rfl _ _ _ rfl (r0.put _) Try.underlying29 (by rw [bv_length, hl]; kernel_rfl)) rfl ⟨rfl, below_setRow hbel (by omega) _⟩
/-! ### roll, box of the reference -/
def roll8 (b : Int) (n : Nat) : Int := ((rollN b.toNat n : Nat) : Int)
set_option maxRecDepth 100000 in
set_option maxHeartbeats 400000 in
theorem roll_any (b : Int) (n : Int) (w : World) (hb : 0 ≤ b) (hb' : b < 256) (hn : 0 ≤ n) (hn' : n < 10) :
    Calls Try.prog 50 #[.int .u8 b, .int .i64 n] w fun e w' => e = .returned (.int .u8 (roll8 b n.toNat)) ∧ w = w' := by
  obtain ⟨y, rfl⟩ := Int.eq_ofNat_of_zero_le hb
  obtain ⟨n, rfl⟩ := Int.eq_ofNat_of_zero_le hn
  unfold roll8
  rw [Int.toNat_natCast, Int.toNat_natCast]
  go_enter Try.func50, Try.ntmps50
  go_wp2
  go_loop [0, 5] (fun b i => ∃ k b' : Nat, k ≤ n ∧ i = .int .i64 k ∧ b = .int .u8 b' ∧ b' < 256 ∧ b' = rollN y k) (fun _ i => n - (intOf i).toNat)
  case atStart => exact ⟨0, y, by omega, rfl, rfl, by omega, rfl⟩
  case round =>
    obtain ⟨k, b', hk, rfl, rfl, h1, h2⟩ := hrel
    have H2 := Lib.hid h2
    clear h2
    by_cases hlt : k < n
    · go_wp2
      go_round
      case rel => exact ⟨k + 1, roll1 b', by omega, by go_num, by unfold roll1; go_num, roll1_lt _, by rw [H2.out]; rfl⟩
      case measure => simp [intOf]; omega
    · have hkn : k = n := by omega
      have HK := Lib.hid hkn
      clear hkn
      go_wp2
      go_ret
      exact ⟨ret_int (by rw [H2.out, HK.out]), rfl⟩
set_option maxRecDepth 100000 in
set_option maxHeartbeats 400000 in
theorem rBox_any (b : Int) (w : World) (hb : 0 ≤ b) (hb' : b < 256) :
    Calls Try.prog 22 #[.int .u8 b] w fun e w' => e = .returned (.int .u8 (box8 b)) ∧ w = w' := by
  have hi := inv8_bd b hb hb'
  go_enter Try.func22, Try.ntmps22
  go_wp2_with fail
  refine (rInv_any b _ hb hb').mono ?_
  rintro e w' ⟨rfl, rfl⟩
  go_wp2_with fail
  refine (roll_any (inv8 b) 1 _ (by omega) (by omega) (by omega) (by omega)).mono ?_
  rintro e w' ⟨rfl, rfl⟩
  go_wp2_with fail
  refine (roll_any (inv8 b) 2 _ (by omega) (by omega) (by omega) (by omega)).mono ?_
  rintro e w' ⟨rfl, rfl⟩
  go_wp2_with fail
  refine (roll_any (inv8 b) 3 _ (by omega) (by omega) (by omega) (by omega)).mono ?_
  rintro e w' ⟨rfl, rfl⟩
  go_wp2_with fail
  refine (roll_any (inv8 b) 4 _ (by omega) (by omega) (by omega) (by omega)).mono ?_
  rintro e w' ⟨rfl, rfl⟩
  go_wp2
  go_ret
  refine ⟨ret_int ?_, rfl⟩
  have h := invN_lt b.toNat (by omega)
  have x1 := Nat.xor_lt_two_pow (n := 8) h (rollN_lt _ h 1)
  have x2 := Nat.xor_lt_two_pow (n := 8) x1 (rollN_lt _ h 2)
  have x3 := Nat.xor_lt_two_pow (n := 8) x2 (rollN_lt _ h 3)
  have x4 := Nat.xor_lt_two_pow (n := 8) x3 (rollN_lt _ h 4)
  have e1 := xor8_nat _ _ h (rollN_lt _ h 1)
  have e2 := xor8_nat _ _ x1 (rollN_lt _ h 2)
  have e3 := xor8_nat _ _ x2 (rollN_lt _ h 3)
  have e4 := xor8_nat _ _ x3 (rollN_lt _ h 4)
  have e5 := xor8_nat _ 99 x4 (by omega)
  show bits .xor .u8 (bits .xor .u8 (bits .xor .u8 (bits .xor .u8 (bits .xor .u8 ((invN b.toNat : Nat) : Int) ((rollN (invN b.toNat) 1 : Nat) : Int)) ((rollN (invN b.toNat) 2 : Nat) : Int)) ((rollN (invN b.toNat) 3 : Nat) : Int)) ((rollN (invN b.toNat) 4 : Nat) : Int)) ((99 : Nat) : Int) = _
  rw [e1, e2, e3, e4, e5]
  rfl
/-! ### boxes -/
theorem tabL_eq : tabL = bv (tab 256 fun i => box8 (i : Int)) := by simp [tabL, bv, tab, u8v, box8]
theorem tabA_eq : tabA = (bv (tab 256 fun i => box8 (i : Int))).toArray := by rw [tabA, tabL_eq]
theorem zeros_eq (n : Nat) : zeros n = (bv (zeroL n)).toArray := by
  simp [zeros, bv, zeroL, tab, u8v, List.map_const']
theorem zeroTab (w : World) : (zeroValue 83).run Try.prog w = .ok (.agg (bv (zeroL 256)).toArray) w := by rw [← zeros_eq]; exact zero83 w
theorem wp_loop_k {P : Program} {c : Code} {Q Q' : Exit → Act → World → Prop} {a : Act} {w : World} (hq : ∀ e a w, Q e a w → Q' e a w) (h : c.wp P Q a w) : c.wp P Q' a w := Code.wp_mono hq h
set_option maxRecDepth 100000 in
set_option maxHeartbeats 400000 in
theorem boxes_any (w : World) :
    Calls Try.prog 54 #[] w fun e w' => e = .returned (.agg tabA) ∧ Below w.heap.size w w' := by
  obtain ⟨HR0, HR1, HBL⟩ := rows2 w 83 83 (bv (zeroL 256)) (bv (zeroL 256))
  rw [tabA_eq]
  go_enter Try.func54, Try.ntmps54
  refine wp_seq_k fun K hK => ?_
  refine wp_region_lit ?_
  refine wpList_alloc_zero rfl 83 rfl _ (zeroTab w) ?_
  refine wpList_nil ?_
  refine hK _ _ ?_
  clear hK K
  refine wp_seq_k fun K hK => ?_
  refine wp_region_lit ?_
  refine wpList_alloc_zero rfl 83 rfl _ (zeroTab _) ?_
  refine wpList_nil ?_
  refine hK _ _ ?_
  clear hK K
  rw [World.size_alloc]
  simp only [Act.put, List.setIfInBounds_toArray, List.set_cons_zero, List.set_cons_succ]
  go_wp2
  go_loopw [2] (fun i wr => ∃ k : Nat, k ≤ 256 ∧ i = .int .i64 k ∧ Row wr w.heap.size 83 (bv (zeroL 256)) ∧ Row wr (w.heap.size + 1) 83 (bv (upto 256 k (fun i => box8 (i : Int)) (fun _ => 0))) ∧ Below w.heap.size w wr) (fun i _ => 256 - (intOf i).toNat)
  case atStart => exact ⟨0, by omega, rfl, HR0.out, by rw [upto_zero]; exact HR1.out, HBL.out⟩
  case round =>
    obtain ⟨k, hk, rfl, r0, r1, hbel⟩ := hrel
    by_cases hlt : k < 256
    · have c1 := r1.cell (bv_get _ k (by rw [upto_length]; omega))
      have f1 := r1.frozen k
      go_wp2_with fail
      refine (rBox_any _ _ (by omega) (by omega)).mono ?_
      rintro e w' ⟨rfl, rfl⟩
      go_wp2
      go_roundw
      case rel =>
        refine ⟨k + 1, by omega, by go_num, r0.other (by simp) _, ?_, hbel.setCell (p := ⟨w.heap.size + 1, k, none⟩) (Nat.le_succ _) _⟩
        have h := r1.set k (.int .u8 (box8 (k : Int)))
        rw [bv_set, upto_set _ _ _ _ _ (fun _ => rfl)] at h
        exact h
      case measure => simp [intOf]; omega
    · have hk16 : k = 256 := by omega
      have HK := Lib.hid hk16
      clear hk16
      go_wp2_with (first | (refine wpList_load_Row rfl 83 _ rfl _ rfl r1 Try.underlying83 (by rw [bv_length, upto_length]; kernel_rfl) ?_) | (refine wpList_store_Row rfl 83 _ _ rfl _ _ rfl rfl r0 (by rw [bv_length, upto_length]; kernel_rfl) (by rw [bv_length, bv_length, upto_length]; rfl) (bv_one _) ?_))
      have e : upto 256 k (fun i => box8 (i : Int)) (fun _ => 0) = tab 256 fun i => box8 (i : Int) := by rw [HK.out, upto_full]
      rw [e]
      exact bodyPost_ret (results_Row rfl _ _ _ rfl (r0.put _) Try.underlying83 (by rw [bv_length, tab_length]; kernel_rfl)) rfl ⟨rfl, below_setRow hbel (by omega) _⟩
/-! ### add -/
def xorAll (l : List Int) : Int := l.foldl x8 0
theorem xorAll_snoc (l : List Int) (k : Nat) (h : k < l.length) : xorAll (l.take (k + 1)) = x8 (xorAll (l.take k)) (el l k) := by
  have e : el l k = l[k] := by simp [el, h]
  rw [e, List.take_succ_eq_append_getElem h]
  simp only [xorAll, List.foldl_append, List.foldl_cons, List.foldl_nil]
set_option maxRecDepth 100000 in
set_option maxHeartbeats 400000 in
theorem aAdd_any (b o n cap : Nat) (l : List Int) (w : World) (hl : l.length = n) (hn : n < 1000) (hc : ∀ i, i < n → w.cell? ⟨b, o + i, none⟩ = some (.int .u8 (el l i))) :
    Calls Try.prog 51 #[.slice (some ⟨b, o, none⟩) n cap] w fun e w' => e = .returned (.int .u8 (xorAll l)) ∧ w = w' := by
  have HC := Lib.hid hc
  have HL := Lib.hid hl
  clear hc hl
  go_enter Try.func51, Try.ntmps51
  go_wp2
  go_loop [2, 4, 7] (fun s _ i => ∃ k : Nat, k ≤ n ∧ i = .int .i64 k ∧ s = .int .u8 (xorAll (l.take k))) (fun _ _ i => n - (intOf i).toNat)
  case atStart => exact ⟨0, by omega, rfl, rfl⟩
  case round =>
    obtain ⟨k, hk, rfl, rfl⟩ := hrel
    by_cases hlt : k < n
    · have c0 := HC.out k hlt
      go_wp2
      go_round
      case rel => exact ⟨k + 1, by omega, by go_num, by rw [xorAll_snoc l k (by rw [HL.out]; exact hlt)]⟩
      case measure => simp [intOf]; omega
    · have hk16 : k = n := by omega
      have HK := Lib.hid hk16
      clear hk16
      go_wp2
      go_ret
      exact ⟨ret_int (by rw [HK.out, List.take_of_length_le (by rw [HL.out]; exact Nat.le_refl _)]), rfl⟩
/-! ### Mix -/
def mixAt (c : List Int) (k : Nat) : Int := x8 (x8 (x8 (mul8 2 (el c k)) (mul8 3 (el c ((k + 1) % 4)))) (el c ((k + 2) % 4))) (el c ((k + 3) % 4))
def mixL (c : List Int) : List Int := tab 4 (mixAt c)
theorem x8_zero (a : Int) (h0 : 0 ≤ a) (h1 : a < 256) : x8 0 a = a := by
  rw [x8, u8_xor 0 a (by omega) (by omega) h0 h1]; simp; omega
theorem xorAll_four (a b c d : Int) (h0 : 0 ≤ a) (h1 : a < 256) : xorAll [a, b, c, d] = x8 (x8 (x8 a b) c) d := by
  show x8 (x8 (x8 (x8 0 a) b) c) d = _
  rw [x8_zero a h0 h1]
set_option maxRecDepth 100000 in
set_option maxHeartbeats 800000 in
theorem aMix_any (c : List Int) (w : World) (hc : c.length = 4) (hb : Byt c) :
    Calls Try.prog 23 #[.agg (bv c).toArray] w fun e w' => e = .returned (.agg (bv (mixL c)).toArray) ∧ Below w.heap.size w w' := by
  obtain ⟨HR0, HR1, HBL⟩ := rows2 w 26 26 (bv c) (bv (zeroL 4))
  have HB := Lib.hid hb
  have HC := Lib.hid hc
  clear hb hc
  go_enter Try.func23, Try.ntmps23
  go_wp2
  go_loopw [3, 4, 5, 6, 7, 8] (fun _ _ _ _ _ i wr => ∃ k : Nat, k ≤ 4 ∧ i = .int .i64 k ∧ Row wr w.heap.size 26 (bv c) ∧ Row wr (w.heap.size + 1) 26 (bv (upto 4 k (mixAt c) (fun _ => 0))) ∧ Below w.heap.size w wr) (fun _ _ _ _ _ i _ => 4 - (intOf i).toNat)
  case atStart => exact ⟨0, by omega, rfl, HR0.out, by rw [upto_zero]; exact HR1.out, HBL.out⟩
  case round =>
    obtain ⟨k, hk, rfl, r0, r1, hbel⟩ := hrel
    by_cases hlt : k < 4
    · have c0 := r0.cell (bv_get _ k (by rw [HC.out]; omega))
      have c1 := r0.cell (bv_get _ ((k + 1) % 4) (by rw [HC.out]; omega))
      have c2 := r0.cell (bv_get _ ((k + 2) % 4) (by rw [HC.out]; omega))
      have c3 := r0.cell (bv_get _ ((k + 3) % 4) (by rw [HC.out]; omega))
      have d := r1.cell (bv_get _ k (by rw [upto_length]; omega))
      have f1 := r1.frozen k
      go_wp2
      go_quiet (fail)
      go_wp2_with fail
      refine (aMul_any _ _ _ (by omega) (by omega) (HB.out _).1 (HB.out _).2).mono ?_
      rintro e w' ⟨rfl, rfl⟩
      go_wp2_with fail
      refine (aMul_any _ _ _ (by omega) (by omega) (HB.out _).1 (HB.out _).2).mono ?_
      rintro e w' ⟨rfl, rfl⟩
      go_wp2_with fail
      refine (aAdd_any _ 0 4 4 [mul8 2 (el c k), mul8 3 (el c ((k + 1) % 4)), el c ((k + 2) % 4), el c ((k + 3) % 4)] _ rfl (by omega) (fun i hi => by rw [Nat.zero_add]; exact (Row.new (wr.drewN nq) 5 (bv [_, _, _, _])).cell (bv_get _ i hi))).mono ?_
      rintro e w2 ⟨rfl, hw⟩
      have q0 : Row w2 w.heap.size 26 (bv c) := by rw [← hw]; exact (r0.drewN nq).alloc _
      have q1 : Row w2 (w.heap.size + 1) 26 (bv (upto 4 k (mixAt c) (fun _ => 0))) := by rw [← hw]; exact (r1.drewN nq).alloc _
      have qb : Below w.heap.size w w2 := by rw [← hw]; exact (belowN hbel nq).alloc hbel.size _
      clear hw d f1
      have d := q1.cell (bv_get _ k (by rw [upto_length]; omega))
      have f1 := q1.frozen k
      rw [xorAll_four _ _ _ _ (mul8_bd 2 _ (by omega) (by omega)).1 (mul8_bd 2 _ (by omega) (by omega)).2]
      go_wp2
      go_roundw
      case rel =>
        refine ⟨k + 1, by omega, by go_num, q0.other (by simp) _, ?_, qb.setCell (p := ⟨w.heap.size + 1, k, none⟩) (Nat.le_succ _) _⟩
        have h := q1.set k (.int .u8 (mixAt c k))
        rw [bv_set, upto_set _ _ _ _ _ (fun _ => rfl)] at h
        exact h
      case measure => simp [intOf]; omega
    · have hk4 : k = 4 := by omega
      have HK := Lib.hid hk4
      clear hk4
      go_wp2_with (first | (refine wpList_load_Row rfl 26 _ rfl _ rfl r1 Try.underlying26 (by rw [bv_length, upto_length]; kernel_rfl) ?_) | (refine wpList_store_Row rfl 26 _ _ rfl _ _ rfl rfl r1 (by rw [bv_length, upto_length]; kernel_rfl) rfl (bv_one _) ?_))
      have e : upto 4 k (mixAt c) (fun _ => 0) = mixL c := by rw [HK.out, upto_full]; rfl
      rw [e]
      exact bodyPost_ret (results_Row rfl _ _ _ rfl (r1.put _) Try.underlying26 (by rw [bv_length, mixL, tab_length]; kernel_rfl)) rfl ⟨rfl, below_setRow hbel (Nat.le_succ _) _⟩
/-! ### The reference's Mix -/
theorem quiet_same {P : Program} {f : FuncId} {args : Array Value} {w : World} {v : Value} (h : Calls P f args w fun e w' => e = .returned v ∧ w = w') : Calls P f args w fun e w' => e = .returned v ∧ w' = w :=
  h.mono fun _ _ ⟨h1, h2⟩ => ⟨h1, h2.symm⟩
theorem x8_four (a b c d : Int) (a0 : 0 ≤ a) (a1 : a < 256) (b0 : 0 ≤ b) (b1 : b < 256) (c0 : 0 ≤ c) (c1 : c < 256) (d0 : 0 ≤ d) (d1 : d < 256) :
    x8 (x8 (x8 a b) c) d = ((a.toNat ^^^ b.toNat ^^^ c.toNat ^^^ d.toNat : Nat) : Int) := by
  obtain ⟨a, rfl⟩ := Int.eq_ofNat_of_zero_le a0
  obtain ⟨b, rfl⟩ := Int.eq_ofNat_of_zero_le b0
  obtain ⟨c, rfl⟩ := Int.eq_ofNat_of_zero_le c0
  obtain ⟨d, rfl⟩ := Int.eq_ofNat_of_zero_le d0
  have h1 := Nat.xor_lt_two_pow (n := 8) (x := a) (y := b) (by omega) (by omega)
  have h2 := Nat.xor_lt_two_pow (n := 8) (x := a ^^^ b) (y := c) h1 (by omega)
  simp only [x8, Int.toNat_natCast]
  rw [xor8_nat a b (by omega) (by omega), xor8_nat _ c h1 (by omega), xor8_nat _ d h2 (by omega)]
set_option maxRecDepth 100000 in
set_option maxHeartbeats 1600000 in
theorem rMix_any (c : List Int) (w : World) (hc : c.length = 4) (hb : Byt c) :
    Calls Try.prog 24 #[.agg (bv c).toArray] w fun e w' => e = .returned (.agg (bv (mixL c)).toArray) ∧ Below w.heap.size w w' := by
  obtain ⟨HR0, HR1, HBL⟩ := rows2 w 26 26 (bv c) (bv (zeroL 4))
  have HB := Lib.hid hb
  have HC := Lib.hid hc
  clear hb hc
  go_enter Try.func24, Try.ntmps24
  go_wp2
  generalize hW : ((w.alloc (.cells (bv c).toArray 26)).alloc _) = W
  have r0 : Row W w.heap.size 26 (bv c) := by rw [← hW]; exact HR0.out
  have r1 : Row W (w.heap.size + 1) 26 (bv (zeroL 4)) := by rw [← hW]; exact HR1.out
  have hbel : Below w.heap.size w W := by rw [← hW]; exact HBL.out
  clear hW
  have c0 := r0.cell (bv_get _ 0 (by rw [HC.out]; omega))
  have c1 := r0.cell (bv_get _ 1 (by rw [HC.out]; omega))
  have c2 := r0.cell (bv_get _ 2 (by rw [HC.out]; omega))
  have c3 := r0.cell (bv_get _ 3 (by rw [HC.out]; omega))
  refine wp_region_still_tail 53 (by kernel_rfl) (by kernel_rfl) ?_
  simp only [List.take_succ_cons, List.take_zero, List.drop_succ_cons, List.drop_zero]
  repeat (first | still_step | still_call (quiet_same (rMul_any _ _ _ (by omega) (by omega) (HB.out _).1 (HB.out _).2)))
  refine wpStill_nil ?_
  have e : mixL c = [x8 (x8 (x8 (mul8 2 (el c 0)) (mul8 3 (el c 1))) (el c 2)) (el c 3), x8 (x8 (x8 (el c 0) (mul8 2 (el c 1))) (mul8 3 (el c 2))) (el c 3), x8 (x8 (x8 (el c 0) (el c 1)) (mul8 2 (el c 2))) (mul8 3 (el c 3)), x8 (x8 (x8 (mul8 3 (el c 0)) (el c 1)) (el c 2)) (mul8 2 (el c 3))] := by
    have m2 := fun i => mul8_bd 2 (el c i) (by omega) (by omega)
    have m3 := fun i => mul8_bd 3 (el c i) (by omega) (by omega)
    have b := HB.out
    show [mixAt c 0, mixAt c 1, mixAt c 2, mixAt c 3] = _
    show [x8 (x8 (x8 (mul8 2 (el c 0)) (mul8 3 (el c 1))) (el c 2)) (el c 3), x8 (x8 (x8 (mul8 2 (el c 1)) (mul8 3 (el c 2))) (el c 3)) (el c 0), x8 (x8 (x8 (mul8 2 (el c 2)) (mul8 3 (el c 3))) (el c 0)) (el c 1), x8 (x8 (x8 (mul8 2 (el c 3)) (mul8 3 (el c 0))) (el c 1)) (el c 2)] = _
    congr 1
    congr 1
    · rw [x8_four _ _ _ _ (m2 1).1 (m2 1).2 (m3 2).1 (m3 2).2 (b 3).1 (b 3).2 (b 0).1 (b 0).2, x8_four _ _ _ _ (b 0).1 (b 0).2 (m2 1).1 (m2 1).2 (m3 2).1 (m3 2).2 (b 3).1 (b 3).2]
      congr 1; ac_rfl
    congr 1
    · rw [x8_four _ _ _ _ (m2 2).1 (m2 2).2 (m3 3).1 (m3 3).2 (b 0).1 (b 0).2 (b 1).1 (b 1).2, x8_four _ _ _ _ (b 0).1 (b 0).2 (b 1).1 (b 1).2 (m2 2).1 (m2 2).2 (m3 3).1 (m3 3).2]
      congr 1; ac_rfl
    congr 1
    · rw [x8_four _ _ _ _ (m2 3).1 (m2 3).2 (m3 0).1 (m3 0).2 (b 1).1 (b 1).2 (b 2).1 (b 2).2, x8_four _ _ _ _ (m3 0).1 (m3 0).2 (b 1).1 (b 1).2 (b 2).1 (b 2).2 (m2 3).1 (m2 3).2]
      congr 1; ac_rfl
  refine wpList_store_Row rfl 26 _ _ rfl _ (bv (mixL c)) rfl (by rw [e]; rfl) r1.drew (by rw [bv_length, mixL, tab_length]; kernel_rfl) (by rw [bv_length, bv_length, mixL, tab_length]; rfl) (bv_one _) ?_
  go_wp2
  exact bodyPost_ret (results_Row rfl _ _ _ rfl ((r1.drew).put _) Try.underlying26 (by rw [bv_length, mixL, tab_length]; kernel_rfl)) rfl ⟨rfl, below_setRow hbel.drew (Nat.le_succ _) _⟩
end Go.Proofs.Ytfkpilfnhgjmfaa
