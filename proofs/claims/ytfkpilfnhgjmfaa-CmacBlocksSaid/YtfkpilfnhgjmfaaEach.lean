/-
  The code's each over a closure that hands back a byte, its three closures, and boxed, moved, mixed.
-/
import Derived.Test.YtfkpilfnhgjmfaaBlocks
import Derived.Shelf.Abstract
import Derived.RangeFuncCalls
import Derived.Deep.MidRow
namespace Go.Proofs.Ytfkpilfnhgjmfaa
open Go.RowKit
set_option maxRecDepth 100000 in
set_option maxHeartbeats 800000 in
theorem each_any (f : Nat) (caps : Array Value) (g : Nat → Int) (w : World) (eg : ∀ (args : Array Value) (w : World), (callFunc f args).run Try.prog w = .ok (.enter f args) w)
    (hF : ∀ (i : Nat) (w' : World), i < 16 → Below w.heap.size w w' → Calls Try.prog f (#[.int .i64 (i : Int)] ++ caps) w' fun e w'' => e = .returned (.int .u8 (g i)) ∧ Below w'.heap.size w' w'') :
    Calls Try.prog 63 #[.func (.func f) #[] caps] w fun e w' => e = .returned (.agg (bv (tab 16 g)).toArray) ∧ Below w.heap.size w w' := by
  obtain ⟨HR0, HBL⟩ := rows1 w 29 (bv (zeroL 16))
  have HF := Lib.hid hF
  clear hF
  go_enter Try.func63, Try.ntmps63
  go_wp2
  go_loopw [3, 5] (fun _ i wr => ∃ k : Nat, k ≤ 16 ∧ i = .int .i64 k ∧ Row wr w.heap.size 29 (bv (upto 16 k g (fun _ => 0))) ∧ Below w.heap.size w wr) (fun _ i _ => 16 - (intOf i).toNat)
  case atStart => exact ⟨0, by omega, rfl, by rw [upto_zero]; exact HR0.out, HBL.out⟩
  case round =>
    obtain ⟨k, hk, rfl, r0, hbel⟩ := hrel
    by_cases hlt : k < 16
    · go_wp2_with fail
      refine (HF.out k wr hlt hbel).mono ?_
      rintro e w2 ⟨rfl, hb2⟩
      have q0 := r0.below hb2 r0.lt
      have qb := hbel.trans (hb2.mono hbel.size)
      have d := q0.cell (bv_get _ k (by rw [upto_length]; omega))
      have f1 := q0.frozen k
      clear hb2 r0 hbel
      go_wp2
      go_roundw
      case rel =>
        refine ⟨k + 1, by omega, by go_num, ?_, qb.setCell (p := ⟨w.heap.size, k, none⟩) (Nat.le_refl _) _⟩
        have h := q0.set k (.int .u8 (g k))
        rw [bv_set, upto_set _ _ _ _ _ (fun _ => rfl)] at h
        exact h
      case measure => simp [intOf]; omega
    · have hk16 : k = 16 := by omega
      have HK := Lib.hid hk16
      clear hk16
      go_wp2_with (first | (refine wpList_load_Row rfl 29 _ rfl _ rfl r0 Try.underlying29 (by rw [bv_length, upto_length]; kernel_rfl) ?_) | (refine wpList_store_Row rfl 29 _ _ rfl _ _ rfl rfl r0 (by rw [bv_length, upto_length]; kernel_rfl) rfl (bv_one _) ?_))
      have e : upto 16 k g (fun _ => 0) = tab 16 g := by rw [HK.out, upto_full]
      rw [e]
      exact bodyPost_ret (results_Row rfl _ _ _ rfl (r0.put _) Try.underlying29 (by rw [bv_length, tab_length]; kernel_rfl)) rfl ⟨rfl, below_setRow hbel (Nat.le_refl _) _⟩
set_option maxRecDepth 100000 in
set_option maxHeartbeats 800000 in
theorem boxedF_any (Bt Bb k : Nat) (l : List Int) (w : World) (ht : Row w Bt 83 tabL) (hb : Row w Bb 29 (bv l)) (hl : l.length = 16) (hB : Byt l) (hk : k < 16) :
    Calls Try.prog 72 #[.int .i64 (k : Int), .pointer (some ⟨Bt, 0, none⟩), .pointer (some ⟨Bb, 0, none⟩)] w fun e w' => e = .returned (.int .u8 (box8 (el l k))) ∧ w = w' := by
  have bd := hB k
  have c0 := hb.cell (bv_get l k (by omega))
  have c1 : w.cell? ⟨Bt, (el l k).toNat, none⟩ = some (.int .u8 (box8 (el l k))) := ht.cell (tabL_get _ (by omega))
  have HL := Lib.hid hl
  clear hl hB
  go_enter Try.func72, Try.ntmps72
  go_wp2
  go_ret
  exact ⟨rfl, rfl⟩
set_option maxRecDepth 100000 in
set_option maxHeartbeats 800000 in
theorem movedF_any (Bb k : Nat) (l : List Int) (w : World) (hb : Row w Bb 29 (bv l)) (hl : l.length = 16) (hk : k < 16) :
    Calls Try.prog 73 #[.int .i64 (k : Int), .pointer (some ⟨Bb, 0, none⟩)] w fun e w' => e = .returned (.int .u8 (el l ((k + 4 * (k % 4)) % 16))) ∧ w = w' := by
  have c0 := hb.cell (bv_get l ((k + 4 * (k % 4)) % 16) (by omega))
  have HL := Lib.hid hl
  clear hl
  go_enter Try.func73, Try.ntmps73
  go_wp2
  go_ret
  exact ⟨rfl, rfl⟩
/-- column k / 4, mixed, at k % 4 -/
def colOf (l : List Int) (j : Nat) : List Int := tab 4 fun r => el l (j * 4 + r)
def mixedAt (l : List Int) (k : Nat) : Int := mixAt (colOf l (k / 4)) (k % 4)
/-- four cells out of a block of 16 -/
theorem run_slice4 (b j : Nat) (hj : j ≤ 12) (w : World) :
    (Instr.sliceAt 29 (.pointer (some ⟨b, 0, none⟩)) (some (.int .i64 (j : Int))) (some (.int .i64 ((j : Int) + 4))) none).run Try.prog w = .ok (.slice (some ⟨b, j, none⟩) 4 (16 - j)) w := by
  have h1 : (0 : Int) ≤ (j : Int) + 4 ∧ (j : Int) + 4 ≤ (16 : Nat) := by omega
  have h2 : (0 : Int) ≤ (j : Int) ∧ (j : Int) ≤ (j + 4 : Nat) := by omega
  have e1 : ((j : Int) + 4).toNat = j + 4 := by omega
  have e2 : (16 : Nat) ≠ j := by omega
  have e3 : (⟨b, 0, none⟩ : Addr).add j = ⟨b, j, none⟩ := by rw [Addr.add_mid, Nat.zero_add]
  have e4 : j + 4 - j = 4 := by omega
  simp only [Instr.sliceAt, Sem.run_bind, run_underlying Try.underlying29, Instr.sureAddr, Sem.run_pure, Result.andThen_ok, Instr.sliceBounds, Instr.sliceBound, asIntOf, if_pos h1, e1, Int.toNat_natCast, if_pos h2, size5, if_neg e2, Nat.mul_one, e3, e4]
theorem run_arrayAt4 (a : Addr) (cap : Nat) (w : World) : (Instr.arrayAt 26 (.slice (some a) 4 cap)).run Try.prog w = .ok (.pointer (some a)) w := by
  have h : ¬ (4 : Nat) < 4 := by omega
  simp only [Instr.arrayAt, Sem.run_bind, run_underlying Try.underlying26, Result.andThen_ok, if_neg h, Sem.run_pure]
theorem colOf_byt (l : List Int) (j : Nat) (h : Byt l) : Byt (colOf l j) := fun i => by
  by_cases hi : i < 4
  · rw [colOf, tab_el _ _ _ hi]; exact h _
  · have : el (colOf l j) i = 0 := by simp [el, colOf, tab, hi]
    rw [this]; omega
theorem rangeAt_bv {w : World} {B : Nat} {t : TypeId} {l : List Int} (h : Row w B t (bv l)) (o n : Nat) (f : Nat → Int) (hn : o + n ≤ l.length) (hf : ∀ i, i < n → f i = el l (o + i)) : w.rangeAt B o (bv (tab n f)) := fun j v hv => by
  have hj : j < n := by
    rcases Nat.lt_or_ge j n with h | h
    · exact h
    · rw [List.getElem?_eq_none (by rw [bv_length, tab_length]; exact h)] at hv; cases hv
  rw [bv_get _ j (by rw [tab_length]; exact hj), tab_el _ _ _ hj, hf j hj] at hv
  cases hv
  exact h.cell (bv_get l (o + j) (by omega))
set_option maxRecDepth 100000 in
set_option maxHeartbeats 800000 in
theorem mixedF_any (Bb k : Nat) (l : List Int) (w : World) (hb : Row w Bb 29 (bv l)) (hl : l.length = 16) (hB : Byt l) (hk : k < 16) :
    Calls Try.prog 74 #[.int .i64 (k : Int), .pointer (some ⟨Bb, 0, none⟩)] w fun e w' => e = .returned (.int .u8 (mixedAt l k)) ∧ Below w.heap.size w w' := by
  have hrg : w.rangeAt Bb (k / 4 * 4) (bv (colOf l (k / 4))) := rangeAt_bv hb (k / 4 * 4) 4 (fun r => el l (k / 4 * 4 + r)) (by omega) (fun _ _ => rfl)
  have e1 : (k : Int) / 4 * 4 = ((k / 4 * 4 : Nat) : Int) := by omega
  have hs := run_slice4 Bb (k / 4 * 4) (by omega)
  rw [← e1] at hs
  have har := fun a => run_arrayAt4 a (16 - k / 4 * 4)
  have hix := run_index_bytes 26 4 Try.underlying26 (bv (mixL (colOf l (k / 4)))).toArray .i64 (k % 4) (by omega) (.int .u8 (mixedAt l k)) (by
    have := bv_get (mixL (colOf l (k / 4))) (k % 4) (by rw [mixL, tab_length]; omega)
    rw [mixL, tab_el _ _ _ (by omega)] at this
    simpa [mixL, mixedAt] using this)
  have e2 : ((k % 4 : Nat) : Int) = (k : Int) % 4 := by omega
  rw [e2] at hix
  have HE := Lib.hid e1
  have HG := Lib.hid hrg
  have HL := Lib.hid hl
  have HB := Lib.hid hB
  clear e1 e2 hl hrg hB
  go_enter Try.func74, Try.ntmps74
  go_wp2_with (refine wpList_load_mid rfl 26 _ rfl Bb (k / 4 * 4) rfl (bv (colOf l (k / 4))) _ HG.out Try.underlying26 rfl (by rw [bv_length, colOf, tab_length]; kernel_rfl) ?_)
  refine (aMix_any (colOf l (k / 4)) _ (tab_length _ _) (colOf_byt l _ HB.out)).mono ?_
  rintro e w2 ⟨rfl, hb2⟩
  go_wp2
  go_ret
  exact ⟨rfl, hb2⟩
/-! ### boxed, moved, mixed -/
def boxedL (l : List Int) : List Int := tab 16 fun k => box8 (el l k)
def movedL (l : List Int) : List Int := tab 16 fun k => el l ((k + 4 * (k % 4)) % 16)
def mixedL (l : List Int) : List Int := tab 16 (mixedAt l)
set_option maxRecDepth 100000 in
set_option maxHeartbeats 800000 in
theorem moved_any (l : List Int) (w : World) (hl : l.length = 16) :
    Calls Try.prog 61 #[.agg (bv l).toArray] w fun e w' => e = .returned (.agg (bv (movedL l)).toArray) ∧ Below w.heap.size w w' := by
  obtain ⟨HR0, HR1, HBL⟩ := rows2 w 29 29 (bv l) (bv (zeroL 16))
  have HL := Lib.hid hl
  clear hl
  go_enter Try.func61, Try.ntmps61
  go_wp2_with fail
  generalize hW : ((w.alloc (.cells (bv l).toArray 29)).alloc _) = W
  have r0 : Row W w.heap.size 29 (bv l) := by rw [← hW]; exact HR0.out
  have r1 : Row W (w.heap.size + 1) 29 (bv (zeroL 16)) := by rw [← hW]; exact HR1.out
  have hbel : Below w.heap.size w W := by rw [← hW]; exact HBL.out
  clear hW
  refine (each_any 73 #[.pointer (some ⟨w.heap.size, 0, none⟩)] (fun k => el l ((k + 4 * (k % 4)) % 16)) W (enters_of Try.func73 (by kernel_rfl) rfl)
    (fun i w' hi hb => (movedF_any w.heap.size i l w' (r0.below hb r0.lt) HL.out hi).mono fun e w'' ⟨h1, h2⟩ => ⟨h1, by rw [← h2]; exact Below.refl _ _⟩)).mono ?_
  rintro e w2 ⟨rfl, hb2⟩
  have q1 := r1.below hb2 r1.lt
  have qb := hbel.trans (hb2.mono hbel.size)
  go_wp2_with (refine wpList_store_Row rfl 29 _ _ rfl _ _ rfl rfl q1 (by rw [bv_length, tab_length]; kernel_rfl) (by rw [bv_length, bv_length, tab_length]; rfl) (bv_one _) ?_)
  exact bodyPost_ret (results_Row rfl _ _ _ rfl (q1.put _) Try.underlying29 (by rw [bv_length, tab_length]; kernel_rfl)) rfl ⟨rfl, below_setRow qb (Nat.le_succ _) _⟩
set_option maxRecDepth 100000 in
set_option maxHeartbeats 800000 in
theorem mixed_any (l : List Int) (w : World) (hl : l.length = 16) (hB : Byt l) :
    Calls Try.prog 62 #[.agg (bv l).toArray] w fun e w' => e = .returned (.agg (bv (mixedL l)).toArray) ∧ Below w.heap.size w w' := by
  obtain ⟨HR0, HR1, HBL⟩ := rows2 w 29 29 (bv l) (bv (zeroL 16))
  have HL := Lib.hid hl
  have HB := Lib.hid hB
  clear hl hB
  go_enter Try.func62, Try.ntmps62
  go_wp2_with fail
  generalize hW : ((w.alloc (.cells (bv l).toArray 29)).alloc _) = W
  have r0 : Row W w.heap.size 29 (bv l) := by rw [← hW]; exact HR0.out
  have r1 : Row W (w.heap.size + 1) 29 (bv (zeroL 16)) := by rw [← hW]; exact HR1.out
  have hbel : Below w.heap.size w W := by rw [← hW]; exact HBL.out
  clear hW
  refine (each_any 74 #[.pointer (some ⟨w.heap.size, 0, none⟩)] (mixedAt l) W (enters_of Try.func74 (by kernel_rfl) rfl)
    (fun i w' hi hb => mixedF_any w.heap.size i l w' (r0.below hb r0.lt) HL.out HB.out hi)).mono ?_
  rintro e w2 ⟨rfl, hb2⟩
  have q1 := r1.below hb2 r1.lt
  have qb := hbel.trans (hb2.mono hbel.size)
  go_wp2_with (refine wpList_store_Row rfl 29 _ _ rfl _ _ rfl rfl q1 (by rw [bv_length, tab_length]; kernel_rfl) (by rw [bv_length, bv_length, tab_length]; rfl) (bv_one _) ?_)
  exact bodyPost_ret (results_Row rfl _ _ _ rfl (q1.put _) Try.underlying29 (by rw [bv_length, tab_length]; kernel_rfl)) rfl ⟨rfl, below_setRow qb (Nat.le_succ _) _⟩
set_option maxRecDepth 100000 in
set_option maxHeartbeats 800000 in
theorem boxed_any (l : List Int) (w : World) (hl : l.length = 16) (hB : Byt l) :
    Calls Try.prog 60 #[.agg (bv l).toArray] w fun e w' => e = .returned (.agg (bv (boxedL l)).toArray) ∧ Below w.heap.size w w' := by
  obtain ⟨HR0, HR1, HBL⟩ := rows2 w 29 29 (bv l) (bv (zeroL 16))
  have HL := Lib.hid hl
  have HB := Lib.hid hB
  clear hl hB
  go_enter Try.func60, Try.ntmps60
  go_wp2_with fail
  generalize hW : ((w.alloc (.cells (bv l).toArray 29)).alloc _) = W
  have r0 : Row W w.heap.size 29 (bv l) := by rw [← hW]; exact HR0.out
  have r1 : Row W (w.heap.size + 1) 29 (bv (zeroL 16)) := by rw [← hW]; exact HR1.out
  have hbel : Below w.heap.size w W := by rw [← hW]; exact HBL.out
  clear hW
  refine (aTable_any _).mono ?_
  rintro e w1 ⟨rfl, hb1⟩
  have p0 := r0.below hb1 r0.lt
  have p1 := r1.below hb1 r1.lt
  have pb := hbel.trans (hb1.mono hbel.size)
  have n0 := (Row.new w1 83 (bv (zeroL 256)))
  clear r0 r1 hbel hb1
  go_wp2_with (first | (refine wpList_alloc_zero rfl 83 rfl _ (zeroTab _) ?_) | (refine wpList_store_Row rfl 83 _ _ rfl _ tabL rfl rfl n0 (by rw [tabL_length]; kernel_rfl) (by rw [bv_length, zeroL_length, tabL_length]) (by rw [tabL_eq]; exact bv_one _) ?_))
  generalize hW : ((w1.alloc (.cells (bv (zeroL 256)).toArray 83)).setRow _ _) = W
  have q0 : Row W w.heap.size 29 (bv l) := by rw [← hW]; exact (p0.alloc _).putOther (by have := p0.lt; omega) _
  have q1 : Row W (w.heap.size + 1) 29 (bv (zeroL 16)) := by rw [← hW]; exact (p1.alloc _).putOther (by have := p1.lt; omega) _
  have q2 : Row W w1.heap.size 83 tabL := by rw [← hW]; exact n0.put _
  have qb : Below w.heap.size w W := by rw [← hW]; exact below_setRow (pb.alloc pb.size _) pb.size _
  clear hW n0 p0 p1 pb
  refine (each_any 72 #[.pointer (some ⟨w1.heap.size, 0, none⟩), .pointer (some ⟨w.heap.size, 0, none⟩)] (fun k => box8 (el l k)) W (enters_of Try.func72 (by kernel_rfl) rfl)
    (fun i w' hi hb => (boxedF_any w1.heap.size w.heap.size i l w' (q2.below hb q2.lt) (q0.below hb q0.lt) HL.out HB.out hi).mono fun e w'' ⟨h1, h2⟩ => ⟨h1, by rw [← h2]; exact Below.refl _ _⟩)).mono ?_
  rintro e w2 ⟨rfl, hb2⟩
  have s1 := q1.below hb2 q1.lt
  have sb := qb.trans (hb2.mono qb.size)
  clear q0 q1 q2 qb hb2
  go_wp2_with (refine wpList_store_Row rfl 29 _ _ rfl _ _ rfl rfl s1 (by rw [bv_length, tab_length]; kernel_rfl) (by rw [bv_length, bv_length, tab_length]; rfl) (bv_one _) ?_)
  exact bodyPost_ret (results_Row rfl _ _ _ rfl (s1.put _) Try.underlying29 (by rw [bv_length, tab_length]; kernel_rfl)) rfl ⟨rfl, below_setRow sb (Nat.le_succ _) _⟩
end Go.Proofs.Ytfkpilfnhgjmfaa
