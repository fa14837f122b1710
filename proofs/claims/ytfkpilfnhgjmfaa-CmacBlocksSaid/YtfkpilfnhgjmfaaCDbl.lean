/-
  A block, doubled: by the code and by the reference; the xor of two blocks by the code.
-/
import Derived.Test.YtfkpilfnhgjmfaaIt
namespace Go.Proofs.Ytfkpilfnhgjmfaa
open Go.RowKit
theorem tab_set {n k : Nat} {f g : Nat → Int} {x : Int} (hk : k < n → x = g k) (h : ∀ j, j < n → j ≠ k → f j = g j) : (tab n f).set k x = tab n g := by
  apply List.ext_getElem
  · simp [tab]
  · intro i h1 h2
    have hi : i < n := by simpa [tab] using h2
    by_cases e : k = i
    · subst e
      simp [tab, hk hi]
    · rw [List.getElem_set_ne e]
      simp only [tab, List.getElem_map, List.getElem_range]
      exact h i hi (Ne.symm e)
/-- the doubled bytes, but for the last one -/
def dblAt (b : List Int) (i : Nat) : Int := el b i * 2 % 256 + if i < 15 then el b (i + 1) / 128 else 0
def dblEnd (b : List Int) : Int := x8 (dblAt b 15) (el b 0 / 128 * 135)
/-- a block, doubled -/
def dblL (b : List Int) : List Int := tab 16 fun i => if i = 15 then dblEnd b else dblAt b i
theorem dblL_length (b : List Int) : (dblL b).length = 16 := tab_length _ _
theorem dblAt_bd {b : List Int} (hb : Byt b) (i : Nat) : 0 ≤ dblAt b i ∧ dblAt b i < 256 := by
  have h0 := hb i
  have h1 := hb (i + 1)
  unfold dblAt
  split <;> omega
theorem dblL_byt {b : List Int} (hb : Byt b) : Byt (dblL b) := byt_tab fun i _ => by
  have h0 := hb 0
  have h1 := dblAt_bd hb 15
  by_cases h : i = 15
  · simp only [if_pos h]
    exact x8_bd _ _ h1.1 h1.2 (by omega) (by omega)
  · simp only [if_neg h]
    exact dblAt_bd hb i
theorem or_below (x : Int) (hx : 0 ≤ x) (hx' : x < 256) (y : Int) (hy : y = 0 ∨ y = 1) : bits .or .u8 (x * 2 % 256) y = x * 2 % 256 + y := by
  obtain ⟨n, rfl⟩ := Int.eq_ofNat_of_zero_le hx
  have e : ((n : Int) * 2 % 256) = ((n * 2 % 256 : Nat) : Int) := by omega
  rw [e]
  have h2 : ∀ m : Nat, m < 2 → bits .or .u8 ((n * 2 % 256 : Nat) : Int) ((m : Nat) : Int) = ((n * 2 % 256 : Nat) : Int) + m := fun m hm => by
    rw [u8_or_nat _ _ (by omega) (by omega)]
    have : (n * 2 % 256) ||| m = n * 2 % 256 + m := by
      have h3 : n * 2 % 256 = 2 * (n % 128) := by omega
      rw [h3]
      have := Nat.two_pow_add_eq_or_of_lt (i := 1) (b := m) (by omega) (n % 128)
      rw [← Nat.two_pow_add_eq_or_of_lt (i := 1) (b := m) (by omega) (n % 128)]
    rw [this]
    omega
  rcases hy with rfl | rfl
  · exact h2 0 (by omega)
  · exact h2 1 (by omega)
/-- from byte m on it is done -/
def dblFrom (b : List Int) (m : Nat) : List Int := tab 16 fun j => if m ≤ j then dblAt b j else 0
/-- the bit that is carried down to byte m -/
def carry (b : List Int) (m : Nat) : Int := if m = 16 then 0 else el b m / 128
theorem carry_bit {b : List Int} (hb : Byt b) (m : Nat) : carry b m = 0 ∨ carry b m = 1 := by
  unfold carry
  have := hb m
  split
  · exact .inl rfl
  · omega
theorem carry_dbl (b : List Int) (i : Nat) (hi : i < 16) : el b i * 2 % 256 + carry b (i + 1) = dblAt b i := by
  unfold carry dblAt
  by_cases h : i = 15
  · subst h; rfl
  · rw [if_neg (by omega), if_pos (by omega)]
set_option maxRecDepth 100000 in
set_option maxHeartbeats 800000 in
theorem cDouble_any (b : List Int) (w : World) (lb : b.length = 16) (hb : Byt b) :
    Calls Try.prog 33 #[.agg (bv b).toArray] w fun e w' => e = .returned (.agg (bv (dblL b)).toArray) ∧ Below w.heap.size w w' := by
  obtain ⟨HR0, HR1, HBL⟩ := rows2 w 29 29 (bv b) (bv (zeroL 16))
  have HBB := Lib.hid hb
  clear hb
  go_enter Try.func33, Try.ntmps33
  go_wp2
  go_loopw [3, 4] (fun c i wr => ∃ m : Nat, m ≤ 16 ∧ i = .int .i64 ((m : Int) - 1) ∧ c = .int .u8 (carry b m) ∧ Row wr w.heap.size 29 (bv b) ∧ Row wr (w.heap.size + 1) 29 (bv (dblFrom b m)) ∧ Below w.heap.size w wr) (fun _ i _ => (intOf i + 1).toNat)
  case atStart => exact ⟨16, by omega, rfl, rfl, HR0.out, by
    have e : dblFrom b 16 = zeroL 16 := tab_congr fun j hj => if_neg (by omega)
    rw [e]; exact HR1.out, HBL.out⟩
  case round =>
    obtain ⟨m, hm, rfl, rfl, r0, r1, hbel⟩ := hrel
    by_cases hlt : 0 < m
    · obtain ⟨i, rfl⟩ : ∃ i, m = i + 1 := ⟨m - 1, by omega⟩
      have e0 : (((i + 1 : Nat) : Int) - 1) = (i : Int) := by omega
      rw [e0]
      have hi : i < 16 := by omega
      have c0 := r0.cell (bv_get b i (by omega))
      have f1 := r1.frozen i
      have c1 := r1.cell (bv_get _ i (by rw [dblFrom, tab_length]; omega))
      have e1 := or_below (el b i) (HBB.out i).1 (HBB.out i).2 (carry b (i + 1)) (carry_bit HBB.out (i + 1))
      have e2 := carry_dbl b i hi
      have hbi := HBB.out i
      have HR : Hid (Row (wr.setCell ⟨w.heap.size + 1, i, none⟩ (.int .u8 (dblAt b i))) w.heap.size 29 (bv b) ∧ Row (wr.setCell ⟨w.heap.size + 1, i, none⟩ (.int .u8 (dblAt b i))) (w.heap.size + 1) 29 (bv (dblFrom b i)) ∧ Below w.heap.size w (wr.setCell ⟨w.heap.size + 1, i, none⟩ (.int .u8 (dblAt b i)))) := by
        refine ⟨r0.other (by simp) _, ?_, hbel.setCell (p := ⟨w.heap.size + 1, i, none⟩) (by simp) _⟩
        have := r1.set i (.int .u8 (dblAt b i))
        rw [bv_set] at this
        have e : (dblFrom b (i + 1)).set i (dblAt b i) = dblFrom b i := tab_set (fun _ => by rw [if_pos (Nat.le_refl _)]) (fun j _ hj => by
          by_cases h : i + 1 ≤ j
          · rw [if_pos h, if_pos (by omega)]
          · rw [if_neg h, if_neg (by omega)])
        rw [e] at this
        exact this
      have hcn : carry b i = el b i / 128 := by unfold carry; rw [if_neg (by omega)]
      have HCN := Lib.hid hcn
      rw [e2] at e1
      clear r0 r1 hbel hcn e2 e0 HR0 HR1 HBL
      go_wp2
      go_roundw
      case rel => exact ⟨i, by omega, rfl, by rw [HCN.out], HR.out⟩
      case measure => simp [intOf]
    · have hm0 : m = 0 := by omega
      subst hm0
      have hc0 : carry b 0 = el b 0 / 128 := rfl
      rw [hc0]
      have hb0 := HBB.out 0
      obtain ⟨y, hy⟩ : ∃ y, y = el b 0 / 128 := ⟨_, rfl⟩
      rw [← hy]
      have hy2 : y = 0 ∨ y = 1 := by omega
      have c1 := r1.cell (bv_get (dblFrom b 0) 15 (by rw [dblFrom, tab_length]; omega))
      have e15 : el (dblFrom b 0) 15 = dblAt b 15 := by rw [dblFrom, tab_el _ _ _ (by omega)]; rfl
      rw [e15] at c1
      have f1 := r1.frozen 15
      have HR : Hid (Row (wr.setCell ⟨w.heap.size + 1, 15, none⟩ (.int .u8 (dblEnd b))) (w.heap.size + 1) 29 (bv (dblL b)) ∧ Below w.heap.size w (wr.setCell ⟨w.heap.size + 1, 15, none⟩ (.int .u8 (dblEnd b)))) := by
        refine ⟨?_, hbel.setCell (p := ⟨w.heap.size + 1, 15, none⟩) (by simp) _⟩
        have := r1.set 15 (.int .u8 (dblEnd b))
        rw [bv_set] at this
        have e : (dblFrom b 0).set 15 (dblEnd b) = dblL b := tab_set (fun _ => rfl) (fun j _ hj => by rw [if_pos (Nat.zero_le _), if_neg hj])
        rw [e] at this
        exact this
      have hx : ∀ z : Int, z = y * 135 → bits .xor .u8 (dblAt b 15) z = dblEnd b := fun z hz => by rw [hz, hy]; rfl
      have hx' := hx _ rfl
      have hw1 : y * 135 % 256 = y * 135 := by omega
      have i16 : (Try.prog.info? 29).map (·.size) = some (bv (dblL b)).length := by rw [bv_length, dblL_length]; kernel_rfl
      have I16 := Lib.hid i16
      have hy3 : 0 ≤ y ∧ y ≤ 1 := by omega
      clear r0 r1 hbel HR0 HR1 HBL hx e15 hc0 hy hy2 i16 hb0 lb
      go_wp2_with (refine wpList_load_Row rfl 29 _ rfl _ rfl HR.out.1 Try.underlying29 I16.out ?_; refine stay ?_)
      refine go_on ?_
      refine wpList_store_Row rfl 29 _ _ rfl (w.heap.size + 1) (bv (dblL b)) rfl rfl HR.out.1 I16.out rfl (bv_one _) ?_
      have HW : Hid (Row ((wr.setCell ⟨w.heap.size + 1, 15, none⟩ (.int .u8 (dblEnd b))).setRow (w.heap.size + 1) (bv (dblL b)).toArray) (w.heap.size + 1) 29 (bv (dblL b)) ∧ Below w.heap.size w ((wr.setCell ⟨w.heap.size + 1, 15, none⟩ (.int .u8 (dblEnd b))).setRow (w.heap.size + 1) (bv (dblL b)).toArray)) :=
        ⟨HR.out.1.put _, below_setRow HR.out.2 (Nat.le_succ _) _⟩
      generalize (wr.setCell _ _).setRow _ _ = W at HW ⊢
      clear HR c1 f1
      go_wp2
      exact bodyPost_ret (results_Row rfl _ _ (w.heap.size + 1) rfl HW.out.1 Try.underlying29 I16.out) rfl ⟨rfl, HW.out.2⟩
end Go.Proofs.Ytfkpilfnhgjmfaa
