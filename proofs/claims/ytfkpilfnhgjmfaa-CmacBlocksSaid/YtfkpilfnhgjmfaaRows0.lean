/-
  Blocks of memory that are known whole ('Row'), and what the steps of a walk do to them; lists of bytes as cells.
-/
import Derived.Test.YtfkpilfnhgjmfaaBytes
import Derived.StillTailTactics
import Derived.BigQuiet
import Derived.Deep.RegionHeld3
namespace Go.Proofs.Ytfkpilfnhgjmfaa
open Go.RowKit
/-- block B is a plain row of these cells -/
def Row (w : World) (B : Nat) (t : TypeId) (vs : List Value) : Prop := w.heap[B]? = some (.cells vs.toArray t (0, 0))
theorem Row.cell {w : World} {B : Nat} {t : TypeId} {vs : List Value} (h : Row w B t vs) {i : Nat} {v : Value} (hv : vs[i]? = some v) : w.cell? ⟨B, i, none⟩ = some v := by
  unfold Row at h
  simp [World.cell?, h, hv]
theorem Row.frozen {w : World} {B : Nat} {t : TypeId} {vs : List Value} (h : Row w B t vs) (i : Nat) : w.frozen? ⟨B, i, none⟩ = false := by
  unfold Row at h
  simp [World.frozen?, h]
theorem Row.lt {w : World} {B : Nat} {t : TypeId} {vs : List Value} (h : Row w B t vs) : B < w.heap.size := (Array.getElem?_eq_some_iff.1 h).1
theorem Row.drew {w : World} {B : Nat} {t : TypeId} {vs : List Value} (h : Row w B t vs) : Row w.drew B t vs := h
theorem Row.drewN {w : World} {B : Nat} {t : TypeId} {vs : List Value} (h : Row w B t vs) (n : Nat) : Row (w.drewN n) B t vs := h
theorem belowN {B : Nat} {a w : World} (h : Below B a w) (n : Nat) : Below B a (w.drewN n) := ⟨h.os, h.tape, h.output, h.size, h.block⟩
theorem Row.alloc {w : World} {B : Nat} {t : TypeId} {vs : List Value} (h : Row w B t vs) (o : Obj) : Row (w.alloc o) B t vs := (Below.heap_alloc w o B h.lt).trans h
theorem Row.new (w : World) (t : TypeId) (vs : List Value) : Row (w.alloc (.cells vs.toArray t)) w.heap.size t vs := by
  show (w.heap.push _)[w.heap.size]? = _
  simp
theorem Row.below {w w' : World} {B n : Nat} {t : TypeId} {vs : List Value} (h : Row w B t vs) (hb : Below n w w') (hn : B < n) : Row w' B t vs := (hb.block B hn).trans h
theorem Row.set {w : World} {B : Nat} {t : TypeId} {vs : List Value} (h : Row w B t vs) (i : Nat) (v : Value) : Row (w.setCell ⟨B, i, none⟩ v) B t (vs.set i v) := by
  unfold Row at *
  simp [World.setCell, Array.getElem?_modify, h]
theorem Row.other {w : World} {B : Nat} {t : TypeId} {vs : List Value} (h : Row w B t vs) {a : Addr} (ha : B ≠ a.block) (v : Value) : Row (w.setCell a v) B t vs :=
  (Below.heap_setCell w a v B ha).trans h
theorem Row.put {w : World} {B : Nat} {t : TypeId} {vs : List Value} (h : Row w B t vs) (vs' : List Value) : Row (w.setRow B vs'.toArray) B t vs' := by
  unfold Row at *
  simp [World.setRow, Array.getElem?_modify, h]
theorem Row.putOther {w : World} {B B' : Nat} {t : TypeId} {vs : List Value} (h : Row w B t vs) (hB : B ≠ B') (c : Array Value) : Row (w.setRow B' c) B t vs := by
  unfold Row at *
  simp only [World.setRow, Array.getElem?_modify]
  rw [if_neg (by omega)]; exact h
theorem below_setRow {B : Nat} {a w : World} (h : Below B a w) {g : Nat} (hg : B ≤ g) (c : Array Value) : Below B a (w.setRow g c) :=
  h.trans ⟨rfl, rfl, rfl, by simp [World.setRow], fun k hk => by simp only [World.setRow, Array.getElem?_modify]; rw [if_neg (by omega)]⟩
theorem size_setRow (w : World) (g : Nat) (c : Array Value) : (w.setRow g c).heap.size = w.heap.size := by simp [World.setRow]
/-- A load, a store of a whole variable of an array type. -/
theorem wpList_load_Row {P : Program} {ops : Array Oper} {rest : List Oper} {o : Oper} {a : Act} {w : World} {Q : Exit → Act → World → Prop} (hgd : o.guard = none) (ty : TypeId) (x : Operand) (ho : o.op = .load ty x)
    (g : Nat) (hx : a.eval x = .pointer (some ⟨g, 0, none⟩)) {t : TypeId} {vs : List Value} {n : Nat} {e : TypeId} (hg : Row w g t vs)
    (hu : P.underlying ty = some (.array n e)) (hi : (P.info? ty).map (·.size) = some vs.length)
    (h : wpList P ops Q rest (a.put o.dst (.agg vs.toArray)) w) : wpList P ops Q (o :: rest) a w :=
  wpList_load_row hgd ty x ho g hx t vs.toArray (0, 0) _ hg hu rfl (by simpa using hi) h
theorem wpList_store_Row {P : Program} {ops : Array Oper} {rest : List Oper} {o : Oper} {a : Act} {w : World} {Q : Exit → Act → World → Prop} (hgd : o.guard = none) (ty : TypeId) (x y : Operand) (ho : o.op = .store ty x y)
    (g : Nat) (vs : List Value) (hx : a.eval x = .pointer (some ⟨g, 0, none⟩)) (hy : a.eval y = .agg vs.toArray)
    {t : TypeId} {old : List Value} (hg : Row w g t old) (hi : (P.info? ty).map (·.size) = some vs.length)
    (hold : old.length = vs.length) (h1 : ∀ v ∈ vs, v.oneCell' = true)
    (h : wpList P ops Q rest (a.put o.dst undef) (w.setRow g vs.toArray)) : wpList P ops Q (o :: rest) a w :=
  wpList_store_row hgd ty x y ho g vs.toArray hx hy t old.toArray hg (by simpa using hi) (by simpa using hold) (by simpa using h1) h
theorem results_Row {P : Program} {fn : Func} {p : Tmp} {ty : TypeId} (h : fn.results = #[.cell p ty]) (tmps : Array Value) (w : World) (g : Nat) {t : TypeId} {vs : List Value} {n : Nat} {e : TypeId}
    (hp : tmps.getD p undef = .pointer (some ⟨g, 0, none⟩)) (hg : Row w g t vs)
    (hu : P.underlying ty = some (.array n e)) (hi : (P.info? ty).map (·.size) = some vs.length) :
    (results fn tmps).run P w = .ok (.agg vs.toArray) w :=
  results_cell_row h tmps w g t vs.toArray (0, 0) _ hp hg hu rfl (by simpa using hi)
/-- Bytes as cells. -/
def u8v (n : Int) : Value := .int .u8 n
def bv (l : List Int) : List Value := l.map u8v
theorem bv_length (l : List Int) : (bv l).length = l.length := by simp [bv]
theorem bv_one (l : List Int) : ∀ v ∈ bv l, v.oneCell' = true := by
  intro v hv
  obtain ⟨n, _, rfl⟩ := List.mem_map.1 hv
  rfl
/-- the number at place i -/
def el (l : List Int) (i : Nat) : Int := l.getD i 0
theorem bv_get (l : List Int) (i : Nat) (h : i < l.length) : (bv l)[i]? = some (.int .u8 (el l i)) := by
  simp [bv, h, u8v, el]
theorem bv_set (l : List Int) (i : Nat) (x : Int) : (bv l).set i (.int .u8 x) = bv (l.set i x) := by simp [bv, u8v, List.map_set]
/-- all are bytes -/
def Byt (l : List Int) : Prop := ∀ i, 0 ≤ el l i ∧ el l i < 256
theorem Byt.of_mem {l : List Int} (h : ∀ x ∈ l, 0 ≤ x ∧ x < 256) : Byt l := fun i => by
  unfold el
  by_cases hi : i < l.length
  · rw [List.getD_eq_getElem?_getD, List.getElem?_eq_getElem hi]; exact h _ (List.getElem_mem hi)
  · rw [List.getD_eq_getElem?_getD, List.getElem?_eq_none (by omega)]; simp
/-- Three new rows. -/
theorem rows3 (w : World) (t1 t2 t3 : TypeId) (x y z : List Value) :
    Hid (Row (((w.alloc (.cells x.toArray t1)).alloc (.cells y.toArray t2)).alloc (.cells z.toArray t3)) w.heap.size t1 x) ∧
    Hid (Row (((w.alloc (.cells x.toArray t1)).alloc (.cells y.toArray t2)).alloc (.cells z.toArray t3)) (w.heap.size + 1) t2 y) ∧
    Hid (Row (((w.alloc (.cells x.toArray t1)).alloc (.cells y.toArray t2)).alloc (.cells z.toArray t3)) (w.heap.size + 1 + 1) t3 z) ∧
    Hid (Below w.heap.size w (((w.alloc (.cells x.toArray t1)).alloc (.cells y.toArray t2)).alloc (.cells z.toArray t3))) := by
  have r1 := Row.new (w.alloc (.cells x.toArray t1)) t2 y
  have r2 := Row.new ((w.alloc (.cells x.toArray t1)).alloc (.cells y.toArray t2)) t3 z
  rw [World.size_alloc] at r1
  rw [World.size_alloc, World.size_alloc] at r2
  exact ⟨((Row.new w t1 x).alloc _).alloc _, r1.alloc _, r2, (((Below.refl _ _).alloc (Nat.le_refl _) _).alloc (by simp) _).alloc (by simp; omega) _⟩
theorem rows2 (w : World) (t1 t2 : TypeId) (x y : List Value) :
    Hid (Row ((w.alloc (.cells x.toArray t1)).alloc (.cells y.toArray t2)) w.heap.size t1 x) ∧
    Hid (Row ((w.alloc (.cells x.toArray t1)).alloc (.cells y.toArray t2)) (w.heap.size + 1) t2 y) ∧
    Hid (Below w.heap.size w ((w.alloc (.cells x.toArray t1)).alloc (.cells y.toArray t2))) := by
  have r1 := Row.new (w.alloc (.cells x.toArray t1)) t2 y
  rw [World.size_alloc] at r1
  exact ⟨(Row.new w t1 x).alloc _, r1, ((Below.refl _ _).alloc (Nat.le_refl _) _).alloc (by simp) _⟩
theorem rows1 (w : World) (t1 : TypeId) (x : List Value) :
    Hid (Row (w.alloc (.cells x.toArray t1)) w.heap.size t1 x) ∧ Hid (Below w.heap.size w (w.alloc (.cells x.toArray t1))) :=
  ⟨Row.new w t1 x, (Below.refl _ _).alloc (Nat.le_refl _) _⟩
theorem info29 : (Try.prog.info? 29).map (·.size) = some 16 := by kernel_rfl
/-- the xor of two bytes, as the walk has it -/
abbrev x8 (a b : Int) : Int := bits .xor .u8 a b
theorem x8_bd (a b : Int) (h1 : 0 ≤ a) (h2 : a < 256) (h3 : 0 ≤ b) (h4 : b < 256) : 0 ≤ x8 a b ∧ x8 a b < 256 := by
  have := Nat.xor_lt_two_pow (n := 8) (x := a.toNat) (y := b.toNat) (by omega) (by omega)
  rw [x8, u8_xor a b h1 h2 h3 h4]; omega
/-- n numbers by their places -/
def tab (n : Nat) (f : Nat → Int) : List Int := (List.range n).map f
theorem tab_length (n : Nat) (f : Nat → Int) : (tab n f).length = n := by simp [tab]
theorem tab_el (n : Nat) (f : Nat → Int) (i : Nat) (h : i < n) : el (tab n f) i = f i := by simp [tab, h, el]
theorem tab_congr {n : Nat} {f g : Nat → Int} (h : ∀ i, i < n → f i = g i) : tab n f = tab n g := List.map_congr_left fun i hi => h i (List.mem_range.1 hi)
theorem tab_of (l : List Int) {n : Nat} (h : l.length = n) : l = tab n (el l) := by
  apply List.ext_getElem
  · rw [tab_length, h]
  · intro i h1 h2
    simp [tab, el, List.getElem?_eq_getElem h1]
/-- the first k by f, the others by g -/
def upto (n k : Nat) (f g : Nat → Int) : List Int := tab n fun i => if i < k then f i else g i
theorem upto_length (n k : Nat) (f g : Nat → Int) : (upto n k f g).length = n := tab_length _ _
theorem upto_zero (n : Nat) (f g : Nat → Int) : upto n 0 f g = tab n g := tab_congr fun _ _ => if_neg (by omega)
theorem upto_full (n : Nat) (f g : Nat → Int) : upto n n f g = tab n f := tab_congr fun _ h => if_pos h
theorem upto_set (n k : Nat) (f g : Nat → Int) (x : Int) (hx : k < n → x = f k) : (upto n k f g).set k x = upto n (k + 1) f g := by
  apply List.ext_getElem
  · simp [upto, tab]
  · intro i h1 h2
    have hi : i < n := by simpa [upto, tab] using h2
    by_cases e : k = i
    · subst e
      simp [upto, tab, hx hi]
    · rw [List.getElem_set_ne e]
      simp only [upto, tab, List.getElem_map, List.getElem_range]
      by_cases h3 : i < k
      · rw [if_pos h3, if_pos (by omega)]
      · rw [if_neg h3, if_neg (by omega)]
theorem upto_el (n k : Nat) (f g : Nat → Int) (i : Nat) (h : i < n) : el (upto n k f g) i = if i < k then f i else g i := tab_el _ _ _ h
def xorL (a b : List Int) : List Int := tab 16 fun i => x8 (el a i) (el b i)
theorem xorL_length (a b : List Int) : (xorL a b).length = 16 := tab_length _ _
def zeroL (n : Nat) : List Int := tab n fun _ => 0
theorem zeroL_length (n : Nat) : (zeroL n).length = n := tab_length _ _
set_option maxRecDepth 100000 in
set_option maxHeartbeats 400000 in
theorem radd_any (a b : List Int) (w : World) (ha : a.length = 16) (hb : b.length = 16) :
    Calls Try.prog 57 #[.agg (bv a).toArray, .agg (bv b).toArray] w fun e w' => e = .returned (.agg (bv (xorL a b)).toArray) ∧ Below w.heap.size w w' := by
  obtain ⟨HR0, HR1, HR2, HBL⟩ := rows3 w 29 29 29 (bv a) (bv b) (bv (zeroL 16))
  go_enter Try.func57, Try.ntmps57
  go_wp2
  go_loopw [5] (fun i wr => ∃ k : Nat, k ≤ 16 ∧ i = .int .i64 k ∧ Row wr w.heap.size 29 (bv (upto 16 k (fun i => x8 (el a i) (el b i)) (el a))) ∧ Row wr (w.heap.size + 1) 29 (bv b) ∧ Row wr (w.heap.size + 1 + 1) 29 (bv (zeroL 16)) ∧ Below w.heap.size w wr) (fun i _ => 16 - (intOf i).toNat)
  case atStart => exact ⟨0, by omega, rfl, by rw [upto_zero, ← tab_of a ha]; exact HR0.out, HR1.out, HR2.out, HBL.out⟩
  case round =>
    obtain ⟨k, hk, rfl, r0, r1, r2, hbel⟩ := hrel
    by_cases hlt : k < 16
    · have c0 := r0.cell (bv_get _ k (by rw [upto_length]; omega))
      rw [upto_el _ _ _ _ _ hlt, if_neg (by omega)] at c0
      have c1 := r1.cell (bv_get _ k (by omega))
      have f0 := r0.frozen k
      go_wp2
      go_still_tail 8, (by kernel_rfl)
      go_wp2
      go_roundw
      case rel =>
        refine ⟨k + 1, by omega, by go_num, ?_, (r1.other (by simp) _).drew, (r2.other (by simp; omega) _).drew, (hbel.setCell (p := ⟨w.heap.size, k, none⟩) (Nat.le_refl _) _).drew⟩
        have h := (r0.set k (.int .u8 (x8 (el a k) (el b k)))).drew
        rw [bv_set, upto_set _ _ _ _ _ (fun _ => rfl)] at h
        exact h
      case measure => simp [intOf]; omega
    · have hk16 : k = 16 := by omega
      have HK := Lib.hid hk16
      clear hk16
      go_wp2_with (first | (refine wpList_load_Row rfl 29 _ rfl _ rfl r0 Try.underlying29 (by rw [bv_length, upto_length]; kernel_rfl) ?_) | (refine wpList_store_Row rfl 29 _ _ rfl _ _ rfl rfl r2 (by rw [bv_length, upto_length]; kernel_rfl) (by rw [bv_length, bv_length, upto_length]; rfl) (bv_one _) ?_))
      have e : upto 16 k (fun i => x8 (el a i) (el b i)) (el a) = xorL a b := by rw [HK.out, upto_full]; rfl
      rw [e]
      exact bodyPost_ret (results_Row rfl _ _ _ rfl (r2.put _) Try.underlying29 (by rw [bv_length, xorL_length]; kernel_rfl)) rfl ⟨rfl, below_setRow hbel (by omega) _⟩
set_option maxRecDepth 100000 in
set_option maxHeartbeats 400000 in
theorem r4Xor_any (a b : List Int) (w : World) (ha : a.length = 16) (hb : b.length = 16) :
    Calls Try.prog 47 #[.agg (bv a).toArray, .agg (bv b).toArray] w fun e w' => e = .returned (.agg (bv (xorL a b)).toArray) ∧ Below w.heap.size w w' := by
  obtain ⟨HR0, HR1, HR2, HBL⟩ := rows3 w 29 29 29 (bv a) (bv b) (bv (zeroL 16))
  go_enter Try.func47, Try.ntmps47
  go_wp2
  go_loopw [5] (fun i wr => ∃ k : Nat, k ≤ 16 ∧ i = .int .i64 k ∧ Row wr w.heap.size 29 (bv (upto 16 k (fun i => x8 (el a i) (el b i)) (el a))) ∧ Row wr (w.heap.size + 1) 29 (bv b) ∧ Row wr (w.heap.size + 1 + 1) 29 (bv (zeroL 16)) ∧ Below w.heap.size w wr) (fun i _ => 16 - (intOf i).toNat)
  case atStart => exact ⟨0, by omega, rfl, by rw [upto_zero, ← tab_of a ha]; exact HR0.out, HR1.out, HR2.out, HBL.out⟩
  case round =>
    obtain ⟨k, hk, rfl, r0, r1, r2, hbel⟩ := hrel
    by_cases hlt : k < 16
    · have c0 := r0.cell (bv_get _ k (by rw [upto_length]; omega))
      rw [upto_el _ _ _ _ _ hlt, if_neg (by omega)] at c0
      have c1 := r1.cell (bv_get _ k (by omega))
      have f0 := r0.frozen k
      go_wp2
      go_still_tail 8, (by kernel_rfl)
      go_wp2
      go_roundw
      case rel =>
        refine ⟨k + 1, by omega, by go_num, ?_, (r1.other (by simp) _).drew, (r2.other (by simp; omega) _).drew, (hbel.setCell (p := ⟨w.heap.size, k, none⟩) (Nat.le_refl _) _).drew⟩
        have h := (r0.set k (.int .u8 (x8 (el a k) (el b k)))).drew
        rw [bv_set, upto_set _ _ _ _ _ (fun _ => rfl)] at h
        exact h
      case measure => simp [intOf]; omega
    · have hk16 : k = 16 := by omega
      have HK := Lib.hid hk16
      clear hk16
      go_wp2_with (first | (refine wpList_load_Row rfl 29 _ rfl _ rfl r0 Try.underlying29 (by rw [bv_length, upto_length]; kernel_rfl) ?_) | (refine wpList_store_Row rfl 29 _ _ rfl _ _ rfl rfl r2 (by rw [bv_length, upto_length]; kernel_rfl) (by rw [bv_length, bv_length, upto_length]; rfl) (bv_one _) ?_))
      have e : upto 16 k (fun i => x8 (el a i) (el b i)) (el a) = xorL a b := by rw [HK.out, upto_full]; rfl
      rw [e]
      exact bodyPost_ret (results_Row rfl _ _ _ rfl (r2.put _) Try.underlying29 (by rw [bv_length, xorL_length]; kernel_rfl)) rfl ⟨rfl, below_setRow hbel (by omega) _⟩
end Go.Proofs.Ytfkpilfnhgjmfaa
