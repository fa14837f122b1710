/-
  Stores into a part of a block that is known whole; a part of a value; a schedule of round keys under way.
-/
import Derived.Test.YtfkpilfnhgjmfaaKeysPure
import Derived.Deep.MidRow
namespace Go.Proofs.Ytfkpilfnhgjmfaa
open Go.RowKit
theorem below_setCells {B : Nat} {a : World} {g : Nat} (hg : B ≤ g) : ∀ (vs : List Value) (o : Nat) {w : World}, Below B a w → Below B a (w.setCells g o vs)
  | [], _, _, h => h
  | v :: r, o, _, h => below_setCells hg r (o + 1) (h.setCell (p := ⟨g, o, none⟩) hg v)
theorem size_setCells (g : Nat) : ∀ (vs : List Value) (o : Nat) (w : World), (w.setCells g o vs).heap.size = w.heap.size
  | [], _, _ => rfl
  | v :: r, o, w => by rw [World.setCells, size_setCells g r]; simp [World.setCell]
theorem Row.putIn {t : TypeId} {g : Nat} {c : List Value} : ∀ (vs a b : List Value) {w : World}, vs.length = b.length → Row w g t (a ++ (b ++ c)) → Row (w.setCells g a.length vs) g t (a ++ (vs ++ c))
  | [], a, [], _, _, h => h
  | [], _, _ :: _, _, hl, _ => by simp at hl
  | _ :: _, _, [], _, hl, _ => by simp at hl
  | v :: r, a, u :: b, w, hl, h => by
    have h1 := h.set a.length v
    have e : (a ++ (u :: b ++ c)).set a.length v = (a ++ [v]) ++ (b ++ c) := by simp
    rw [e] at h1
    have h2 := Row.putIn r (a ++ [v]) b (by simpa using hl) h1
    rw [World.setCells]
    simpa using h2
theorem Row.putOtherIn {w : World} {B B' : Nat} {t : TypeId} {vs : List Value} (h : Row w B t vs) (hB : B ≠ B') : ∀ (cs : List Value) (o : Nat), Row (w.setCells B' o cs) B t vs := fun cs => by
  induction cs generalizing w with
  | nil => exact fun _ => h
  | cons c r ih => exact fun o => ih (h.other (a := ⟨B', o, none⟩) hB c) (o + 1)
theorem Row.there {w : World} {g : Nat} {t : TypeId} {vs : List Value} (h : Row w g t vs) (o n : Nat) (hn : o + n ≤ vs.length) : w.there g o n := fun j hj =>
  ⟨by rw [h.cell (List.getElem?_eq_getElem (show o + j < vs.length by omega))]; rfl, h.frozen _⟩
theorem wpList_store_in {P : Program} {ops : Array Oper} {rest : List Oper} {o : Oper} {a : Act} {w : World} {Q : Exit → Act → World → Prop} (hgd : o.guard = none) (ty : TypeId) (x y : Operand) (ho : o.op = .store ty x y)
    (g off : Nat) (vs : List Value) (hx : a.eval x = .pointer (some ⟨g, off, none⟩)) (hy : a.eval y = .agg vs.toArray)
    {t : TypeId} {old : List Value} (hg : Row w g t old) (hi : (P.info? ty).map (·.size) = some vs.length)
    (hold : off + vs.length ≤ old.length) (h1 : ∀ v ∈ vs, v.oneCell' = true)
    (h : wpList P ops Q rest (a.put o.dst undef) (w.setCells g off vs)) : wpList P ops Q (o :: rest) a w :=
  wpList_store_mid hgd ty x y ho g off vs.toArray hx hy (hg.there _ _ (by simpa using hold)) (by simpa using hi) (by simpa using h1) h
theorem rangeAt_app {w : World} {g : Nat} {t : TypeId} {a b c : List Value} (h : Row w g t (a ++ (b ++ c))) : w.rangeAt g a.length b := fun j v hv => by
  refine h.cell ?_
  have hj : j < b.length := (List.getElem?_eq_some_iff.1 hv).1
  rw [List.getElem?_append_right (by omega), Nat.add_sub_cancel_left, List.getElem?_append_left hj, hv]
/-! ### A schedule under way -/
def schedL (key : List Int) (n : Nat) : List Value := flatK key n ++ bv (zeroL ((11 - n) * 16))
theorem schedL_length (key : List Int) (h : key.length = 16) (n : Nat) (hn : n ≤ 11) : (schedL key n).length = 176 := by
  rw [schedL, List.length_append, flatK_length key h, bv_length, zeroL_length]; omega
theorem schedL_zero (key : List Int) : schedL key 0 = bv (zeroL 176) := rfl
theorem schedL_full (key : List Int) : schedL key 11 = flatK key 11 := by simp [schedL, zeroL, tab, bv]
theorem zeros_rep (n : Nat) : bv (zeroL n) = List.replicate n (.int .u8 0) := by
  apply List.ext_getElem
  · simp [bv, zeroL, tab]
  · intro i h1 h2; simp [bv, zeroL, tab, u8v]
theorem zeros_split (n : Nat) : bv (zeroL (16 + n)) = bv (zeroL 16) ++ bv (zeroL n) := by
  rw [zeros_rep, zeros_rep, zeros_rep, List.replicate_append_replicate]
theorem schedL_step (key : List Int) (h : key.length = 16) (n : Nat) (hn : n < 11) {w : World} {g : Nat} {t : TypeId} (hr : Row w g t (schedL key n)) : Row (w.setCells g (n * 16) (bv (kS key n))) g t (schedL key (n + 1)) := by
  unfold schedL at *
  rw [show (11 - n) * 16 = 16 + (11 - (n + 1)) * 16 by omega, zeros_split] at hr
  have := Row.putIn (bv (kS key n)) (flatK key n) _ (by rw [bv_length, bv_length, kS_length key h, zeroL_length]) hr
  rw [flatK_length key h] at this
  rw [flatK, List.append_assoc]
  exact this
theorem sched_range (key : List Int) (h : key.length = 16) {w : World} {g n m : Nat} {t : TypeId} (hr : Row w g t (schedL key n)) (hm : m < n) : w.rangeAt g (m * 16) (bv (kS key m)) :=
  flatK_range key h hm fun q v hq => hr.cell (by
    rw [schedL, List.getElem?_append_left (List.getElem?_eq_some_iff.1 hq).1]; exact hq)
theorem zeroSch : ∀ w : World, (zeroValue 88).run Try.prog w = .ok (.agg (bv (zeroL 176)).toArray) w := fun _ => by kernel_rfl
theorem sizeSch : (Try.prog.info? 88).map (·.size) = some 176 := by kernel_rfl
/-- three bytes added by the code's add -/
theorem xorAll_three (a b c : Int) (h0 : 0 ≤ a) (h1 : a < 256) : xorAll [a, b, c] = x8 (x8 a b) c := by
  show x8 (x8 (x8 0 a) b) c = _
  rw [x8_zero a h0 h1]
/-- A literal of a slice: a new row. -/
def sliceS (B : Nat) (t : TypeId) (vs : List Value) : Ext.Spec := { may := fun v => ∃ g, v = .slice (some ⟨g, 0, none⟩) vs.length vs.length, post := fun v w => ∃ g, v = .slice (some ⟨g, 0, none⟩) vs.length vs.length ∧ B ≤ g ∧ Row w g t vs }
theorem sliceS_stable (B : Nat) (t : TypeId) (vs : List Value) (v : Value) : Ext.Stable ((sliceS B t vs).post v) := fun _ _ ⟨g, h1, h2, h3⟩ hb => ⟨g, h1, h2, h3.below hb h3.lt⟩
end Go.Proofs.Ytfkpilfnhgjmfaa
