/-
  Arrays of bytes, compared; loads of whole variables in a region that draws its order.
-/
import Derived.Test.YtfkpilfnhgjmfaaFen
import Derived.ChangeKeysEq
import Derived.Laws.StructEq
namespace Go.Proofs.Ytfkpilfnhgjmfaa
open Go.RowKit
theorem cells_u8 : Try.prog.cellsOf 5 = 1 := by kernel_rfl
theorem agg_u8 : ∀ w : World, (isAgg 5).run Try.prog w = .ok false w := fun _ => by kernel_rfl
theorem part_byte (l : List Int) (i : Nat) (hi : i < l.length) (w : World) : (part 5 (bv l).toArray i).run Try.prog w = .ok (.int .u8 (el l i)) w := by
  have h : (bv l).toArray[i]? = some (.int .u8 (el l i)) := by simpa using bv_get l i hi
  simp only [part, Sem.run_bind, agg_u8, Result.andThen_ok]
  rw [h]
  rfl
theorem run_eqItems_bytes (d : Nat) (l m : List Int) : ∀ (is : List Nat) (w : World), (∀ i ∈ is, i < l.length ∧ i < m.length) →
    (Op.eqItems (d + 1) 5 1 (bv l).toArray (bv m).toArray is).run Try.prog w = .ok (is.all fun i => el l i == el m i) w
  | [], w, _ => by simp [Op.eqItems]
  | i :: is, w, h => by
    have h0 := h i (List.mem_cons_self ..)
    have ih := run_eqItems_bytes d l m is w (fun j hj => h j (List.mem_cons_of_mem _ hj))
    simp only [Op.eqItems, Sem.run_bind, Nat.mul_one, part_byte l i h0.1, part_byte m i h0.2, Result.andThen_ok, run_equalIn_int w d 5 .u8 .u8 _ _ Try.underlying5]
    cases hb : (el l i == el m i)
    · simp [hb]
    · simp [hb, ih]
theorem all_el (l m : List Int) (n : Nat) (hl : l.length = n) (hm : m.length = n) : ((List.range n).all fun i => el l i == el m i) = decide (l = m) := by
  by_cases h : l = m
  · subst h; simp
  · rw [decide_eq_false h]
    cases hb : ((List.range n).all fun i => el l i == el m i)
    · rfl
    · exfalso
      apply h
      rw [tab_of l hl, tab_of m hm]
      refine tab_congr fun i hi => ?_
      have := List.all_eq_true.1 hb i (List.mem_range.2 hi)
      simpa using this
theorem run_equal_bytes (t n : Nat) (hu : Try.prog.underlying t = some (.array n 5)) (l m : List Int) (hl : l.length = n) (hm : m.length = n) (w : World) :
    (Op.equalIn 10000 t (.agg (bv l).toArray) (.agg (bv m).toArray)).run Try.prog w = .ok (decide (l = m)) w := by
  have hi : ∃ i, Try.prog.info? 5 = some i := Option.isSome_iff_exists.1 (by kernel_rfl)
  obtain ⟨i, hi⟩ := hi
  rw [run_equalIn_array w 9999 _ _ hu hi, cells_u8, run_eqItems_bytes 9998 l m _ w (fun j hj => by rw [hl, hm]; exact ⟨List.mem_range.1 hj, List.mem_range.1 hj⟩), all_el l m n hl hm]
theorem guardCol : Try.prog.eqGuardType Try.prog.depth 26 = false := by kernel_rfl
theorem guardBlk : Try.prog.eqGuardType Try.prog.depth 29 = false := by kernel_rfl
namespace Ext
section
variable {P : Program} {md : Region.Mode} {ops : Array Oper} {C : World → Prop} {sp : Nat → Option Spec}
/-- an operation whose value is known, in every world of the class -/
theorem walk_det {Q : Act → Known → Prop} {o : Oper} {rest : List Oper} {j : Nat} {a : Act} {K : Known} (v : Value) (hw : Region.wanted o (yielded ops a.tmps) = true) (hs : sp j = none)
    (h : ∀ w, C w → (execOp a.eval o).run P w = .ok (.value v) w) (hn : walk P md ops C sp Q rest (j + 1) (a.put o.dst v) K) : walk P md ops C sp Q (o :: rest) j a K :=
  ⟨.det v, ⟨hw, hs, fun w hC _ => by rw [h w hC]; exact ⟨rfl, rfl⟩⟩, fun u hu => by cases hu; exact hn⟩
theorem wanted_plain {o : Oper} {y : Nat → Option Bool} (hg : o.guard = none) : Region.wanted o y = true := by simp [Region.wanted, hg]
/-- a load of a whole variable of an array type -/
theorem walk_load {Q : Act → Known → Prop} {o : Oper} {rest : List Oper} {j : Nat} {a : Act} {K : Known} (hw : Region.wanted o (yielded ops a.tmps) = true) (hs : sp j = none) (ty : TypeId) (x : Operand) (ho : o.op = .load ty x)
    (b off : Nat) (hx : a.eval x = .pointer (some ⟨b, off, none⟩)) (cs : List Value) (d : TypeDesc) (hc : ∀ w, C w → w.rangeAt b off cs) (hu : P.underlying ty = some d) (hd : d.isRow = true) (hi : (P.info? ty).map (·.size) = some cs.length)
    (hn : walk P md ops C sp Q rest (j + 1) (a.put o.dst (.agg cs.toArray)) K) : walk P md ops C sp Q (o :: rest) j a K :=
  walk_det (.agg cs.toArray) hw hs (fun w hC => by
    unfold execOp
    simp only [ho, hx, Sem.run_bind, run_loadAt_mid w b off ty cs d (hc w hC) hu hd hi, Result.andThen_ok, Sem.run_pure]) hn
end
end Ext
end Go.Proofs.Ytfkpilfnhgjmfaa
