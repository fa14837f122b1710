/-
  The code's table of boxes and the two functions Box: each byte's box is the reference's formula.
-/
import Derived.Test.YtfkpilfnhgjmfaaBytes
namespace Go.Proofs.Ytfkpilfnhgjmfaa
open Go.RowKit
/-- the box of a byte, of a number as a walk has it -/
def box8 (b : Int) : Int := ((boxRef b.toNat : Nat) : Int)
theorem boxRef_lt (b : Nat) (hb : b < 256) : boxRef b < 256 := by
  have h := invN_lt b hb
  unfold boxRef
  exact Nat.xor_lt_two_pow (n := 8) (Nat.xor_lt_two_pow (n := 8) (Nat.xor_lt_two_pow (n := 8) (Nat.xor_lt_two_pow (n := 8) (Nat.xor_lt_two_pow (n := 8) h (rollN_lt _ h 1)) (rollN_lt _ h 2)) (rollN_lt _ h 3)) (rollN_lt _ h 4)) (by omega)
theorem box8_bd (b : Int) (h0 : 0 ≤ b) (h1 : b < 256) : 0 ≤ box8 b ∧ box8 b < 256 := by
  have := boxRef_lt b.toNat (by omega)
  unfold box8; omega
/-- the cells of the table -/
def tabL : List Value := (List.range 256).map fun i => Value.int .u8 ((boxRef i : Nat) : Int)
def tabA : Array Value := tabL.toArray
theorem tabL_length : tabL.length = 256 := by simp [tabL]
theorem tabA_size : tabA.size = 256 := by simp [tabA, tabL_length]
theorem tabL_get (i : Nat) (h : i < 256) : tabL[i]? = some (.int .u8 ((boxRef i : Nat) : Int)) := by
  simp [tabL, h]
theorem tabA_get (i : Nat) (h : i < 256) : tabA[i]? = some (.int .u8 ((boxRef i : Nat) : Int)) := by
  simpa [tabA] using tabL_get i h
theorem tabA_one : tabA.all (·.oneCell') = true := by
  simp [tabA, tabL, Value.oneCell']
theorem size83 : (Try.prog.info? 83).map (·.size) = some tabA.size := by rw [tabA_size]; kernel_rfl
/-- A literal of which it is known what it builds. -/
theorem wpList_built {P : Program} {ops : Array Oper} {rest : List Oper} {o : Oper} {a : Act} {w : World} {Q : Exit → Act → World → Prop} (hg : o.guard = none) (t : TypeId) (parts : Array (Nat × Operand)) (ho : o.op = .build t parts)
    (cs : Array Value) (hf : P.built t (parts.map fun (i, x) => (i, a.eval x)).toList = some cs)
    (h : wpList P ops Q rest (a.put o.dst (.agg cs)) w) : wpList P ops Q (o :: rest) a w :=
  wpList_build hg t parts ho (by rw [hf]; rfl) (by rw [hf]; exact h)
theorem heap_new (w : World) (o : Obj) : (w.alloc o).heap[w.heap.size]? = some o := by
  show (w.heap.push o)[w.heap.size]? = some o
  simp
theorem heap_setRow (w : World) (g : Nat) (c c' : Array Value) (t : TypeId) (f : Nat × Nat) (h : w.heap[g]? = some (.cells c t f)) : (w.setRow g c').heap[g]? = some (.cells c' t f) := setRow_heap w g c c' t f h
theorem below_setRow {B : Nat} {a w : World} (h : Below B a w) {g : Nat} (hg : B ≤ g) (c : Array Value) : Below B a (w.setRow g c) :=
  h.trans ⟨rfl, rfl, rfl, by simp [World.setRow], fun k hk => by simp only [World.setRow, Array.getElem?_modify]; rw [if_neg (by omega)]⟩
/-- zeros -/
def zeros (n : Nat) : Array Value := Array.replicate n (.int .u8 0)
theorem zeros_size (n : Nat) : (zeros n).size = n := by simp [zeros]
theorem zero83 : ∀ w : World, (zeroValue 83).run Try.prog w = .ok (.agg (zeros 256)) w := fun _ => by kernel_rfl
/-- A new variable of an array type: its block. -/
theorem wpList_alloc_zero {P : Program} {ops : Array Oper} {rest : List Oper} {o : Oper} {a : Act} {w : World} {Q : Exit → Act → World → Prop} (hg : o.guard = none) (t : TypeId) (ho : o.op = .alloc t)
    (cs : Array Value) (hz : (zeroValue t).run P w = .ok (.agg cs) w)
    (h : wpList P ops Q rest (a.put o.dst (.pointer (some ⟨w.heap.size, 0, none⟩))) (w.alloc (.cells cs t))) : wpList P ops Q (o :: rest) a w := by
  refine wpList_plain hg fun K hK => ?_
  unfold Oper.wp execOp
  simp only [ho, Instr.alloc, Sem.run_bind, hz, newVar, newRow, newObj, Value.cells, Sem.run_pure, Result.andThen_ok]
  simp only [Sem.run]
  exact hK _ _ h
set_option maxRecDepth 100000 in
theorem aTable_any (w : World) :
    Calls Try.prog 49 #[] w fun e w' => e = .returned (.agg tabA) ∧ Below w.heap.size w w' := by
  go_enter Try.func49, Try.ntmps49
  refine wp_seq_k fun K hK => ?_
  refine wp_region_lit ?_
  refine wpList_alloc_zero rfl 83 rfl _ (zero83 w) ?_
  refine wpList_nil ?_
  refine hK _ _ ?_
  clear hK K
  refine wp_seq_k fun K hK => ?_
  refine wp_region_lit ?_
  refine wpList_built rfl 83 _ rfl tabA (by kernel_rfl) ?_
  refine wpList_store_row rfl 83 _ _ rfl w.heap.size tabA rfl rfl 83 (zeros 256) (heap_new w _) size83 (by rw [tabA_size, zeros_size]) tabA_one ?_
  refine wpList_nil ?_
  refine hK _ _ ?_
  refine wp_ret ?_
  exact bodyPost_ret (results_cell_row rfl _ _ w.heap.size 83 tabA (0, 0) _ rfl (heap_setRow _ _ _ _ _ _ (heap_new w _)) Try.underlying83 rfl size83) rfl ⟨rfl, below_setRow ((Below.refl _ _).alloc (Nat.le_refl _) _) (Nat.le_refl _) _⟩
theorem agg5 : ∀ w : World, (isAgg 5).run Try.prog w = .ok false w := fun _ => by kernel_rfl
theorem size5 : ∀ w : World, (sizeOf 5).run Try.prog w = .ok 1 w := fun _ => by kernel_rfl
/-- an element of an array of bytes -/
theorem run_index_bytes (t n : Nat) (hu : Try.prog.underlying t = some (.array n 5)) (cs : Array Value) (k : IntKind) (x : Nat) (hx : x < n) (v : Value) (h : cs[x]? = some v) (w : World) :
    (Instr.index t (.agg cs) (.int k (x : Int))).run Try.prog w = .ok v w := by
  have hx' : (0 : Int) ≤ (x : Int) ∧ (x : Int) < n := by omega
  simp only [Instr.index, asIntOf, Sem.run_bind, Sem.run_pure, Result.andThen_ok, run_underlying hu, if_pos hx', size5, part, agg5, Int.toNat_natCast, Nat.mul_one, h]
  rfl
theorem table_get (x : Nat) (hx : x < 256) (w : World) : (Instr.index 83 (.agg tabA) (.int .u8 (x : Int))).run Try.prog w = .ok (.int .u8 ((boxRef x : Nat) : Int)) w :=
  run_index_bytes 83 256 Try.underlying83 tabA .u8 x hx _ (tabA_get x hx) w
set_option maxRecDepth 100000 in
theorem aBox_any (b : Int) (w : World) (hb : 0 ≤ b) (hb' : b < 256) :
    Calls Try.prog 21 #[.int .u8 b] w fun e w' => e = .returned (.int .u8 (box8 b)) ∧ Below w.heap.size w w' := by
  obtain ⟨y, rfl⟩ := Int.eq_ofNat_of_zero_le hb
  have ht := table_get y (by omega)
  go_enter Try.func21, Try.ntmps21
  go_wp2_with fail
  refine (aTable_any _).mono ?_
  rintro e w' ⟨rfl, hbl⟩
  go_wp2
  go_ret
  exact ⟨rfl, hbl⟩
end Go.Proofs.Ytfkpilfnhgjmfaa
