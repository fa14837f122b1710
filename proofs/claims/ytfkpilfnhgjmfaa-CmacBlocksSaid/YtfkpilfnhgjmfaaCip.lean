/-
  A cipher: New, none, Steps (the iterator's value), the xor with a round key.
-/
import Derived.Test.YtfkpilfnhgjmfaaAKeys
namespace Go.Proofs.Ytfkpilfnhgjmfaa
open Go.RowKit
theorem over_part (X : List Value) : ∀ (off k : Nat) (a b c : List Value), X.length = b.length → a.length = off + k →
    (X.zipIdx k).foldl (fun (cs : Array Value) (p : Value × Nat) => cs.setIfInBounds (off + p.2) p.1) (a ++ (b ++ c)).toArray = (a ++ (X ++ c)).toArray := by
  induction X with
  | nil => intro off k a b c hb _; cases b with
    | nil => rfl
    | cons _ _ => simp at hb
  | cons x r ih =>
    intro off k a b c hb ha
    cases b with
    | nil => simp at hb
    | cons u b =>
      simp only [List.zipIdx_cons, List.foldl_cons, List.setIfInBounds_toArray]
      have e : (a ++ (u :: b ++ c)).set (off + k) x = (a ++ [x]) ++ (b ++ c) := by rw [← ha]; simp
      rw [e, ih off (k + 1) (a ++ [x]) b c (by simpa using hb) (by simp; omega)]
      simp
theorem fill_one (place : Nat → Option (Nat × Nat)) (i off : Nat) (X a b c : List Value) (rest : List (Nat × Value)) (hp : place i = some (off, X.length)) (ha : a.length = off) (hb : X.length = b.length) :
    Instr.fill place (a ++ (b ++ c)).toArray ((i, .agg X.toArray) :: rest) = Instr.fill place (a ++ (X ++ c)).toArray rest := by
  have hs : ¬ ((Value.agg X.toArray).cells.size ≠ X.length ∨ off + (Value.agg X.toArray).cells.size > (a ++ (b ++ c)).toArray.size) := by
    simp [Value.cells]; omega
  simp only [Instr.fill, hp]
  rw [if_neg (by simpa using hs)]
  congr 1
  have := over_part X off 0 a b c hb (by omega)
  simp only [Value.cells]
  rw [← this]
  simp
/-- the cells of a cipher of a key -/
def cipL (key : List Int) : List Value := flatK key 11 ++ [.bool true]
theorem cip_places (parts : List (Nat × Value)) : Try.prog.built 91 parts = Instr.fill (#[(0, 176), (176, 1)][·]?) ([] ++ (bv (zeroL 176) ++ [Value.bool false])).toArray parts := by kernel_rfl
theorem fill_cip (n : Nat) (X Z : List Value) (hX : X.length = n) (hZ : Z.length = n) :
    Instr.fill (#[(0, n), (n, 1)][·]?) ([] ++ (Z ++ [Value.bool false])).toArray [(0, .agg X.toArray), (1, .bool true)] = some (X ++ [Value.bool true]).toArray := by
  subst hX
  rw [fill_one _ 0 0 X [] Z [.bool false] _ rfl rfl hZ.symm]
  have h1 : ¬ ((Value.bool true).cells.size ≠ 1 ∨ X.length + (Value.bool true).cells.size > ([] ++ (X ++ [Value.bool false])).toArray.size) := by
    simp [Value.cells]
  simp only [Instr.fill]
  have hp : (#[(0, X.length), (X.length, 1)] : Array (Nat × Nat))[1]? = some (X.length, 1) := rfl
  rw [hp]
  simp only []
  rw [if_neg (by simpa using h1)]
  congr 1
  simp only [Value.cells]
  show (([] ++ (X ++ [Value.bool false])).toArray).setIfInBounds (X.length + 0) (Value.bool true) = _
  simp only [List.nil_append, List.setIfInBounds_toArray]
  congr 1
  rw [Nat.add_zero, List.set_append_right _ _ (Nat.le_refl _)]
  simp
theorem built_cip (key : List Int) (h : key.length = 16) : Try.prog.built 91 [(0, .agg (flatK key 11).toArray), (1, .bool true)] = some (cipL key).toArray :=
  (cip_places _).trans (fill_cip 176 _ _ (flatK_length key h 11) (by rw [bv_length, zeroL_length]))
/-- block g is a cipher of that key -/
def IsCip (w : World) (g : Nat) (key : List Int) : Prop := Row w g 91 (cipL key)
theorem run_arrayAt16 (a : Addr) (cap : Nat) (w : World) : (Instr.arrayAt 29 (.slice (some a) 16 cap)).run Try.prog w = .ok (.pointer (some a)) w := by
  have h : ¬ (16 : Nat) < 16 := by omega
  simp only [Instr.arrayAt, Sem.run_bind, run_underlying Try.underlying29, Result.andThen_ok, if_neg h, Sem.run_pure]
theorem wpList_built2 {P : Program} {ops : Array Oper} {rest : List Oper} {o : Oper} {a : Act} {w : World} {Q : Exit → Act → World → Prop} (hg : o.guard = none) (t : TypeId) (i j : Nat) (x y : Operand) (ho : o.op = .build t #[(i, x), (j, y)])
    (vx vy : Value) (hx : a.eval x = vx) (hy : a.eval y = vy) (cs : Array Value) (hf : P.built t [(i, vx), (j, vy)] = some cs)
    (h : wpList P ops Q rest (a.put o.dst (.agg cs)) w) : wpList P ops Q (o :: rest) a w :=
  wpList_built hg t _ ho cs (by simp only [List.map_toArray, List.map_cons, List.map_nil, hx, hy]; exact hf) h
/-- behind New of a key -/
def NewPost (key : List Int) (w : World) (e : Ending) (w' : World) : Prop := ∃ g, e = .returned (.tuple #[.pointer (some ⟨g, 0, none⟩), .int .i64 0]) ∧ w.heap.size ≤ g ∧ IsCip w' g key ∧ Below w.heap.size w w'
set_option maxRecDepth 100000 in
set_option maxHeartbeats 800000 in
theorem aNew_any (key : List Int) (b o cap : Nat) (w : World) (hk : key.length = 16) (hB : Byt key) (hr : w.rangeAt b o (bv key)) :
    Calls Try.prog 25 #[.slice (some ⟨b, o, none⟩) 16 cap] w (NewPost key w) := by
  have i16 : (Try.prog.info? 29).map (·.size) = some (bv key).length := by rw [bv_length, hk]; kernel_rfl
  have I16 := Lib.hid i16
  have HB := Lib.hid hB
  have HK := Lib.hid hk
  have HR := Lib.hid hr
  have har := fun a => run_arrayAt16 a cap
  have HBU := Lib.hid (built_cip key hk)
  clear hk hB hr i16
  go_enter Try.func25, Try.ntmps25
  go_upto_region 3 with (fail)
  refine wp_region_lit ?_
  refine wpList_plain rfl fun K1 hK1 => ?_
  go_step
  refine hK1 _ _ ?_
  clear hK1 K1
  refine wpList_plain rfl fun K2 hK2 => ?_
  go_step
  refine hK2 _ _ ?_
  clear hK2 K2
  refine wpList_load_mid rfl 29 _ rfl b o rfl (bv key) _ HR.out Try.underlying29 rfl I16.out ?_
  refine wpList_plain rfl fun K3 hK3 => ?_
  go_step
  refine (aKeys_any key _ HK.out HB.out).mono ?_
  rintro e w1 ⟨rfl, hb1⟩
  refine hK3 _ _ ?_
  clear hK3 K3
  refine wpList_built2 rfl 91 _ _ _ _ rfl _ _ rfl rfl (cipL key).toArray HBU.out ?_
  go_wp2
  go_ret2
  exact ⟨_, rfl, hb1.size, Row.new w1 91 (cipL key), hb1.alloc hb1.size _⟩
set_option maxRecDepth 100000 in
theorem aNew_bad (p : Option Addr) (n cap : Nat) (w : World) (hn : n ≠ 16) :
    Calls Try.prog 25 #[.slice p n cap] w fun e w' => e = .returned (.tuple #[.pointer none, .int .i64 2]) ∧ w = w' := by
  go_enter Try.func25, Try.ntmps25
  go_wp2
  go_ret2
  exact ⟨rfl, rfl⟩
theorem cip_made (key : List Int) (h : key.length = 16) : (cipL key)[176]? = some (.bool true) := by
  rw [cipL, List.getElem?_append_right (by rw [flatK_length key h]; omega), flatK_length key h]; rfl
set_option maxRecDepth 100000 in
theorem aNone_any (key : List Int) (g : Nat) (w : World) (hk : key.length = 16) (hc : IsCip w g key) :
    Calls Try.prog 53 #[.pointer (some ⟨g, 0, none⟩)] w fun e w' => e = .returned (.bool false) ∧ w = w' := by
  have c0 := hc.cell (cip_made key hk)
  clear hc hk
  go_enter Try.func53, Try.ntmps53
  go_wp2
  go_ret
  exact ⟨rfl, rfl⟩
set_option maxRecDepth 100000 in
theorem aNone_nil (w : World) :
    Calls Try.prog 53 #[.pointer none] w fun e w' => e = .returned (.bool true) ∧ w = w' := by
  go_enter Try.func53, Try.ntmps53
  go_wp2
  go_ret
  exact ⟨rfl, rfl⟩
/-- a cell with a pointer -/
def Box (w : World) (B : Nat) (t : TypeId) (v : Value) : Prop := Row w B t [v]
set_option maxRecDepth 100000 in
theorem aSteps_any (p : Option Addr) (l : List Int) (w : World) :
    Calls Try.prog 28 #[.pointer p, .agg (bv l).toArray] w fun e w' => e = .returned (.func (.func 59) #[] #[.pointer (some ⟨w.heap.size, 0, none⟩), .pointer (some ⟨w.heap.size + 1, 0, none⟩)]) ∧
      Row w' w.heap.size 30 [.pointer p] ∧ Row w' (w.heap.size + 1) 29 (bv l) ∧ w'.heap.size = w.heap.size + 1 + 1 ∧ Below w.heap.size w w' := by
  obtain ⟨HR0, HR1, HBL⟩ := rows2 w 30 29 [.pointer p] (bv l)
  go_enter Try.func28, Try.ntmps28
  go_wp2
  go_ret
  exact ⟨rfl, HR0.out, HR1.out, by simp, HBL.out⟩
set_option maxRecDepth 100000 in
set_option maxHeartbeats 800000 in
theorem stepsXor_any (Bx Bk k : Nat) (x y : List Int) (w : World) (hx : Row w Bx 29 (bv x)) (hy : Row w Bk 29 (bv y)) (lx : x.length = 16) (ly : y.length = 16) (hk : k < 16) :
    Calls Try.prog 64 #[.int .i64 (k : Int), .pointer (some ⟨Bx, 0, none⟩), .pointer (some ⟨Bk, 0, none⟩)] w fun e w' => e = .returned (.int .u8 (x8 (el x k) (el y k))) ∧ Below w.heap.size w w' := by
  have c0 := hx.cell (bv_get x k (by omega))
  have c1 := hy.cell (bv_get y k (by omega))
  clear hx hy lx ly
  go_enter Try.func64, Try.ntmps64
  go_wp2
  go_quiet (fail)
  go_wp2
  go_ret
  exact ⟨rfl, belowN (Below.refl _ _) _⟩
end Go.Proofs.Ytfkpilfnhgjmfaa
