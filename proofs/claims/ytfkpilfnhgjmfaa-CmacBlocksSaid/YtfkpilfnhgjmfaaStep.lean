/-
  The steps of a block, plainly; the code's iterator over them.
-/
import Derived.Test.YtfkpilfnhgjmfaaCip
import Derived.Test.YtfkpilfnhgjmfaaFen
import Derived.Shelf.Abstract
import Derived.Shelf.RegionOpen
import Derived.WalkKit
import Derived.LoopNIn
namespace Go.Proofs.Ytfkpilfnhgjmfaa
open Go.RowKit
attribute [local go_sem] Oper.semAt_some
theorem xorL_byt {a b : List Int} (ha : Byt a) (hb : Byt b) : Byt (xorL a b) := byt_tab fun i _ => x8_bd _ _ (ha i).1 (ha i).2 (hb i).1 (hb i).2
theorem boxedL_byt {a : List Int} (ha : Byt a) : Byt (boxedL a) := byt_tab fun i _ => box8_bd _ (ha i).1 (ha i).2
theorem movedL_byt {a : List Int} (ha : Byt a) : Byt (movedL a) := byt_tab fun _ _ => ha _
theorem mixAt_bd {c : List Int} (hc : Byt c) (k : Nat) : 0 ≤ mixAt c k ∧ mixAt c k < 256 := by
  have h1 := mul8_bd 2 (el c k) (by omega) (by omega)
  have h2 := mul8_bd 3 (el c ((k + 1) % 4)) (by omega) (by omega)
  have a1 := x8_bd _ _ h1.1 h1.2 h2.1 h2.2
  have a2 := x8_bd _ _ a1.1 a1.2 (hc ((k + 2) % 4)).1 (hc ((k + 2) % 4)).2
  exact x8_bd _ _ a2.1 a2.2 (hc ((k + 3) % 4)).1 (hc ((k + 3) % 4)).2
theorem mixedL_byt {a : List Int} (ha : Byt a) : Byt (mixedL a) := byt_tab fun _ _ => mixAt_bd (colOf_byt a _ ha) _
theorem roundL_byt {b k : List Int} (hb : Byt b) (hk : Byt k) (last : Bool) : Byt (roundL b k last) := by
  unfold roundL
  cases last
  · exact xorL_byt (mixedL_byt (movedL_byt (boxedL_byt hb))) hk
  · exact xorL_byt (movedL_byt (boxedL_byt hb)) hk
/-- step n of a block -/
def stepL (key b : List Int) : Nat → List Int
  | 0 => xorL b (kS key 0)
  | n + 1 => roundL (stepL key b n) (kS key (n + 1)) (n + 1 == 10)
theorem stepL_length (key b : List Int) : ∀ n, (stepL key b n).length = 16
  | 0 => xorL_length _ _
  | _ + 1 => xorL_length _ _
theorem stepL_byt (key b : List Int) (hk : Byt key) (hb : Byt b) : ∀ n, Byt (stepL key b n)
  | 0 => xorL_byt hb (kS_byt key hk 0)
  | n + 1 => roundL_byt (stepL_byt key b hk hb n) (kS_byt key hk (n + 1)) _
/-- what lies there ahead of round n -/
def prevL (key b : List Int) : Nat → List Int
  | 0 => b
  | n + 1 => stepL key b n
theorem prevL_length (key b : List Int) (hb : b.length = 16) : ∀ n, (prevL key b n).length = 16
  | 0 => hb
  | n + 1 => stepL_length key b n
theorem prevL_byt (key b : List Int) (hk : Byt key) (hb : Byt b) : ∀ n, Byt (prevL key b n)
  | 0 => hb
  | n + 1 => stepL_byt key b hk hb n
/-- j of the three functions are done -/
def doneL (p : List Int) : Nat → List Int
  | 0 => p
  | 1 => boxedL p
  | 2 => movedL (boxedL p)
  | _ => mixedL (movedL (boxedL p))
theorem doneL_length (p : List Int) (hp : p.length = 16) : ∀ j, (doneL p j).length = 16
  | 0 => hp
  | 1 => tab_length _ _
  | 2 => tab_length _ _
  | _ + 3 => tab_length _ _
theorem doneL_byt (p : List Int) (hp : Byt p) : ∀ j, Byt (doneL p j)
  | 0 => hp
  | 1 => boxedL_byt hp
  | 2 => movedL_byt (boxedL_byt hp)
  | _ + 3 => mixedL_byt (movedL_byt (boxedL_byt hp))
/-- in round n -/
def inL (key b : List Int) (n j : Nat) : List Int := if n = 0 then b else doneL (prevL key b n) j
theorem inL_length (key b : List Int) (hb : b.length = 16) (n j : Nat) : (inL key b n j).length = 16 := by
  unfold inL; split
  · exact hb
  · exact doneL_length _ (prevL_length key b hb n) j
theorem inL_byt (key b : List Int) (hk : Byt key) (hb : Byt b) (n j : Nat) : Byt (inL key b n j) := by
  unfold inL; split
  · exact hb
  · exact doneL_byt _ (prevL_byt key b hk hb n) j
theorem inL_zero (key b : List Int) (n : Nat) : inL key b n 0 = prevL key b n := by
  unfold inL; split
  · rename_i h; subst h; rfl
  · rfl
theorem inL_end (key b : List Int) (n : Nat) : xorL (inL key b n (if n = 10 then 2 else 3)) (kS key n) = stepL key b n := by
  cases n with
  | zero => rfl
  | succ n =>
    unfold inL
    rw [if_neg (by omega)]
    show _ = roundL _ _ _
    unfold roundL
    by_cases h : n + 1 = 10
    · rw [if_pos h, show (n + 1 == 10) = true by simpa using h]; rfl
    · rw [if_neg h, show (n + 1 == 10) = false by simpa using h]; rfl
theorem flatK_extract (key : List Int) (hk : key.length = 16) (m n : Nat) (hn : n < m) : (flatK key m).toArray.extract (n * 16) (n * 16 + 16) = (bv (kS key n)).toArray := by
  have hl := flatK_length key hk m
  have hkl := kS_length key hk n
  apply Array.ext
  · simp only [Array.size_extract, List.size_toArray, bv_length, hl, hkl]; omega
  · intro i h1 h2
    have hi : i < 16 := by simp only [List.size_toArray, bv_length, hkl] at h2; exact h2
    have h := flatK_get key hk n i hi m hn
    have h3 := bv_get (kS key n) i (by rw [hkl]; exact hi)
    simp only [Array.getElem_extract, List.getElem_toArray]
    rw [List.getElem?_eq_some_iff] at h h3
    rw [h.2, h3.2]
/-- a part of a value of an array of blocks -/
theorem run_index_sch (key : List Int) (hk : key.length = 16) (n : Nat) (hn : n < 11) (w : World) :
    (Instr.index 88 (.agg (flatK key 11).toArray) (.int .i64 (n : Int))).run Try.prog w = .ok (.agg (bv (kS key n)).toArray) w := by
  have hx : (0 : Int) ≤ (n : Int) ∧ (n : Int) < (11 : Nat) := by omega
  have hu : Try.prog.underlying 88 = some (.array 11 29) := by kernel_rfl
  have ha : ∀ w : World, (isAgg 29).run Try.prog w = .ok true w := fun _ => by kernel_rfl
  have hs : ∀ w : World, (sizeOf 29).run Try.prog w = .ok 16 w := fun _ => by kernel_rfl
  simp only [Instr.index, asIntOf, Sem.run_bind, Sem.run_pure, Result.andThen_ok, run_underlying hu, if_pos hx, hs, part, ha, Int.toNat_natCast]
  rw [if_pos trivial]
  simp only [Sem.run_bind, hs, Result.andThen_ok, Sem.run_pure]
  rw [flatK_extract key hk 11 n hn]
end Go.Proofs.Ytfkpilfnhgjmfaa
