/-
  cmac, plainly: blocks of a message, what they come to, the tag.
-/
import Derived.Test.YtfkpilfnhgjmfaaCKeys
namespace Go.Proofs.Ytfkpilfnhgjmfaa
open Go.RowKit
/-- block i of a message, filled up by noughts -/
def blkAt (m : List Int) (i : Nat) : List Int := tab 16 fun j => el m (16 * i + j)
theorem blkAt_length (m : List Int) (i : Nat) : (blkAt m i).length = 16 := tab_length _ _
theorem blkAt_byt {m : List Int} (h : Byt m) (i : Nat) : Byt (blkAt m i) := byt_tab fun _ _ => h _
/-- what k blocks come to -/
def absX (key x all : List Int) : Nat → List Int
  | 0 => x
  | k + 1 => makeL key (xorL (absX key x all k) (blkAt all k))
theorem absX_length {key x all : List Int} (hx : x.length = 16) : ∀ k, (absX key x all k).length = 16
  | 0 => hx
  | _ + 1 => makeL_length _ _
theorem absX_byt {key x all : List Int} (hk : Byt key) (hx : Byt x) (ha : Byt all) : ∀ k, Byt (absX key x all k)
  | 0 => hx
  | k + 1 => makeL_byt hk (xorL_byt (absX_byt hk hx ha k) (blkAt_byt ha k))
/-- how many blocks are surely not the last one -/
def nbOf (n : Nat) : Nat := (n - 1) / 16
theorem el_append_left {a b : List Int} {i : Nat} (h : i < a.length) : el (a ++ b) i = el a i := by
  unfold el
  rw [List.getD_eq_getElem?_getD, List.getD_eq_getElem?_getD, List.getElem?_append_left h]
theorem el_drop (a : List Int) (n i : Nat) : el (a.drop n) i = el a (n + i) := by
  unfold el
  rw [List.getD_eq_getElem?_getD, List.getD_eq_getElem?_getD, List.getElem?_drop]
theorem absX_congr {key x a b : List Int} : ∀ k, (∀ i, i < 16 * k → el a i = el b i) → absX key x a k = absX key x b k
  | 0, _ => rfl
  | k + 1, h => by
    have e : blkAt a k = blkAt b k := tab_congr fun j hj => h _ (by omega)
    rw [absX, absX, absX_congr k (fun i hi => h i (by omega)), e]
/-- a message goes on -/
theorem absX_join (key x m b : List Int) (n : Nat) (hn : 16 * n ≤ m.length) : ∀ k, absX key (absX key x m n) (m.drop (16 * n) ++ b) k = absX key x (m ++ b) (n + k)
  | 0 => by
    show absX key x m n = absX key x (m ++ b) n
    exact absX_congr n fun i hi => (el_append_left (by omega)).symm
  | k + 1 => by
    have e : blkAt (m.drop (16 * n) ++ b) k = blkAt (m ++ b) (n + k) := tab_congr fun j hj => by
      have h : m.drop (16 * n) ++ b = (m ++ b).drop (16 * n) := by rw [List.drop_append_of_le_length hn]
      rw [h, el_drop]
      congr 1
      omega
    rw [absX, absX_join key x m b n hn k, e]
    rfl
theorem nbOf_le (n : Nat) : 16 * nbOf n ≤ n := by unfold nbOf; omega
theorem nbOf_join (m b : Nat) : nbOf m + nbOf (m - 16 * nbOf m + b) = nbOf (m + b) := by unfold nbOf; omega
theorem drop_join (m b : List Int) : (m.drop (16 * nbOf m.length) ++ b).drop (16 * nbOf (m.drop (16 * nbOf m.length) ++ b).length) = (m ++ b).drop (16 * nbOf (m ++ b).length) := by
  have h := nbOf_le m.length
  have e : m.drop (16 * nbOf m.length) ++ b = (m ++ b).drop (16 * nbOf m.length) := by rw [List.drop_append_of_le_length h]
  rw [e, List.drop_drop]
  congr 1
  rw [List.length_drop, List.length_append]
  have := nbOf_join m.length b.length
  have e2 : m.length + b.length - 16 * nbOf m.length = m.length - 16 * nbOf m.length + b.length := by omega
  rw [e2]
  omega
/-- the state behind a message -/
def stX (key m : List Int) : List Int := absX key (zeroL 16) m (nbOf m.length)
def stL (m : List Int) : List Int := m.drop (16 * nbOf m.length)
theorem stX_join (key m b : List Int) : absX key (stX key m) (stL m ++ b) (nbOf (stL m ++ b).length) = stX key (m ++ b) := by
  unfold stX stL
  rw [absX_join key _ m b _ (nbOf_le _), List.length_append, List.length_append, List.length_drop, nbOf_join]
theorem stL_join (m b : List Int) : (stL m ++ b).drop (16 * nbOf (stL m ++ b).length) = stL (m ++ b) := drop_join m b
theorem stL_length (m : List Int) : (stL m).length ≤ 16 := by unfold stL nbOf; rw [List.length_drop]; omega
/-- the last block: filled up, xored with one of the key's -/
def fillL (key r : List Int) : List Int := if r.length = 16 then xorL (tab 16 (el r)) (k1L key) else xorL ((tab 16 (el r)).set r.length 128) (k2L key)
/-- the tag of a message -/
def tagL (key m : List Int) : List Int := makeL key (xorL (stX key m) (fillL key (stL m)))
theorem tagL_length (key m : List Int) : (tagL key m).length = 16 := makeL_length _ _
end Go.Proofs.Ytfkpilfnhgjmfaa
