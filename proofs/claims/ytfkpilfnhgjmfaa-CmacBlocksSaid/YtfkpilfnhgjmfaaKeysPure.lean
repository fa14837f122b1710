/-
  The round keys, plainly: the next key out of the last one and a power; all keys of a key; their cells one behind the other.
-/
import Derived.Test.YtfkpilfnhgjmfaaRound
namespace Go.Proofs.Ytfkpilfnhgjmfaa
open Go.RowKit
def headAt (p : Int) (last : List Int) (j : Nat) : Int := if j = 0 then x8 (x8 (el last 0) (box8 (el last 13))) p else x8 (el last j) (box8 (el last (12 + (j + 1) % 4)))
def kLev (p : Int) (last : List Int) : Nat → Nat → Int
  | 0, j => headAt p last j
  | l + 1, j => x8 (kLev p last l j) (el last (4 * (l + 1) + j))
def kAt (p : Int) (last : List Int) (i : Nat) : Int := kLev p last (i / 4) (i % 4)
theorem kAt_head (p : Int) (last : List Int) (i : Nat) (h : i < 4) : kAt p last i = headAt p last i := by
  unfold kAt
  rw [show i / 4 = 0 by omega, show i % 4 = i by omega]
  rfl
theorem kAt_step (p : Int) (last : List Int) (i : Nat) (h : 4 ≤ i) : kAt p last i = x8 (kAt p last (i - 4)) (el last i) := by
  unfold kAt
  obtain ⟨l, hl⟩ : ∃ l, i / 4 = l + 1 := ⟨i / 4 - 1, by omega⟩
  rw [hl, show (i - 4) / 4 = l by omega, show (i - 4) % 4 = i % 4 by omega]
  show x8 _ (el last (4 * (l + 1) + i % 4)) = _
  rw [show 4 * (l + 1) + i % 4 = i by omega]
def nextK (p : Int) (last : List Int) : List Int := tab 16 (kAt p last)
def pw : Nat → Int
  | 0 => 1
  | n + 1 => mul8 (pw n) 2
theorem pw_bd : ∀ n, 0 ≤ pw n ∧ pw n < 256
  | 0 => by simp [pw]
  | n + 1 => mul8_bd _ _ (pw_bd n).1 (pw_bd n).2
/-- round key n of a key -/
def kS (key : List Int) : Nat → List Int
  | 0 => key
  | n + 1 => nextK (pw n) (kS key n)
theorem kS_length (key : List Int) (h : key.length = 16) : ∀ n, (kS key n).length = 16
  | 0 => h
  | _ + 1 => tab_length _ _
theorem headAt_bd (p : Int) (last : List Int) (j : Nat) (hp : 0 ≤ p) (hp' : p < 256) (hB : Byt last) : 0 ≤ headAt p last j ∧ headAt p last j < 256 := by
  have b := fun i => box8_bd (el last i) (hB i).1 (hB i).2
  unfold headAt
  split
  · have h := x8_bd _ _ (hB 0).1 (hB 0).2 (b 13).1 (b 13).2
    exact x8_bd _ _ h.1 h.2 hp hp'
  · exact x8_bd _ _ (hB j).1 (hB j).2 (b _).1 (b _).2
theorem kLev_bd (p : Int) (last : List Int) (hp : 0 ≤ p) (hp' : p < 256) (hB : Byt last) (j : Nat) : ∀ l, 0 ≤ kLev p last l j ∧ kLev p last l j < 256
  | 0 => headAt_bd p last j hp hp' hB
  | l + 1 => x8_bd _ _ (kLev_bd p last hp hp' hB j l).1 (kLev_bd p last hp hp' hB j l).2 (hB _).1 (hB _).2
theorem byt_tab {n : Nat} {f : Nat → Int} (h : ∀ i, i < n → 0 ≤ f i ∧ f i < 256) : Byt (tab n f) :=
  Byt.of_mem fun x hx => by
    obtain ⟨i, hi, rfl⟩ := List.mem_map.1 hx
    exact h i (List.mem_range.1 hi)
theorem kS_byt (key : List Int) (hB : Byt key) : ∀ n, Byt (kS key n)
  | 0 => hB
  | n + 1 => byt_tab fun _ _ => kLev_bd _ _ (pw_bd n).1 (pw_bd n).2 (kS_byt key hB n) _ _
/-- the cells of the first n round keys -/
def flatK (key : List Int) : Nat → List Value
  | 0 => []
  | n + 1 => flatK key n ++ bv (kS key n)
theorem flatK_length (key : List Int) (h : key.length = 16) : ∀ n, (flatK key n).length = n * 16
  | 0 => rfl
  | n + 1 => by rw [flatK, List.length_append, flatK_length key h n, bv_length, kS_length key h]; omega
theorem flatK_get (key : List Int) (h : key.length = 16) (i j : Nat) (hj : j < 16) : ∀ n, i < n → (flatK key n)[i * 16 + j]? = some (.int .u8 (el (kS key i) j))
  | 0, hi => by omega
  | n + 1, hi => by
    rw [flatK]
    by_cases e : i = n
    · subst e
      rw [List.getElem?_append_right (by rw [flatK_length key h]; omega), flatK_length key h, Nat.add_sub_cancel_left]
      exact bv_get _ j (by rw [kS_length key h]; exact hj)
    · rw [List.getElem?_append_left (by rw [flatK_length key h]; omega)]
      exact flatK_get key h i j hj n (by omega)
theorem flatK_range (key : List Int) (h : key.length = 16) {w : World} {b n i : Nat} (hi : i < n) (hc : ∀ q v, (flatK key n)[q]? = some v → w.cell? ⟨b, q, none⟩ = some v) : w.rangeAt b (i * 16) (bv (kS key i)) := fun j v hv => by
  have hj : j < 16 := by
    rcases Nat.lt_or_ge j 16 with h' | h'
    · exact h'
    · rw [List.getElem?_eq_none (by rw [bv_length, kS_length key h]; exact h')] at hv; cases hv
  rw [bv_get _ j (by rw [kS_length key h]; exact hj)] at hv
  cases hv
  exact hc _ _ (flatK_get key h i j hj n hi)
theorem flatK_one (key : List Int) : ∀ n, ∀ v ∈ flatK key n, v.oneCell' = true
  | 0, v, hv => by cases hv
  | n + 1, v, hv => by
    rcases List.mem_append.1 hv with h | h
    · exact flatK_one key n v h
    · exact bv_one _ v h
/-- the last cells of a first loop, with the power added -/
theorem set_head (p : Int) (last : List Int) (f : Nat → Int) (hf : ∀ j, j < 4 → f j = x8 (el last j) (box8 (el last (12 + (j + 1) % 4)))) :
    (upto 16 4 f (fun _ => 0)).set 0 (x8 (f 0) p) = upto 16 4 (kAt p last) (fun _ => 0) := by
  apply List.ext_getElem
  · simp [upto, tab]
  · intro i h1 h2
    have hi : i < 16 := by simpa [upto, tab] using h2
    by_cases e : i = 0
    · subst e
      simp only [List.getElem_set_self, upto, tab, List.getElem_map, List.getElem_range]
      rw [if_pos (by omega), kAt_head _ _ _ (by omega), hf 0 (by omega)]
      rfl
    · rw [List.getElem_set_ne (by omega)]
      simp only [upto, tab, List.getElem_map, List.getElem_range]
      by_cases h3 : i < 4
      · rw [if_pos h3, if_pos h3, kAt_head _ _ _ h3, hf i h3, headAt, if_neg e]
      · rw [if_neg h3, if_neg h3]
end Go.Proofs.Ytfkpilfnhgjmfaa
