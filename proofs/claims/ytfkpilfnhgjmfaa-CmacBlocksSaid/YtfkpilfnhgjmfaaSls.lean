/-
  Slices of bytes: read, turned into a text, appended.
-/
import Derived.Test.YtfkpilfnhgjmfaaRKeys
import Derived.Test.YtfkpilfnhgjmfaaLift
import Derived.Laws.BytesArg
import Derived.Laws.OwnMore
import Derived.Laws.AppendOwnNone
namespace Go.Proofs.Ytfkpilfnhgjmfaa
open Go.ChangeShapes Go.WideShapes Go.ChangeAt Go.RowKit
/-- a slice of these bytes -/
def Sl (w : World) (v : Value) (l : List Int) : Prop :=
  (v = .slice none 0 0 ∧ l = []) ∨ ∃ a cap, v = .slice (some a) l.length cap ∧ ∀ j u, (bv l)[j]? = some u → w.cell? (a.add j) = some u
theorem Sl.over {w w' : World} {v : Value} {l : List Int} (h : Sl w v l) (hb : Below w.heap.size w w') : Sl w' v l := by
  rcases h with h | ⟨a, cap, e, hc⟩
  · exact .inl h
  · refine .inr ⟨a, cap, e, fun j u hu => ?_⟩
    have := hc j u hu
    exact (hb.cell (p := a.add j) (World.block_lt_of_cell? w _ this)).trans this
theorem addr_plain {w : World} {a : Addr} {v : Value} (h : w.cell? (a.add 0) = some v) : ∃ b o, a = ⟨b, o, none⟩ := by
  obtain ⟨b, o, s⟩ := a
  have := World.cell?_spot h
  cases s with
  | none => exact ⟨b, o, rfl⟩
  | some s => simp [Addr.add] at this
/-- .. of some bytes: its cells -/
theorem Sl.cells {w : World} {v : Value} {l : List Int} (h : Sl w v l) (hl : 0 < l.length) : ∃ b o cap, v = .slice (some ⟨b, o, none⟩) l.length cap ∧ w.rangeAt b o (bv l) := by
  rcases h with ⟨_, rfl⟩ | ⟨a, cap, e, hc⟩
  · simp at hl
  · obtain ⟨b, o, rfl⟩ := addr_plain (hc 0 _ (bv_get l 0 hl))
    refine ⟨b, o, cap, e, fun j u hu => ?_⟩
    have := hc j u hu
    rwa [Addr.add_mid] at this
theorem Sl.form {w : World} {v : Value} {l : List Int} (h : Sl w v l) : ∃ p cap, v = .slice p l.length cap := by
  rcases h with ⟨rfl, rfl⟩ | ⟨a, cap, rfl, _⟩
  · exact ⟨none, 0, rfl⟩
  · exact ⟨some a, cap, rfl⟩
/-- the text of bytes -/
theorem Sl.text {w : World} {v : Value} {l : List Int} (h : Sl w v l) : (convert 34 9 v).run Try.prog w = .ok (.string (strOfNums l)) w := by
  rcases h with ⟨rfl, rfl⟩ | ⟨a, cap, rfl, hc⟩
  · exact run_convert_bytes_nil w 34 5 Try.underlying34 Try.underlying5 0 0 9 Try.underlying9
  · by_cases hl : 0 < l.length
    · obtain ⟨b, o, rfl⟩ := addr_plain (hc 0 _ (bv_get l 0 hl))
      refine run_convert_bytes_arg w 34 5 Try.underlying34 Try.underlying5 b o _ cap l rfl (fun i hi => ?_) 9 Try.underlying9
      have := hc i _ (bv_get l i hi)
      rwa [Addr.add_mid] at this
    · have : l = [] := List.length_eq_zero_iff.1 (by omega)
      subst this
      rw [run_convert_bytes_string w 34 9 5 _ _ _ Try.underlying34 Try.underlying5 Try.underlying9,
        run_bytesToString w _ _ _ [] (by simp [loadCells, loadCellsFrom])]
      rfl
/-- bytes in new memory -/
def Own (w : World) (base : Nat) (v : Value) (l : List Int) : Prop := w.ownsRow base 5 1 v l.length (bv l)
theorem Own.sl {w : World} {base : Nat} {v : Value} {l : List Int} (h : Own w base v l) : Sl w v l := by
  rcases h.2 with ⟨rfl, h0⟩ | ⟨g, cap, cur, rfl, h1⟩
  · exact .inl ⟨rfl, List.length_eq_zero_iff.1 h0⟩
  · exact .inr ⟨_, cap, rfl, fun j u hu => World.ownsRow.cells h rfl j u hu⟩
theorem Own.over {w w' : World} {base : Nat} {v : Value} {l : List Int} (h : Own w base v l) {m : Nat} (hb : Below m w w') (hv : ∀ k, v.ownBlock = some k → k < m) : Own w' base v l := owns_below h hb hv
theorem Own.lt {w : World} {base : Nat} {v : Value} {l : List Int} (h : Own w base v l) : ∀ k, v.ownBlock = some k → base ≤ k ∧ k < w.heap.size := World.ownsRow.lt h
theorem Own.base {w : World} {base base' : Nat} {v : Value} {l : List Int} (h : Own w base v l) (hb : base' ≤ base) : Own w base' v l := by
  refine ⟨h.1, ?_⟩
  rcases h.2 with h2 | ⟨g, cap, cur, e, h3, h4⟩
  · exact .inl h2
  · exact .inr ⟨g, cap, cur, e, Nat.le_trans hb h3, h4⟩
theorem bv_append (a b : List Int) : bv (a ++ b) = bv a ++ bv b := by simp [bv]
theorem infoU8 : (Try.prog.info? 5).map (fun i => (i.zero, i.size, i.bytes)) = some (some (.int .u8 0), 1, 1) := by kernel_rfl
theorem grown_below {w w' : World} {v : Value} (h : w.grownBy w' v.ownBlock) {m : Nat} (hm : m ≤ w.heap.size) (hv : ∀ k, v.ownBlock = some k → m ≤ k) : Below m w w' :=
  ⟨h.os, h.tape, h.output, h.size, fun k hk => h.block k (by omega) (fun e => by have := hv k e.symm; omega)⟩
/-- append(s, x...), s in new memory -/
theorem wpList_append_bytes {w : World} {ops : Array Oper} {rest : List Oper} {o : Oper} {a : Act} {Q : Exit → Act → World → Prop} (hgd : o.guard = none) (s x : Operand)
    (ho : o.op = .call { callee := .builtin .append, args := #[s, x], argTypes := #[34, 34] }) (base : Nat) (v u : Value) (xs l : List Int) (hs : a.eval s = v) (hx : a.eval x = u)
    (hown : Own w base v xs) (hsl : Sl w u l) (hn : xs.length + l.length ≤ 1000000) (hbase : base ≤ w.heap.size)
    (h : ∀ v' w', Own w' base v' (xs ++ l) → w.grownBy w' v.ownBlock → wpList Try.prog ops Q rest (a.put o.dst v') w') : wpList Try.prog ops Q (o :: rest) a w := by
  obtain ⟨i, hi, hzz⟩ := Option.map_eq_some_iff.1 infoU8
  simp only [Prod.mk.injEq] at hzz
  obtain ⟨hz, hz1, hz2⟩ := hzz
  have hown' : ∀ (v' : Value) (w' : World), w'.ownsRow base 5 1 v' (xs.length + l.length) (bv xs ++ bv l) → Own w' base v' (xs ++ l) := fun v' w' h => by
    unfold Own
    rw [List.length_append, bv_append]
    exact h
  rcases hsl with ⟨rfl, rfl⟩ | ⟨ad, cap, rfl, hc⟩
  · refine wpList_append_own_none hgd s x 34 ho base 5 i 1 Try.underlying34 hi v xs.length (bv xs) hs hown hx (h v w (by rw [List.append_nil]; exact hown) ⟨rfl, rfl, rfl, Nat.le_refl _, fun _ _ _ => rfl⟩)
  · refine wpList_append_own _ hgd s x 34 ho base 5 i (.int .u8 0) 1 1 Try.underlying34 hi hz hz1 hz2 rfl (by omega) v xs.length (bv xs) hs hown ad l.length cap (bv l) hx (by rw [bv_length, Nat.mul_one]) hc (bv_one l)
      (Nat.le_trans hn (by decide)) (by omega) hbase (fun v' w' h1 h2 _ => h v' w' (hown' v' w' h1) h2)
/-- a new slice of no bytes -/
theorem run_build0 (w : World) : (Instr.buildSlice 34 0 #[]).run Try.prog w = .ok (.slice (some ⟨w.heap.size, 0, none⟩) 0 0) (w.alloc (.cells #[] 5)) := by kernel_rfl
theorem own_new (w : World) (l : List Int) (hl : l.length ≤ 1000000) : Own (w.alloc (.cells (bv l).toArray 5)) w.heap.size (.slice (some ⟨w.heap.size, 0, none⟩) l.length l.length) l :=
  ⟨by rw [bv_length, Nat.mul_one], .inr ⟨w.heap.size, l.length, (bv l).toArray, rfl, Nat.le_refl _, Row.new w 5 (bv l), Nat.le_refl _, Nat.le_trans hl (by decide), by simp [bv], by
    rw [Nat.mul_one]
    exact List.take_of_length_le (by simp [bv])⟩⟩
theorem Own.set {w : World} {base g n cap : Nat} {l : List Int} (h : Own w base (.slice (some ⟨g, 0, none⟩) n cap) l) (j : Nat) (x : Int) : Own (w.setCell ⟨g, j, none⟩ (.int .u8 x)) base (.slice (some ⟨g, 0, none⟩) n cap) (l.set j x) := by
  have hn : l.length = n := by
    rcases h.2 with ⟨e, _⟩ | ⟨_, _, _, e, _⟩
    · cases e
    · cases e; rfl
  unfold Own at h ⊢
  rw [hn] at h
  rw [List.length_set, hn]
  have := (World.ownsRow.stored h j (.int .u8 x)).1
  rwa [bv_set] at this
theorem Own.len {w : World} {base : Nat} {p : Option Addr} {n cap : Nat} {l : List Int} (h : Own w base (.slice p n cap) l) : l.length = n := by
  rcases h.2 with ⟨e, h0⟩ | ⟨_, _, _, e, _⟩
  · cases e; exact h0
  · cases e; rfl
theorem Own.frozen {w : World} {base g n cap : Nat} {l : List Int} (h : Own w base (.slice (some ⟨g, 0, none⟩) n cap) l) (j : Nat) : w.frozen? ⟨g, j, none⟩ = false := by
  have hn := h.len
  unfold Own at h
  rw [hn] at h
  exact World.ownsRow.frozenAt h j
theorem Own.cell {w : World} {base g n cap : Nat} {l : List Int} (h : Own w base (.slice (some ⟨g, 0, none⟩) n cap) l) (j : Nat) (hj : j < n) : w.cell? ⟨g, j, none⟩ = some (.int .u8 (el l j)) := by
  have := World.ownsRow.cells h rfl j _ (bv_get l j (by rw [h.len]; exact hj))
  rwa [Addr.add_mid, Nat.zero_add] at this
/-- an argument that is a slice of bytes, opened -/
theorem open_sl {H : Type} {enc : TypeId × Value → H} {P : Program} {w : World} {r : Reach} {b0 base : Nat} {spare : Nat → Bool} {held : Bool} {t e : TypeId} {v : Value} {d : DataW H} {ps : List MemPlace} (ht : P.underlying t = some (.slice e)) (he : P.underlying e = some (.int .u8)) (hc : P.cellsOf e = 1)
    (hval : Value.okWide P w r b0 t v) (hd : DataW.Trod enc P w base spare held t v d ps) : ∃ l : List Int, Sl w v l ∧ Byt l ∧ l.length ≤ maxLen := by
  obtain ⟨a, n, cap, rfl⟩ := okWide_slice ht hval
  obtain ⟨fuel, hf⟩ := hd
  simp only [Value.cells] at hf
  rcases open_ints ht he hc hf with ⟨h1, _⟩ | ⟨a', len, cap', zs, h1, _, hlc, hcm, hz, _, hcell, hwf⟩
  · simp only [List.cons.injEq, Value.slice.injEq, and_true] at h1
    obtain ⟨rfl, rfl, rfl⟩ := h1
    exact ⟨[], .inl ⟨rfl, rfl⟩, fun i => by simp [el], by simp⟩
  · simp only [List.cons.injEq, Value.slice.injEq, and_true] at h1
    obtain ⟨rfl, rfl, rfl⟩ := h1
    have hzl : n ≤ zs.length := by rw [hz]; split <;> omega
    refine ⟨zs.take n, .inr ⟨a', cap, by rw [List.length_take, Nat.min_eq_left hzl], fun j u hu => ?_⟩, Byt.of_mem fun x hx => ?_, by rw [List.length_take, Nat.min_eq_left hzl]; omega⟩
    · have hj : j < n := by
        have := (List.getElem?_eq_some_iff.1 hu).1
        rw [bv_length, List.length_take, Nat.min_eq_left hzl] at this
        exact this
      rw [hcell j (by omega)]
      rw [bv_get _ j (by rw [List.length_take, Nat.min_eq_left hzl]; exact hj)] at hu
      rw [← hu]
      congr 2
      simp [el, List.getElem?_take_of_lt hj]
    · have := bounds_u8 (hwf x (List.mem_of_mem_take hx))
      omega
end Go.Proofs.Ytfkpilfnhgjmfaa
