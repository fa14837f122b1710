/-
  slices.Grow of nothing; slices.Concat of two slices of bytes; slices.Clone.
-/
import Derived.Test.YtfkpilfnhgjmfaaSls
import Derived.Test.YtfkpilfnhgjmfaaIt
import Derived.Lib.AppendZeros
import Derived.LoopN
namespace Go.Proofs.Ytfkpilfnhgjmfaa
open Go.RowKit
theorem own_empty {w : World} {g cap : Nat} {cur : Array Value} (base : Nat) (hb : base ≤ g) (h : w.heap[g]? = some (.cells cur 5 (0, 0))) (hc : cap ≤ maxLen) (hs : cur.size = cap) : Own w base (.slice (some ⟨g, 0, none⟩) 0 cap) [] :=
  ⟨rfl, .inr ⟨g, cap, cur, rfl, hb, h, Nat.zero_le _, hc, by omega, by simp [bv]⟩⟩
set_option maxRecDepth 100000 in
set_option maxHeartbeats 800000 in
theorem grow_any (n : Nat) (w : World) (hn : n ≤ 1000000) :
    Calls Try.prog 77 #[.slice none 0 0, .int .i64 (n : Int)] w fun e w' => ∃ v, e = .returned v ∧ Own w' w.heap.size v [] ∧ Below w.heap.size w w' := by
  obtain ⟨i, hi, hzz⟩ := Option.map_eq_some_iff.1 infoU8
  simp only [Prod.mk.injEq] at hzz
  obtain ⟨hz, hz1, hz2⟩ := hzz
  by_cases h0 : 0 < n
  · have hr := Lib.run_append_nil_zeros w 34 3 34 5 i (.int .u8 0) .i64 .i64 Try.underlying34 Try.underlying3 hi hz n h0 (by omega) (by omega) (by rw [hz2]; omega)
    have HR := Lib.hid hr
    have hge := grownCap_ge w n 0 5
    have hle := grownCap_le_maxLen w n 0 5 (Nat.le_trans hn (by decide))
    have hcell : ∀ m, (Builtin.zeroCells (Value.int .u8 0).cells m).size = m := fun m => by rw [size_zeroCells]; simp [Value.cells]
    have hown : Own (w.drew.alloc (.cells (Builtin.zeroCells (Value.int .u8 0).cells n ++ Builtin.zeroCells (Value.int .u8 0).cells (grownCap w n 0 5 - n)) 5)) w.heap.size (.slice (some ⟨w.heap.size, 0, none⟩) 0 (grownCap w n 0 5)) [] :=
      own_empty _ (Nat.le_refl _) (World.alloc_heap_new w.drew _) hle (by rw [Array.size_append, hcell, hcell]; omega)
    have hbl : Below w.heap.size w (w.drew.alloc (.cells (Builtin.zeroCells (Value.int .u8 0).cells n ++ Builtin.zeroCells (Value.int .u8 0).cells (grownCap w n 0 5 - n)) 5)) := ((Below.refl _ w).drew).alloc (Nat.le_refl _) _
    have HO := Lib.hid (And.intro hown hbl)
    have hpos : (0 : Int) < (n : Int) := by omega
    have hbn : (n : Int) ≤ 1000000 := by omega
    clear hr hge hcell hown hbl hz hz1 hz2
    generalize grownCap w n 0 5 = c at HR HO hle
    generalize hW : w.drew.alloc _ = W at HR HO
    clear hW
    go_enter Try.func77, Try.ntmps77
    go_wp2_with (at_builtin; refine Lib.wpList_append_run _ rfl _ _ _ _ rfl _ _ rfl rfl _ _ HR.out ?_)
    go_ret
    exact ⟨_, rfl, HO.out.1, HO.out.2⟩
  · have : n = 0 := by omega
    subst this
    go_enter Try.func77, Try.ntmps77
    go_wp2
    go_ret
    exact ⟨_, rfl, World.ownsRow_nil w _ _ _, Below.refl _ _⟩
set_option maxRecDepth 100000 in
set_option maxHeartbeats 1600000 in
theorem concat_any (q : Nat) (v1 v2 : Value) (l1 l2 : List Int) (w : World) (hq : Row w q 34 [v1, v2]) (h1 : Sl w v1 l1) (h2 : Sl w v2 l2) (hl : l1.length + l2.length ≤ 100000) :
    Calls Try.prog 76 #[.slice (some ⟨q, 0, none⟩) 2 2] w fun e w' => ∃ v, e = .returned v ∧ Own w' w.heap.size v (l1 ++ l2) ∧ Below w.heap.size w w' := by
  obtain ⟨p1, c1, e1⟩ := h1.form
  obtain ⟨p2, c2, e2⟩ := h2.form
  have H1 := Lib.hid h1
  have H2 := Lib.hid h2
  have HQ := Lib.hid hq
  obtain ⟨n1, hn1⟩ : ∃ n, n = l1.length := ⟨_, rfl⟩
  obtain ⟨n2, hn2⟩ : ∃ n, n = l2.length := ⟨_, rfl⟩
  rw [← hn1] at e1
  rw [← hn2] at e2
  have HN := Lib.hid (And.intro hn1 hn2)
  have hb : n1 + n2 ≤ 100000 := by omega
  clear h1 h2 hq hl hn1 hn2
  subst e1 e2
  have d0 := HQ.out.cell (i := 0) rfl
  have d1 := HQ.out.cell (i := 1) rfl
  go_enter Try.func76, Try.ntmps76
  go_upto_region 3 with (fail)
  refine wp_loop_rounds 3 ?_
  rw [rounds_succ]
  go_wp2_with (fail)
  rw [rounds_succ]
  go_wp2_with (fail)
  rw [rounds_succ]
  go_wp2_with (fail)
  have hg := grow_any (n1 + n2) w (by omega)
  have ec : ((n1 + n2 : Nat) : Int) = (n1 : Int) + (n2 : Int) := by omega
  rw [ec] at hg
  refine hg.mono ?_
  clear hg ec
  rintro e w1 ⟨v, rfl, ho, hb1⟩
  have HA := Lib.hid (And.intro ho hb1)
  have d0' := (HQ.out.below hb1 HQ.out.lt).cell (i := 0) rfl
  have d1' := (HQ.out.below hb1 HQ.out.lt).cell (i := 1) rfl
  clear ho hb1 d0 d1
  go_upto_region 11 with (fail)
  refine wp_loop_rounds 3 ?_
  rw [rounds_succ]
  go_wp2_with (at_builtin; refine wpList_append_bytes rfl _ _ rfl w.heap.size _ _ [] l1 rfl rfl HA.out.1 (H1.out.over HA.out.2) (by have := HN.out; simp only [List.length_nil]; omega) HA.out.2.size ?_)
  intro va wa hoa hga
  have hba : Below w.heap.size w wa := HA.out.2.trans (grown_below hga HA.out.2.size (fun k hk => (HA.out.1.lt k hk).1))
  have HB := Lib.hid (And.intro hoa hba)
  have d1a := (HQ.out.below hba HQ.out.lt).cell (i := 1) rfl
  clear hoa hga hba d0' d1'
  go_wp2_with (fail)
  rw [rounds_succ]
  go_wp2_with (at_builtin; refine wpList_append_bytes rfl _ _ rfl w.heap.size _ _ l1 l2 rfl rfl HB.out.1 (H2.out.over HB.out.2) (by have := HN.out; omega) HB.out.2.size ?_)
  intro vb wb hob hgb
  have hbb : Below w.heap.size w wb := HB.out.2.trans (grown_below hgb HB.out.2.size (fun k hk => (HB.out.1.lt k hk).1))
  have HC := Lib.hid (And.intro hob hbb)
  clear hob hgb hbb d1a
  go_wp2_with (fail)
  rw [rounds_succ]
  go_wp2
  go_ret
  exact ⟨_, rfl, HC.out.1, HC.out.2⟩
end Go.Proofs.Ytfkpilfnhgjmfaa
