/-
  'CmacBlocks' returns true for every input, and its argument reads behind the call as before. No conditions.
-/
import Derived.Test.YtfkpilfnhgjmfaaCWorks
import Derived.Test.YtfkpilfnhgjmfaaCBlk2
import Derived.Test.YtfkpilfnhgjmfaaLift
namespace Go.Proofs.Ytfkpilfnhgjmfaa
open Go.ChangeShapes Go.WideShapes Go.ChangeAt Go.RowKit
theorem run_one (v : Value) (w : World) (p : Option Addr) (n c : Nat) (h : v = .slice p n c) : (Instr.buildSlice 64 1 #[(0, v)]).run Try.prog w = .ok (.slice (some ⟨w.heap.size, 0, none⟩) 1 1) (w.alloc (.cells #[v] 34)) := by
  subst h
  kernel_rfl
theorem pts_one {w : World} {q : Nat} {v : Value} {l : List Int} (hr : Row w q 34 [v]) (hs : Sl w v l) : Pts w (.slice (some ⟨q, 0, none⟩) 1 1) [l] := ⟨_, _, rfl, fun i hi => by
  have hi0 : i = 0 := by simp at hi; omega
  subst hi0
  exact ⟨_, _, _, rfl, hr.cell (i := 0) rfl, hs⟩⟩
/-- a guarded load of a whole array, wanted -/
theorem wpList_load_g {P : Program} {ops : Array Oper} {rest : List Oper} {o : Oper} {a : Act} {w : World} {Q : Exit → Act → World → Prop} (hw : Region.wanted o (yielded ops a.tmps) = true) (ty : TypeId) (x : Operand) (ho : o.op = .load ty x)
    (g : Nat) (hx : a.eval x = .pointer (some ⟨g, 0, none⟩)) {t : TypeId} {vs : List Value} {n : Nat} {e : TypeId} (hr : Row w g t vs) (hu : P.underlying ty = some (.array n e)) (hi : (P.info? ty).map (·.size) = some vs.length)
    (h : wpList P ops Q rest (a.put o.dst (.agg vs.toArray)) w) : wpList P ops Q (o :: rest) a w := by
  simp only [wpList]
  rw [if_pos hw]
  refine .inl ?_
  unfold Oper.wp execOp
  simp only [ho, hx, Sem.run_bind, run_loadAt_mid w g 0 ty vs _ hr.range hu rfl hi, Result.andThen_ok, Sem.run_pure]
  exact h
set_option maxRecDepth 100000 in
set_option maxHeartbeats 3200000 in
theorem cmacBlocks_walk (v0 : Value) (l : List Int) (w : World) (hB : Byt l) (hs : Sl w v0 l) : Calls Try.prog 11 #[v0] w fun e w' => e = .returned (.bool true) ∧ Below w.heap.size w w' := by
  have HB := Lib.hid hB
  have HS := Lib.hid hs
  obtain ⟨p0, cap0, hv0⟩ := hs.form
  obtain ⟨n, hn⟩ : ∃ n, n = l.length := ⟨_, rfl⟩
  rw [← hn] at hv0
  have HN := Lib.hid hn
  have hone := fun w => run_one v0 w _ _ _ hv0
  have n0 := Lib.hid (Row.new w 34 [v0])
  have hzb := zero_blk'
  have i16 : ∀ l : List Int, l.length = 16 → (Try.prog.info? 29).map (·.size) = some (bv l).length := fun l h => by rw [bv_length, h]; kernel_rfl
  have I16 := Lib.hid i16
  have lin : ∀ l : List Int, l.length = 16 → (bv (zeroL 16)).length = (bv l).length := fun l h => by rw [bv_length, bv_length, h, zeroL_length]
  have LIN := Lib.hid lin
  have hgu := guardBlk
  clear hB hs hn i16 lin
  subst hv0
  go_enter Try.func11, Try.ntmps11
  go_wp2_with (fail)
  have hbV : Below w.heap.size w (w.alloc (.cells #[.slice p0 n cap0] 34)) := (Below.refl _ w).alloc (Nat.le_refl _) _
  generalize hV : w.alloc _ = V
  have HV : Hid (Row V w.heap.size 34 [.slice p0 n cap0] ∧ Below w.heap.size w V) := by rw [← hV]; exact ⟨n0.out, hbV⟩
  clear hV hbV n0
  refine (few_any _ [l] V (pts_one HV.out.1 (HS.out.over HV.out.2)) (by simp)).mono ?_
  rintro e w' ⟨r, rfl, rfl, hr⟩
  cases r with
  | false =>
    go_wp2_with (fail)
    refine (works4_any V).mono ?_
    rintro e w1 ⟨rfl, hb1⟩
    go_wp2
    go_ret
    exact ⟨rfl, HV.out.2.trans (hb1.mono HV.out.2.size)⟩
  | true =>
    clear hr
    go_wp2_with (fail)
    by_cases h16 : n = 16
    · subst h16
      have hl16 : l.length = 16 := HN.out.symm
      have HL16 := Lib.hid hl16
      obtain ⟨b, o, cap', e, hrg⟩ := HS.out.cells (by rw [hl16]; omega)
      rw [hl16] at e
      cases e
      have HR := Lib.hid hrg
      clear hl16 hrg HN
      obtain ⟨c, hc⟩ : ∃ c, c = k1L l := ⟨_, rfl⟩
      obtain ⟨d, hd⟩ : ∃ d, d = k2L l := ⟨_, rfl⟩
      have hcl : c.length = 16 := by rw [hc]; exact k1L_length _
      have hdl : d.length = 16 := by rw [hd]; exact k2L_length _
      have HCD := Lib.hid (And.intro hc hd)
      have hqc := run_equal_bytes 29 16 Try.underlying29 c c hcl hcl
      rw [decide_eq_true rfl] at hqc
      have hqd := run_equal_bytes 29 16 Try.underlying29 d d hdl hdl
      rw [decide_eq_true rfl] at hqd
      clear hc hd
      have hcb := cBlocks_any l b o cap0 V HL16.out HB.out (fun j u hu => by have := HR.out j u hu; exact (HV.out.2.cell (p := ⟨b, o + j, none⟩) (World.block_lt_of_cell? w _ this)).trans this)
      rw [← HCD.out.1, ← HCD.out.2] at hcb
      refine hcb.mono ?_
      clear hcb
      rintro e w1 ⟨rfl, hb1⟩
      have H1 := Lib.hid (HV.out.2.trans (hb1.mono HV.out.2.size))
      clear hb1 HV
      obtain ⟨HS0, HS1, HSB⟩ := rows2 w1 29 29 (bv (zeroL 16)) (bv (zeroL 16))
      go_wp2_with (refine wpList_store_Row rfl 29 _ _ rfl w1.heap.size (bv c) rfl rfl HS0.out (I16.out c hcl) (LIN.out c hcl) (bv_one _) ?_; refine stay ?_)
      refine go_on ?_
      refine wpList_store_Row rfl 29 _ _ rfl (w1.heap.size + 1) (bv d) rfl rfl (HS1.out.putOther (by omega) _) (I16.out d hdl) (LIN.out d hdl) (bv_one _) ?_
      have hF : Row ((((w1.alloc (.cells (bv (zeroL 16)).toArray 29)).alloc (.cells (bv (zeroL 16)).toArray 29)).setRow w1.heap.size (bv c).toArray).setRow (w1.heap.size + 1) (bv d).toArray) w1.heap.size 29 (bv c) ∧
          Row ((((w1.alloc (.cells (bv (zeroL 16)).toArray 29)).alloc (.cells (bv (zeroL 16)).toArray 29)).setRow w1.heap.size (bv c).toArray).setRow (w1.heap.size + 1) (bv d).toArray) (w1.heap.size + 1) 29 (bv d) ∧
          Below w1.heap.size w1 ((((w1.alloc (.cells (bv (zeroL 16)).toArray 29)).alloc (.cells (bv (zeroL 16)).toArray 29)).setRow w1.heap.size (bv c).toArray).setRow (w1.heap.size + 1) (bv d).toArray) :=
        ⟨(HS0.out.put _).putOther (by omega) _, (HS1.out.putOther (by omega) _).put _, below_setRow (below_setRow HSB.out (Nat.le_refl _) _) (Nat.le_succ _) _⟩
      generalize hWW : (((w1.alloc _).alloc _).setRow _ _).setRow _ _ = w2
      have HF : Hid (Row w2 w1.heap.size 29 (bv c) ∧ Row w2 (w1.heap.size + 1) 29 (bv d) ∧ Below w1.heap.size w1 w2) := by rw [← hWW]; exact hF
      clear hF hWW HS0 HS1 HSB
      have H2 : Hid (Row w2 w1.heap.size 29 (bv c) ∧ Row w2 (w1.heap.size + 1) 29 (bv d) ∧ Below w.heap.size w w2) := ⟨HF.out.1, HF.out.2.1, H1.out.trans (HF.out.2.2.mono H1.out.size)⟩
      clear HF H1
      go_wp2_with (fail)
      have hrb := r4Blocks_any l b o cap0 w2 HL16.out HB.out (fun j u hu => by have := HR.out j u hu; exact (H2.out.2.2.cell (p := ⟨b, o + j, none⟩) (World.block_lt_of_cell? w _ this)).trans this)
      rw [← HCD.out.1, ← HCD.out.2] at hrb
      refine hrb.mono ?_
      clear hrb
      rintro e w3 ⟨rfl, hb3⟩
      have H3 : Hid (Row w3 w1.heap.size 29 (bv c) ∧ Row w3 (w1.heap.size + 1) 29 (bv d) ∧ Below w.heap.size w w3) := ⟨H2.out.1.below hb3 H2.out.1.lt, H2.out.2.1.below hb3 H2.out.2.1.lt, H2.out.2.2.trans (hb3.mono H2.out.2.2.size)⟩
      clear hb3 H2
      obtain ⟨HS0, HS1, HSB⟩ := rows2 w3 29 29 (bv (zeroL 16)) (bv (zeroL 16))
      go_wp2_with (refine wpList_store_Row rfl 29 _ _ rfl w3.heap.size (bv c) rfl rfl HS0.out (I16.out c hcl) (LIN.out c hcl) (bv_one _) ?_; refine stay ?_)
      refine go_on ?_
      refine wpList_store_Row rfl 29 _ _ rfl (w3.heap.size + 1) (bv d) rfl rfl (HS1.out.putOther (by omega) _) (I16.out d hdl) (LIN.out d hdl) (bv_one _) ?_
      have hF : Row ((((w3.alloc (.cells (bv (zeroL 16)).toArray 29)).alloc (.cells (bv (zeroL 16)).toArray 29)).setRow w3.heap.size (bv c).toArray).setRow (w3.heap.size + 1) (bv d).toArray) w3.heap.size 29 (bv c) ∧
          Row ((((w3.alloc (.cells (bv (zeroL 16)).toArray 29)).alloc (.cells (bv (zeroL 16)).toArray 29)).setRow w3.heap.size (bv c).toArray).setRow (w3.heap.size + 1) (bv d).toArray) (w3.heap.size + 1) 29 (bv d) ∧
          Below w3.heap.size w3 ((((w3.alloc (.cells (bv (zeroL 16)).toArray 29)).alloc (.cells (bv (zeroL 16)).toArray 29)).setRow w3.heap.size (bv c).toArray).setRow (w3.heap.size + 1) (bv d).toArray) :=
        ⟨(HS0.out.put _).putOther (by omega) _, (HS1.out.putOther (by omega) _).put _, below_setRow (below_setRow HSB.out (Nat.le_refl _) _) (Nat.le_succ _) _⟩
      generalize hWW : (((w3.alloc _).alloc _).setRow _ _).setRow _ _ = w4
      have HF : Hid (Row w4 w3.heap.size 29 (bv c) ∧ Row w4 (w3.heap.size + 1) 29 (bv d) ∧ Below w3.heap.size w3 w4) := by rw [← hWW]; exact hF
      clear hF hWW HS0 HS1 HSB
      have H4 : Hid (Row w4 w1.heap.size 29 (bv c) ∧ Row w4 (w1.heap.size + 1) 29 (bv d) ∧ Row w4 w3.heap.size 29 (bv c) ∧ Row w4 (w3.heap.size + 1) 29 (bv d) ∧ Below w.heap.size w w4) := ⟨H3.out.1.below HF.out.2.2 H3.out.1.lt, H3.out.2.1.below HF.out.2.2 H3.out.2.1.lt, HF.out.1, HF.out.2.1, H3.out.2.2.trans (HF.out.2.2.mono H3.out.2.2.size)⟩
      clear HF H3
      go_wp2_with (first | (refine wpList_load_Row rfl 29 _ rfl w1.heap.size rfl H4.out.1 Try.underlying29 (I16.out c hcl) ?_) | (refine wpList_load_Row rfl 29 _ rfl w3.heap.size rfl H4.out.2.2.1 Try.underlying29 (I16.out c hcl) ?_; refine stay ?_))
      refine go_on ?_
      go_wp2_with (first | (refine wpList_load_g (by kernel_rfl) 29 _ rfl (w1.heap.size + 1) rfl H4.out.2.1 Try.underlying29 (I16.out d hdl) ?_) | (refine wpList_load_g (by kernel_rfl) 29 _ rfl (w3.heap.size + 1) rfl H4.out.2.2.2.1 Try.underlying29 (I16.out d hdl) ?_; refine stay ?_))
      refine go_on ?_
      go_wp2_with (fail)
      refine (num4_any 0 _).mono ?_
      rintro e w' ⟨rfl, rfl⟩
      go_wp2_with (fail)
      refine (works4_any _).mono ?_
      rintro e w9 ⟨rfl, hb9⟩
      go_wp2
      go_ret
      exact ⟨rfl, H4.out.2.2.2.2.trans (hb9.mono H4.out.2.2.2.2.size)⟩
    · have hzl := zeroL_length 16
      have hqz := run_equal_bytes 29 16 Try.underlying29 (zeroL 16) (zeroL 16) hzl hzl
      rw [decide_eq_true rfl] at hqz
      have hne : ¬ ((n : Int) = 16) := by omega
      refine (cBlocks_bad p0 n cap0 V h16).mono ?_
      rintro e w1 ⟨rfl, hb1⟩
      have H1 := Lib.hid (HV.out.2.trans (hb1.mono HV.out.2.size))
      clear hb1 HV h16
      obtain ⟨HS0, HS1, HSB⟩ := rows2 w1 29 29 (bv (zeroL 16)) (bv (zeroL 16))
      go_wp2_with (refine wpList_store_Row rfl 29 _ _ rfl w1.heap.size (bv (zeroL 16)) rfl rfl HS0.out (I16.out (zeroL 16) hzl) (LIN.out (zeroL 16) hzl) (bv_one _) ?_; refine stay ?_)
      refine go_on ?_
      refine wpList_store_Row rfl 29 _ _ rfl (w1.heap.size + 1) (bv (zeroL 16)) rfl rfl (HS1.out.putOther (by omega) _) (I16.out (zeroL 16) hzl) (LIN.out (zeroL 16) hzl) (bv_one _) ?_
      have hF : Row ((((w1.alloc (.cells (bv (zeroL 16)).toArray 29)).alloc (.cells (bv (zeroL 16)).toArray 29)).setRow w1.heap.size (bv (zeroL 16)).toArray).setRow (w1.heap.size + 1) (bv (zeroL 16)).toArray) w1.heap.size 29 (bv (zeroL 16)) ∧
          Row ((((w1.alloc (.cells (bv (zeroL 16)).toArray 29)).alloc (.cells (bv (zeroL 16)).toArray 29)).setRow w1.heap.size (bv (zeroL 16)).toArray).setRow (w1.heap.size + 1) (bv (zeroL 16)).toArray) (w1.heap.size + 1) 29 (bv (zeroL 16)) ∧
          Below w1.heap.size w1 ((((w1.alloc (.cells (bv (zeroL 16)).toArray 29)).alloc (.cells (bv (zeroL 16)).toArray 29)).setRow w1.heap.size (bv (zeroL 16)).toArray).setRow (w1.heap.size + 1) (bv (zeroL 16)).toArray) :=
        ⟨(HS0.out.put _).putOther (by omega) _, (HS1.out.putOther (by omega) _).put _, below_setRow (below_setRow HSB.out (Nat.le_refl _) _) (Nat.le_succ _) _⟩
      generalize hWW : (((w1.alloc _).alloc _).setRow _ _).setRow _ _ = w2
      have HF : Hid (Row w2 w1.heap.size 29 (bv (zeroL 16)) ∧ Row w2 (w1.heap.size + 1) 29 (bv (zeroL 16)) ∧ Below w1.heap.size w1 w2) := by rw [← hWW]; exact hF
      clear hF hWW HS0 HS1 HSB
      have H2 : Hid (Row w2 w1.heap.size 29 (bv (zeroL 16)) ∧ Row w2 (w1.heap.size + 1) 29 (bv (zeroL 16)) ∧ Below w.heap.size w w2) := ⟨HF.out.1, HF.out.2.1, H1.out.trans (HF.out.2.2.mono H1.out.size)⟩
      clear HF H1
      go_wp2_with (first | (refine wpList_load_Row rfl 29 _ rfl w1.heap.size rfl H2.out.1 Try.underlying29 (I16.out _ hzl) ?_) | (refine wpList_load_g (by kernel_rfl) 29 _ rfl (w1.heap.size + 1) rfl H2.out.2.1 Try.underlying29 (I16.out _ hzl) ?_; refine stay ?_))
      refine go_on ?_
      go_wp2_with (fail)
      refine (num4_any 2 _).mono ?_
      rintro e w' ⟨rfl, rfl⟩
      go_wp2_with (fail)
      refine (works4_any _).mono ?_
      rintro e w9 ⟨rfl, hb9⟩
      go_wp2
      go_ret
      exact ⟨rfl, H2.out.2.2.trans (hb9.mono H2.out.2.2.size)⟩
set_option maxRecDepth 100000 in
theorem cmacBlocks_lifted (os : Os) (started : os.Started) (H : Type) (enc : TypeId × Value → H) :
    ReturnsInHanded {} Try.checked os 11 .any (Rows.cmacBlocksSpec.pre6 enc Try.prog Try.f11 Rows.cmacBlocksRow.domain false) (Rows.cmacBlocksSpec.post enc Try.prog Try.f11 false true false false) := by
  refine returnsInHanded_of_change (C := Try.checked) own started (by kernel_rfl) Try.func11
    (ChangeSpec.witness6 (enc := enc) (C := Try.checked) false ⟨#[], #[.slice none 0 0], []⟩ 8 (by kernel_rfl) (by kernel_rfl) (by kernel_rfl) (by kernel_rfl)) ?_
  intro W base args ds gs before hval0 hW hcnd _
  have hval : ∀ (j : Nat) t v, Try.f11.params[j]? = some t → args[j]? = some v → Value.okWide Try.prog W .any base t v := hval0
  have hW' := hW
  obtain ⟨p, q, hA, hV, rfl, hfz, hnd⟩ := hW
  rw [show Try.f11.params.toList = [34] from rfl] at hA
  obtain ⟨rfl, rfl⟩ := trodVars_none hV
  obtain ⟨v0, d0, rfl, rfl, h0⟩ := trodAll_one hA
  obtain ⟨l, hs, hb, _⟩ := open_sl Try.underlying34 Try.underlying5 cells_u8 (hval 0 34 v0 rfl rfl) h0
  refine (cmacBlocks_walk v0 l W hb hs).mono fun e W' ⟨he, hb⟩ => ?_
  subst he
  exact post_true laidOut hW' hb rfl (by kernel_rfl) rfl Try.underlying4 rfl
theorem cmacBlocks_over : Rows.cmacBlocksRow.holds Try.pinned (OpenSpec.ofChange Rows.cmacBlocksSpec) :=
  OpenClaim.holds_of_wide 11 Try.f11 rfl rfl rfl rfl rfl rfl rfl ⟨rfl, rfl, rfl, rfl, rfl⟩ rfl rfl rfl rfl rfl (by kernel_rfl) Try.func11 (by kernel_rfl)
    (of_decide_eq_true (by kernel_rfl)) (by unfold Func.isWrapper; first | (rw [if_pos (by decide +kernel)]; kernel_rfl) | (rw [if_neg (by decide +kernel)]; exact ⟨rfl, rfl⟩))
    (fun os started H enc _ => cmacBlocks_lifted os started H enc)
theorem cmacBlocks_holds : Rows.CmacBlocksSaid := cmacBlocks_over
#print axioms cmacBlocks_holds
end Go.Proofs.Ytfkpilfnhgjmfaa
