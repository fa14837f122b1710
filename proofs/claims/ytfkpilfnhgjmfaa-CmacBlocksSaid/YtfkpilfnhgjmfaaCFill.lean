/-
  cmac: the last block, filled up.
-/
import Derived.Test.YtfkpilfnhgjmfaaCWrite
import Derived.Lib.SlBuf
import Derived.Laws.CopyRow
namespace Go.Proofs.Ytfkpilfnhgjmfaa
open Go.RowKit
theorem sizeU8 : (Try.prog.info? 5).map (·.size) = some 1 := by kernel_rfl
/-- copy(d, s), d a slice of a whole row of bytes -/
theorem run_copy_bytes {w : World} {g n dc : Nat} {t ty : TypeId} {d l : List Int} {v : Value} (hr : Row w g t (bv d)) (hd : d.length = n) (hs : Sl w v l) :
    ∃ w', (Builtin.copy_ #[34, 34] ty #[.slice (some ⟨g, 0, none⟩) n dc, v]).run Try.prog w = .ok (.int .i64 ((min l.length n : Nat) : Int)) w' ∧ Row w' g t (bv (l.take n ++ d.drop (min l.length n))) ∧ (∀ m, m ≤ g → Below m w w') ∧ w'.heap.size = w.heap.size ∧ ∀ k, k ≠ g → w'.heap[k]? = w.heap[k]? := by
  rcases hs with ⟨rfl, rfl⟩ | ⟨a, cap, rfl, hc⟩
  · refine ⟨w, ?_, by simpa using hr, fun m _ => Below.refl m w, rfl, fun _ _ => rfl⟩
    rw [run_copy_nil Try.prog w 34 34 ty 5 ⟨g, 0, none⟩ n dc Try.underlying34 (by rw [sizeU8]; rfl)]
    simp [goInt]
  · have hlen : (bv (l.take n)).length = Nat.min l.length n := by rw [bv_length, List.length_take]; exact Nat.min_comm _ _
    have hrun := run_copy_row (P := Try.prog) w 34 34 ty 5 g 0 n dc a l.length cap (bv d).toArray t (bv (l.take n)) Try.underlying34 sizeU8 hr hlen (fun j u hu => hc j u (by
      have hj : j < n := by
        have := (List.getElem?_eq_some_iff.1 hu).1
        rw [hlen] at this
        exact Nat.lt_of_lt_of_le this (Nat.min_le_right _ _)
      rw [← hu]
      simp [bv, hj])) (by rw [hlen]; have := Nat.min_le_right l.length n; simp [bv, hd]; omega) (bv_one _)
    have e : ((bv d).toArray.toList.take 0 ++ bv (l.take n) ++ (bv d).toArray.toList.drop (0 + (bv (l.take n)).length)).toArray = (bv (l.take n ++ d.drop (min l.length n))).toArray := by
      rw [hlen]
      simp [bv]
    rw [e, hlen] at hrun
    refine ⟨_, hrun.trans rfl, hr.put _, fun m hm => below_setRow (Below.refl m w) hm _, size_setRow _ _ _, fun k hk => ?_⟩
    simp only [World.setRow, Array.getElem?_modify]
    rw [if_neg (Ne.symm hk)]
theorem run_slice_blk16 (b : Nat) (w : World) : (Instr.sliceAt 29 (.pointer (some ⟨b, 0, none⟩)) none none none).run Try.prog w = .ok (.slice (some ⟨b, 0, none⟩) 16 16) w := by kernel_rfl
theorem fill_zero (r : List Int) (h : r.length ≤ 16) : r.take 16 ++ (zeroL 16).drop (min r.length 16) = tab 16 (el r) := by
  rw [List.take_of_length_le h, Nat.min_eq_left h]
  apply List.ext_getElem?
  intro i
  by_cases h1 : i < r.length
  · rw [List.getElem?_append_left h1]
    simp [tab, el, h1, Nat.lt_of_lt_of_le h1 h]
  · rw [List.getElem?_append_right (by omega), List.getElem?_drop]
    by_cases h2 : i < 16
    · simp [zeroL, tab, el, h2, h1, show r.length + (i - r.length) = i by omega]
    · simp [zeroL, tab, h2, show r.length + (i - r.length) = i by omega]
set_option maxRecDepth 100000 in
set_option maxHeartbeats 1600000 in
theorem cFilled_any (P F S B g : Nat) (key x r : List Int) (lv : Value) (w : World) (rP : Row w P 67 [.pointer (some ⟨B, 0, none⟩)]) (rB : Row w B 101 (macL (some ⟨g, 0, none⟩) x lv)) (hx : x.length = 16) (hs : Sl w lv r) (hr : r.length ≤ 16)
    (rF : Row w F 29 (bv (k1L key))) (rS : Row w S 29 (bv (k2L key))) :
    Calls Try.prog 70 #[.pointer (some ⟨P, 0, none⟩), .pointer (some ⟨F, 0, none⟩), .pointer (some ⟨S, 0, none⟩)] w fun e w' => e = .returned (.agg (bv (fillL key r)).toArray) ∧ Below w.heap.size w w' := by
  obtain ⟨pl, cl, el'⟩ := hs.form
  obtain ⟨a, ha⟩ : ∃ a, a = k1L key := ⟨_, rfl⟩
  obtain ⟨b, hb⟩ : ∃ b, b = k2L key := ⟨_, rfl⟩
  have hal : a.length = 16 := by rw [ha]; exact k1L_length _
  have hbl : b.length = 16 := by rw [hb]; exact k2L_length _
  obtain ⟨f, hf⟩ : ∃ f, f = fillL key r := ⟨_, rfl⟩
  have hfa : r.length = 16 → f = xorL (tab 16 (el r)) a := fun h => by rw [hf, fillL, if_pos h, ha]
  have hfb : r.length ≠ 16 → f = xorL ((tab 16 (el r)).set r.length 128) b := fun h => by rw [hf, fillL, if_neg h, hb]
  have hfl : f.length = 16 := by rw [hf, fillL]; split <;> exact xorL_length _ _
  have HF := Lib.hid (And.intro hfa hfb)
  rw [← ha] at rF
  rw [← hb] at rS
  rw [← hf]
  have n0 := Lib.hid (Row.new w 29 (bv (zeroL 16)))
  have hsl := run_slice_blk16
  have i16 : ∀ l : List Int, l.length = 16 → (Try.prog.info? 29).map (·.size) = some (bv l).length := fun l h => by rw [bv_length, h]; kernel_rfl
  have I16 := Lib.hid i16
  have H0 := Lib.hid (And.intro rP (And.intro rB (And.intro hs (And.intro rF rS))))
  have HX := Lib.hid hx
  have HR := Lib.hid hr
  clear rP rB hs rF rS hx hr hfa hfb ha hb hf i16
  subst el'
  go_enter Try.func70, Try.ntmps70
  go_upto_region 1 with (fail)
  have hbV : Below w.heap.size w (w.alloc (.cells (bv (zeroL 16)).toArray 29)) := (Below.refl _ w).alloc (Nat.le_refl _) _
  generalize hV : w.alloc _ = V
  have HV : Hid (Row V w.heap.size 29 (bv (zeroL 16)) ∧ Below w.heap.size w V) := by rw [← hV]; exact ⟨n0.out, hbV⟩
  clear hV hbV n0
  have H1 : Hid (Row V P 67 [.pointer (some ⟨B, 0, none⟩)] ∧ Row V B 101 (macL (some ⟨g, 0, none⟩) x (.slice pl r.length cl)) ∧ Sl V (.slice pl r.length cl) r ∧ Row V F 29 (bv a) ∧ Row V S 29 (bv b)) := by
    obtain ⟨h1, h2, h3, h4, h5⟩ := H0.out
    have hb := HV.out.2
    exact ⟨h1.below hb h1.lt, h2.below hb h2.lt, h3.over hb, h4.below hb h4.lt, h5.below hb h5.lt⟩
  have hlt4 : F < w.heap.size ∧ S < w.heap.size := ⟨H0.out.2.2.2.1.lt, H0.out.2.2.2.2.lt⟩
  clear H0
  obtain ⟨X, hX, gx, hgx⟩ := Ext.over_index V
  have hov : ∀ x', Below V.heap.size V (gx x') := fun x' => (hgx _).2 ⟨x', rfl⟩
  have c0 : ∀ x', (gx x').cell? ⟨P, 0, none⟩ = some (.pointer (some ⟨B, 0, none⟩)) := fun x' => (H1.out.1.below (hov x') H1.out.1.lt).cell (i := 0) rfl
  have c1 : ∀ x', (gx x').cell? ⟨B, 17, none⟩ = some (.slice pl r.length cl) := fun x' => (H1.out.2.1.below (hov x') H1.out.2.1.lt).cell (mac_last _ _ _ HX.out)
  have HGI := Lib.hid hgx
  clear hov hgx
  refine Ext.region 5 (fun _ => none) (fun w' => ∃ x, w' = gx x) (by kernel_rfl) (by kernel_rfl) ((HGI.out _).1 (Ext.Over.drew V)) (fun j s h => by cases h) ?_
  simp only [List.take_succ_cons, List.take_zero, List.drop_succ_cons, List.drop_zero]
  refine Ext.walk_take 2 (by kernel_rfl) (by kernel_rfl) (by kernel_rfl) ?_
  simp only [List.take_succ_cons, List.take_zero, List.drop_succ_cons, List.drop_zero]
  repeat (go_big_quiet_step (fail))
  refine wpQuiet_nil ?_
  refine Ext.walk_det (.pointer (some ⟨B, 0, none⟩)) (Ext.wanted_plain rfl) rfl (by intro _ _; go_simp) ?_
  simp only [Act.put, List.setIfInBounds_toArray, List.set_cons_zero, List.set_cons_succ]
  refine Ext.walk_take 2 (by kernel_rfl) (by kernel_rfl) (by kernel_rfl) ?_
  simp only [List.take_succ_cons, List.take_zero, List.drop_succ_cons, List.drop_zero]
  repeat (go_big_quiet_step (fail))
  refine wpQuiet_nil ?_
  refine Ext.walk_end ?_
  intro wx hwx _
  have hov : Below V.heap.size V wx := (HGI.out _).2 hwx
  obtain ⟨w2, hrun, hrow, hbl2, hsz2, hoth⟩ := run_copy_bytes (ty := 3) (dc := 16) (HV.out.1.below hov HV.out.1.lt) (zeroL_length 16) (H1.out.2.2.1.over hov)
  rw [fill_zero r HR.out, Nat.min_eq_left HR.out] at *
  have H2 : Hid (Row w2 w.heap.size 29 (bv (tab 16 (el r))) ∧ Row w2 F 29 (bv a) ∧ Row w2 S 29 (bv b) ∧ Below w.heap.size w w2) := by
    obtain ⟨-, -, -, h4, h5⟩ := H1.out
    have h4' := h4.below hov h4.lt
    have h5' := h5.below hov h5.lt
    exact ⟨hrow, (hoth F (by omega)).trans h4', (hoth S (by omega)).trans h5', HV.out.2.trans ((hov.mono HV.out.2.size).trans (hbl2 _ (Nat.le_refl _)))⟩
  have HRUN := Lib.hid hrun
  clear hwx hov hrun hrow hbl2 hsz2 hoth HGI c0 c1 hX gx X H1 HV
  refine Lib.wpList_copy_run _ rfl _ _ _ _ rfl _ _ rfl rfl HRUN.out ?_
  obtain ⟨c, hc⟩ : ∃ c, c = tab 16 (el r) := ⟨_, rfl⟩
  have hcl : c.length = 16 := by rw [hc]; exact tab_length _ _
  rw [← hc] at H2 HF
  obtain ⟨n, hn⟩ : ∃ n, n = r.length := ⟨_, rfl⟩
  rw [← hn] at HR HF ⊢
  clear hc hn HRUN
  by_cases h16 : n = 16
  · have hfe := HF.out.1 h16
    clear HF
    subst h16 hfe
    have H2b : Hid (Row w2 w.heap.size 29 (bv c) ∧ Row w2 F 29 (bv a) ∧ Below w.heap.size w w2) := ⟨H2.out.1, H2.out.2.1, H2.out.2.2.2⟩
    clear H2
    go_wp2_with (first | (refine wpList_load_Row rfl 29 _ rfl w.heap.size rfl H2b.out.1 Try.underlying29 (I16.out c hcl) ?_) | (refine wpList_load_Row rfl 29 _ rfl F rfl H2b.out.2.1 Try.underlying29 (I16.out a hal) ?_; refine stay ?_))
    refine go_on ?_
    go_wp2_with (fail)
    refine (cXor_any c a w2 hcl hal).mono ?_
    rintro e w3 ⟨rfl, hb3⟩
    have H3 : Hid (Row w3 w.heap.size 29 (bv c) ∧ Below w.heap.size w w3) := ⟨H2b.out.1.below hb3 H2b.out.1.lt, H2b.out.2.2.trans (hb3.mono H2b.out.2.2.size)⟩
    have hcl : c.length = 16 := hcl
    have fin : (bv c).length = (bv (xorL c a)).length := by rw [bv_length, bv_length, hfl, hcl]
    have FIN := Lib.hid fin
    clear hb3 H2b fin
    go_wp2_with (refine wpList_store_Row rfl 29 _ _ rfl w.heap.size (bv (xorL c a)) rfl rfl H3.out.1 (I16.out (xorL c a) hfl) FIN.out (bv_one _) ?_; refine stay ?_)
    refine go_on ?_
    have H4 : Row (w3.setRow w.heap.size (bv (xorL c a)).toArray) w.heap.size 29 (bv (xorL c a)) ∧ Below w.heap.size w (w3.setRow w.heap.size (bv (xorL c a)).toArray) := ⟨H3.out.1.put _, below_setRow H3.out.2 (Nat.le_refl _) _⟩
    generalize w3.setRow _ _ = w4 at H4 ⊢
    clear H3
    go_wp2
    exact bodyPost_ret (results_Row rfl _ _ w.heap.size rfl H4.1 Try.underlying29 (I16.out (xorL c a) hfl)) rfl ⟨rfl, H4.2⟩
  · have hfe := HF.out.2 h16
    clear HF
    subst hfe
    have hlt : (n : Int) < 16 := by have := HR.out; omega
    have hn0 : (0 : Int) ≤ (n : Int) := by omega
    have hne : ¬ ((n : Int) = 16) := by omega
    have cn := H2.out.1.cell (bv_get c n (by have := HR.out; omega))
    have fn := H2.out.1.frozen n
    have H2b : Hid (Row (w2.setCell ⟨w.heap.size, n, none⟩ (.int .u8 128)) w.heap.size 29 (bv (c.set n 128)) ∧ Row (w2.setCell ⟨w.heap.size, n, none⟩ (.int .u8 128)) S 29 (bv b) ∧ Below w.heap.size w (w2.setCell ⟨w.heap.size, n, none⟩ (.int .u8 128))) := by
      refine ⟨?_, H2.out.2.2.1.other (by show S ≠ w.heap.size; omega) _, H2.out.2.2.2.setCell (p := ⟨w.heap.size, n, none⟩) (Nat.le_refl _) _⟩
      have := H2.out.1.set n (.int .u8 128)
      rwa [bv_set] at this
    have hdl : (c.set n 128).length = 16 := by rw [List.length_set, hcl]
    clear H2 h16
    go_upto_region 5 with (fail)
    generalize w2.setCell _ _ = w2b at H2b ⊢
    clear cn fn
    go_wp2_with (first | (refine wpList_load_Row rfl 29 _ rfl w.heap.size rfl H2b.out.1 Try.underlying29 (I16.out _ hdl) ?_) | (refine wpList_load_Row rfl 29 _ rfl S rfl H2b.out.2.1 Try.underlying29 (I16.out b hbl) ?_; refine stay ?_))
    refine go_on ?_
    go_wp2_with (fail)
    refine (cXor_any (c.set n 128) b w2b hdl hbl).mono ?_
    rintro e w3 ⟨rfl, hb3⟩
    have H3 : Hid (Row w3 w.heap.size 29 (bv (c.set n 128)) ∧ Below w.heap.size w w3) := ⟨H2b.out.1.below hb3 H2b.out.1.lt, H2b.out.2.2.trans (hb3.mono H2b.out.2.2.size)⟩
    have hcl : (c.set n 128).length = 16 := hdl
    have fin : (bv (c.set n 128)).length = (bv (xorL (c.set n 128) b)).length := by rw [bv_length, bv_length, hfl, hcl]
    have FIN := Lib.hid fin
    clear hb3 H2b fin
    go_wp2_with (refine wpList_store_Row rfl 29 _ _ rfl w.heap.size (bv (xorL (c.set n 128) b)) rfl rfl H3.out.1 (I16.out (xorL (c.set n 128) b) hfl) FIN.out (bv_one _) ?_; refine stay ?_)
    refine go_on ?_
    have H4 : Row (w3.setRow w.heap.size (bv (xorL (c.set n 128) b)).toArray) w.heap.size 29 (bv (xorL (c.set n 128) b)) ∧ Below w.heap.size w (w3.setRow w.heap.size (bv (xorL (c.set n 128) b)).toArray) := ⟨H3.out.1.put _, below_setRow H3.out.2 (Nat.le_refl _) _⟩
    generalize w3.setRow _ _ = w4 at H4 ⊢
    clear H3
    go_wp2
    exact bodyPost_ret (results_Row rfl _ _ w.heap.size rfl H4.1 Try.underlying29 (I16.out (xorL (c.set n 128) b) hfl)) rfl ⟨rfl, H4.2⟩
end Go.Proofs.Ytfkpilfnhgjmfaa
