/-
  The code's iterator over the steps of a block: eleven rounds, in each the number and the step, whatever the rounds' bodies do.
-/
import Derived.Test.YtfkpilfnhgjmfaaStep
namespace Go.Proofs.Ytfkpilfnhgjmfaa
open Go.RowKit
attribute [local go_sem] Oper.semAt_some noJump_normal noJump_exit noJump_ret noJump_panic wide_fn wide_depth
theorem Row.of_size {w : World} {t : TypeId} {vs : List Value} {n : Nat} (h : w.heap.size = n) : Row (w.alloc (.cells vs.toArray t)) n t vs := by subst h; exact Row.new w t vs
/-- what is known ahead of round n -/
def SI (H Bx Bd : Nat) (J : Nat → World → Prop) (key b : List Int) (n : Nat) (wr : World) : Prop :=
  J n wr ∧ Row wr Bx 29 (bv (prevL key b n)) ∧ Row wr Bd 50 [.func (.func 60) #[] #[], .func (.func 61) #[] #[], .func (.func 62) #[] #[]] ∧ H ≤ Bx ∧ Bx < Bd
/-- within a round -/
def SJ (H Bx Bd Bk : Nat) (J : Nat → World → Prop) (key : List Int) (m : Nat) (x : List Int) (V : World) : Prop :=
  J m V ∧ Row V Bx 29 (bv x) ∧ Row V Bd 50 [.func (.func 60) #[] #[], .func (.func 61) #[] #[], .func (.func 62) #[] #[]] ∧ Row V Bk 29 (bv (kS key m)) ∧ H ≤ Bx ∧ Bx < Bd ∧ Bd < Bk ∧ x.length = 16
theorem SJ.below {H Bx Bd Bk : Nat} {J : Nat → World → Prop} {key : List Int} {m : Nat} {x : List Int} {V V' : World} (hJ : ∀ (k : Nat) (A B : World), J k A → Below H A B → J k B) (h : SJ H Bx Bd Bk J key m x V) {s : Nat} (hb : Below s V V') (hs : Bk < s) : SJ H Bx Bd Bk J key m x V' := by
  obtain ⟨h0, h1, h2, h3, h4, h5, h6, h7⟩ := h
  exact ⟨hJ _ _ _ h0 (hb.mono (by omega)), h1.below hb (by omega), h2.below hb (by omega), h3.below hb (by omega), h4, h5, h6, h7⟩
theorem SJ.put {H Bx Bd Bk : Nat} {J : Nat → World → Prop} {key : List Int} {m : Nat} {x : List Int} {V : World} (hJ : ∀ (k : Nat) (A B : World), J k A → Below H A B → J k B) (h : SJ H Bx Bd Bk J key m x V) (y : List Int) (hy : y.length = 16) : SJ H Bx Bd Bk J key m y (V.setCells Bx 0 (bv y)) := by
  obtain ⟨h0, h1, h2, h3, h4, h5, h6, h7⟩ := h
  exact ⟨hJ _ _ _ h0 (below_setCells h4 _ _ (Below.refl _ _)), h1.putAll _ (by rw [bv_length, bv_length, hy, h7]), h2.putOtherIn (by omega) _ _, h3.putOtherIn (by omega) _ _, h4, h5, h6, hy⟩
/-- a walk stands here until it is sent on -/
def Stay (p : Prop) : Prop := p
theorem stay {p : Prop} (h : Stay p) : p := h
theorem go_on {p : Prop} (h : p) : Stay p := h
theorem boxed_do (l : List Int) (w : World) (hl : l.length = 16) (hB : Byt l) : Calls Try.prog 60 #[.agg (bv l).toArray] w fun e w' => e = .returned (.agg (bv (boxedL l)).toArray) ∧ Below w.heap.size w w' := boxed_any l w hl hB
theorem moved_do (l : List Int) (w : World) (hl : l.length = 16) (_ : Byt l) : Calls Try.prog 61 #[.agg (bv l).toArray] w fun e w' => e = .returned (.agg (bv (movedL l)).toArray) ∧ Below w.heap.size w w' := moved_any l w hl
theorem mixed_do (l : List Int) (w : World) (hl : l.length = 16) (hB : Byt l) : Calls Try.prog 62 #[.agg (bv l).toArray] w fun e w' => e = .returned (.agg (bv (mixedL l)).toArray) ∧ Below w.heap.size w w' := mixed_any l w hl hB
set_option maxRecDepth 100000 in
set_option maxHeartbeats 3200000 in
theorem stepsIt_gives (n P Q g : Nat) (key b : List Int) (T : Nat → Prop) (W : World) (hk : key.length = 16) (hB : Byt key) (lb : b.length = 16) (hb : Byt b)
    (rP : Row W P 30 [.pointer (some ⟨g, 0, none⟩)]) (rQ : Row W Q 29 (bv b)) (rc : IsCip W g key) :
    Gives Fence.wide n Try.prog 59 #[.pointer (some ⟨P, 0, none⟩), .pointer (some ⟨Q, 0, none⟩)] (fun k => #[.int .i64 (k : Int), .agg (bv (stepL key b k)).toArray]) 11 T W := by
  intro l J Jx hJ hJx hY h0
  have HK := Lib.hid hk
  have HB := Lib.hid hB
  have HL := Lib.hid lb
  have HBb := Lib.hid hb
  have i16 : (Try.prog.info? 29).map (·.size) = some (bv b).length := by rw [bv_length, lb]; kernel_rfl
  have I16 := Lib.hid i16
  have i176 : (Try.prog.info? 88).map (·.size) = some (flatK key 11).length := by rw [flatK_length key hk]; kernel_rfl
  have I176 := Lib.hid i176
  have hrg : W.rangeAt g 0 (flatK key 11) := rangeAt_app (a := []) (c := [.bool true]) rc
  have HRC := Lib.hid hrg
  have HQ := Lib.hid rQ
  have cP := rP.cell (i := 0) rfl
  have hnone := aNone_any key g W hk rc
  have HNO := Lib.hid hnone
  have n0 := Lib.hid (Row.new W 29 (bv (zeroL 16)))
  have hin : 0 + (bv b).length ≤ (bv (zeroL 16)).length := by rw [bv_length, bv_length, lb, zeroL_length]; omega
  have HIN := Lib.hid hin
  clear hk hB lb hb i16 i176 hrg rQ rP rc hnone hin
  refine callsIn_of_wp Try.func59 rfl trivial ?_ rfl
  simp only [Try.ntmps59, List.size_toArray, List.length_cons, List.length_nil, Nat.reduceAdd, Nat.reduceSub, Array.replicate_succ, Array.replicate_zero, List.push_toArray, List.append_toArray, List.nil_append, List.cons_append]
  refine wpIn_scope ?_
  gi_wp2_with (first | (gi_at_call 53; refine (callsIn_wide.2 HNO.out).mono ?_; rintro e w' ⟨rfl, rfl⟩) | (refine wpListIn_load_Row rfl 29 _ rfl _ rfl HQ.out Try.underlying29 I16.out ?_) | (refine wpListIn_store_in rfl 29 _ _ rfl W.heap.size 0 (bv b) rfl rfl n0.out I16.out HIN.out (bv_one _) ?_))
  have hs1 : ((W.alloc (.cells (bv (zeroL 16)).toArray 29)).setCells W.heap.size 0 (bv b)).heap.size = W.heap.size + 1 := by rw [size_setCells]; simp
  have hx1 := n0.out.putAll (bv b) (by rw [bv_length, bv_length, HL.out, zeroL_length])
  have hb1 : Below W.heap.size W ((W.alloc (.cells (bv (zeroL 16)).toArray 29)).setCells W.heap.size 0 (bv b)) := below_setCells (Nat.le_refl _) _ _ ((Below.refl _ W).alloc (Nat.le_refl _) _)
  have hd1 := Row.of_size hs1 (t := 50) (vs := [.func (.func 60) #[] #[], .func (.func 61) #[] #[], .func (.func 62) #[] #[]])
  have hsi : SI W.heap.size W.heap.size (W.heap.size + 1) J key b 0 (((W.alloc (.cells (bv (zeroL 16)).toArray 29)).setCells W.heap.size 0 (bv b)).alloc (.cells #[.func (.func 60) #[] #[], .func (.func 61) #[] #[], .func (.func 62) #[] #[]] 50)) :=
    ⟨hJ 0 _ _ h0 (hb1.alloc (by omega) _), hx1.alloc _, hd1, Nat.le_refl _, Nat.lt_succ_self _⟩
  have hbV := hb1.alloc (by omega : W.heap.size ≤ ((W.alloc (.cells (bv (zeroL 16)).toArray 29)).setCells W.heap.size 0 (bv b)).heap.size) (.cells #[.func (.func 60) #[] #[], .func (.func 61) #[] #[], .func (.func 62) #[] #[]] 50)
  have e1 : ((W.alloc (.cells #[Value.int .u8 0, Value.int .u8 0, Value.int .u8 0, Value.int .u8 0, Value.int .u8 0, Value.int .u8 0, Value.int .u8 0, Value.int .u8 0, Value.int .u8 0, Value.int .u8 0, Value.int .u8 0, Value.int .u8 0, Value.int .u8 0, Value.int .u8 0, Value.int .u8 0, Value.int .u8 0] 29)).setCells W.heap.size 0 (bv b)).heap.size = W.heap.size + 1 := hs1
  rw [e1]
  clear hs1 hx1 hb1 hd1 e1 HQ HNO n0 HIN
  generalize hV : ((W.alloc _).setCells W.heap.size 0 (bv b)).alloc _ = V
  have hsi' : SI W.heap.size W.heap.size (W.heap.size + 1) J key b 0 V := by rw [← hV]; exact hsi
  have hbV' : Below W.heap.size W V := by rw [← hV]; exact hbV
  clear hsi hbV hV
  have HSI := Lib.hid hsi'
  have hrg : V.rangeAt g 0 (flatK key 11) := fun j v hv => by
    have h := HRC.out j v hv
    exact (hbV'.cell (p := ⟨g, 0 + j, none⟩) (World.block_lt_of_cell? W _ h)).trans h
  have HRG := Lib.hid hrg
  have cV : V.cell? ⟨P, 0, none⟩ = some (.pointer (some ⟨g, 0, none⟩)) := (hbV'.cell (p := ⟨P, 0, none⟩) (World.block_lt_of_cell? W _ cP)).trans cP
  have HBV := Lib.hid hbV'
  clear cP hrg hsi' hbV' HRC
  gi_wp2_with (first | (refine wpIn_label ?_) | (refine wpListIn_load_in rfl 88 _ rfl g 0 rfl (flatK key 11) _ HRG.out Try.underlying88 rfl I176.out ?_))
  clear cV HRG
  gi_loopw [5, 18] (fun s i wr => ∃ m : Nat, m ≤ 11 ∧ i = .int .i64 m ∧ s = .slice (some ⟨W.heap.size + 1, 0, none⟩) (if m = 11 then 2 else 3) 3 ∧ SI W.heap.size W.heap.size (W.heap.size + 1) J key b m wr) (fun _ i _ => 11 - (intOf i).toNat)
  case atStart => exact ⟨0, by omega, rfl, rfl, HSI.out⟩
  case round =>
    obtain ⟨m, hm, rfl, rfl, hR⟩ := hrel
    have HR := Lib.hid hR
    clear hR
    by_cases hlt : m < 11
    · have hmm : m ≠ 11 := by omega
      have hix := run_index_sch key HK.out m hlt
      have n0 := Lib.hid (Row.new wr 29 (bv (zeroL 16)))
      have j16 : (Try.prog.info? 29).map (·.size) = some (bv (kS key m)).length := by rw [bv_length, kS_length key HK.out]; kernel_rfl
      have J16 := Lib.hid j16
      have hin : 0 + (bv (kS key m)).length ≤ (bv (zeroL 16)).length := by rw [bv_length, bv_length, kS_length key HK.out, zeroL_length]; omega
      have HIN := Lib.hid hin
      clear j16 hin
      have hwb : W.heap.size + 1 < wr.heap.size := HR.out.2.2.1.lt
      have hsj : SJ W.heap.size W.heap.size (W.heap.size + 1) wr.heap.size J key m (inL key b m 0) ((wr.alloc (.cells (bv (zeroL 16)).toArray 29)).setCells wr.heap.size 0 (bv (kS key m))) := by
        obtain ⟨h0, h1, h2, h3, h4⟩ := HR.out
        rw [inL_zero]
        exact ⟨hJ _ _ _ h0 ((below_setCells (Nat.le_refl _) _ _ ((Below.refl _ wr).alloc (Nat.le_refl _) _)).mono (by omega)), (h1.alloc _).putOtherIn (by omega) _ _, (h2.alloc _).putOtherIn (by omega) _ _, n0.out.putAll _ (by rw [bv_length, bv_length, kS_length key HK.out, zeroL_length]), h3, h4, hwb, prevL_length key b HL.out m⟩
      have HSJ := Lib.hid hsj
      clear hsj
      gi_wp2_with (refine wpListIn_store_in rfl 29 _ _ rfl wr.heap.size 0 (bv (kS key m)) rfl rfl n0.out J16.out HIN.out (bv_one _) ?_)
      all_goals first
        | (have h10 : m = 10 := by
            have ht : ((m : Int) == 10) = true := by assumption
            simp only [beq_iff_eq] at ht
            omega)
        | (have h10 : ¬ m = 10 := by
            have ht : ((m : Int) == 10) = false := by assumption
            simp only [beq_eq_false_iff_ne, ne_eq] at ht
            omega)
      all_goals
        clear J16 HIN n0 hix HR
        generalize hV2 : (wr.alloc _).setCells wr.heap.size 0 _ = V2
        have HSJ2 : Hid (SJ W.heap.size W.heap.size (W.heap.size + 1) wr.heap.size J key m (inL key b m 0) V2) := by rw [← hV2]; exact HSJ
        clear hV2 HSJ
        obtain ⟨wo, rfl⟩ : ∃ wo : World, wo = wr := ⟨_, rfl⟩
        gi_loopw [28] (fun i wv => ∃ j : Nat, j ≤ (if m = 10 then 2 else 3) ∧ i = .int .i64 j ∧ SJ W.heap.size W.heap.size (W.heap.size + 1) wo.heap.size J key m (inL key b m j) wv) (fun i _ => 3 - (intOf i).toNat)
        case atStart => exact ⟨0, by omega, rfl, HSJ2.out⟩
        case round =>
          obtain ⟨j, hj, rfl, hR⟩ := hrel
          have HR := Lib.hid hR
          clear hR
          by_cases hjc : j < (if m = 10 then 2 else 3)
          · have hj3 : j < 3 := by split at hjc <;> omega
            have hjd : j + 1 ≤ (if m = 10 then 2 else 3) := hjc
            have HJD := Lib.hid hjd
            have H10 := Lib.hid h10
            have hjm : j = 2 → ¬ m = 10 := by intro h1 h2; rw [if_pos h2] at hjc; omega
            simp only [h10, if_true, if_false] at hjc
            have hsz : wo.heap.size < wr.heap.size := HR.out.2.2.2.1.lt
            have HSZ := Lib.hid hsz
            clear hjd hsz
            by_cases hm0 : m = 0
            · first
                | (exfalso; omega)
                | (have e0 : inL key b m (j + 1) = inL key b m j := by unfold inL; rw [if_pos hm0, if_pos hm0]
                   have cf : wr.cell? ⟨W.heap.size + 1, j, none⟩ = some (([Value.func (.func 60) #[] #[], .func (.func 61) #[] #[], .func (.func 62) #[] #[]] : List Value).getD j undef) := HR.out.2.2.1.cell (by
                     rcases (by omega : j = 0 ∨ j = 1 ∨ j = 2) with rfl | rfl | rfl <;> rfl)
                   gi_wp2
                   go_roundw
                   case rel => exact ⟨j + 1, HJD.out, by go_num, by rw [e0]; exact HR.out⟩
                   case measure => simp [intOf]; omega)
            · have hl := inL_length key b HL.out m j
              have hby := inL_byt key b HB.out HBb.out m j
              have HLI := Lib.hid hl
              have HBI := Lib.hid hby
              have HM0 := Lib.hid hm0
              have k16 : (Try.prog.info? 29).map (·.size) = some (bv (inL key b m j)).length := by rw [bv_length, hl]; kernel_rfl
              have K16 := Lib.hid k16
              have hmp : 0 < m := by omega
              clear hl hby k16 hm0
              rcases (by omega : j = 0 ∨ j = 1 ∨ j = 2) with rfl | rfl | rfl
              · first
                | (exfalso; omega)
                | (have cf := HR.out.2.2.1.cell (i := 0) rfl
                   clear h10 hjm
                   gi_wp2_with (first | (gi_at_call 60; refine (callsIn_wide.2 (boxed_do (inL key b m 0) _ HLI.out HBI.out)).mono ?_; rintro e w2 ⟨rfl, hb2⟩; refine stay ?_) | (refine wpListIn_load_Row rfl 29 _ rfl _ rfl HR.out.2.1 Try.underlying29 K16.out ?_))
                   refine go_on ?_
                   have HS2 := Lib.hid (HR.out.below hJ hb2 HSZ.out)
                   have HS3 := Lib.hid (HS2.out.put hJ (boxedL (inL key b m 0)) (tab_length _ _))
                   have hstep : inL key b m (0 + 1) = boxedL (inL key b m 0) := by unfold inL; rw [if_neg HM0.out, if_neg HM0.out]; rfl
                   have HST := Lib.hid hstep
                   have y16 : (Try.prog.info? 29).map (·.size) = some (bv (boxedL (inL key b m 0))).length := by rw [bv_length, boxedL, tab_length]; kernel_rfl
                   have Y16 := Lib.hid y16
                   have yin : 0 + (bv (boxedL (inL key b m 0))).length ≤ (bv (inL key b m 0)).length := by rw [bv_length, bv_length, HLI.out, boxedL, tab_length]; omega
                   have YIN := Lib.hid yin
                   clear hstep y16 yin hb2 cf
                   gi_wp2_with (refine wpListIn_store_in rfl 29 _ _ rfl W.heap.size 0 (bv (boxedL (inL key b m 0))) rfl rfl HS2.out.2.1 Y16.out YIN.out (bv_one _) ?_; refine stay ?_)
                   refine go_on ?_
                   gi_wp2
                   go_roundw
                   case rel => exact ⟨0 + 1, by first | exact HJD.out | omega, by go_num, by first | (rw [HST.out]; exact HS3.out) | (have hmt : m = 10 := H10.out; subst hmt; rw [HST.out]; exact HS3.out)⟩
                   case measure => simp [intOf])
              · first
                | (exfalso; omega)
                | (have cf := HR.out.2.2.1.cell (i := 1) rfl
                   clear h10 hjm
                   gi_wp2_with (first | (gi_at_call 61; refine (callsIn_wide.2 (moved_do (inL key b m 1) _ HLI.out HBI.out)).mono ?_; rintro e w2 ⟨rfl, hb2⟩; refine stay ?_) | (refine wpListIn_load_Row rfl 29 _ rfl _ rfl HR.out.2.1 Try.underlying29 K16.out ?_))
                   refine go_on ?_
                   have HS2 := Lib.hid (HR.out.below hJ hb2 HSZ.out)
                   have HS3 := Lib.hid (HS2.out.put hJ (movedL (inL key b m 1)) (tab_length _ _))
                   have hstep : inL key b m (1 + 1) = movedL (inL key b m 1) := by unfold inL; rw [if_neg HM0.out, if_neg HM0.out]; rfl
                   have HST := Lib.hid hstep
                   have y16 : (Try.prog.info? 29).map (·.size) = some (bv (movedL (inL key b m 1))).length := by rw [bv_length, movedL, tab_length]; kernel_rfl
                   have Y16 := Lib.hid y16
                   have yin : 0 + (bv (movedL (inL key b m 1))).length ≤ (bv (inL key b m 1)).length := by rw [bv_length, bv_length, HLI.out, movedL, tab_length]; omega
                   have YIN := Lib.hid yin
                   clear hstep y16 yin hb2 cf
                   gi_wp2_with (refine wpListIn_store_in rfl 29 _ _ rfl W.heap.size 0 (bv (movedL (inL key b m 1))) rfl rfl HS2.out.2.1 Y16.out YIN.out (bv_one _) ?_; refine stay ?_)
                   refine go_on ?_
                   gi_wp2
                   go_roundw
                   case rel => exact ⟨1 + 1, by first | exact HJD.out | omega, by go_num, by first | (rw [HST.out]; exact HS3.out) | (have hmt : m = 10 := H10.out; subst hmt; rw [HST.out]; exact HS3.out)⟩
                   case measure => simp [intOf])
              · first
                | (exfalso; omega)
                | (have cf := HR.out.2.2.1.cell (i := 2) rfl
                   clear h10 hjm
                   gi_wp2_with (first | (gi_at_call 62; refine (callsIn_wide.2 (mixed_do (inL key b m 2) _ HLI.out HBI.out)).mono ?_; rintro e w2 ⟨rfl, hb2⟩; refine stay ?_) | (refine wpListIn_load_Row rfl 29 _ rfl _ rfl HR.out.2.1 Try.underlying29 K16.out ?_))
                   refine go_on ?_
                   have HS2 := Lib.hid (HR.out.below hJ hb2 HSZ.out)
                   have HS3 := Lib.hid (HS2.out.put hJ (mixedL (inL key b m 2)) (tab_length _ _))
                   have hstep : inL key b m (2 + 1) = mixedL (inL key b m 2) := by unfold inL; rw [if_neg HM0.out, if_neg HM0.out]; rfl
                   have HST := Lib.hid hstep
                   have y16 : (Try.prog.info? 29).map (·.size) = some (bv (mixedL (inL key b m 2))).length := by rw [bv_length, mixedL, tab_length]; kernel_rfl
                   have Y16 := Lib.hid y16
                   have yin : 0 + (bv (mixedL (inL key b m 2))).length ≤ (bv (inL key b m 2)).length := by rw [bv_length, bv_length, HLI.out, mixedL, tab_length]; omega
                   have YIN := Lib.hid yin
                   clear hstep y16 yin hb2 cf
                   gi_wp2_with (refine wpListIn_store_in rfl 29 _ _ rfl W.heap.size 0 (bv (mixedL (inL key b m 2))) rfl rfl HS2.out.2.1 Y16.out YIN.out (bv_one _) ?_; refine stay ?_)
                   refine go_on ?_
                   gi_wp2
                   go_roundw
                   case rel => exact ⟨2 + 1, by first | exact HJD.out | omega, by go_num, by first | (rw [HST.out]; exact HS3.out) | (have hmt : m = 10 := H10.out; subst hmt; rw [HST.out]; exact HS3.out)⟩
                   case measure => simp [intOf])
          · have hjc' : j = (if m = 10 then 2 else 3) := by omega
            have hsj : SJ W.heap.size W.heap.size (W.heap.size + 1) wo.heap.size J key m (inL key b m (if m = 10 then 2 else 3)) wr := by rw [← hjc']; exact HR.out
            have HE := Lib.hid hsj
            simp only [h10, if_true, if_false] at hjc'
            have H10 := Lib.hid h10
            clear hsj hjc HR h10
            subst hjc'
            gi_wp2_with (fail)
            refine (callsIn_wide.2 (each_any 64 #[.pointer (some ⟨W.heap.size, 0, none⟩), .pointer (some ⟨wo.heap.size, 0, none⟩)] (fun i => x8 (el (inL key b m (if m = 10 then 2 else 3)) i) (el (kS key m) i)) wr (enters_of Try.func64 (by kernel_rfl) rfl)
              (fun i w' hi hb => stepsXor_any W.heap.size wo.heap.size i _ _ w' (HE.out.2.1.below hb HE.out.2.1.lt) (HE.out.2.2.2.1.below hb HE.out.2.2.2.1.lt) (inL_length key b HL.out m _) (kS_length key HK.out m) hi))).mono ?_
            rintro e w2 ⟨rfl, hb2⟩
            have estep : (tab 16 fun i => x8 (el (inL key b m (if m = 10 then 2 else 3)) i) (el (kS key m) i)) = stepL key b m := inL_end key b m
            rw [estep]
            have HS2 := Lib.hid (HE.out.below hJ hb2 HE.out.2.2.2.1.lt)
            have HS3 := Lib.hid (HS2.out.put hJ (stepL key b m) (stepL_length key b m))
            have y16 : (Try.prog.info? 29).map (·.size) = some (bv (stepL key b m)).length := by rw [bv_length, stepL_length]; kernel_rfl
            have Y16 := Lib.hid y16
            have yin : 0 + (bv (stepL key b m)).length ≤ (bv (inL key b m (if m = 10 then 2 else 3))).length := by rw [bv_length, bv_length, inL_length key b HL.out, stepL_length]; omega
            have YIN := Lib.hid yin
            clear estep y16 yin hb2 HE
            gi_wp2_with (refine wpListIn_store_in rfl 29 _ _ rfl W.heap.size 0 (bv (stepL key b m)) rfl rfl HS2.out.2.1 Y16.out YIN.out (bv_one _) ?_; refine stay ?_)
            refine go_on ?_
            generalize w2.setCells W.heap.size 0 _ = w3 at HS3 ⊢
            clear HS2 YIN
            have hsz3 : W.heap.size ≤ w3.heap.size := Nat.le_of_lt HS3.out.2.1.lt
            obtain ⟨fn, tmps, assign, body, hy, hRR⟩ := hY m w3 hlt HS3.out.1 hsz3
            gi_wp2_with (refine wpListIn_load_Row rfl 29 _ rfl _ rfl HS3.out.2.1 Try.underlying29 Y16.out ?_; refine stay ?_)
            refine go_on ?_
            gi_wp2
            refine hRR.mono ?_
            rintro e w4 (⟨rfl, hJ4, hk4⟩ | ⟨rfl, hJx4⟩)
            · have hSI : SI W.heap.size W.heap.size (W.heap.size + 1) J key b (m + 1) w4 := by
                obtain ⟨_, h1, h2, _, h4, h5, _, _⟩ := HS3.out
                exact ⟨hJ4, h1.kept hk4 (.inl h4), h2.kept hk4 (.inl (Nat.le_succ _)), h4, h5⟩
              have HSI4 := Lib.hid hSI
              clear hSI hk4 hJ4 HS3 hRR
              gi_wp2
              go_roundw
              case rel => exact ⟨m + 1, by omega, by go_num, by have h := H10.out; split <;> first | rfl | omega, HSI4.out⟩
              case measure => simp [intOf]; omega
            · clear HS3 hRR
              gi_wp2
              simp only [noJump_normal]
              go_end0
              exact ⟨⟨_, rfl⟩, .inr ⟨m + 1, by omega, by omega, hJx4⟩⟩
    · have hm11 : m = 11 := by omega
      subst hm11
      have hj := HR.out.1
      gi_wp2
      simp only [noJump_normal]
      go_end0
      exact ⟨⟨_, rfl⟩, .inl hj⟩
end Go.Proofs.Ytfkpilfnhgjmfaa
