/-
  The code's round keys: a schedule of eleven blocks.
-/
import Derived.Test.YtfkpilfnhgjmfaaPart
namespace Go.Proofs.Ytfkpilfnhgjmfaa
open Go.RowKit
/-- what the rounds keep -/
def AK (B : Nat) (w : World) (key : List Int) (n T : Nat) (wr : World) : Prop :=
  Row wr (B + 1) 88 (schedL key n) ∧ Row wr T 83 tabL ∧ B + 1 < T ∧ Below B w wr
theorem AK.below {B : Nat} {w : World} {key : List Int} {n T : Nat} {wr w' : World} (h : AK B w key n T wr) {m : Nat} (hb : Below m wr w') (hm : T < m) : AK B w key n T w' :=
  ⟨h.1.below hb (by have := h.2.2.1; omega), h.2.1.below hb hm, h.2.2.1, h.2.2.2.trans (hb.mono (by have := h.2.2.1; omega))⟩
/-- within a round -/
def AKK (B : Nat) (w : World) (key : List Int) (n T L : Nat) (last next : List Int) (V : World) : Prop :=
  AK B w key n T V ∧ Row V L 29 (bv last) ∧ Row V (L + 1) 29 (bv next)
theorem AKK.set {B : Nat} {w : World} {key : List Int} {n T L : Nat} {last next : List Int} {V : World} (h : AKK B w key n T L last next V) (hT : T < L) (i : Nat) (x : Int) :
    AKK B w key n T L last (next.set i x) (V.setCell ⟨L + 1, i, none⟩ (.int .u8 x)) := by
  refine ⟨h.1.below ((Below.refl L V).setCell (p := ⟨L + 1, i, none⟩) (Nat.le_succ _) _) hT, h.2.1.other (by show L ≠ L + 1; omega) _, ?_⟩
  have := h.2.2.set i (.int .u8 x)
  rwa [bv_set] at this
theorem AKK.below {B : Nat} {w : World} {key : List Int} {n T L : Nat} {last next : List Int} {V w' : World} (h : AKK B w key n T L last next V) (hT : T < L) {m : Nat} (hb : Below m V w') (hm : L + 1 < m) : AKK B w key n T L last next w' :=
  ⟨h.1.below hb (by omega), h.2.1.below hb (by omega), h.2.2.below hb hm⟩
theorem AKK.lt {B : Nat} {w : World} {key : List Int} {n T L : Nat} {last next : List Int} {V : World} (h : AKK B w key n T L last next V) : L + 1 < V.heap.size := h.2.2.lt
theorem AKK.drewN {B : Nat} {w : World} {key : List Int} {n T L : Nat} {last next : List Int} {V : World} (h : AKK B w key n T L last next V) (hT : T < L) (k : Nat) : AKK B w key n T L last next (V.drewN k) :=
  h.below hT (belowN (Below.refl V.heap.size V) k) h.lt
set_option maxRecDepth 100000 in
set_option maxHeartbeats 8000000 in
theorem aKeys_any (key : List Int) (w : World) (hk : key.length = 16) (hB : Byt key) :
    Calls Try.prog 52 #[.agg (bv key).toArray] w fun e w' => e = .returned (.agg (flatK key 11).toArray) ∧ Below w.heap.size w w' := by
  obtain ⟨HR0, HR1, HBL⟩ := rows2 w 29 88 (bv key) (bv (zeroL 176))
  have i16 : (Try.prog.info? 29).map (·.size) = some (bv key).length := by rw [bv_length, hk]; kernel_rfl
  have I16 := Lib.hid i16
  have HK := Lib.hid hk
  have HB := Lib.hid hB
  have hin : 0 + (bv key).length ≤ (bv (zeroL 176)).length := by rw [bv_length, bv_length, hk, zeroL_length]; omega
  have HIN := Lib.hid hin
  clear hk hB i16 hin
  go_enter Try.func52, Try.ntmps52
  go_wp2_with (first | (refine wpList_alloc_zero rfl 88 rfl _ (zeroSch _) ?_) | (refine wpList_load_Row rfl 29 _ rfl _ rfl HR0.out Try.underlying29 I16.out ?_) | (refine wpList_store_in rfl 29 _ _ rfl (w.heap.size + 1) 0 (bv key) rfl rfl HR1.out I16.out HIN.out (bv_one _) ?_))
  generalize hW : ((w.alloc _).alloc _).setCells _ _ _ = W
  have s1 : Row W (w.heap.size + 1) 88 (schedL key 1) := by
    rw [← hW]; have h := HR1.out; rw [← schedL_zero key] at h; have := schedL_step key HK.out 0 (by omega) h; rwa [Nat.zero_mul] at this
  have sb : Below w.heap.size w W := by rw [← hW]; exact below_setCells (Nat.le_succ _) _ _ HBL.out
  clear hW HR0 HR1 HBL HIN
  refine (aTable_any _).mono ?_
  rintro e w1 ⟨rfl, hb1⟩
  have n0 := Row.new w1 83 (bv (zeroL 256))
  have p1 := s1.below hb1 s1.lt
  have pb := sb.trans (hb1.mono sb.size)
  clear s1 sb hb1
  go_wp2_with (first | (refine wpList_alloc_zero rfl 83 rfl _ (zeroTab _) ?_) | (refine wpList_store_Row rfl 83 _ _ rfl _ tabL rfl rfl n0 (by rw [tabL_length]; kernel_rfl) (by rw [bv_length, zeroL_length, tabL_length]) (by rw [tabL_eq]; exact bv_one _) ?_))
  generalize hW : ((w1.alloc (.cells (bv (zeroL 256)).toArray 83)).setRow _ _) = W
  have hst : AK w.heap.size w key 1 w1.heap.size W := by
    rw [← hW]
    exact ⟨(p1.alloc _).putOther (by have := p1.lt; omega) _, n0.put _, p1.lt, below_setRow (pb.alloc pb.size _) pb.size _⟩
  have HST := Lib.hid hst
  have hT := hst.2.2.1
  clear hW hst n0 p1 pb
  go_loopg [3, 5, 6, 7, 8, 20] 11 (fun gk p i _ _ _ _ wr => ∃ n : Nat, 1 ≤ n ∧ n ≤ 11 ∧ gk = 12 - n ∧ i = .int .i64 n ∧ p = .int .u8 (pw (n - 1)) ∧ AK w.heap.size w key n w1.heap.size wr)
  case atStart => exact ⟨1, by omega, by omega, by omega, rfl, rfl, HST.out⟩
  case round =>
    obtain ⟨n, hn1, hn2, hg, rfl, rfl, hR⟩ := hrel
    obtain ⟨m, rfl⟩ : ∃ m, n = m + 1 := ⟨n - 1, by omega⟩
    have HG := Lib.hid hg
    have HM := Lib.hid hR
    clear hg
    by_cases hlt : m + 1 ≤ 10
    · have HRG := Lib.hid (sched_range key HK.out hR.1 (Nat.lt_succ_self m))
      have hTr := hR.2.1.lt
      have hl16 := kS_length key HK.out m
      have j16 : (Try.prog.info? 29).map (·.size) = some (bv (kS key m)).length := by rw [bv_length, hl16]; kernel_rfl
      have J16 := Lib.hid j16
      have n0 := Lib.hid (Row.new wr 29 (bv (zeroL 16)))
      clear hl16 j16 hR
      go_wp2_with (first | (refine wpList_load_mid rfl 29 _ rfl (w.heap.size + 1) (m * 16) rfl (bv (kS key m)) _ HRG.out Try.underlying29 rfl J16.out ?_) | (refine wpList_store_Row rfl 29 _ _ rfl wr.heap.size (bv (kS key m)) rfl rfl n0.out J16.out (by rw [bv_length, bv_length, zeroL_length, kS_length key HK.out]) (bv_one _) ?_))
      generalize hV : ((wr.alloc _).setRow wr.heap.size _).alloc _ = V
      have hKK : AKK w.heap.size w key (m + 1) w1.heap.size wr.heap.size (kS key m) (upto 16 0 (kAt (pw m) (kS key m)) (fun _ => 0)) V := by
        have hsr : ((wr.alloc (.cells (bv (zeroL 16)).toArray 29)).setRow wr.heap.size (bv (kS key m)).toArray).heap.size = wr.heap.size + 1 := by rw [size_setRow]; simp
        have h9 := Row.new ((wr.alloc (.cells (bv (zeroL 16)).toArray 29)).setRow wr.heap.size (bv (kS key m)).toArray) 29 (bv (zeroL 16))
        rw [hsr] at h9
        rw [← hV]
        refine ⟨HM.out.below (below_setRow ((Below.refl wr.heap.size wr).alloc (Nat.le_refl _) _) (Nat.le_refl _) _ |>.alloc (by rw [size_setRow]; simp) _) hTr, (n0.out.put _).alloc _, by rw [upto_zero]; exact h9⟩
      have HKK := Lib.hid hKK
      clear hV hKK HRG J16 n0
      obtain ⟨wo, rfl⟩ : ∃ wo : World, wo = wr := ⟨_, rfl⟩
      go_loopw [8, 20] (fun _ i wv => ∃ q : Nat, q ≤ 16 ∧ i = .int .i64 q ∧ AKK w.heap.size w key (m + 1) w1.heap.size wo.heap.size (kS key m) (upto 16 q (kAt (pw m) (kS key m)) (fun _ => 0)) wv) (fun _ i _ => 16 - (intOf i).toNat)
      case atStart => exact ⟨0, by omega, rfl, HKK.out⟩
      case round =>
        obtain ⟨q, hq, rfl, hQ⟩ := hrel
        have HQ := Lib.hid hQ
        by_cases hlt2 : q < 16
        · by_cases h4 : q < 4
          · by_cases h0 : q = 0
            · subst h0
              have c0 := hQ.2.1.cell (bv_get _ 0 (by rw [kS_length key HK.out]; omega))
              have c1 := hQ.2.1.cell (bv_get _ 13 (by rw [kS_length key HK.out]; omega))
              have bd := kS_byt key HB.out m 13
              have bd0 := kS_byt key HB.out m 0
              have c2 := hQ.1.2.1.cell (tabL_get (el (kS key m) 13).toNat (by omega))
              have c3 := hQ.2.2.cell (bv_get _ 0 (by rw [upto_length]; omega))
              have f3 := hQ.2.2.frozen 0
              have hz := hQ.lt
              clear hQ
              go_upto_region 14 with (fail)
              have c2' : wr.cell? ⟨w1.heap.size, (el (kS key m) 13).toNat, none⟩ = some (.int .u8 (box8 (el (kS key m) 13))) := c2
              have bb := box8_bd (el (kS key m) 13) bd.1 bd.2
              clear c2
              obtain ⟨X, hX, g, hg⟩ := Ext.over_index wr
              have d0 : ∀ x, (g x).cell? ⟨wo.heap.size, 0, none⟩ = some (.int .u8 (el (kS key m) 0)) := fun x => (((hg _).2 ⟨x, rfl⟩ : Below _ _ _).cell (p := ⟨wo.heap.size, _, none⟩) (by show wo.heap.size < wr.heap.size; omega)).trans c0
              have d1 : ∀ x, (g x).cell? ⟨wo.heap.size, 13, none⟩ = some (.int .u8 (el (kS key m) 13)) := fun x => (((hg _).2 ⟨x, rfl⟩ : Below _ _ _).cell (p := ⟨wo.heap.size, _, none⟩) (by show wo.heap.size < wr.heap.size; omega)).trans c1
              have d2 : ∀ x, (g x).cell? ⟨w1.heap.size, (el (kS key m) 13).toNat, none⟩ = some (.int .u8 (box8 (el (kS key m) 13))) := fun x => (((hg _).2 ⟨x, rfl⟩ : Below _ _ _).cell (p := ⟨w1.heap.size, _, none⟩) (by show w1.heap.size < wr.heap.size; omega)).trans c2'
              have HGI := Lib.hid hg
              clear hg c0 c1 c2'
              refine Ext.region 12 (Ext.at_ [(9, sliceS wr.heap.size 5 (bv [el (kS key m) 0, box8 (el (kS key m) 13), pw m])), (10, Ext.eqS (.int .u8 (xorAll [el (kS key m) 0, box8 (el (kS key m) 13), pw m])))]) (fun w' => ∃ x, w' = g x) (by kernel_rfl) (by kernel_rfl) ((HGI.out _).1 (Ext.Over.drew wr)) (Ext.at_stable (by
                intro p hp v
                simp only [List.mem_cons, List.not_mem_nil, or_false] at hp
                rcases hp with rfl | rfl
                · exact sliceS_stable _ _ _ _
                · exact Ext.eqS_stable _ _)) ?_
              simp only [List.take_succ_cons, List.take_zero, List.drop_succ_cons, List.drop_zero]
              refine Ext.walk_take 9 (by kernel_rfl) (by kernel_rfl) (by kernel_rfl) ?_
              simp only [List.take_succ_cons, List.take_zero, List.drop_succ_cons, List.drop_zero]
              repeat (go_big_quiet_step (fail))
              refine wpQuiet_nil ?_
              refine Ext.walk_spec _ rfl rfl ?_ ?_
              · rintro _ ⟨x, rfl⟩ _
                go_simp
                exact Ext.made HGI.out ⟨_, rfl⟩ ⟨_, rfl, ((HGI.out _).2 ⟨x, rfl⟩ : Ext.Over _ _).size, Row.new (g x) 5 (bv [_, _, _])⟩
              · rintro v ⟨gs, rfl⟩
                refine Ext.walk_spec _ rfl rfl ?_ ?_
                · rintro _ ⟨x, rfl⟩ hd
                  obtain ⟨g2, e2, hle, hrow⟩ := Ext.upd_at (hd 9 (by kernel_rfl))
                  cases e2
                  go_simp
                  refine Ext.call_same HGI.out ?_
                  exact aAdd_any gs 0 3 3 [el (kS key m) 0, box8 (el (kS key m) 13), pw m] _ rfl (by omega) (fun i hi => by rw [Nat.zero_add]; exact hrow.cell (bv_get _ i hi))
                · rintro v rfl
                  simp only [Act.put, List.setIfInBounds_toArray, List.set_cons_zero, List.set_cons_succ]
                  refine Ext.walk_take 1 (by kernel_rfl) (by kernel_rfl) (by kernel_rfl) ?_
                  simp only [List.take_succ_cons, List.take_zero, List.drop_succ_cons, List.drop_zero]
                  repeat (go_big_quiet_step (fail))
                  refine wpQuiet_nil ?_
                  refine Ext.walk_end ?_
                  intro wx hwx hK
                  have hov : Ext.Over wr wx := (HGI.out _).2 hwx
                  have HX := Lib.hid (HQ.out.below hTr hov hz)
                  have c3 := HX.out.2.2.cell (bv_get _ 0 (by rw [upto_length]; omega))
                  have f3 := HX.out.2.2.frozen 0
                  have hp := pw_bd m
                  rw [xorAll_three _ _ _ bd0.1 bd0.2]
                  clear hov hwx hK d0 d1 d2 HGI HQ
                  go_wp2
                  go_roundw
                  case rel =>
                    refine ⟨1, by omega, by go_num, ?_⟩
                    have h := HX.out.set hTr 0 (x8 (x8 (el (kS key m) 0) (box8 (el (kS key m) 13))) (pw m))
                    rw [upto_set _ _ _ _ _ (fun _ => by rw [kAt_head _ _ _ (by omega)]; rfl)] at h
                    exact h
                  case measure => simp [intOf]
            · have c0 := hQ.2.1.cell (bv_get _ q (by rw [kS_length key HK.out]; omega))
              have c1 := hQ.2.1.cell (bv_get _ (12 + (q + 1) % 4) (by rw [kS_length key HK.out]; omega))
              have bd := kS_byt key HB.out m (12 + (q + 1) % 4)
              have c2 := hQ.1.2.1.cell (tabL_get (el (kS key m) (12 + (q + 1) % 4)).toNat (by omega))
              have c3 := hQ.2.2.cell (bv_get _ q (by rw [upto_length]; omega))
              have f3 := hQ.2.2.frozen q
              clear hQ
              go_wp2
              refine Ext.quiet_tail 14 (by kernel_rfl) (by kernel_rfl) (by kernel_rfl) ?_
              simp only [List.take_succ_cons, List.take_zero, List.drop_succ_cons, List.drop_zero]
              repeat (go_big_quiet_step (fail))
              refine wpQuiet_nil ?_
              intro nq
              go_wp2
              go_roundw
              case rel =>
                refine ⟨q + 1, by omega, by go_num, ?_⟩
                have h := (HQ.out.set hTr q (x8 (el (kS key m) q) (box8 (el (kS key m) (12 + (q + 1) % 4))))).drewN hTr nq
                rw [upto_set _ _ _ _ _ (fun _ => by rw [kAt_head _ _ _ (by omega), headAt, if_neg h0])] at h
                exact h
              case measure => simp [intOf]; omega
          · have c0 := hQ.2.2.cell (bv_get _ (q - 4) (by rw [upto_length]; omega))
            rw [upto_el _ _ _ _ _ (by omega), if_pos (by omega)] at c0
            have c1 := hQ.2.1.cell (bv_get _ q (by rw [kS_length key HK.out]; omega))
            have c3 := hQ.2.2.cell (bv_get _ q (by rw [upto_length]; omega))
            have f3 := hQ.2.2.frozen q
            clear hQ
            go_wp2
            refine Ext.quiet_tail 10 (by kernel_rfl) (by kernel_rfl) (by kernel_rfl) ?_
            simp only [List.take_succ_cons, List.take_zero, List.drop_succ_cons, List.drop_zero]
            repeat (go_big_quiet_step (fail))
            refine wpQuiet_nil ?_
            intro nq
            go_wp2
            go_roundw
            case rel =>
              refine ⟨q + 1, by omega, by go_num, ?_⟩
              have h := (HQ.out.set hTr q (x8 (kAt (pw m) (kS key m) (q - 4)) (el (kS key m) q))).drewN hTr nq
              rw [upto_set _ _ _ _ _ (fun _ => (kAt_step _ _ _ (by omega)).symm)] at h
              exact h
            case measure => simp [intOf]; omega
        · have hq16 : q = 16 := by omega
          subst hq16
          have hfull : AKK w.heap.size w key (m + 1) w1.heap.size wo.heap.size (kS key m) (kS key (m + 1)) wr := by
            rw [upto_full] at hQ; exact hQ
          have HF := Lib.hid hfull
          have hlen := kS_length key HK.out (m + 1)
          have j16 : (Try.prog.info? 29).map (·.size) = some (bv (kS key (m + 1))).length := by rw [bv_length, hlen]; kernel_rfl
          have J16 := Lib.hid j16
          have hin : (m + 1) * 16 + (bv (kS key (m + 1))).length ≤ (schedL key (m + 1)).length := by rw [bv_length, hlen, schedL_length key HK.out _ (by omega)]; omega
          have HIN := Lib.hid hin
          have hp := pw_bd m
          clear hQ HQ hfull hlen j16 hin
          go_upto_region 19 with (first
            | (refine wpList_load_Row rfl 29 _ rfl _ rfl HF.out.2.2 Try.underlying29 J16.out ?_)
            | (refine wpList_store_in rfl 29 _ _ rfl (w.heap.size + 1) ((m + 1) * 16) (bv (kS key (m + 1))) rfl rfl HF.out.1.1 J16.out HIN.out (bv_one _) ?_))
          have hS : AK w.heap.size w key (m + 1 + 1) w1.heap.size (wr.setCells (w.heap.size + 1) ((m + 1) * 16) (bv (kS key (m + 1)))) := by
            obtain ⟨⟨h0, h1, h2, h3⟩, _, _⟩ := HF.out
            exact ⟨schedL_step key HK.out (m + 1) (by omega) h0, h1.putOtherIn (by omega) _ _, h2, below_setCells (Nat.le_succ _) _ _ h3⟩
          have HS := Lib.hid hS
          clear hS HF HIN J16
          generalize hV : wr.setCells _ _ _ = V
          rw [hV] at HS
          clear hV
          go_wp2_with fail
          refine (aMul_any _ _ _ hp.1 hp.2 (by omega) (by omega)).mono ?_
          rintro e w' ⟨rfl, hw'⟩
          have HP : Hid (AK w.heap.size w key (m + 1 + 1) w1.heap.size w') := by rw [← hw']; exact HS.out
          clear hw' HS
          go_wp2
          go_roundg (12 - (m + 1 + 1))
          case measure => have := HG.out; omega
          case rel => exact ⟨m + 1 + 1, by omega, by omega, rfl, by go_num, rfl, HP.out⟩
    · have hm : m + 1 = 11 := by omega
      rw [hm] at HM
      have hR := HM.out
      have j176 : (Try.prog.info? 88).map (·.size) = some (flatK key 11).length := by rw [flatK_length key HK.out]; kernel_rfl
      have J176 := Lib.hid j176
      have hsch := hR.1
      rw [schedL_full] at hsch
      have HS := Lib.hid hsch
      have HBB := Lib.hid hR.2.2.2
      clear HM hR j176 hsch
      go_upto_region 20 with (fail)
      refine wp_region_lit ?_
      refine wpList_load_Row rfl 88 _ rfl _ rfl HS.out Try.underlying88 J176.out ?_
      refine wpList_store_Row rfl 88 _ _ rfl _ (flatK key 11) rfl rfl HS.out J176.out rfl (flatK_one key 11) ?_
      have HPUT := Lib.hid (HS.out.put (flatK key 11))
      have HBP := Lib.hid (below_setRow HBB.out (Nat.le_succ _) (flatK key 11).toArray)
      go_wp2
      exact bodyPost_ret (results_Row rfl _ _ _ rfl HPUT.out Try.underlying88 J176.out) rfl ⟨rfl, HBP.out⟩
end Go.Proofs.Ytfkpilfnhgjmfaa
