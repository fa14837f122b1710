/-
  The reference's round keys: a slice of eleven blocks.
-/
import Derived.Test.YtfkpilfnhgjmfaaKeysPure
import Derived.RangeFuncBox
namespace Go.Proofs.Ytfkpilfnhgjmfaa
open Go.RowKit
theorem run_buildBlk16 (c0 c1 c2 c3 c4 c5 c6 c7 c8 c9 c10 c11 c12 c13 c14 c15 : Value) (w : World) :
    (Instr.buildSlice 37 1 #[(0, .agg #[c0, c1, c2, c3, c4, c5, c6, c7, c8, c9, c10, c11, c12, c13, c14, c15])]).run Try.prog w = .ok (.slice (some ⟨w.heap.size, 0, none⟩) 1 1) (w.alloc (.cells #[c0, c1, c2, c3, c4, c5, c6, c7, c8, c9, c10, c11, c12, c13, c14, c15] 29)) := by kernel_rfl
theorem run_buildBlk (cs : Array Value) (h : cs.size = 16) (w : World) : (Instr.buildSlice 37 1 #[(0, .agg cs)]).run Try.prog w = .ok (.slice (some ⟨w.heap.size, 0, none⟩) 1 1) (w.alloc (.cells cs 29)) := by
  obtain ⟨l⟩ := cs
  match l, h with
  | [c0, c1, c2, c3, c4, c5, c6, c7, c8, c9, c10, c11, c12, c13, c14, c15], _ => exact run_buildBlk16 c0 c1 c2 c3 c4 c5 c6 c7 c8 c9 c10 c11 c12 c13 c14 c15 w
theorem run_buildBv (l : List Int) (h : l.length = 16) (w : World) : (Instr.buildSlice 37 1 #[(0, .agg (bv l).toArray)]).run Try.prog w = .ok (.slice (some ⟨w.heap.size, 0, none⟩) 1 1) (w.alloc (.cells (bv l).toArray 29)) :=
  run_buildBlk _ (by simp [bv, h]) w
theorem wpList_buildBv {ops : Array Oper} {rest : List Oper} {o : Oper} {a : Act} {w : World} {Q : Exit → Act → World → Prop} (hgd : o.guard = none) (x : Operand) (ho : o.op = .buildSlice 37 1 #[(0, x)])
    (l : List Int) (hl : l.length = 16) (hx : a.eval x = .agg (bv l).toArray)
    (h : wpList Try.prog ops Q rest (a.put o.dst (.slice (some ⟨w.heap.size, 0, none⟩) 1 1)) (w.alloc (.cells (bv l).toArray 29))) : wpList Try.prog ops Q (o :: rest) a w := by
  refine wpList_plain hgd fun K hK => ?_
  unfold Oper.wp execOp
  have e : (#[(0, x)] : Array (Nat × Operand)).map (fun (i, x) => (i, a.eval x)) = #[(0, .agg (bv l).toArray)] := by simp [hx]
  simp only [ho, e, Sem.run_bind, run_buildBv l hl, Result.andThen_ok, Sem.run_pure]
  exact hK _ _ h
theorem infoBlk : (Try.prog.info? 29).map (fun i => (i.zero, i.size, i.bytes)) = some (some (.agg (bv (zeroL 16)).toArray), 16, 16) := by kernel_rfl
/-- a slice of the first n round keys, in new memory -/
def IsKeys (key : List Int) (base n : Nat) (w : World) (v : Value) : Prop := w.ownsRow base 29 16 v n (flatK key n)
theorem owns_below {w w' : World} {base : Nat} {e : TypeId} {size : Nat} {v : Value} {n : Nat} {xs : List Value} (h : w.ownsRow base e size v n xs) {m : Nat} (hb : Below m w w') (hv : ∀ k, v.ownBlock = some k → k < m) : w'.ownsRow base e size v n xs := by
  obtain ⟨h1, h2⟩ := h
  refine ⟨h1, ?_⟩
  rcases h2 with h2 | ⟨g, cap, cur, rfl, hg, hh, r⟩
  · exact .inl h2
  · exact .inr ⟨g, cap, cur, rfl, hg, (hb.block g (hv g rfl)).trans hh, r⟩
/-- behind the reference's keys: a slice of eleven blocks in new memory -/
def KeysPost (key : List Int) (w : World) (e : Ending) (w' : World) : Prop := ∃ v, e = .returned v ∧ w'.ownsRow w.heap.size 29 16 v 11 (flatK key 11) ∧ Below w.heap.size w w'
/-- what the rounds keep -/
def RK (B : Nat) (w : World) (key : List Int) (n : Nat) (v : Value) (wr : World) : Prop :=
  Row wr B 29 (bv key) ∧ Row wr (B + 1) 83 tabL ∧ wr.ownsRow (B + 1 + 1) 29 16 v n (flatK key n) ∧ Below B w wr
theorem RK.lt {B : Nat} {w : World} {key : List Int} {n : Nat} {v : Value} {wr : World} (h : RK B w key n v wr) : ∀ k, v.ownBlock = some k → k < wr.heap.size := fun k hk => (h.2.2.1.lt k hk).2
theorem RK.below {B : Nat} {w : World} {key : List Int} {n : Nat} {v : Value} {wr w' : World} (h : RK B w key n v wr) {m : Nat} (hb : Below m wr w') (hm : B + 1 < m) (hv : ∀ k, v.ownBlock = some k → k < m) : RK B w key n v w' :=
  ⟨h.1.below hb (by omega), h.2.1.below hb hm, owns_below h.2.2.1 hb hv, h.2.2.2.trans (hb.mono (by omega))⟩
/-- within a round: the last key and the next one, under way -/
def KK (B : Nat) (w : World) (key : List Int) (n : Nat) (v : Value) (B8 : Nat) (last next : List Int) (V : World) : Prop :=
  RK B w key n v V ∧ Row V B8 29 (bv last) ∧ Row V (B8 + 1) 29 (bv next)
theorem KK.set {B : Nat} {w : World} {key : List Int} {n : Nat} {v : Value} {B8 : Nat} {last next : List Int} {V : World} (h : KK B w key n v B8 last next V) (hB : B + 1 < B8) (hv : ∀ k, v.ownBlock = some k → k < B8) (i : Nat) (x : Int) :
    KK B w key n v B8 last (next.set i x) (V.setCell ⟨B8 + 1, i, none⟩ (.int .u8 x)) := by
  refine ⟨h.1.below ((Below.refl B8 V).setCell (p := ⟨B8 + 1, i, none⟩) (Nat.le_succ _) _) hB hv, h.2.1.other (by show B8 ≠ B8 + 1; omega) _, ?_⟩
  have := h.2.2.set i (.int .u8 x)
  rwa [bv_set] at this
theorem KK.drewN {B : Nat} {w : World} {key : List Int} {n : Nat} {v : Value} {B8 : Nat} {last next : List Int} {V : World} (h : KK B w key n v B8 last next V) (hB : B + 1 < B8) (hv : ∀ k, v.ownBlock = some k → k < B8) (k : Nat) : KK B w key n v B8 last next (V.drewN k) :=
  ⟨h.1.below (belowN (Below.refl B8 V) k) hB hv, h.2.1.drewN k, h.2.2.drewN k⟩
theorem KK.drew {B : Nat} {w : World} {key : List Int} {n : Nat} {v : Value} {B8 : Nat} {last next : List Int} {V : World} (h : KK B w key n v B8 last next V) (hB : B + 1 < B8) (hv : ∀ k, v.ownBlock = some k → k < B8) : KK B w key n v B8 last next V.drew :=
  ⟨h.1.below (Below.refl B8 V).drew hB hv, h.2.1.drew, h.2.2.drew⟩
set_option maxRecDepth 100000 in
set_option maxHeartbeats 1600000 in
theorem rkeys_any (key : List Int) (w : World) (hk : key.length = 16) (hB : Byt key) :
    Calls Try.prog 55 #[.agg (bv key).toArray, .agg tabA] w (KeysPost key w) := by
  obtain ⟨HR0, HR1, HBL⟩ := rows2 w 29 83 (bv key) tabL
  have i16 : (Try.prog.info? 29).map (·.size) = some (bv key).length := by rw [bv_length, hk]; kernel_rfl
  have I16 := Lib.hid i16
  have HK := Lib.hid hk
  have HB := Lib.hid hB
  clear hk hB i16
  go_enter Try.func55, Try.ntmps55
  go_wp2_with (first | (refine wpList_load_Row rfl 29 _ rfl _ rfl HR0.out Try.underlying29 I16.out ?_) | (refine wpList_buildBv rfl _ rfl key HK.out rfl ?_))
  generalize hW : ((w.alloc (.cells (bv key).toArray 29)).alloc (.cells tabA 83)).alloc _ = W
  have m1 : (1 : Nat) ≤ maxLen := by decide
  have hst : RK w.heap.size w key 1 (.slice (some ⟨w.heap.size + 1 + 1, 0, none⟩) 1 1) W := by
    have e : ((w.alloc (.cells (bv key).toArray 29)).alloc (.cells tabL.toArray 83)).heap.size = w.heap.size + 1 + 1 := by simp
    have h3 := Row.new ((w.alloc (.cells (bv key).toArray 29)).alloc (.cells tabL.toArray 83)) 29 (bv key)
    rw [e] at h3
    rw [← hW]
    refine ⟨HR0.out.alloc _, HR1.out.alloc _, ⟨flatK_length key HK.out 1, .inr ⟨w.heap.size + 1 + 1, 1, (bv key).toArray, rfl, Nat.le_refl _, h3, Nat.le_refl _, m1, by simp [bv, HK.out], ?_⟩⟩, HBL.out.alloc (by simp; omega) _⟩
    show (bv key).take (1 * 16) = [] ++ bv (kS key 0)
    exact List.take_of_length_le (by rw [bv_length, HK.out]; exact Nat.le_refl _)
  have HST := Lib.hid hst
  clear hW hst HR0 HR1 HBL m1
  go_loopg [5, 6, 7, 8, 9, 10, 11] 19 (fun gk v p i _ _ _ _ wr => ∃ n : Nat, 1 ≤ n ∧ n ≤ 11 ∧ gk = 20 - n ∧ i = .int .i64 n ∧ p = .int .u8 (pw (n - 1)) ∧ RK w.heap.size w key n v wr)
  case atStart => exact ⟨1, by omega, by omega, by omega, rfl, rfl, HST.out⟩
  case round =>
    obtain ⟨n, hn1, hn2, hg, rfl, rfl, hR⟩ := hrel
    obtain ⟨m, rfl⟩ : ∃ m, n = m + 1 := ⟨n - 1, by omega⟩
    obtain ⟨g, cap, rfl⟩ := ownsRow_succ hR.2.2.1
    have HG := Lib.hid hg
    have HM := Lib.hid hR
    have hgb := (hR.2.2.1.lt g rfl)
    clear hg hR
    by_cases hlt : m + 1 ≤ 10
    · have hrg : wr.rangeAt g (m * 16) (bv (kS key m)) := flatK_range key HK.out (Nat.lt_succ_self m) (fun q v hq => by
        have := HM.out.2.2.1.cells rfl q v hq
        rwa [Addr.add_mid, Nat.zero_add] at this)
      have HRG := Lib.hid hrg
      have hl16 := kS_length key HK.out m
      have j16 : (Try.prog.info? 29).map (·.size) = some (bv (kS key m)).length := by rw [bv_length, hl16]; kernel_rfl
      have J16 := Lib.hid j16
      have n0 := Lib.hid (Row.new wr 29 (bv (zeroL 16)))
      clear hrg hl16 j16
      go_wp2_with (first | (refine wpList_load_mid rfl 29 _ rfl g (m * 16) rfl (bv (kS key m)) _ HRG.out Try.underlying29 rfl J16.out ?_) | (refine wpList_store_Row rfl 29 _ _ rfl wr.heap.size (bv (kS key m)) rfl rfl n0.out J16.out (by rw [bv_length, bv_length, zeroL_length, kS_length key HK.out]) (bv_one _) ?_))
      generalize hV : ((wr.alloc _).setRow wr.heap.size _).alloc _ = V
      have hsz : w.heap.size + 1 < wr.heap.size := by omega
      have hown : ∀ k, (Value.slice (some ⟨g, 0, none⟩) (m + 1) cap).ownBlock = some k → k < wr.heap.size := fun k hk => by cases hk; exact hgb.2
      have hKK : KK w.heap.size w key (m + 1) (.slice (some ⟨g, 0, none⟩) (m + 1) cap) wr.heap.size (kS key m) (upto 16 0 (fun j => x8 (el (kS key m) j) (box8 (el (kS key m) (12 + (j + 1) % 4)))) (fun _ => 0)) V := by
        have hsr : ((wr.alloc (.cells (bv (zeroL 16)).toArray 29)).setRow wr.heap.size (bv (kS key m)).toArray).heap.size = wr.heap.size + 1 := by rw [size_setRow]; simp
        have h9 := Row.new ((wr.alloc (.cells (bv (zeroL 16)).toArray 29)).setRow wr.heap.size (bv (kS key m)).toArray) 29 (bv (zeroL 16))
        rw [hsr] at h9
        rw [← hV]
        refine ⟨HM.out.below (below_setRow ((Below.refl wr.heap.size wr).alloc (Nat.le_refl _) _) (Nat.le_refl _) _ |>.alloc (by rw [size_setRow]; simp) _) hsz hown, (n0.out.put _).alloc _, by rw [upto_zero]; exact h9⟩
      have HKK := Lib.hid hKK
      have HOWN := Lib.hid hown
      clear hV hKK hown HRG J16 n0
      obtain ⟨wo, rfl⟩ : ∃ wo : World, wo = wr := ⟨_, rfl⟩
      go_loopw [10] (fun i wv => ∃ q : Nat, q ≤ 4 ∧ i = .int .i64 q ∧ KK w.heap.size w key (m + 1) (.slice (some ⟨g, 0, none⟩) (m + 1) cap) wo.heap.size (kS key m) (upto 16 q (fun j => x8 (el (kS key m) j) (box8 (el (kS key m) (12 + (j + 1) % 4)))) (fun _ => 0)) wv) (fun i _ => 4 - (intOf i).toNat)
      case atStart => exact ⟨0, by omega, rfl, HKK.out⟩
      case round =>
        obtain ⟨q, hq, rfl, hQ⟩ := hrel
        have HQ := Lib.hid hQ
        by_cases hlt2 : q < 4
        · have c0 := hQ.2.1.cell (bv_get _ q (by rw [kS_length key HK.out]; omega))
          have c1 := hQ.2.1.cell (bv_get _ (12 + (q + 1) % 4) (by rw [kS_length key HK.out]; omega))
          have bd := kS_byt key HB.out m (12 + (q + 1) % 4)
          have c2 := hQ.1.2.1.cell (tabL_get (el (kS key m) (12 + (q + 1) % 4)).toNat (by omega))
          have c3 := hQ.2.2.cell (bv_get _ q (by rw [upto_length]; omega))
          have f3 := hQ.2.2.frozen q
          clear hQ
          go_wp2
          refine Ext.quiet_tail 13 (by kernel_rfl) (by kernel_rfl) (by kernel_rfl) ?_
          simp only [List.take_succ_cons, List.take_zero, List.drop_succ_cons, List.drop_zero]
          repeat (go_big_quiet_step (fail))
          refine wpQuiet_nil ?_
          intro nq
          go_wp2
          go_roundw
          case rel =>
            refine ⟨q + 1, by omega, by go_num, ?_⟩
            have h := (HQ.out.set hsz HOWN.out q (x8 (el (kS key m) q) (box8 (el (kS key m) (12 + (q + 1) % 4))))).drewN hsz HOWN.out nq
            rw [upto_set _ _ _ _ _ (fun _ => rfl)] at h
            exact h
          case measure => simp [intOf]; omega
        · have hq4 : q = 4 := by omega
          subst hq4
          have c3 := hQ.2.2.cell (bv_get _ 0 (by rw [upto_length]; omega))
          rw [upto_el _ _ _ _ _ (by omega), if_pos (by omega)] at c3
          have f3 := hQ.2.2.frozen 0
          have hS := HQ.out.set hsz HOWN.out 0 (x8 (x8 (el (kS key m) 0) (box8 (el (kS key m) (12 + (0 + 1) % 4)))) (pw m))
          rw [set_head (pw m) (kS key m) _ (fun _ _ => rfl)] at hS
          have HS := Lib.hid hS
          have hp := pw_bd m
          clear hQ hS HQ
          go_wp2_with fail
          refine (rMul_any _ _ _ hp.1 hp.2 (by omega) (by omega)).mono ?_
          rintro e w' ⟨rfl, hw'⟩
          have HP : Hid (KK w.heap.size w key (m + 1) (.slice (some ⟨g, 0, none⟩) (m + 1) cap) wo.heap.size (kS key m) (upto 16 4 (kAt (pw m) (kS key m)) (fun _ => 0)) w') := by rw [← hw']; exact HS.out
          clear hw' HS c3 f3
          go_wp2
          go_loopw [11] (fun i wv => ∃ q : Nat, 4 ≤ q ∧ q ≤ 16 ∧ i = .int .i64 q ∧ KK w.heap.size w key (m + 1) (.slice (some ⟨g, 0, none⟩) (m + 1) cap) wo.heap.size (kS key m) (upto 16 q (kAt (pw m) (kS key m)) (fun _ => 0)) wv) (fun i _ => 16 - (intOf i).toNat)
          case atStart => exact ⟨4, by omega, by omega, rfl, HP.out⟩
          case round =>
            obtain ⟨q, hq1, hq2, rfl, hQ⟩ := hrel
            have HQ := Lib.hid hQ
            by_cases hlt3 : q < 16
            · have c0 := hQ.2.2.cell (bv_get _ (q - 4) (by rw [upto_length]; omega))
              rw [upto_el _ _ _ _ _ (by omega), if_pos (by omega)] at c0
              have c1 := hQ.2.1.cell (bv_get _ q (by rw [kS_length key HK.out]; omega))
              have c3 := hQ.2.2.cell (bv_get _ q (by rw [upto_length]; omega))
              have f3 := hQ.2.2.frozen q
              clear hQ
              go_wp2
              refine Ext.quiet_tail 9 (by kernel_rfl) (by kernel_rfl) (by kernel_rfl) ?_
              simp only [List.take_succ_cons, List.take_zero, List.drop_succ_cons, List.drop_zero]
              repeat (go_big_quiet_step (fail))
              refine wpQuiet_nil ?_
              intro nq
              go_wp2
              go_roundw
              case rel =>
                refine ⟨q + 1, by omega, by omega, by go_num, ?_⟩
                have h := (HQ.out.set hsz HOWN.out q (x8 (kAt (pw m) (kS key m) (q - 4)) (el (kS key m) q))).drewN hsz HOWN.out nq
                rw [upto_set _ _ _ _ _ (fun _ => (kAt_step _ _ _ hq1).symm)] at h
                exact h
              case measure => simp [intOf]; omega
            · have hq16 : q = 16 := by omega
              subst hq16
              have hfull : KK w.heap.size w key (m + 1) (.slice (some ⟨g, 0, none⟩) (m + 1) cap) wo.heap.size (kS key m) (kS key (m + 1)) wr := by
                rw [upto_full] at hQ; exact hQ
              have HF := Lib.hid hfull
              have hlen := kS_length key HK.out (m + 1)
              have hsb := hfull.2.2.lt
              have happ := Row.new wr 29 (bv (kS key (m + 1)))
              have j16 : (Try.prog.info? 29).map (·.size) = some (bv (kS key (m + 1))).length := by rw [bv_length, hlen]; kernel_rfl
              have J16 := Lib.hid j16
              have HA := Lib.hid happ
              have HLN := Lib.hid hlen
              obtain ⟨i0, hi, hz0, hz1, hz2⟩ := info_parts infoBlk
              have hm0 : m + 1 + 1 ≤ maxLen := Nat.le_trans (show m + 1 + 1 ≤ 12 by omega) (by decide)
              clear hQ HQ hfull hlen happ j16
              go_wp2_with (first
                | (refine wpList_load_Row rfl 29 _ rfl _ rfl HF.out.2.2 Try.underlying29 J16.out ?_)
                | (refine wpList_buildBv rfl _ rfl (kS key (m + 1)) HLN.out rfl ?_)
                | (at_builtin; refine wpList_append_own _ rfl _ _ 37 rfl (w.heap.size + 1 + 1) 29 i0 _ 16 16 Try.underlying37 hi hz0 hz1 hz2 (by simp [Value.cells, bv, zeroL, tab]) (by decide) _ (m + 1) (flatK key (m + 1)) rfl (HF.out.1.2.2.1.alloc _) ⟨wr.heap.size, 0, none⟩ 1 1 (bv (kS key (m + 1))) rfl (by rw [bv_length, HLN.out]) (fun j u hu => by rw [Addr.add_mid, Nat.zero_add]; exact HA.out.cell hu) (bv_one _) hm0 (by omega) (by simp; omega) ?_))
              intro v' w1 hown' hgrow _
              have hR' : RK w.heap.size w key (m + 1 + 1) v' w1 := by
                obtain ⟨⟨h0, h1, h2, h3⟩, _, _⟩ := HF.out
                have e0 : w1.heap[w.heap.size]? = (wr.alloc (.cells (bv (kS key (m + 1))).toArray 29)).heap[w.heap.size]? := hgrow.block _ (by have := h0.lt; simp; omega) (by intro e; simp [Value.ownBlock] at e; omega)
                have e1 : w1.heap[w.heap.size + 1]? = (wr.alloc (.cells (bv (kS key (m + 1))).toArray 29)).heap[w.heap.size + 1]? := hgrow.block _ (by have := h1.lt; simp; omega) (by intro e; simp [Value.ownBlock] at e; omega)
                refine ⟨e0.trans (h0.alloc _), e1.trans (h1.alloc _), hown', ?_⟩
                exact (h3.alloc h3.size _).grown hgrow (by have := h3.size; simp; omega) (fun k hk => by simp [Value.ownBlock] at hk; omega)
              have HR' := Lib.hid hR'
              clear hR' hown' hgrow HF HA
              go_wp2
              go_roundg (20 - (m + 1 + 1))
              case measure => have := HG.out; omega
              case rel => exact ⟨m + 1 + 1, by omega, by omega, rfl, by go_num, rfl, HR'.out⟩
    · have hm : m + 1 = 11 := by omega
      rw [hm] at HM
      have hR := HM.out
      clear HM
      go_wp2
      refine bodyPost_ret (results_tmp rfl _ _ _) rfl ⟨.slice (some ⟨g, 0, none⟩) (m + 1) cap, rfl, ?_, hR.2.2.2⟩
      rw [hm]
      refine ⟨hR.2.2.1.1, ?_⟩
      rcases hR.2.2.1.2 with h | ⟨g', cap', cur, h1, h2, h3⟩
      · exact absurd h.2 (by omega)
      · exact .inr ⟨g', cap', cur, h1, by omega, h3⟩
end Go.Proofs.Ytfkpilfnhgjmfaa
