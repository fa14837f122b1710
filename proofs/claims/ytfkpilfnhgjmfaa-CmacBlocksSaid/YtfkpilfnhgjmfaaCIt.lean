/-
  cmac: the iterator over the blocks that are surely not the last one.
-/
import Derived.Test.YtfkpilfnhgjmfaaCPure
import Derived.Test.YtfkpilfnhgjmfaaCCat
import Derived.Test.YtfkpilfnhgjmfaaFenF
import Derived.Test.YtfkpilfnhgjmfaaFen2
namespace Go.Proofs.Ytfkpilfnhgjmfaa
open Go.RowKit
attribute [local go_sem] Oper.semAt_some noJump_normal noJump_exit noJump_ret noJump_panic wide_fn wide_depth
/-- a slice of two slices -/
def pairS (v1 v2 : Value) : Ext.Spec := { may := fun v => ∃ q, v = .slice (some ⟨q, 0, none⟩) 2 2, post := fun v w => ∀ q, v = .slice (some ⟨q, 0, none⟩) 2 2 → Row w q 34 [v1, v2] }
theorem pairS_stable (v1 v2 v : Value) : Ext.Stable ((pairS v1 v2).post v) := fun _ _ h hb q e => (h q e).below hb (h q e).lt
/-- bytes in new memory -/
def ownS (base : Nat) (l : List Int) : Ext.Spec := { may := fun v => ∃ p cap, v = .slice p l.length cap, post := fun v w => Own w base v l }
theorem ownS_stable (base : Nat) (l : List Int) (v : Value) : Ext.Stable ((ownS base l).post v) := fun _ _ h hb => h.over hb (fun k hk => (h.lt k hk).2)
theorem run_pair (v1 v2 : Value) (w : World) (p1 p2 : Option Addr) (n1 n2 c1 c2 : Nat) (h1 : v1 = .slice p1 n1 c1) (h2 : v2 = .slice p2 n2 c2) :
    (Instr.buildSlice 64 2 #[(0, v1), (1, v2)]).run Try.prog w = .ok (.slice (some ⟨w.heap.size, 0, none⟩) 2 2) (w.alloc (.cells #[v1, v2] 34)) := by
  subst h1 h2
  kernel_rfl
theorem run_arrayAt_ge (a : Addr) (n cap : Nat) (hn : 16 ≤ n) (w : World) : (Instr.arrayAt 29 (.slice (some a) n cap)).run Try.prog w = .ok (.pointer (some a)) w := by
  have h : ¬ n < 16 := by omega
  simp only [Instr.arrayAt, Sem.run_bind, run_underlying Try.underlying29, Result.andThen_ok, if_neg h, Sem.run_pure]
/-- the length of a slice -/
def sliceLen : Value → Nat
  | .slice _ n _ => n
  | _ => 0
theorem Own.dropSl {w : World} {base G n cap : Nat} {l : List Int} (h : Own w base (.slice (some ⟨G, 0, none⟩) n cap) l) (o c : Nat) (ho : o ≤ n) : Sl w (.slice (some ⟨G, o, none⟩) (n - o) c) (l.drop o) := by
  have hl := h.len
  refine .inr ⟨⟨G, o, none⟩, c, by rw [List.length_drop, hl], fun j u hu => ?_⟩
  have hj : j < n - o := by
    have := (List.getElem?_eq_some_iff.1 hu).1
    rwa [bv_length, List.length_drop, hl] at this
  rw [bv_get _ j (by rw [List.length_drop, hl]; exact hj), el_drop] at hu
  rw [Addr.add_mid]
  exact (h.cell (o + j) (by omega)).trans hu
/-- what is known ahead of round k -/
def CI (Ws P2 B G n cv : Nat) (all : List Int) (J : Nat → World → Prop) (k : Nat) (wr : World) : Prop :=
  J k wr ∧ Own wr Ws (.slice (some ⟨G, 0, none⟩) n cv) all ∧ Row wr P2 67 [.pointer (some ⟨B, 0, none⟩)] ∧ Ws ≤ wr.heap.size
theorem Own.kept {M : Nat} {T : Nat → Prop} {A A' : World} {base : Nat} {v : Value} {l : List Int} (h : Own A base v l) (hk : KeepB M T A A') (hb : M ≤ base) : Own A' base v l := by
  have hlt := h.lt
  refine ⟨h.1, ?_⟩
  rcases h.2 with h2 | ⟨g, cap, cur, e, h3, h4, h5⟩
  · exact .inl h2
  · exact .inr ⟨g, cap, cur, e, h3, (hk.same g (.inl (by omega)) (Array.getElem?_eq_some_iff.1 h4).1).trans h4, h5⟩
set_option maxRecDepth 100000 in
set_option maxHeartbeats 3200000 in
theorem blocksIt_gives (n P2 Q2 B H : Nat) (p : Option Addr) (x last b : List Int) (lv bval : Value) (W : World) (hl : last.length + b.length ≤ 100000) (hx : x.length = 16)
    (rP : Row W P2 67 [.pointer (some ⟨B, 0, none⟩)]) (rQ : Row W Q2 34 [bval]) (rB : Row W B 101 (macL p x lv)) (hs1 : Sl W lv last) (hs2 : Sl W bval b) (hH : H ≤ W.heap.size) :
    GivesF Fence.wide n Try.prog 75 #[.pointer (some ⟨P2, 0, none⟩), .pointer (some ⟨Q2, 0, none⟩)] (fun k => #[.agg (bv (blkAt (last ++ b) k)).toArray]) (nbOf (last ++ b).length) (fun k => k = P2) (fun A => ∃ vs, Row A B 101 vs ∧ vs.length = 18)
      (fun A W' => ∃ lv', W' = A.setCell ⟨B, 17, none⟩ lv' ∧ Sl A lv' ((last ++ b).drop (16 * nbOf (last ++ b).length)) ∧ ∀ k, lv'.ownBlock = some k → H ≤ k) W := by
  intro l J hJ hPre hY h0
  have HPre := Lib.hid hPre
  clear hPre
  obtain ⟨p1, c1, e1⟩ := hs1.form
  obtain ⟨p2, c2, e2⟩ := hs2.form
  have H1 := Lib.hid hs1
  have H2 := Lib.hid hs2
  have HB := Lib.hid rB
  have HP := Lib.hid rP
  have HQ := Lib.hid rQ
  have HL := Lib.hid hl
  have HH := Lib.hid hH
  have HX := Lib.hid hx
  have hbp := fun w => run_pair lv bval w _ _ _ _ _ _ e1 e2
  subst e1 e2
  clear hs1 hs2 rB rP rQ hl hH hx
  refine callsIn_of_wp Try.func75 rfl trivial ?_ rfl
  simp only [Try.ntmps75, List.size_toArray, List.length_cons, List.length_nil, Nat.reduceAdd, Nat.reduceSub, Array.replicate_succ, Array.replicate_zero, List.push_toArray, List.append_toArray, List.nil_append, List.cons_append]
  refine wpIn_scope ?_
  gi_wp2_with (fail)
  obtain ⟨X, hX, gx, hgx⟩ := Ext.over_index W
  have hov : ∀ x', Below W.heap.size W (gx x') := fun x' => (hgx _).2 ⟨x', rfl⟩
  have c1' : ∀ x', (gx x').cell? ⟨P2, 0, none⟩ = some (.pointer (some ⟨B, 0, none⟩)) := fun x' => (HP.out.below (hov x') HP.out.lt).cell (i := 0) rfl
  have c2' : ∀ x', (gx x').cell? ⟨B, 17, none⟩ = some (.slice p1 last.length c1) := fun x' => (HB.out.below (hov x') HB.out.lt).cell (mac_last _ _ _ HX.out)
  have c3' : ∀ x', (gx x').cell? ⟨Q2, 0, none⟩ = some (.slice p2 b.length c2) := fun x' => (HQ.out.below (hov x') HQ.out.lt).cell (i := 0) rfl
  have hs1 : ∀ x', Sl (gx x') (.slice p1 last.length c1) last := fun x' => H1.out.over (hov x')
  have hs2 : ∀ x', Sl (gx x') (.slice p2 b.length c2) b := fun x' => H2.out.over (hov x')
  have hsz : ∀ x', W.heap.size ≤ (gx x').heap.size := fun x' => (hov x').size
  have HS1 := Lib.hid hs1
  have HS2 := Lib.hid hs2
  have HSZ := Lib.hid hsz
  have HGI := Lib.hid hgx
  clear hov hs1 hs2 hsz hgx
  refine Ext.regionIn (Ext.open_wide _) (Ext.at_ [(5, pairS (.slice p1 last.length c1) (.slice p2 b.length c2)), (6, ownS W.heap.size (last ++ b))]) (fun w' => ∃ x, w' = gx x) (by kernel_rfl) (by kernel_rfl) (by kernel_rfl) ((HGI.out _).1 (Ext.Over.drew W)) (Ext.at_stable (by
    intro p hp v
    simp only [List.mem_cons, List.not_mem_nil, or_false] at hp
    rcases hp with rfl | rfl
    · exact pairS_stable _ _ _
    · exact ownS_stable _ _ _)) ?_
  refine Ext.walk_take 1 (by kernel_rfl) (by kernel_rfl) (by kernel_rfl) ?_
  simp only [List.take_succ_cons, List.take_zero, List.drop_succ_cons, List.drop_zero]
  repeat (go_big_quiet_step (fail))
  refine wpQuiet_nil ?_
  refine Ext.walk_det (.pointer (some ⟨B, 0, none⟩)) (Ext.wanted_plain rfl) rfl (by intro _ _; go_simp) ?_
  simp only [Act.put, List.setIfInBounds_toArray, List.set_cons_zero, List.set_cons_succ]
  refine Ext.walk_take 3 (by kernel_rfl) (by kernel_rfl) (by kernel_rfl) ?_
  simp only [List.take_succ_cons, List.take_zero, List.drop_succ_cons, List.drop_zero]
  repeat (go_big_quiet_step (fail))
  refine wpQuiet_nil ?_
  refine Ext.walk_spec _ rfl rfl ?_ ?_
  · rintro _ ⟨x', rfl⟩ _
    go_simp
    exact Ext.made HGI.out ⟨_, rfl⟩ (fun q e => by cases e; exact Row.new (gx x') 34 [.slice p1 last.length c1, .slice p2 b.length c2])
  · rintro v ⟨q, rfl⟩
    simp only [Act.put, List.setIfInBounds_toArray, List.set_cons_zero, List.set_cons_succ]
    refine Ext.walk_spec _ rfl rfl ?_ ?_
    · rintro _ ⟨x', rfl⟩ hdep
      have hq := (Ext.upd_at (hdep 5 (by kernel_rfl))) q rfl
      go_simp
      refine Ext.call_post HGI.out ((concat_any q _ _ last b (gx x') hq (HS1.out x') (HS2.out x') HL.out).mono ?_)
      rintro e w' ⟨v, rfl, ho, hbl⟩
      refine ⟨v, rfl, ?_, ho.base (HSZ.out x'), hbl⟩
      obtain ⟨p, cap, e⟩ := ho.sl.form
      exact ⟨p, cap, e⟩
    · rintro v ⟨pv, cv, rfl⟩
      simp only [Act.put, List.setIfInBounds_toArray, List.set_cons_zero, List.set_cons_succ]
      refine Ext.walk_take 1 (by kernel_rfl) (by kernel_rfl) (by kernel_rfl) ?_
      simp only [List.take_succ_cons, List.take_zero, List.drop_succ_cons, List.drop_zero]
      repeat (go_big_quiet_step (fail))
      refine wpQuiet_nil ?_
      refine Ext.walk_end ?_
      intro wx hwx hK
      have ho : Own wx W.heap.size (.slice pv (last ++ b).length cv) (last ++ b) := (hK 6).2
      have hov : Below W.heap.size W wx := (HGI.out _).2 hwx
      have HA : Hid (J 0 wx ∧ Own wx W.heap.size (.slice pv (last ++ b).length cv) (last ++ b) ∧ Row wx P2 67 [.pointer (some ⟨B, 0, none⟩)] ∧ Row wx B 101 (macL p x (.slice p1 last.length c1)) ∧ W.heap.size ≤ wx.heap.size) :=
        ⟨hJ 0 _ _ h0 hov, ho, HP.out.below hov HP.out.lt, HB.out.below hov HB.out.lt, hov.size⟩
      clear hK hwx ho hov HS1 HS2 HSZ HGI c1' c2' c3' hX gx X hbp h0
      obtain ⟨all, hall⟩ : ∃ all, all = last ++ b := ⟨_, rfl⟩
      rw [← hall] at hY HA ⊢
      obtain ⟨nn, hnn⟩ : ∃ nn, nn = all.length := ⟨_, rfl⟩
      rw [← hnn] at hY HA ⊢
      have HNN := Lib.hid hnn
      have HALL := Lib.hid hall
      have hnb : nn ≤ 100000 := by have := HL.out; rw [hnn, hall, List.length_append]; omega
      have hget : all.length = nn := hnn.symm
      have HG := Lib.hid hget
      clear HL H1 H2 HQ HB HP hall hnn hget
      rcases HA.out.2.1.2 with ⟨e, h0⟩ | ⟨G, cap', cur, e, hGb, hGc, hcap, hcm, hcur⟩
      · obtain ⟨hpv, hn0, hcv⟩ := Value.slice.inj e
        subst hpv hn0 hcv
        have hall0 : all = [] := List.length_eq_zero_iff.1 HG.out
        obtain ⟨vs, hvs, hvl⟩ := HPre.out _ _ HA.out.1
        have cP := HA.out.2.2.1.cell (i := 0) rfl
        obtain ⟨v17, h17⟩ : ∃ v, vs[17]? = some v := ⟨_, List.getElem?_eq_getElem (by omega)⟩
        have c17 := hvs.cell (i := 17) h17
        have f17 := hvs.frozen 17
        have HJ0 := Lib.hid HA.out.1
        clear hvs hvl h17 e HA h0
        gi_wp2_with (first | (refine wpIn_label ?_))
        gi_loopw [4] (fun s wr => s = .slice none 0 0 ∧ wr = wx) (fun _ _ => 0)
        case atStart => exact ⟨rfl, rfl⟩
        case round =>
          obtain ⟨rfl, rfl⟩ := hrel
          gi_wp2
          simp only [noJump_normal]
          go_end0
          rw [← HALL.out, ← HNN.out]
          exact ⟨⟨_, rfl⟩, _, HJ0.out, _, rfl, .inl ⟨rfl, by rw [hall0]; rfl⟩, fun k hk => by cases hk⟩
      · obtain ⟨hpv, -, hcv⟩ := Value.slice.inj e
        subst hpv hcv
        have hGl : G < wx.heap.size := (Array.getElem?_eq_some_iff.1 hGc).1
        have HA2 : Hid (CI W.heap.size P2 B G nn cv all J 0 wx) := ⟨HA.out.1, HA.out.2.1, HA.out.2.2.1, HA.out.2.2.2.2⟩
        clear HA hGc hcur cur e
        gi_wp2_with (first | (refine wpIn_label ?_))
        gi_loopw [4] (fun s wr => ∃ k : Nat, k ≤ nbOf nn ∧ s = .slice (some ⟨G, 16 * k, none⟩) (nn - 16 * k) (cv - 16 * k) ∧ CI W.heap.size P2 B G nn cv all J k wr) (fun s _ => sliceLen s)
        case atStart => exact ⟨0, Nat.zero_le _, rfl, HA2.out⟩
        case round =>
          obtain ⟨k, hk, rfl, hR⟩ := hrel
          have HR := Lib.hid hR
          clear hR HA2
          by_cases hlt : k < nbOf nn
          · have h16 : 16 * k + 16 < nn := by unfold nbOf at hlt; omega
            have hcv : nn ≤ cv := by have := HNN.out; omega
            have hw : IntKind.i64.wrap (nn - 16 * k : Nat) = ((nn - 16 * k : Nat) : Int) := by rw [IntKind.wrap_i64]; omega
            have hgt : ((nn - 16 * k : Nat) : Int) > 16 := by omega
            obtain ⟨m, hm⟩ : ∃ m, m = nn - 16 * k := ⟨_, rfl⟩
            obtain ⟨c, hc⟩ : ∃ c, c = cv - 16 * k := ⟨_, rfl⟩
            rw [← hm] at hw hgt ⊢
            rw [← hc]
            have har := run_arrayAt_ge ⟨G, 16 * k, none⟩ m c (by omega)
            have hrg : wr.rangeAt G (16 * k) (bv (blkAt all k)) := fun j v hv => by
              have hj : j < 16 := by
                have := (List.getElem?_eq_some_iff.1 hv).1
                rwa [bv_length, blkAt_length] at this
              rw [bv_get _ j (by rw [blkAt_length]; exact hj)] at hv
              have := HR.out.2.1.cell (16 * k + j) (by omega)
              rw [this, ← hv, blkAt, tab_el _ _ _ hj]
            have HRG := Lib.hid hrg
            have x16 : (Try.prog.info? 29).map (·.size) = some (bv (blkAt all k)).length := by rw [bv_length, blkAt_length]; kernel_rfl
            have X16 := Lib.hid x16
            have n0 := Lib.hid (Row.new wr 29 (bv (zeroL 16)))
            have xin : 0 + (bv (blkAt all k)).length ≤ (bv (zeroL 16)).length := by rw [bv_length, bv_length, blkAt_length, zeroL_length]; omega
            have XIN := Lib.hid xin
            have HMC := Lib.hid (And.intro hm hc)
            have HCV := Lib.hid (And.intro hcv (And.intro hcm h16))
            clear hrg x16 xin hm hc hcv hcm hcap hnb h16
            gi_wp2_with (first | (refine wpListIn_load_in rfl 29 _ rfl G (16 * k) rfl (bv (blkAt all k)) _ HRG.out Try.underlying29 rfl X16.out ?_) | (refine wpListIn_store_in rfl 29 _ _ rfl wr.heap.size 0 (bv (blkAt all k)) rfl rfl n0.out X16.out XIN.out (bv_one _) ?_; refine stay ?_))
            refine go_on ?_
            have H3 : Hid (CI W.heap.size P2 B G nn cv all J k ((wr.alloc (.cells (bv (zeroL 16)).toArray 29)).setCells wr.heap.size 0 (bv (blkAt all k))) ∧ Row ((wr.alloc (.cells (bv (zeroL 16)).toArray 29)).setCells wr.heap.size 0 (bv (blkAt all k))) wr.heap.size 29 (bv (blkAt all k))) := by
              obtain ⟨r1, r2, r3, r4⟩ := HR.out
              have hb : Below wr.heap.size wr ((wr.alloc (.cells (bv (zeroL 16)).toArray 29)).setCells wr.heap.size 0 (bv (blkAt all k))) := below_setCells (Nat.le_refl _) _ _ ((Below.refl _ wr).alloc (Nat.le_refl _) _)
              exact ⟨⟨hJ k _ _ r1 (hb.mono r4), r2.over hb (fun k hk => (r2.lt k hk).2), r3.below hb r3.lt, Nat.le_trans r4 hb.size⟩, n0.out.putAll _ (by rw [bv_length, bv_length, blkAt_length, zeroL_length])⟩
            generalize hw3 : (wr.alloc _).setCells wr.heap.size 0 _ = w3
            have H4 : Hid (CI W.heap.size P2 B G nn cv all J k w3 ∧ Row w3 wr.heap.size 29 (bv (blkAt all k))) := by rw [← hw3]; exact H3.out
            clear hw3 H3 n0 XIN HRG
            obtain ⟨fn, tmps, assign, body, hy, hRR⟩ := hY k w3 hlt H4.out.1.1 H4.out.1.2.2.2
            have hm16 : (16 : Int) ≤ (m : Int) := by omega
            have hmc : (m : Int) ≤ (c : Int) := by have := HMC.out; have := HCV.out; omega
            have hc16 : (c : Int) ≠ 16 := by omega
            have hmc' : m ≤ c := by omega
            have hm16' : 16 ≤ m := by omega
            gi_wp2_with (refine wpListIn_load_Row rfl 29 _ rfl _ rfl H4.out.2 Try.underlying29 X16.out ?_; refine stay ?_)
            refine go_on ?_
            gi_wp2
            refine hRR.mono ?_
            rintro e w4 ⟨rfl, hJ4, hk4⟩
            have H5 : Hid (CI W.heap.size P2 B G nn cv all J (k + 1) w4) := by
              obtain ⟨-, r2, r3, r4⟩ := H4.out.1
              exact ⟨hJ4, r2.kept hk4 (Nat.le_refl _), r3.kept hk4 (.inr rfl), Nat.le_trans r4 hk4.size⟩
            clear hRR hy hJ4 hk4 H4 HR
            gi_wp2
            go_roundw
            case rel => exact ⟨k + 1, hlt, by
              have h1 := HMC.out
              rw [show 16 * (k + 1) = 16 * k + 16 by omega, show nn - (16 * k + 16) = m - 16 by omega, show cv - (16 * k + 16) = c - 16 by omega], H5.out⟩
            case measure => simp [sliceLen]; omega
          · have hkN : k = nbOf nn := by omega
            subst hkN
            have hgt : ¬ ((nn - 16 * nbOf nn : Nat) : Int) > 16 := by unfold nbOf; omega
            obtain ⟨vs, hvs, hvl⟩ := HPre.out _ _ HR.out.1
            have cP := HR.out.2.2.1.cell (i := 0) rfl
            obtain ⟨v17, h17⟩ : ∃ v, vs[17]? = some v := ⟨_, List.getElem?_eq_getElem (by omega)⟩
            have c17 := hvs.cell (i := 17) h17
            have f17 := hvs.frozen 17
            clear hvs hvl h17
            gi_wp2
            go_end0
            rw [← List.length_append, ← HALL.out, ← HNN.out]
            exact ⟨⟨_, rfl⟩, wr, HR.out.1, _, rfl, HR.out.2.1.dropSl _ _ (nbOf_le nn), fun k hk => by cases hk; exact Nat.le_trans HH.out hGb⟩
end Go.Proofs.Ytfkpilfnhgjmfaa
