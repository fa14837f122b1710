/-
  A round of the reference: boxed, moved, mixed but for the last, and the round key added.
-/
import Derived.Test.YtfkpilfnhgjmfaaEach
import Derived.Test.YtfkpilfnhgjmfaaExt
import Derived.Deep.DeepCutAuto
import Derived.Deep.RegionHeld3
import Derived.Deep.LoopGhost
namespace Go.Proofs.Ytfkpilfnhgjmfaa
open Go.RowKit
/-- boxed and moved, as the reference does it -/
def subAt (b : List Int) (i : Nat) : Int := box8 (el b (4 * ((i / 4 + i % 4) % 4) + i % 4))
theorem subAt_at (b : List Int) (c r : Nat) (hr : r < 4) : subAt b (4 * c + r) = box8 (el b (4 * ((c + r) % 4) + r)) := by
  unfold subAt
  rw [show (4 * c + r) / 4 = c by omega, show (4 * c + r) % 4 = r by omega]
theorem sub_eq (b : List Int) : movedL (boxedL b) = tab 16 (subAt b) := by
  refine tab_congr fun i hi => ?_
  rw [boxedL, tab_el _ _ _ (by omega), subAt, show (i + 4 * (i % 4)) % 16 = 4 * ((i / 4 + i % 4) % 4) + i % 4 by omega]
def roundL (b k : List Int) (last : Bool) : List Int := xorL (if last then movedL (boxedL b) else mixedL (movedL (boxedL b))) k
def RR (B : Nat) (w : World) (b k : List Int) (f g : Nat → Int) (n : Nat) (wr : World) : Prop :=
  Row wr B 29 (bv b) ∧ Row wr (B + 1) 29 (bv k) ∧ Row wr (B + 1 + 1) 83 tabL ∧ Row wr (B + 1 + 1 + 1) 29 (bv (zeroL 16)) ∧ Row wr (B + 1 + 1 + 1 + 1) 29 (bv (upto 16 n f g)) ∧ Below B w wr
theorem RR.step {B : Nat} {w : World} {b k : List Int} {f g : Nat → Int} {n : Nat} {wr : World} (h : RR B w b k f g n wr) (x : Int) (hx : x = f n) : RR B w b k f g (n + 1) (wr.setCell ⟨B + 1 + 1 + 1 + 1, n, none⟩ (.int .u8 x)) := by
  obtain ⟨h0, h1, h2, h3, h4, h5⟩ := h
  have q := h4.set n (.int .u8 x)
  rw [bv_set, upto_set _ _ _ _ _ (fun _ => hx)] at q
  exact ⟨h0.other (by show B ≠ B + 1 + 1 + 1 + 1; omega) _, h1.other (by show B + 1 ≠ B + 1 + 1 + 1 + 1; omega) _, h2.other (by show B + 1 + 1 ≠ B + 1 + 1 + 1 + 1; omega) _, h3.other (by show B + 1 + 1 + 1 ≠ B + 1 + 1 + 1 + 1; omega) _, q, h5.setCell (p := ⟨B + 1 + 1 + 1 + 1, n, none⟩) (by show B ≤ B + 1 + 1 + 1 + 1; omega) _⟩
theorem RR.start (w : World) (b k : List Int) (f : Nat → Int) (W : World)
    (hW : (((((w.alloc (.cells (bv b).toArray 29)).alloc (.cells (bv k).toArray 29)).alloc (.cells tabA 83)).alloc (.cells (bv (zeroL 16)).toArray 29)).alloc (.cells (bv (zeroL 16)).toArray 29)) = W) : RR w.heap.size w b k f (fun _ => 0) 0 W := by
  subst hW
  obtain ⟨a0, a1, a2, a3⟩ := rows3 w 29 29 83 (bv b) (bv k) tabL
  generalize hV : (((w.alloc (.cells (bv b).toArray 29)).alloc (.cells (bv k).toArray 29)).alloc (.cells tabL.toArray 83)) = V at a0 a1 a2 a3
  have hs : V.heap.size = w.heap.size + 1 + 1 + 1 := by rw [← hV]; simp
  obtain ⟨c0, c1, c2⟩ := rows2 V 29 29 (bv (zeroL 16)) (bv (zeroL 16))
  have e : ((((((w.alloc (.cells (bv b).toArray 29)).alloc (.cells (bv k).toArray 29)).alloc (.cells tabA 83)).alloc (.cells (bv (zeroL 16)).toArray 29)).alloc (.cells (bv (zeroL 16)).toArray 29))) = (V.alloc (.cells (bv (zeroL 16)).toArray 29)).alloc (.cells (bv (zeroL 16)).toArray 29) := by rw [← hV]; rfl
  rw [e]
  have hs' := hs
  rw [hs] at c0 c1
  refine ⟨(a0.out.alloc _).alloc _, (a1.out.alloc _).alloc _, (a2.out.alloc _).alloc _, c0.out, by rw [upto_zero]; exact c1.out, a3.out.trans (c2.out.mono (by omega))⟩
theorem RR.below {B : Nat} {w : World} {b k : List Int} {f g : Nat → Int} {n : Nat} {wr w' : World} (h : RR B w b k f g n wr) {m : Nat} (hb : Below m wr w') (hm : B + 1 + 1 + 1 + 1 < m) : RR B w b k f g n w' := by
  obtain ⟨h0, h1, h2, h3, h4, h5⟩ := h
  exact ⟨h0.below hb (by omega), h1.below hb (by omega), h2.below hb (by omega), h3.below hb (by omega), h4.below hb (by omega), h5.trans (hb.mono (by omega))⟩
theorem RR.lt {B : Nat} {w : World} {b k : List Int} {f g : Nat → Int} {n : Nat} {wr : World} (h : RR B w b k f g n wr) : B + 1 + 1 + 1 + 1 < wr.heap.size := h.2.2.2.2.1.lt
theorem RR.alloc {B : Nat} {w : World} {b k : List Int} {f g : Nat → Int} {n : Nat} {wr : World} (h : RR B w b k f g n wr) (o : Obj) : RR B w b k f g n (wr.alloc o) :=
  h.below ((Below.refl wr.heap.size wr).alloc (Nat.le_refl _) o) h.lt
theorem RR.drew {B : Nat} {w : World} {b k : List Int} {f g : Nat → Int} {n : Nat} {wr : World} (h : RR B w b k f g n wr) : RR B w b k f g n wr.drew :=
  h.below ((Below.refl wr.heap.size wr).drew) h.lt
theorem el_colOf (b : List Int) (n r : Nat) (hn : n < 4) (hr : r < 4) : el (colOf (movedL (boxedL b)) n) r = subAt b (4 * n + r) := by
  rw [colOf, tab_el _ _ _ hr, sub_eq, tab_el _ _ _ (by omega), Nat.mul_comm]
theorem four_of (l : List Int) (h : l.length = 4) : l = [el l 0, el l 1, el l 2, el l 3] := tab_of l h
theorem RR.stores {B : Nat} {w : World} {b k : List Int} {f g : Nat → Int} {n : Nat} {wr : World} (h : RR B w b k f g n wr) {a : Addr} (ha : B + 1 + 1 + 1 + 1 < a.block) (v : Value) : RR B w b k f g n (wr.setCell a v) :=
  h.below ((Below.refl a.block wr).setCell (Nat.le_refl _) v) ha
theorem rMix_lit (c0 c1 c2 c3 : Int) (w : World) (hb : Byt [c0, c1, c2, c3]) :
    Calls Try.prog 24 #[.agg #[.int .u8 c0, .int .u8 c1, .int .u8 c2, .int .u8 c3]] w fun e w' => e = .returned (.agg #[.int .u8 (mixAt [c0, c1, c2, c3] 0), .int .u8 (mixAt [c0, c1, c2, c3] 1), .int .u8 (mixAt [c0, c1, c2, c3] 2), .int .u8 (mixAt [c0, c1, c2, c3] 3)]) ∧ Below w.heap.size w w' :=
  rMix_any [c0, c1, c2, c3] w rfl hb
theorem RR.putRow {B : Nat} {w : World} {b k : List Int} {f g : Nat → Int} {n : Nat} {wr : World} (h : RR B w b k f g n wr) {m : Nat} (hm : B + 1 + 1 + 1 + 1 < m) (c : Array Value) : RR B w b k f g n (wr.setRow m c) :=
  h.below (below_setRow (Below.refl m wr) (Nat.le_refl _) c) hm
/-- A new variable: a row of cells beyond B. -/
def newS (B : Nat) (t : TypeId) (vs : List Value) : Ext.Spec := { may := fun v => ∃ g, v = .pointer (some ⟨g, 0, none⟩), post := fun v w => ∃ g, v = .pointer (some ⟨g, 0, none⟩) ∧ B ≤ g ∧ Row w g t vs }
theorem newS_stable (B : Nat) (t : TypeId) (vs : List Value) (v : Value) : Ext.Stable ((newS B t vs).post v) := fun _ _ ⟨g, h1, h2, h3⟩ hb => ⟨g, h1, h2, h3.below hb h3.lt⟩
set_option maxRecDepth 100000 in
set_option maxHeartbeats 1600000 in
theorem rround_any (b k : List Int) (last : Bool) (w : World) (hb : b.length = 16) (hk : k.length = 16) (hB : Byt b) :
    Calls Try.prog 58 #[.agg (bv b).toArray, .agg (bv k).toArray, .bool last, .agg tabA] w fun e w' => e = .returned (.agg (bv (roundL b k last)).toArray) ∧ Below w.heap.size w w' := by
  have HL := Lib.hid hb
  have HK := Lib.hid hk
  have HB := Lib.hid hB
  have hst := RR.start w b k (subAt b)
  have HST := Lib.hid hst
  have HBM : Hid (Byt (movedL (boxedL b))) := by
    rw [sub_eq]
    exact Byt.of_mem (by intro x hx; obtain ⟨i, _, rfl⟩ := List.mem_map.1 hx; exact box8_bd _ (hB _).1 (hB _).2)
  clear hb hk hB hst
  go_enter Try.func58, Try.ntmps58
  go_wp2
  generalize hW : ((((((w.alloc (.cells (bv b).toArray 29)).alloc (.cells (bv k).toArray 29)).alloc (.cells tabA 83)).alloc _).alloc _)) = W
  have HR := Lib.hid (HST.out W hW)
  clear hW HST
  go_loopw [10, 11] (fun c _ wr => ∃ n : Nat, n ≤ 4 ∧ c = .int .i64 n ∧ RR w.heap.size w b k (subAt b) (fun _ => 0) (4 * n) wr) (fun c _ _ => 4 - (intOf c).toNat)
  case atStart => exact ⟨0, by omega, rfl, HR.out⟩
  case round =>
    obtain ⟨n, hn, rfl, hR⟩ := hrel
    have HN := Lib.hid hR
    clear hR
    by_cases hlt : n < 4
    · go_wp2
      obtain ⟨wo, rfl⟩ : ∃ wo : World, wo = wr := ⟨_, rfl⟩
      go_loopw [11] (fun r wr => ∃ m : Nat, m ≤ 4 ∧ r = .int .i64 m ∧ RR w.heap.size w b k (subAt b) (fun _ => 0) (4 * n + m) wr) (fun r _ => 4 - (intOf r).toNat)
      case atStart => exact ⟨0, by omega, rfl, HN.out⟩
      case round =>
        obtain ⟨m, hm, rfl, hR2⟩ := hrel
        have HM := Lib.hid hR2
        by_cases hlt2 : m < 4
        · have c0 := hR2.1.cell (bv_get b (4 * ((n + m) % 4) + m) (by rw [HL.out]; omega))
          have bd := HB.out (4 * ((n + m) % 4) + m)
          have c1 := hR2.2.2.1.cell (tabL_get (el b (4 * ((n + m) % 4) + m)).toNat (by omega))
          have c2 := hR2.2.2.2.2.1.cell (bv_get _ (4 * n + m) (by rw [upto_length]; omega))
          have f2 := hR2.2.2.2.2.1.frozen (4 * n + m)
          have HS := Lib.hid (HM.out.step (box8 (el b (4 * ((n + m) % 4) + m))) (subAt_at b n m hlt2).symm)
          clear hR2
          go_wp2
          go_roundw
          case rel => exact ⟨m + 1, by omega, by go_num, HS.out⟩
          case measure => simp [intOf]; omega
        · have hm4 : 4 * n + m = 4 * (n + 1) := by omega
          rw [hm4] at HM
          clear hR2 hm4
          go_wp2
          go_roundw
          case rel => exact ⟨n + 1, by omega, by go_num, HM.out⟩
          case measure => simp [intOf]; omega
    · have hn4 : 4 * n = 16 := by omega
      rw [hn4] at HN
      clear hn4
      cases last
      · have HM : Hid (RR w.heap.size w b k (mixedAt (movedL (boxedL b))) (subAt b) 0 wr) := by
          obtain ⟨h0, h1, h2, h3, h4, h5⟩ := HN.out
          rw [upto_full] at h4
          exact ⟨h0, h1, h2, h3, by rw [upto_zero]; exact h4, h5⟩
        clear HN
        go_wp2
        obtain ⟨wo, rfl⟩ : ∃ wo : World, wo = wr := ⟨_, rfl⟩
        go_loopg [12, 13, 14] 5 (fun g c _ _ wr => ∃ n : Nat, n ≤ 4 ∧ g = 5 - n ∧ c = .int .i64 n ∧ RR w.heap.size w b k (mixedAt (movedL (boxedL b))) (subAt b) (4 * n) wr)
        case atStart => exact ⟨0, by omega, rfl, rfl, HM.out⟩
        case round =>
          obtain ⟨n, hn, hg, rfl, hR⟩ := hrel
          have HG := Lib.hid hg
          have HM2 := Lib.hid hR
          clear hg
          by_cases hlt : n < 4
          · have c0 := hR.2.2.2.2.1.cell (bv_get _ (4 * n) (by rw [upto_length]; omega))
            have c1 := hR.2.2.2.2.1.cell (bv_get _ (4 * n + 1) (by rw [upto_length]; omega))
            have c2 := hR.2.2.2.2.1.cell (bv_get _ (4 * n + 2) (by rw [upto_length]; omega))
            have c3 := hR.2.2.2.2.1.cell (bv_get _ (4 * n + 3) (by rw [upto_length]; omega))
            rw [upto_el _ _ _ _ _ (by omega), if_neg (by omega)] at c0 c1 c2 c3
            rw [← el_colOf b n 1 hlt (by omega)] at c1
            rw [← el_colOf b n 2 hlt (by omega)] at c2
            rw [← el_colOf b n 3 hlt (by omega)] at c3
            have e0 := el_colOf b n 0 hlt (by omega)
            rw [Nat.add_zero] at e0
            rw [← e0] at c0
            have hz0 : w.heap.size + 1 + 1 + 1 + 1 < wr.heap.size := hR.lt
            clear hR e0
            have hby : Byt [el (colOf (movedL (boxedL b)) n) 0, el (colOf (movedL (boxedL b)) n) 1, el (colOf (movedL (boxedL b)) n) 2, el (colOf (movedL (boxedL b)) n) 3] := by
              rw [← four_of (colOf (movedL (boxedL b)) n) (tab_length _ _)]
              exact colOf_byt _ _ HBM.out
            have HBY := Lib.hid hby
            clear hby
            go_upto_region 13 with (fail)
            obtain ⟨X, hX, g, hg⟩ := Ext.over_index wr
            have d0 : ∀ x, (g x).cell? ⟨w.heap.size + 1 + 1 + 1 + 1, 4 * n, none⟩ = some (.int .u8 (el (colOf (movedL (boxedL b)) n) 0)) := fun x => (((hg _).2 ⟨x, rfl⟩ : Below _ _ _).cell (p := ⟨w.heap.size + 1 + 1 + 1 + 1, _, none⟩) hz0).trans c0
            have d1 : ∀ x, (g x).cell? ⟨w.heap.size + 1 + 1 + 1 + 1, 4 * n + 1, none⟩ = some (.int .u8 (el (colOf (movedL (boxedL b)) n) 1)) := fun x => (((hg _).2 ⟨x, rfl⟩ : Below _ _ _).cell (p := ⟨w.heap.size + 1 + 1 + 1 + 1, _, none⟩) hz0).trans c1
            have d2 : ∀ x, (g x).cell? ⟨w.heap.size + 1 + 1 + 1 + 1, 4 * n + 2, none⟩ = some (.int .u8 (el (colOf (movedL (boxedL b)) n) 2)) := fun x => (((hg _).2 ⟨x, rfl⟩ : Below _ _ _).cell (p := ⟨w.heap.size + 1 + 1 + 1 + 1, _, none⟩) hz0).trans c2
            have d3 : ∀ x, (g x).cell? ⟨w.heap.size + 1 + 1 + 1 + 1, 4 * n + 3, none⟩ = some (.int .u8 (el (colOf (movedL (boxedL b)) n) 3)) := fun x => (((hg _).2 ⟨x, rfl⟩ : Below _ _ _).cell (p := ⟨w.heap.size + 1 + 1 + 1 + 1, _, none⟩) hz0).trans c3
            have HGI := Lib.hid hg
            clear hg c0 c1 c2 c3
            refine Ext.region 22 (Ext.at_ [(20, Ext.eqS (.agg (bv (mixL (colOf (movedL (boxedL b)) n))).toArray)), (21, newS wr.heap.size 26 (bv (zeroL 4)))]) (fun w' => ∃ x, w' = g x) (by kernel_rfl) (by kernel_rfl) ((HGI.out _).1 (Ext.Over.drew wr)) (Ext.at_stable (by
              intro p hp v
              simp only [List.mem_cons, List.not_mem_nil, or_false] at hp
              rcases hp with rfl | rfl
              · exact Ext.eqS_stable _ _
              · exact newS_stable _ _ _ _)) ?_
            simp only [List.take_succ_cons, List.take_zero, List.drop_succ_cons, List.drop_zero]
            refine Ext.walk_take 20 (by kernel_rfl) (by kernel_rfl) (by kernel_rfl) ?_
            simp only [List.take_succ_cons, List.take_zero, List.drop_succ_cons, List.drop_zero]
            repeat (go_big_quiet_step (fail))
            refine wpQuiet_nil ?_
            refine Ext.walk_spec _ rfl rfl ?_ ?_
            · rintro _ ⟨x, rfl⟩ _
              go_simp
              refine Ext.call_eq HGI.out ?_
              have e4 := four_of (colOf (movedL (boxedL b)) n) (tab_length _ _)
              have h := rMix_any [el (colOf (movedL (boxedL b)) n) 0, el (colOf (movedL (boxedL b)) n) 1, el (colOf (movedL (boxedL b)) n) 2, el (colOf (movedL (boxedL b)) n) 3] (g x) rfl HBY.out
              have e5 : mixL [el (colOf (movedL (boxedL b)) n) 0, el (colOf (movedL (boxedL b)) n) 1, el (colOf (movedL (boxedL b)) n) 2, el (colOf (movedL (boxedL b)) n) 3] = mixL (colOf (movedL (boxedL b)) n) := congrArg mixL e4.symm
              rw [e5] at h
              exact h
            · rintro v rfl
              refine Ext.walk_spec _ rfl rfl ?_ ?_
              · rintro _ ⟨x, rfl⟩ _
                go_simp
                exact Ext.made HGI.out ⟨_, rfl⟩ ⟨_, rfl, ((HGI.out _).2 ⟨x, rfl⟩ : Ext.Over _ _).size, Row.new (g x) 26 (bv (zeroL 4))⟩
              · rintro v ⟨gm, rfl⟩
                simp only [Act.put, List.setIfInBounds_toArray, List.set_cons_zero, List.set_cons_succ]
                refine Ext.walk_end ?_
                intro wx hwx hK
                obtain ⟨g2, e2, hle, hrow⟩ := Ext.upd_new hK
                cases e2
                have hov : Ext.Over wr wx := (HGI.out _).2 hwx
                have hcols : (bv (mixL (colOf (movedL (boxedL b)) n))).length = 4 := by rw [bv_length, mixL, tab_length]
                refine wpList_store_Row rfl 26 _ _ rfl gm (bv (mixL (colOf (movedL (boxedL b)) n))) rfl rfl hrow (by rw [hcols]; kernel_rfl) (by rw [hcols]; rfl) (bv_one _) ?_
                have hgm : w.heap.size + 1 + 1 + 1 + 1 < gm := by omega
                have HQ := Lib.hid ((HM2.out.below hov hz0).putRow hgm (bv (mixL (colOf (movedL (boxedL b)) n))).toArray)
                have HR2 := Lib.hid (hrow.put (bv (mixL (colOf (movedL (boxedL b)) n))))
                clear hov hwx hK hrow hcols d0 d1 d2 d3 HGI HM2
                generalize hV : wx.setRow gm _ = V
                rw [hV] at HQ HR2
                clear hV
                simp only [Act.put]
                go_wp2
                go_loopw [14] (fun r wv => ∃ m : Nat, m ≤ 4 ∧ r = .int .i64 m ∧ RR w.heap.size w b k (mixedAt (movedL (boxedL b))) (subAt b) (4 * n + m) wv ∧ Row wv gm 26 (bv (mixL (colOf (movedL (boxedL b)) n)))) (fun r _ => 4 - (intOf r).toNat)
                case atStart => exact ⟨0, by omega, rfl, HQ.out, HR2.out⟩
                case round =>
                  obtain ⟨m, hm, rfl, hR3, hrow⟩ := hrel
                  have HM := Lib.hid hR3
                  by_cases hlt2 : m < 4
                  · have c1 := hrow.cell (bv_get _ m (by rw [mixL, tab_length]; omega))
                    rw [mixL, tab_el _ _ _ hlt2] at c1
                    have c2 := hR3.2.2.2.2.1.cell (bv_get _ (4 * n + m) (by rw [upto_length]; omega))
                    have f2 := hR3.2.2.2.2.1.frozen (4 * n + m)
                    have HS := Lib.hid (HM.out.step (mixAt (colOf (movedL (boxedL b)) n) m) (by unfold mixedAt; rw [show (4 * n + m) / 4 = n by omega, show (4 * n + m) % 4 = m by omega]))
                    have HW := Lib.hid hrow
                    clear hR3 hrow
                    go_wp2
                    go_roundw
                    case rel => exact ⟨m + 1, by omega, by go_num, HS.out, HW.out.other (by show gm ≠ w.heap.size + 1 + 1 + 1 + 1; omega) _⟩
                    case measure => simp [intOf]; omega
                  · have hm4 : 4 * n + m = 4 * (n + 1) := by omega
                    rw [hm4] at HM
                    clear hR3 hm4
                    go_wp2
                    go_roundg (5 - (n + 1))
                    case measure => have := HG.out; omega
                    case rel => exact ⟨n + 1, by omega, rfl, by go_num, HM.out⟩
          · have hn4 : 4 * n = 16 := by omega
            rw [hn4] at HM2
            clear hR hn4
            obtain ⟨h0, h1, h2, h3, h4, h5⟩ := HM2.out
            rw [upto_full] at h4
            go_wp2_with (first | (refine wpList_load_Row rfl 29 _ rfl _ rfl h4 Try.underlying29 (by rw [bv_length, tab_length]; kernel_rfl) ?_) | (refine wpList_load_Row rfl 29 _ rfl _ rfl h1 Try.underlying29 (by rw [bv_length, HK.out]; kernel_rfl) ?_))
            refine (radd_any _ _ _ (tab_length _ _) HK.out).mono ?_
            rintro e w2 ⟨rfl, hb2⟩
            have q3 := h3.below hb2 h3.lt
            have qb := h5.trans (hb2.mono h5.size)
            go_wp2_with (refine wpList_store_Row rfl 29 _ _ rfl _ _ rfl rfl q3 (by rw [bv_length, xorL_length]; kernel_rfl) (by rw [bv_length, bv_length, xorL_length]; rfl) (bv_one _) ?_)
            exact bodyPost_ret (results_Row rfl _ _ _ rfl (q3.put _) Try.underlying29 (by rw [bv_length, xorL_length]; kernel_rfl)) rfl ⟨rfl, below_setRow qb (by omega) _⟩
      · have hR := HN.out
        have HN2 := HN
        obtain ⟨h0, h1, h2, h3, h4, h5⟩ := hR
        rw [upto_full, ← sub_eq] at h4
        go_wp2_with (first | (refine wpList_load_Row rfl 29 _ rfl _ rfl h4 Try.underlying29 (by rw [bv_length, movedL, tab_length]; kernel_rfl) ?_) | (refine wpList_load_Row rfl 29 _ rfl _ rfl h1 Try.underlying29 (by rw [bv_length, HK.out]; kernel_rfl) ?_))
        refine (radd_any _ _ _ (tab_length _ _) HK.out).mono ?_
        rintro e w2 ⟨rfl, hb2⟩
        have q3 := h3.below hb2 h3.lt
        have qb := h5.trans (hb2.mono h5.size)
        go_wp2_with (refine wpList_store_Row rfl 29 _ _ rfl _ _ rfl rfl q3 (by rw [bv_length, xorL_length]; kernel_rfl) (by rw [bv_length, bv_length, xorL_length]; rfl) (bv_one _) ?_)
        exact bodyPost_ret (results_Row rfl _ _ _ rfl (q3.put _) Try.underlying29 (by rw [bv_length, xorL_length]; kernel_rfl)) rfl ⟨rfl, below_setRow qb (by omega) _⟩
end Go.Proofs.Ytfkpilfnhgjmfaa
