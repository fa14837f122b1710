/-
  cmac: Write.
-/
import Derived.Test.YtfkpilfnhgjmfaaCIt
import Derived.Test.YtfkpilfnhgjmfaaFenS
namespace Go.Proofs.Ytfkpilfnhgjmfaa
open Go.RowKit
attribute [local go_sem] Oper.semAt_some noJump_normal noJump_exit noJump_ret noJump_panic wide_fn wide_depth
/-- all that lay lies as it lay, but for block B -/
structure But (B : Nat) (w w' : World) : Prop where
  os : w'.os = w.os
  tape : w'.tape = w.tape
  output : w'.output = w.output
  size : w.heap.size ≤ w'.heap.size
  block : ∀ k, k < w.heap.size → k ≠ B → w'.heap[k]? = w.heap[k]?
theorem But.refl (B : Nat) (w : World) : But B w w := ⟨rfl, rfl, rfl, Nat.le_refl _, fun _ _ _ => rfl⟩
theorem But.trans {B : Nat} {a b c : World} (h : But B a b) (k : But B b c) : But B a c :=
  ⟨k.os.trans h.os, k.tape.trans h.tape, k.output.trans h.output, Nat.le_trans h.size k.size, fun i hi hn => (k.block i (Nat.lt_of_lt_of_le hi h.size) hn).trans (h.block i hi hn)⟩
theorem But.of {B m : Nat} {a b : World} (h : Below m a b) (hm : a.heap.size ≤ m) : But B a b := ⟨h.os, h.tape, h.output, h.size, fun k hk _ => h.block k (by omega)⟩
theorem But.row {B g : Nat} {a b : World} {t : TypeId} {vs : List Value} (h : But B a b) (hr : Row a g t vs) (hg : g ≠ B) : Row b g t vs := (h.block g hr.lt hg).trans hr
theorem But.below {B m : Nat} {a b : World} (h : But B a b) (hm : m ≤ B) (hs : m ≤ a.heap.size) : Below m a b := ⟨h.os, h.tape, h.output, h.size, fun k hk => h.block k (by omega) (by omega)⟩
theorem But.sl {B : Nat} {a b : World} {v : Value} {l : List Int} (h : But B a b) (hs : Sl a v l) (hv : l ≠ [] → ∀ k, v.ownBlock = some k → k ≠ B) : Sl b v l := by
  rcases hs with hs | ⟨ad, cap, rfl, hc⟩
  · exact .inl hs
  · refine .inr ⟨ad, cap, rfl, fun j u hu => ?_⟩
    have hne : l ≠ [] := by rintro rfl; simp [bv] at hu
    have hc' := hc j u hu
    have hb : (ad.add j).block = ad.block := by unfold Addr.add; split <;> rfl
    have hlt := World.block_lt_of_cell? a _ hc'
    exact (World.cell?_of_block (h.block _ hlt (by rw [hb]; exact hv hne _ rfl))).trans hc'
theorem But.setCell {B : Nat} {a b : World} (h : But B a b) (i : Nat) (v : Value) : But B a (b.setCell ⟨B, i, none⟩ v) :=
  ⟨h.os, h.tape, h.output, by simpa [World.setCell] using h.size, fun k hk hn => (Below.heap_setCell b ⟨B, i, none⟩ v k hn).trans (h.block k hk hn)⟩
theorem But.setCells {B : Nat} {a : World} : ∀ (vs : List Value) (o : Nat) {b : World}, But B a b → But B a (b.setCells B o vs)
  | [], _, _, h => h
  | v :: r, o, _, h => But.setCells r (o + 1) (h.setCell o v)
theorem But.putObj {B : Nat} {a b : World} (h : But B a b) {l : Nat} (hl : a.heap.size ≤ l) (o : Obj) : But B a (b.putObj l o) :=
  ⟨h.os, h.tape, h.output, by rw [size_putObj]; exact h.size, fun k hk hn => (World.putObj_heap_other (by omega)).trans (h.block k hk hn)⟩
theorem Sl.same {w w' : World} {v : Value} {l : List Int} (h : Sl w v l) (hb : ∀ k, v.ownBlock = some k → w'.heap[k]? = w.heap[k]?) : Sl w' v l := by
  rcases h with h | ⟨ad, cap, rfl, hc⟩
  · exact .inl h
  · refine .inr ⟨ad, cap, rfl, fun j u hu => ?_⟩
    have hb' : (ad.add j).block = ad.block := by unfold Addr.add; split <;> rfl
    exact (World.cell?_of_block (by rw [hb']; exact hb _ rfl)).trans (hc j u hu)
theorem mac_length (p : Option Addr) (x : List Int) (lv : Value) (hx : x.length = 16) : (macL p x lv).length = 18 := by simp [macL, bv, hx]
theorem mac_put {w : World} {B : Nat} {p : Option Addr} {x y : List Int} {lv : Value} (h : Row w B 101 (macL p x lv)) (hx : x.length = 16) (hy : y.length = 16) : Row (w.setCells B 1 (bv y)) B 101 (macL p y lv) := by
  have := Row.putIn (bv y) [.pointer p] (bv x) (c := [lv]) (by rw [bv_length, bv_length, hx, hy]) h
  exact this
theorem mac_setLast {w : World} {B : Nat} {p : Option Addr} {x : List Int} {lv : Value} (h : Row w B 101 (macL p x lv)) (hx : x.length = 16) (lv' : Value) : Row (w.setCell ⟨B, 17, none⟩ lv') B 101 (macL p x lv') := by
  have := h.set 17 lv'
  have e : (macL p x lv).set 17 lv' = macL p x lv' := by
    unfold macL
    rw [List.set_cons_succ, List.set_append_right _ _ (by rw [bv_length, hx]; omega), bv_length, hx]
    rfl
  rwa [e] at this
set_option maxRecDepth 100000 in
theorem cblocks_any (p : Option Addr) (v : Value) (pv : Option Addr) (n c : Nat) (hv : v = .slice pv n c) (w : World) :
    Calls Try.prog 67 #[.pointer p, v] w fun e w' => e = .returned (.func (.func 75) #[] #[.pointer (some ⟨w.heap.size, 0, none⟩), .pointer (some ⟨w.heap.size + 1, 0, none⟩)]) ∧
      Row w' w.heap.size 67 [.pointer p] ∧ Row w' (w.heap.size + 1) 34 [v] ∧ w'.heap.size = w.heap.size + 1 + 1 ∧ Below w.heap.size w w' := by
  subst hv
  obtain ⟨HR0, HR1, HBL⟩ := rows2 w 67 34 [.pointer p] [.slice pv n c]
  go_enter Try.func67, Try.ntmps67
  go_wp2
  go_ret
  exact ⟨rfl, HR0.out, HR1.out, by simp, HBL.out⟩
/-- k rounds are over -/
def CW (w : World) (B g P : Nat) (x' : List Int) (lv : Value) (A : World) : Prop :=
  Row A B 101 (macL (some ⟨g, 0, none⟩) x' lv) ∧ Row A P 67 [.pointer (some ⟨B, 0, none⟩)] ∧ But B w A
theorem CW.stay {w : World} {B g P : Nat} {x' : List Int} {lv : Value} {A A' : World} {H : Nat} (h : CW w B g P x' lv A) (hb : Below H A A') (hB : B < H) (hP : P < H) (hw : w.heap.size ≤ H) : CW w B g P x' lv A' := by
  obtain ⟨h1, h2, h3⟩ := h
  exact ⟨h1.below hb hB, h2.below hb hP, ⟨hb.os.trans h3.os, hb.tape.trans h3.tape, hb.output.trans h3.output, Nat.le_trans h3.size hb.size, fun k hk hn => (hb.block k (by omega)).trans (h3.block k hk hn)⟩⟩
set_option maxRecDepth 100000 in
set_option maxHeartbeats 3200000 in
theorem cWrite_any (B g : Nat) (key x last b : List Int) (lv v : Value) (w : World) (hk : key.length = 16) (hB : Byt key) (hx : x.length = 16) (hbx : Byt x) (hal : Byt (last ++ b)) (rc : IsCip w g key) (rB : Row w B 101 (macL (some ⟨g, 0, none⟩) x lv))
    (hs1 : Sl w lv last) (hs2 : Sl w v b) (hl : last.length + b.length ≤ 100000) (hg : g ≠ B) (hv1 : last ≠ [] → ∀ k, lv.ownBlock = some k → k ≠ B) (hv2 : b ≠ [] → ∀ k, v.ownBlock = some k → k ≠ B) :
    Calls Try.prog 45 #[.pointer (some ⟨B, 0, none⟩), v] w fun e w' => e = .returned (.int .i64 0) ∧ But B w w' ∧ ∃ lv', Row w' B 101 (macL (some ⟨g, 0, none⟩) (absX key x (last ++ b) (nbOf (last ++ b).length)) lv') ∧
      Sl w' lv' ((last ++ b).drop (16 * nbOf (last ++ b).length)) ∧ (∀ k, lv'.ownBlock = some k → w.heap.size ≤ k) := by
  obtain ⟨pv, cv, hv⟩ := hs2.form
  obtain ⟨all, hall⟩ : ∃ all, all = last ++ b := ⟨_, rfl⟩
  have HALL := Lib.hid hall
  rw [← hall] at hal ⊢
  clear hall
  have HK := Lib.hid hk
  have HB := Lib.hid hB
  have HX := Lib.hid hx
  have HBX := Lib.hid hbx
  have HAL := Lib.hid hal
  have H0 := Lib.hid (And.intro rc (And.intro rB (And.intro hs1 (And.intro hs2 (And.intro hl (And.intro hg (And.intro hv1 hv2)))))))
  have hnone := fun w' h => cNone_any B g x lv w' h
  have HNO := Lib.hid hnone
  have hBl := rB.lt
  clear hk hB hx hbx hal rc rB hs1 hs2 hl hg hv1 hv2 hnone
  subst hv
  have n0 := Lib.hid (Row.new w 67 [.pointer (some ⟨B, 0, none⟩)])
  refine (callsIn_wide (n := 9)).1 ?_
  refine callsIn_of_wp_marks Try.func45 rfl trivial ?_ rfl
  simp only [Try.ntmps45, List.size_toArray, List.length_cons, List.length_nil, Nat.reduceAdd, Nat.reduceSub, Array.replicate_succ, Array.replicate_zero, List.push_toArray, List.append_toArray, List.nil_append, List.cons_append]
  refine wpIn_wide.2 ?_
  go_wp2_with (fail)
  have hbV : Below w.heap.size w (w.alloc (.cells #[.pointer (some ⟨B, 0, none⟩)] 67)) := (Below.refl _ w).alloc (Nat.le_refl _) _
  have hVs : (w.alloc (.cells #[.pointer (some ⟨B, 0, none⟩)] 67)).heap.size = w.heap.size + 1 := by simp
  generalize w.alloc (.cells #[.pointer (some ⟨B, 0, none⟩)] 67) = V at n0 hbV hVs ⊢
  have HV := Lib.hid (And.intro hbV (And.intro hVs (H0.out.2.1.below hbV hBl)))
  clear hbV hVs
  refine (HNO.out V HV.out.2.2).mono ?_
  rintro e w' ⟨rfl, rfl⟩
  have c0 := n0.out.cell (i := 0) rfl
  go_wp2_with (fail)
  refine (cblocks_any (some ⟨B, 0, none⟩) _ pv b.length cv rfl V).mono ?_
  rintro e W ⟨rfl, rP, rQ, hWs, hbW⟩
  clear c0
  have HW : Hid (Row W V.heap.size 67 [.pointer (some ⟨B, 0, none⟩)] ∧ Row W (V.heap.size + 1) 34 [.slice pv b.length cv] ∧ CW w B g w.heap.size x lv W ∧ B < w.heap.size ∧ W.heap.size = w.heap.size + 3 ∧ V.heap.size = w.heap.size + 1) := by
    have h1 := HV.out.1
    have h2 := HV.out.2.1
    have h3 : Below w.heap.size w W := h1.trans (hbW.mono (by omega))
    exact ⟨rP, rQ, ⟨HV.out.2.2.below hbW (by omega), n0.out.below hbW (by omega), But.of h3 (Nat.le_refl _)⟩, hBl, by omega, h2⟩
  clear rP rQ hWs hbW n0 HV HNO
  go_wp2_with (fail)
  have sl1 : Sl W lv last := HW.out.2.2.1.2.2.sl H0.out.2.2.1 H0.out.2.2.2.2.2.2.1
  have sl2 : Sl W (.slice pv b.length cv) b := HW.out.2.2.1.2.2.sl H0.out.2.2.2.1 H0.out.2.2.2.2.2.2.2
  have hcW : IsCip W g key := HW.out.2.2.1.2.2.row H0.out.1 H0.out.2.2.2.2.2.1
  have HS := Lib.hid (And.intro sl1 (And.intro sl2 hcW))
  have hsz : W.heap.size = w.heap.size + 3 := HW.out.2.2.2.2.1
  have hVW : V.heap.size < W.heap.size := HW.out.1.lt
  have hVb : V.heap.size = w.heap.size + 1 := HW.out.2.2.2.2.2
  have hgW : g < W.heap.size := Row.lt hcW
  have xkl : ∀ k, (absX key x all k).length = 16 := fun k => absX_length HX.out k
  have XKL := Lib.hid xkl
  have xkb : ∀ k, Byt (absX key x all k) := fun k => absX_byt HB.out HBX.out HAL.out k
  have XKB := Lib.hid xkb
  clear sl1 sl2 hcW xkl xkb
  refine (wpIn_wide (n := 9)).1 ?_
  refine wpIn_range_fin rfl (by omega) (gf := 75) (lb := #[.pointer (some ⟨V.heap.size, 0, none⟩), .pointer (some ⟨V.heap.size + 1, 0, none⟩)]) rfl trivial (enters_of Try.func75 (by kernel_rfl) rfl)
    (encs := fun k => #[.agg (bv (blkAt all k)).toArray]) (N := nbOf all.length) (T := fun k => k = V.heap.size) (Pre := fun A => ∃ vs, Row A B 101 vs ∧ vs.length = 18)
    (Fin := fun A W' => ∃ lv', W' = A.setCell ⟨B, 17, none⟩ lv' ∧ Sl A lv' (all.drop (16 * nbOf all.length)) ∧ ∀ k, lv'.ownBlock = some k → W.heap.size + 1 + 1 ≤ k) (by omega) (fun _ => rfl)
    (fun W1 hb1 hs1 => by
      have h := blocksIt_gives 8 V.heap.size (V.heap.size + 1) B (W.heap.size + 1 + 1) (some ⟨g, 0, none⟩) x last b lv (.slice pv b.length cv) W1 H0.out.2.2.2.2.1 HX.out (HW.out.1.below hb1 HW.out.1.lt) (HW.out.2.1.below hb1 HW.out.2.1.lt) (HW.out.2.2.1.1.below hb1 HW.out.2.2.1.1.lt) (HS.out.1.over hb1) (HS.out.2.1.over hb1) (by omega)
      rw [← HALL.out] at h
      exact h)
    (fun A A' ⟨lv', e, _, _⟩ => by subst e; exact ⟨by simp [World.setCell], fun k hk _ => Below.heap_setCell A ⟨B, 17, none⟩ lv' k (by show k ≠ B; omega)⟩)
    (fun k A => CW w B g w.heap.size (absX key x all k) lv A) (fun k A A' h hb => h.stay hb (by omega) (by omega) (by omega)) (fun k A h => ⟨_, h.1, mac_length _ _ _ (XKL.out k)⟩) HW.out.2.2.1 ?round ?done
  case round =>
    rintro l k A hk hl1 hl2 hi
    have HI := Lib.hid hi
    clear hi
    obtain ⟨y, hy⟩ : ∃ y, y = blkAt all k := ⟨_, rfl⟩
    have hyl : y.length = 16 := by rw [hy]; exact blkAt_length _ _
    have hyb : Byt y := by rw [hy]; exact blkAt_byt HAL.out k
    have y16 : (Try.prog.info? 29).map (·.size) = some (bv y).length := by rw [bv_length, hyl]; kernel_rfl
    have Y16 := Lib.hid y16
    have yin : 0 + (bv y).length ≤ (bv (zeroL 16)).length := by rw [bv_length, bv_length, hyl, zeroL_length]; omega
    have YIN := Lib.hid yin
    have HYB := Lib.hid hyb
    obtain ⟨z, hz⟩ : ∃ z, z = absX key x all k := ⟨_, rfl⟩
    obtain ⟨u, hu⟩ : ∃ u, u = absX key x all (k + 1) := ⟨_, rfl⟩
    have hzl : z.length = 16 := by rw [hz]; exact XKL.out k
    have hul : u.length = 16 := by rw [hu]; exact XKL.out (k + 1)
    have hzb : Byt z := by rw [hz]; exact XKB.out k
    have hzu : u = makeL key (xorL z y) := by rw [hu, hz, hy]; rfl
    have z16 : (Try.prog.info? 29).map (·.size) = some (bv z).length := by rw [bv_length, hzl]; kernel_rfl
    have Z16 := Lib.hid z16
    have u16 : (Try.prog.info? 29).map (·.size) = some (bv u).length := by rw [bv_length, hul]; kernel_rfl
    have U16 := Lib.hid u16
    have HZB := Lib.hid hzb
    have HZU := Lib.hid hzu
    have HUU := Lib.hid hu
    rw [← hy]
    rw [← hz] at HI
    have n0 := Lib.hid (Row.new A 29 (bv (zeroL 16)))
    clear y16 yin z16 u16 hyb hzb hzu hy hz hu
    gi_wp2_with (refine wpListIn_store_in rfl 29 _ _ rfl A.heap.size 0 (bv y) rfl rfl n0.out Y16.out YIN.out (bv_one _) ?_; refine stay ?_)
    refine go_on ?_
    have hA1 : Row ((A.alloc (.cells (bv (zeroL 16)).toArray 29)).setCells A.heap.size 0 (bv y)) A.heap.size 29 (bv y) ∧
        Below A.heap.size A ((A.alloc (.cells (bv (zeroL 16)).toArray 29)).setCells A.heap.size 0 (bv y)) :=
      ⟨n0.out.putAll _ (by rw [bv_length, bv_length, hyl, zeroL_length]), below_setCells (Nat.le_refl _) _ _ ((Below.refl _ A).alloc (Nat.le_refl _) _)⟩
    generalize hA : (A.alloc _).setCells A.heap.size 0 _ = A1
    have HA1 : Hid (Row A1 A.heap.size 29 (bv y) ∧ Below A.heap.size A A1) := by rw [← hA]; exact hA1
    clear hA hA1 n0 YIN
    gi_wp2
    refine ⟨KeepB.below HA1.out.2 (Nat.le_refl _), fun o => ?_⟩
    have hA2 : Row (A1.putObj l o) A.heap.size 29 (bv y) ∧ CW w B g w.heap.size z lv (A1.putObj l o) ∧ IsCip (A1.putObj l o) g key := by
      have hb : Below W.heap.size A (A1.putObj l o) := (HA1.out.2.mono (by omega)).trans (below_putObj A1 o (by omega))
      have hcw := HI.out.stay hb (by omega) (by omega) (by omega)
      exact ⟨HA1.out.1.turned (by omega) _, hcw, hcw.2.2.row H0.out.1 H0.out.2.2.2.2.2.1⟩
    generalize A1.putObj l o = A2 at hA2 ⊢
    have HA2 := Lib.hid hA2
    clear hA2 HA1 HI
    gi_wp2_with (fail)
    obtain ⟨X, hX, gx, hgx⟩ := Ext.over_index A2
    have hov : ∀ x', Below A2.heap.size A2 (gx x') := fun x' => (hgx _).2 ⟨x', rfl⟩
    have hcP : ∀ x', (gx x').cell? ⟨w.heap.size, 0, none⟩ = some (.pointer (some ⟨B, 0, none⟩)) := fun x' => (HA2.out.2.1.2.1.below (hov x') HA2.out.2.1.2.1.lt).cell (i := 0) rfl
    have hrB : ∀ x', Row (gx x') B 101 (macL (some ⟨g, 0, none⟩) z lv) := fun x' => HA2.out.2.1.1.below (hov x') HA2.out.2.1.1.lt
    have hry : ∀ x', Row (gx x') A.heap.size 29 (bv y) := fun x' => HA2.out.1.below (hov x') HA2.out.1.lt
    have hcx : ∀ x', IsCip (gx x') g key := fun x' => Row.below HA2.out.2.2 (hov x') (Row.lt HA2.out.2.2)
    have HRB := Lib.hid hrB
    have HRY := Lib.hid hry
    have HCX := Lib.hid hcx
    have HGI := Lib.hid hgx
    clear hov hrB hry hcx hgx
    refine Ext.regionIn_store 11 (Ext.open_round _ l) (Ext.at_ [(7, Ext.eqS (.agg (bv (xorL z y)).toArray)), (8, Ext.eqS (.agg (bv u).toArray))]) (fun w' => ∃ x, w' = gx x) rfl rfl rfl rfl (fun _ h => by cases h) (by kernel_rfl) (by kernel_rfl) (by kernel_rfl) ((HGI.out _).1 (Ext.Over.drew A2)) (Ext.at_stable (by
      intro p hp v
      simp only [List.mem_cons, List.not_mem_nil, or_false] at hp
      rcases hp with rfl | rfl <;> exact Ext.eqS_stable _ _)) ?_
    simp only [List.take_succ_cons, List.take_zero]
    refine Ext.walk_take 3 (by kernel_rfl) (by kernel_rfl) (by kernel_rfl) ?_
    simp only [List.take_succ_cons, List.take_zero, List.drop_succ_cons, List.drop_zero]
    repeat (go_big_quiet_step (fail))
    refine wpQuiet_nil ?_
    refine Ext.walk_det (.pointer (some ⟨B, 0, none⟩)) (Ext.wanted_plain rfl) rfl (by intro _ _; go_simp) ?_
    simp only [Act.put, List.setIfInBounds_toArray, List.set_cons_zero, List.set_cons_succ]
    refine Ext.walk_take 1 (by kernel_rfl) (by kernel_rfl) (by kernel_rfl) ?_
    simp only [List.take_succ_cons, List.take_zero, List.drop_succ_cons, List.drop_zero]
    repeat (go_big_quiet_step (fail))
    refine wpQuiet_nil ?_
    refine Ext.walk_load (by kernel_rfl) rfl 29 _ rfl B 1 rfl (bv z) _ (by rintro _ ⟨x', rfl⟩; exact mac_range (HRB.out x')) Try.underlying29 rfl Z16.out ?_
    simp only [Act.put, List.setIfInBounds_toArray, List.set_cons_zero, List.set_cons_succ]
    refine Ext.walk_load (by kernel_rfl) rfl 29 _ rfl A.heap.size 0 rfl (bv y) _ (by rintro _ ⟨x', rfl⟩; exact (HRY.out x').range) Try.underlying29 rfl Y16.out ?_
    simp only [Act.put, List.setIfInBounds_toArray, List.set_cons_zero, List.set_cons_succ]
    refine Ext.walk_spec _ rfl rfl (by rintro _ ⟨x', rfl⟩ _; go_simp; exact Ext.call_eq HGI.out (cXor_any z y _ hzl hyl)) ?_
    rintro v rfl
    simp only [Act.put, List.setIfInBounds_toArray, List.set_cons_zero, List.set_cons_succ]
    refine Ext.walk_spec _ rfl rfl (by
      rintro _ ⟨x', rfl⟩ _
      go_simp
      refine Ext.call_eq HGI.out ?_
      rw [HZU.out]
      exact cMade_any B g key z (xorL z y) lv _ HK.out HB.out (xorL_length _ _) (xorL_byt HZB.out HYB.out) (HCX.out x') (HRB.out x')) ?_
    rintro v rfl
    simp only [Act.put, List.setIfInBounds_toArray, List.set_cons_zero, List.set_cons_succ]
    refine Ext.walk_det (.pointer (some ⟨B, 0, none⟩)) (Ext.wanted_plain rfl) rfl (by intro _ _; go_simp) ?_
    simp only [Act.put, List.setIfInBounds_toArray, List.set_cons_zero, List.set_cons_succ]
    refine Ext.walk_take 1 (by kernel_rfl) (by kernel_rfl) (by kernel_rfl) ?_
    simp only [List.take_succ_cons, List.take_zero, List.drop_succ_cons, List.drop_zero]
    repeat (go_big_quiet_step (fail))
    refine wpQuiet_nil ?_
    refine Ext.walk_end ?_
    intro wx hwx _
    have hbx : Below A2.heap.size A2 wx := (HGI.out _).2 hwx
    have hrB := HA2.out.2.1.1.below hbx HA2.out.2.1.1.lt
    refine ⟨_, Ext.run_op_store 29 _ _ rfl B 1 (bv u) rfl rfl hrB U16.out (by rw [bv_length, hul, mac_length _ _ _ hzl]; omega) (bv_one _), ?_⟩
    have HE : Hid (KeepB W.heap.size (fun k => k = V.heap.size) A2 (wx.setCells B 1 (bv u)) ∧ CW w B g w.heap.size (absX key x all (k + 1)) lv (wx.setCells B 1 (bv u))) := by
      refine ⟨KeepB.setCells (.inl (by omega)) (.inl (by omega)) _ _ (KeepB.below hbx (Nat.le_refl _)), ?_, ?_, ?_⟩
      · rw [← HUU.out]
        exact mac_put hrB hzl hul
      · exact (HA2.out.2.1.2.1.below hbx HA2.out.2.1.2.1.lt).putOtherIn (by omega) _ _
      · exact But.setCells _ _ (HA2.out.2.1.2.2.trans (But.of hbx (Nat.le_refl _)))
    clear hwx HRB HRY HCX HGI hcP hrB hbx hX gx X
    gi_wp2
    exact HE.out
  case done =>
    rintro A W1 o hi ⟨lv', rfl, hsl, hown⟩ hd
    have HF : Hid (Row ((A.setCell ⟨B, 17, none⟩ lv').putObj (W.heap.size + 1) o) B 101 (macL (some ⟨g, 0, none⟩) (absX key x all (nbOf all.length)) lv') ∧ But B w ((A.setCell ⟨B, 17, none⟩ lv').putObj (W.heap.size + 1) o) ∧
        Sl ((A.setCell ⟨B, 17, none⟩ lv').putObj (W.heap.size + 1) o) lv' (all.drop (16 * nbOf all.length)) ∧ (∀ k, lv'.ownBlock = some k → W.heap.size + 1 + 1 ≤ k) ∧ ((A.setCell ⟨B, 17, none⟩ lv').putObj (W.heap.size + 1) o).heap[W.heap.size]? = some (.deferred (some []))) :=
      ⟨(mac_setLast hi.1 (XKL.out _) lv').turned (by omega) _, (hi.2.2.setCell 17 lv').putObj (by omega) o, hsl.same (fun k hk => by
        have := hown k hk
        exact (World.putObj_heap_other (by omega)).trans (Below.heap_setCell A ⟨B, 17, none⟩ lv' k (by show k ≠ B; omega))), hown, hd⟩
    generalize (A.setCell ⟨B, 17, none⟩ lv').putObj (W.heap.size + 1) o = W2 at HF ⊢
    clear hsl hown hd hi
    go_wp2
    obtain ⟨h1, h2, h3, h4, h5⟩ := HF.out
    refine ⟨by simp, .inl ⟨_, _, rfl, run_takeDeferred h5, ?_⟩⟩
    exact ⟨_, results_tmp rfl _ _ _, rfl, h2.putObj (by omega) _, lv', h1.turned (by omega) _, h3.same (fun k hk => World.putObj_heap_other (by have := h4 k hk; omega)), fun k hk => by have := h4 k hk; omega⟩
end Go.Proofs.Ytfkpilfnhgjmfaa
