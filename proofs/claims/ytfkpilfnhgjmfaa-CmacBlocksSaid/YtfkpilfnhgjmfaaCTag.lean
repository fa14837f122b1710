/-
  cmac: the tag of parts.
-/
import Derived.Test.YtfkpilfnhgjmfaaCTagM
namespace Go.Proofs.Ytfkpilfnhgjmfaa
open Go.RowKit
theorem Byt.mem {l : List Int} (h : Byt l) : ∀ x ∈ l, 0 ≤ x ∧ x < 256 := fun x hx => by
  obtain ⟨i, hi, rfl⟩ := List.mem_iff_getElem.1 hx
  have := h i
  unfold el at this
  rwa [List.getD_eq_getElem?_getD, List.getElem?_eq_getElem hi] at this
theorem Byt.app {a b : List Int} (ha : Byt a) (hb : Byt b) : Byt (a ++ b) := Byt.of_mem fun x hx => (List.mem_append.1 hx).elim (ha.mem x) (hb.mem x)
theorem Byt.dropN {a : List Int} (ha : Byt a) (n : Nat) : Byt (a.drop n) := Byt.of_mem fun x hx => ha.mem x (List.mem_of_mem_drop hx)
theorem Byt.flat {L : List (List Int)} (h : ∀ l ∈ L, Byt l) : Byt L.flatten := Byt.of_mem fun x hx => by
  obtain ⟨l, hl, hx⟩ := List.mem_flatten.1 hx
  exact (h l hl).mem x hx
theorem stX_length (key m : List Int) : (stX key m).length = 16 := absX_length (zeroL_length 16) _
theorem stX_byt {key m : List Int} (hk : Byt key) (hm : Byt m) : Byt (stX key m) := absX_byt hk (zeroL_byt 16) hm _
theorem stL_byt {m : List Int} (hm : Byt m) : Byt (stL m) := hm.dropN _
/-- a slice of slices of bytes -/
def Pts (w : World) (v : Value) (L : List (List Int)) : Prop :=
  ∃ p cap, v = .slice p L.length cap ∧ ∀ i, i < L.length → ∃ b o u, p = some ⟨b, o, none⟩ ∧ w.cell? ⟨b, o + i, none⟩ = some u ∧ Sl w u (L.getD i [])
theorem flat_step (L : List (List Int)) (i : Nat) (h : i < L.length) : (L.take (i + 1)).flatten = (L.take i).flatten ++ L.getD i [] := by
  rw [List.take_succ_eq_append_getElem h, List.flatten_append]
  simp [h]
theorem flat_le (L : List (List Int)) (i : Nat) : (L.take i).flatten.length ≤ L.flatten.length := by
  have : L.flatten = (L.take i).flatten ++ (L.drop i).flatten := by rw [← List.flatten_append, List.take_append_drop]
  rw [this, List.length_append]
  omega
theorem part_le (L : List (List Int)) (i : Nat) (h : i < L.length) : (L.getD i []).length ≤ L.flatten.length := by
  have := flat_le L (i + 1)
  rw [flat_step L i h, List.length_append] at this
  omega
/-- i parts are in -/
def TI (key : List Int) (B g : Nat) (w1 : World) (m : List Int) (wr : World) : Prop :=
  ∃ lv, Row wr B 101 (macL (some ⟨g, 0, none⟩) (stX key m) lv) ∧ Sl wr lv (stL m) ∧ (stL m ≠ [] → ∀ k, lv.ownBlock = some k → k ≠ B) ∧ But B w1 wr
theorem Sl.blk {w : World} {v : Value} {l : List Int} (h : Sl w v l) (hl : l ≠ []) : ∀ k, v.ownBlock = some k → k < w.heap.size := fun k hk => by
  obtain ⟨b, o, cap, rfl, hr⟩ := h.cells (by cases l with | nil => exact absurd rfl hl | cons _ _ => simp)
  cases hk
  have h0 : 0 < l.length := by cases l with | nil => exact absurd rfl hl | cons _ _ => simp
  exact World.block_lt_of_cell? w _ (hr 0 _ (bv_get l 0 h0))
set_option maxRecDepth 100000 in
set_option maxHeartbeats 1600000 in
theorem cTag_any (key : List Int) (b o cap : Nat) (v : Value) (L : List (List Int)) (w : World) (hk : key.length = 16) (hB : Byt key) (hr : w.rangeAt b o (bv key)) (hp : Pts w v L) (hbL : ∀ l ∈ L, Byt l) (hlen : L.flatten.length ≤ 10000) (hn : L.length ≤ 1000000) :
    Calls Try.prog 40 #[.slice (some ⟨b, o, none⟩) 16 cap, v] w fun e w' => e = .returned (.tuple #[.agg (bv (tagL key L.flatten)).toArray, .int .i64 0]) ∧ Below w.heap.size w w' := by
  obtain ⟨p, pc, hv, hpt⟩ := hp
  have HK := Lib.hid hk
  have HB := Lib.hid hB
  have HR := Lib.hid hr
  have HP := Lib.hid hpt
  have HL := Lib.hid (And.intro hbL hlen)
  obtain ⟨n, hnn⟩ : ∃ n, n = L.length := ⟨_, rfl⟩
  rw [← hnn] at hv hn
  have HN := Lib.hid hnn
  have n0 := Lib.hid (Row.new w 29 (bv (zeroL 16)))
  obtain ⟨tg, htg⟩ : ∃ tg, tg = tagL key L.flatten := ⟨_, rfl⟩
  have htl : tg.length = 16 := by rw [htg]; exact tagL_length _ _
  have HT := Lib.hid htg
  rw [← htg]
  have i16 : (Try.prog.info? 29).map (·.size) = some (bv tg).length := by rw [bv_length, htl]; kernel_rfl
  have I16 := Lib.hid i16
  have lin : (bv (zeroL 16)).length = (bv tg).length := by rw [bv_length, bv_length, htl, zeroL_length]
  have LIN := Lib.hid lin
  clear hk hB hr hpt hbL hlen hnn htg i16 lin
  subst hv
  go_enter Try.func40, Try.ntmps40
  go_wp2_with (fail)
  have hbV : Below w.heap.size w (w.alloc (.cells (bv (zeroL 16)).toArray 29)) := (Below.refl _ w).alloc (Nat.le_refl _) _
  generalize hV : w.alloc _ = V
  have HV : Hid (Row V w.heap.size 29 (bv (zeroL 16)) ∧ Below w.heap.size w V) := by rw [← hV]; exact ⟨n0.out, hbV⟩
  clear hV hbV n0
  refine (cNew_any key b o cap V HK.out HB.out (fun j u hu => by have := HR.out j u hu; exact (HV.out.2.cell (p := ⟨b, o + j, none⟩) (World.block_lt_of_cell? w _ this)).trans this)).mono ?_
  rintro e w1 ⟨B, g, rfl, hg1, hg2, hc, hrB, hb1⟩
  have hVl := HV.out.1.lt
  have H1 : Hid (Row w1 w.heap.size 29 (bv (zeroL 16)) ∧ Below w.heap.size w w1 ∧ IsCip w1 g key ∧ TI key B g w1 [] w1 ∧ w.heap.size < B ∧ g ≠ B) :=
    ⟨HV.out.1.below hb1 hVl, HV.out.2.trans (hb1.mono HV.out.2.size), hc, ⟨_, hrB, .inl ⟨rfl, rfl⟩, fun h => absurd rfl h, But.refl _ _⟩, by omega, by omega⟩
  clear hg1 hg2 hc hrB hb1 hVl HV HR
  go_wp2_with (fail)
  go_loopw [21] (fun i wr => ∃ k : Nat, k ≤ n ∧ i = .int .i64 (k : Int) ∧ TI key B g w1 (L.take k).flatten wr) (fun i _ => n - (intOf i).toNat)
  case atStart => exact ⟨0, Nat.zero_le _, rfl, H1.out.2.2.2.1⟩
  case round =>
    obtain ⟨k, hk, rfl, hR⟩ := hrel
    have HRR := Lib.hid hR
    clear hR
    by_cases hkn : k < n
    · obtain ⟨lv, r1, r2, r3, r4⟩ := HRR.out
      have hkL : k < L.length := by rw [← HN.out]; exact hkn
      obtain ⟨pb, po, u, rfl, hcu, hsu⟩ := HP.out k hkL
      obtain ⟨l, hl⟩ : ∃ l, l = L.getD k [] := ⟨_, rfl⟩
      rw [← hl] at hsu
      have hlb : Byt l := by rw [hl]; exact HL.out.1 _ (by rw [List.getD_eq_getElem?_getD, List.getElem?_eq_getElem hkL]; exact List.getElem_mem hkL)
      have hll : l.length ≤ 10000 := by rw [hl]; exact Nat.le_trans (part_le L k hkL) HL.out.2
      obtain ⟨m, hm⟩ : ∃ m, m = (L.take k).flatten := ⟨_, rfl⟩
      have hmb : Byt m := by rw [hm]; exact Byt.flat fun l hl => HL.out.1 l (List.mem_of_mem_take hl)
      have hstep : (L.take (k + 1)).flatten = m ++ l := by rw [flat_step L k hkL, hm, hl]
      rw [← hm] at r1 r2 r3
      have hpb : pb < w.heap.size := World.block_lt_of_cell? w _ hcu
      have hcr : wr.cell? ⟨pb, po + k, none⟩ = some u := by
        have h1 := (H1.out.2.1.cell (p := ⟨pb, po + k, none⟩) hpb).trans hcu
        exact (World.cell?_of_block (a := ⟨pb, po + k, none⟩) (r4.block pb (Nat.lt_of_lt_of_le hpb H1.out.2.1.size) (by have := H1.out.2.2.2.2.1; omega))).trans h1
      have hsr : Sl wr u l := r4.sl (hsu.over H1.out.2.1) (fun hne j hj => by have := hsu.blk hne j hj; have := H1.out.2.2.2.2.1; omega)
      have hwc := cWrite_any B g key (stX key m) (stL m) l lv u wr HK.out HB.out (stX_length _ _) (stX_byt HB.out hmb) ((stL_byt hmb).app hlb) (r4.row H1.out.2.2.1 H1.out.2.2.2.2.2) r1 r2 hsr (by have := stL_length m; omega) H1.out.2.2.2.2.2 r3
        (fun hne j hj => by have := hsu.blk hne j hj; have := H1.out.2.2.2.2.1; omega)
      rw [stX_join, stL_join] at hwc
      have hBr := r1.lt
      have HWC := Lib.hid hwc
      have HRN := Lib.hid (And.intro r4 (And.intro hstep hBr))
      obtain ⟨pu, cu, hu⟩ := hsu.form
      subst hu
      have hk0 : (0 : Int) ≤ (k : Int) := by omega
      have hki : (k : Int) < (n : Int) := by omega
      clear r1 r2 r3 r4 hwc hstep hsu hsr hlb hll hmb hl hm hcu hBr HRR
      go_wp2_with (fail)
      refine HWC.out.mono ?_
      rintro e w2 ⟨rfl, hbut, lv', q1, q2, q3⟩
      have HT2 : Hid (TI key B g w1 (L.take (k + 1)).flatten w2) := by
        rw [HRN.out.2.1]
        exact ⟨lv', q1, q2, fun _ j hj => by have := q3 j hj; have := HRN.out.2.2; omega, HRN.out.1.trans hbut⟩
      clear hbut q1 q2 q3 HWC
      go_wp2
      go_roundw
      case rel => exact ⟨k + 1, hkn, by go_num, HT2.out⟩
      case measure => simp [intOf]; omega
    · have hkk : k = n := by omega
      subst hkk
      obtain ⟨lv, r1, r2, r3, r4⟩ := HRR.out
      have htk : L.take k = L := List.take_of_length_le (by rw [← HN.out]; exact Nat.le_refl _)
      rw [htk] at r1 r2 r3
      have hmb : Byt L.flatten := Byt.flat HL.out.1
      have htg := cMTag_any B g key (stX key L.flatten) (stL L.flatten) lv wr HK.out HB.out (stX_length _ _) (stX_byt HB.out hmb) (stL_byt hmb) (stL_length _) (r4.row H1.out.2.2.1 H1.out.2.2.2.2.2) r1 r2
      have ht2 : makeL key (xorL (stX key L.flatten) (fillL key (stL L.flatten))) = tg := by rw [HT.out]; rfl
      rw [ht2] at htg
      have HTG := Lib.hid htg
      have H4 : Hid (Row wr w.heap.size 29 (bv (zeroL 16)) ∧ Below w.heap.size w wr) := ⟨r4.row H1.out.1 (by have := H1.out.2.2.2.2.1; omega), H1.out.2.1.trans (r4.below (by have := H1.out.2.2.2.2.1; omega) H1.out.2.1.size)⟩
      clear r1 r2 r3 r4 htk hmb htg ht2 HRR H1
      go_wp2_with (fail)
      refine HTG.out.mono ?_
      rintro e w2 ⟨rfl, hb2⟩
      have H5 : Hid (Row w2 w.heap.size 29 (bv (zeroL 16)) ∧ Below w.heap.size w w2) := ⟨H4.out.1.below hb2 H4.out.1.lt, H4.out.2.trans (hb2.mono H4.out.2.size)⟩
      clear hb2 H4 HTG
      go_wp2_with (refine wpList_store_Row rfl 29 _ _ rfl w.heap.size (bv tg) rfl rfl H5.out.1 I16.out LIN.out (bv_one _) ?_; refine stay ?_)
      refine go_on ?_
      have H6 : Row (w2.setRow w.heap.size (bv tg).toArray) w.heap.size 29 (bv tg) ∧ Below w.heap.size w (w2.setRow w.heap.size (bv tg).toArray) := ⟨H5.out.1.put _, below_setRow H5.out.2 (Nat.le_refl _) _⟩
      generalize w2.setRow _ _ = W at H6 ⊢
      clear H5
      go_wp2
      exact bodyPost_ret (results_Row_tmp rfl _ _ w.heap.size rfl H6.1 Try.underlying29 I16.out) rfl ⟨rfl, H6.2⟩
end Go.Proofs.Ytfkpilfnhgjmfaa
