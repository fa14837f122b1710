/-
  Make: the last step.
-/
import Derived.Test.YtfkpilfnhgjmfaaIt
namespace Go.Proofs.Ytfkpilfnhgjmfaa
open Go.RowKit
attribute [local go_sem] Oper.semAt_some noJump_normal noJump_exit noJump_ret noJump_panic wide_fn wide_depth
theorem results_Row_tmp {P : Program} {fn : Func} {p u : Tmp} {ty : TypeId} (h : fn.results = #[.cell p ty, .tmp u]) (tmps : Array Value) (w : World) (g : Nat) {t : TypeId} {vs : List Value} {n : Nat} {e : TypeId}
    (hp : tmps.getD p undef = .pointer (some ⟨g, 0, none⟩)) (hg : Row w g t vs)
    (hu : P.underlying ty = some (.array n e)) (hi : (P.info? ty).map (·.size) = some vs.length) :
    (results fn tmps).run P w = .ok (.tuple #[.agg vs.toArray, tmps.getD u undef]) w := by
  have hp' : tmps[p]?.getD undef = .pointer (some ⟨g, 0, none⟩) := by simpa using hp
  have hl := run_loadVar_mid (P := P) w g 0 ty vs _ hg.range hu rfl hi
  simp [results, h, hp', asAddr, hl]
theorem heap_setCells {g k : Nat} (h : k ≠ g) : ∀ (vs : List Value) (o : Nat) (w : World), (w.setCells g o vs).heap[k]? = w.heap[k]?
  | [], _, _ => rfl
  | v :: r, o, w => by rw [World.setCells, heap_setCells h r]; exact Below.heap_setCell w ⟨g, o, none⟩ v k h
/-- what has come when k rounds are over -/
def lastL (key b : List Int) : Nat → List Int
  | 0 => zeroL 16
  | k + 1 => stepL key b k
theorem lastL_length (key b : List Int) : ∀ k, (lastL key b k).length = 16
  | 0 => zeroL_length _
  | k + 1 => stepL_length key b k
set_option maxRecDepth 100000 in
set_option maxHeartbeats 1600000 in
theorem aMake_any (g : Nat) (key b : List Int) (w : World) (hk : key.length = 16) (hB : Byt key) (lb : b.length = 16) (hb : Byt b) (rc : IsCip w g key) :
    Calls Try.prog 26 #[.pointer (some ⟨g, 0, none⟩), .agg (bv b).toArray] w fun e w' => e = .returned (.tuple #[.agg (bv (stepL key b 10)).toArray, .int .i64 0]) ∧ Below w.heap.size w w' := by
  obtain ⟨x, hx⟩ : ∃ x, x = stepL key b 10 := ⟨_, rfl⟩
  have hxl : x.length = 16 := by rw [hx]; exact stepL_length key b 10
  have e11 : lastL key b 11 = x := by rw [hx, lastL]
  have HE := Lib.hid e11
  rw [← hx]
  clear e11 hx
  obtain ⟨HR0, HR1, HBL⟩ := rows2 w 29 29 (bv b) (bv (zeroL 16))
  have hgl := rc.lt
  have HK := Lib.hid hk
  have HB := Lib.hid hB
  have HL := Lib.hid lb
  have HBb := Lib.hid hb
  have i16 : (Try.prog.info? 29).map (·.size) = some (bv b).length := by rw [bv_length, lb]; kernel_rfl
  have I16 := Lib.hid i16
  have HC := Lib.hid (rc.below HBL.out hgl)
  clear hk hB lb hb i16 rc
  refine (callsIn_wide (n := 9)).1 ?_
  refine callsIn_of_wp_marks Try.func26 rfl trivial ?_ rfl
  simp only [Try.ntmps26, List.size_toArray, List.length_cons, List.length_nil, Nat.reduceAdd, Nat.reduceSub, Array.replicate_succ, Array.replicate_zero, List.push_toArray, List.append_toArray, List.nil_append, List.cons_append]
  gi_wp2_with (fail)
  generalize hV : (w.alloc _).alloc _ = V
  have hv : Row V w.heap.size 29 (bv b) ∧ Row V (w.heap.size + 1) 29 (bv (zeroL 16)) ∧ Below w.heap.size w V ∧ IsCip V g key := by rw [← hV]; exact ⟨HR0.out, HR1.out, HBL.out, HC.out⟩
  have HV := Lib.hid hv
  clear hV hv HR0 HR1 HBL HC
  refine (callsIn_wide.2 (aNone_any key g V HK.out HV.out.2.2.2)).mono ?_
  rintro e V' ⟨rfl, rfl⟩
  gi_wp2_with (refine wpListIn_load_Row rfl 29 _ rfl _ rfl HV.out.1 Try.underlying29 I16.out ?_; refine stay ?_)
  refine go_on ?_
  gi_wp2_with (fail)
  refine (callsIn_wide.2 (aSteps_any (some ⟨g, 0, none⟩) b V)).mono ?_
  rintro e W ⟨rfl, rP, rQ, hsz, hbW⟩
  have hVl := HV.out.2.1.lt
  have hB1 : Below w.heap.size w W := HV.out.2.2.1.trans (hbW.mono (by omega))
  have hO := HV.out.2.1.below hbW hVl
  have hC := HV.out.2.2.2.below hbW HV.out.2.2.2.lt
  have HB1 := Lib.hid hB1
  have HO := Lib.hid hO
  have HC := Lib.hid hC
  have HP := Lib.hid rP
  have HQ := Lib.hid rQ
  have hWs : w.heap.size + 1 < W.heap.size := by omega
  clear hB1 hO hC rP rQ hbW HV
  gi_wp2_with (fail)
  refine wpIn_range_it rfl (by omega) (gf := 59) (lb := #[.pointer (some ⟨V.heap.size, 0, none⟩), .pointer (some ⟨V.heap.size + 1, 0, none⟩)]) rfl trivial (enters_of Try.func59 (by kernel_rfl) rfl)
    (encs := fun k => #[.int .i64 (k : Int), .agg (bv (stepL key b k)).toArray]) (N := 11) (T := fun _ => False) (fun h => h) (fun _ => rfl)
    (fun W1 hb1 _ => stepsIt_gives _ V.heap.size (V.heap.size + 1) g key b _ W1 HK.out HB.out HL.out HBb.out (HP.out.below hb1 HP.out.lt) (HQ.out.below hb1 HQ.out.lt) (HC.out.below hb1 HC.out.lt))
    (fun k A => Row A (w.heap.size + 1) 29 (bv (lastL key b k)) ∧ Below w.heap.size w A) (fun _ _ _ => False)
    (fun k A B ⟨h1, h2⟩ hb => ⟨h1.below hb hWs, h2.trans (hb.mono (by omega))⟩) (fun _ _ _ _ h _ => h) ⟨HO.out, HB1.out⟩ ?round ?done ?stop
  case round =>
    rintro l k A hk hl1 hl2 ⟨r1, hbA⟩
    have s16 : (Try.prog.info? 29).map (·.size) = some (bv (stepL key b k)).length := by rw [bv_length, stepL_length]; kernel_rfl
    have S16 := Lib.hid s16
    have n0 := Lib.hid (Row.new A 29 (bv (zeroL 16)))
    have sin : 0 + (bv (stepL key b k)).length ≤ (bv (zeroL 16)).length := by rw [bv_length, bv_length, stepL_length, zeroL_length]; omega
    have SIN := Lib.hid sin
    have R1 := Lib.hid r1
    have HBA := Lib.hid hbA
    clear s16 sin r1 hbA
    gi_wp2_with (refine wpListIn_store_in rfl 29 _ _ rfl A.heap.size 0 (bv (stepL key b k)) rfl rfl n0.out S16.out SIN.out (bv_one _) ?_; refine stay ?_)
    refine go_on ?_
    have hA1 : Row ((A.alloc (.cells (bv (zeroL 16)).toArray 29)).setCells A.heap.size 0 (bv (stepL key b k))) A.heap.size 29 (bv (stepL key b k)) ∧
        Row ((A.alloc (.cells (bv (zeroL 16)).toArray 29)).setCells A.heap.size 0 (bv (stepL key b k))) (w.heap.size + 1) 29 (bv (lastL key b k)) ∧
        Below A.heap.size A ((A.alloc (.cells (bv (zeroL 16)).toArray 29)).setCells A.heap.size 0 (bv (stepL key b k))) :=
      ⟨n0.out.putAll _ (by rw [bv_length, bv_length, stepL_length, zeroL_length]), (R1.out.alloc _).putOtherIn (by have := R1.out.lt; omega) _ _, below_setCells (Nat.le_refl _) _ _ ((Below.refl _ A).alloc (Nat.le_refl _) _)⟩
    generalize hA : (A.alloc _).setCells A.heap.size 0 _ = A1
    have HA1 : Hid (Row A1 A.heap.size 29 (bv (stepL key b k)) ∧ Row A1 (w.heap.size + 1) 29 (bv (lastL key b k)) ∧ Below A.heap.size A A1) := by rw [← hA]; exact hA1
    clear hA hA1 n0 SIN
    gi_wp2
    refine ⟨KeepB.below HA1.out.2.2 (Nat.le_refl _), fun o => ?_⟩
    generalize hA2 : A1.putObj l o = A2
    have HA2 : Hid (Row A2 A.heap.size 29 (bv (stepL key b k)) ∧ Row A2 (w.heap.size + 1) 29 (bv (lastL key b k)) ∧ Below w.heap.size A A2) := by
      rw [← hA2]
      exact ⟨HA1.out.1.turned (by omega) _, HA1.out.2.1.turned (by omega) _, (HA1.out.2.2.mono (by omega)).trans (below_putObj A1 o (by omega))⟩
    clear hA2 HA1 R1
    have uin : 0 + (bv (stepL key b k)).length ≤ (bv (lastL key b k)).length := by rw [bv_length, bv_length, stepL_length, lastL_length]; omega
    have UIN := Lib.hid uin
    clear uin
    gi_wp2_with (first | (refine wpListIn_load_Row rfl 29 _ rfl _ rfl HA2.out.1 Try.underlying29 S16.out ?_) | (refine wpListIn_store_in rfl 29 _ _ rfl (w.heap.size + 1) 0 (bv (stepL key b k)) rfl rfl HA2.out.2.1 S16.out UIN.out (bv_one _) ?_; refine stay ?_))
    refine go_on ?_
    have HKB : Hid (KeepB W.heap.size (fun _ => False) A2 (A2.setCells (w.heap.size + 1) 0 (bv (stepL key b k))) ∧ Row (A2.setCells (w.heap.size + 1) 0 (bv (stepL key b k))) (w.heap.size + 1) 29 (bv (lastL key b (k + 1))) ∧ Below w.heap.size w (A2.setCells (w.heap.size + 1) 0 (bv (stepL key b k)))) :=
      ⟨KeepB.setCells (.inl hWs) (.inl fun h => h) _ _ (KeepB.refl _ _ _), HA2.out.2.1.putAll _ (by rw [bv_length, bv_length, stepL_length, lastL_length]), below_setCells (Nat.le_succ _) _ _ (HBA.out.trans HA2.out.2.2)⟩
    gi_wp2
    exact ⟨HKB.out.1, HKB.out.2.1, HKB.out.2.2⟩
  case done =>
    rintro D W1 hD ⟨r1, hb1⟩ hd
    rw [HE.out] at r1
    have s16 : (Try.prog.info? 29).map (·.size) = some (bv x).length := by rw [bv_length, hxl]; kernel_rfl
    have S16 := Lib.hid s16
    have uin : 0 + (bv x).length ≤ (bv x).length := by omega
    have UIN := Lib.hid uin
    have R1 := Lib.hid r1
    have HB1' := Lib.hid hb1
    have HD := Lib.hid hd
    clear s16 uin r1 hb1 hd
    gi_wp2_with (first | (refine wpListIn_load_Row rfl 29 _ rfl _ rfl R1.out Try.underlying29 S16.out ?_) | (refine wpListIn_store_in rfl 29 _ _ rfl (w.heap.size + 1) 0 (bv x) rfl rfl R1.out S16.out UIN.out (bv_one _) ?_; refine stay ?_))
    refine go_on ?_
    have HF : Hid (Row (W1.setCells (w.heap.size + 1) 0 (bv x)) (w.heap.size + 1) 29 (bv x) ∧ Below w.heap.size w (W1.setCells (w.heap.size + 1) 0 (bv x)) ∧ (W1.setCells (w.heap.size + 1) 0 (bv x)).heap[D]? = some (.deferred (some []))) :=
      ⟨R1.out.putAll _ rfl, below_setCells (Nat.le_succ _) _ _ HB1'.out, (heap_setCells (by omega) _ _ _).trans HD.out⟩
    generalize W1.setCells (w.heap.size + 1) 0 (bv x) = W2 at HF ⊢
    gi_wp2
    refine ⟨by simp, .inl ⟨_, _, rfl, run_takeDeferred HF.out.2.2, ?_⟩⟩
    exact ⟨_, results_Row_tmp rfl _ _ (w.heap.size + 1) rfl (HF.out.1.turned (by omega) _) Try.underlying29 S16.out, rfl, HF.out.2.1.trans (below_putObj W2 _ (by omega))⟩
  case stop =>
    rintro D c k W1 _ _ _ h _
    exact h.elim
end Go.Proofs.Ytfkpilfnhgjmfaa
