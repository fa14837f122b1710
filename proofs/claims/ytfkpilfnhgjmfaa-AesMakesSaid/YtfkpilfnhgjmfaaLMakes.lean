/-
  'AesMakes' returns true for every input, and its arguments read behind the call as before. No conditions.
-/
import Derived.Test.YtfkpilfnhgjmfaaWorks
import Derived.Test.YtfkpilfnhgjmfaaLift
import Derived.Test.YtfkpilfnhgjmfaaRMake
import Derived.Test.YtfkpilfnhgjmfaaFen2
import Derived.LoopN
import Derived.Lib.MinMax
namespace Go.Proofs.Ytfkpilfnhgjmfaa
open Go.ChangeShapes Go.WideShapes Go.ChangeAt Go.RowKit
attribute [local go_sem] Oper.semAt_some noJump_normal noJump_exit noJump_ret noJump_panic wide_fn wide_depth
theorem run_slice_blk (b : Nat) (w : World) : (Instr.sliceAt 29 (.pointer (some ⟨b, 0, none⟩)) none none none).run Try.prog w = .ok (.slice (some ⟨b, 0, none⟩) 16 16) w := by kernel_rfl
theorem run_eq_nilFunc (f : Fn) (c : Array Value) (w : World) : (binOp .eql 40 (.func f #[] c) .nilFunc).run Try.prog w = .ok (.bool false) w := by kernel_rfl
theorem rows4 (w : World) (t1 t2 t3 t4 : TypeId) (x y z u : List Value) :
    Hid (Row ((((w.alloc (.cells x.toArray t1)).alloc (.cells y.toArray t2)).alloc (.cells z.toArray t3)).alloc (.cells u.toArray t4)) w.heap.size t1 x ∧
    Row ((((w.alloc (.cells x.toArray t1)).alloc (.cells y.toArray t2)).alloc (.cells z.toArray t3)).alloc (.cells u.toArray t4)) (w.heap.size + 1) t2 y ∧
    Row ((((w.alloc (.cells x.toArray t1)).alloc (.cells y.toArray t2)).alloc (.cells z.toArray t3)).alloc (.cells u.toArray t4)) (w.heap.size + 1 + 1) t3 z ∧
    Row ((((w.alloc (.cells x.toArray t1)).alloc (.cells y.toArray t2)).alloc (.cells z.toArray t3)).alloc (.cells u.toArray t4)) (w.heap.size + 1 + 1 + 1) t4 u ∧
    Below w.heap.size w ((((w.alloc (.cells x.toArray t1)).alloc (.cells y.toArray t2)).alloc (.cells z.toArray t3)).alloc (.cells u.toArray t4))) := by
  obtain ⟨h0, h1, h2, h3⟩ := rows3 w t1 t2 t3 x y z
  have h4 := Row.new (((w.alloc (.cells x.toArray t1)).alloc (.cells y.toArray t2)).alloc (.cells z.toArray t3)) t4 u
  have e : (((w.alloc (.cells x.toArray t1)).alloc (.cells y.toArray t2)).alloc (.cells z.toArray t3)).heap.size = w.heap.size + 1 + 1 + 1 := by simp
  rw [e] at h4
  exact ⟨h0.out.alloc _, h1.out.alloc _, h2.out.alloc _, h4, h3.out.alloc h3.out.size _⟩
/-- a slice of eleven steps -/
def stepsS (B : Nat) (key b : List Int) : Ext.Spec := { may := fun v => ∃ g cap, v = .slice (some ⟨g, 0, none⟩) 11 cap, post := fun v w => w.ownsRow B 29 16 v 11 (flatS key b 11) }
theorem stepsS_stable (B : Nat) (key b : List Int) (v : Value) : Ext.Stable ((stepsS B key b).post v) := fun _ _ h hb => owns_below h hb fun k hk => (h.lt k hk).2
/-- what stands when the loop begins: the key, the block, how many, the result's cell, the cipher -/
def MB (w : World) (key b : List Int) (many : Int) (g : Nat) (V : World) : Prop :=
  Row V w.heap.size 29 (bv key) ∧ Row V (w.heap.size + 1) 29 (bv b) ∧ Row V (w.heap.size + 1 + 1) 3 [.int .i64 many] ∧ Row V (w.heap.size + 1 + 1 + 1) 4 [.bool false] ∧ IsCip V g key ∧ Below w.heap.size w V
theorem MB.over {w : World} {key b : List Int} {many : Int} {g : Nat} {V V' : World} (h : MB w key b many g V) (hb : Below V.heap.size V V') : MB w key b many g V' := by
  obtain ⟨h0, h1, h2, h3, h4, h5⟩ := h
  exact ⟨h0.below hb h0.lt, h1.below hb h1.lt, h2.below hb h2.lt, h3.below hb h3.lt, Row.below h4 hb h4.lt, h5.trans (hb.mono h5.size)⟩
theorem owns_setCell {w : World} {base : Nat} {e : TypeId} {size : Nat} {v : Value} {n : Nat} {xs : List Value} (h : w.ownsRow base e size v n xs) {a : Addr} (ha : ∀ k, v.ownBlock = some k → k ≠ a.block) (u : Value) : (w.setCell a u).ownsRow base e size v n xs := by
  obtain ⟨h1, h2⟩ := h
  refine ⟨h1, ?_⟩
  rcases h2 with h2 | ⟨g', cap, cur, rfl, hg', hh, r⟩
  · exact .inl h2
  · exact .inr ⟨g', cap, cur, rfl, hg', (Below.heap_setCell w a u g' (ha g' rfl)).trans hh, r⟩
/-- .. and the steps of the reference, the block made, the iterator's two variables -/
def MC (w : World) (key b x : List Int) (many : Int) (g Bx gw gs scap P : Nat) (V : World) : Prop :=
  MB w key b many g V ∧ Row V Bx 29 (bv x) ∧ Row V gw 37 [.slice (some ⟨gs, 0, none⟩) 11 scap] ∧ V.ownsRow w.heap.size 29 16 (.slice (some ⟨gs, 0, none⟩) 11 scap) 11 (flatS key b 11) ∧ Row V P 30 [.pointer (some ⟨g, 0, none⟩)] ∧ Row V (P + 1) 29 (bv b)
theorem MC.over {w : World} {key b x : List Int} {many : Int} {g Bx gw gs scap P : Nat} {V V' : World} (h : MC w key b x many g Bx gw gs scap P V) (hb : Below V.heap.size V V') : MC w key b x many g Bx gw gs scap P V' := by
  obtain ⟨h0, h1, h2, h3, h4, h5⟩ := h
  exact ⟨h0.over hb, h1.below hb h1.lt, h2.below hb h2.lt, owns_below h3 hb (fun k hk => (h3.lt k hk).2), h4.below hb h4.lt, h5.below hb h5.lt⟩
/-- a range over a function out of which a break leads behind the loop -/
theorem wpIn_range_brk {F : Fence} {n : Nat} {P : Program} {id : Nat} {g : Operand} {ps : Array Tmp} {assign body : Code} {Q : Exit → Act → World → Prop} {a : Act} {w : World}
    (hro : F.round = none) (h1 : 1 ≤ n) {gf : Nat} {lb : Array Value} (hg : a.eval g = .func (.func gf) #[] lb) (hFg : F.fn gf) (eg : ∀ args w, (callFunc gf args).run P w = .ok (.enter gf args) w)
    {encs : Nat → Array Value} {N : Nat} {T : Nat → Prop} (hT : ¬ T (w.heap.size + 1)) (hps : ∀ k, (encs k).size = ps.size)
    (hseq : ∀ W, Below w.heap.size w W → W.heap.size = w.heap.size + 1 + 1 → Gives F (n - 1) P gf lb encs N T W)
    (I : Nat → World → Prop) (Ix : Nat → World → Prop) (hI : ∀ k A B, I k A → Below w.heap.size A B → I k B) (hIx : ∀ k A B, Ix k A → Below w.heap.size A B → Ix k B) (h0 : I 0 w)
    (hround : ∀ (l k : Nat) (A : World), k < N → w.heap.size ≤ l → l < A.heap.size → I k A →
      assign.wpIn (F.inRound l) (n - 1 - 1) P (Exit.then (fun a₁ A₁ => KeepB w.heap.size T A A₁ ∧ ∀ o, body.wpIn (F.inRound l) (n - 1 - 1) P (roundEnd w.heap.size T I (fun c k A => c = .exit id ∧ Ix k A) (k + 1) (A₁.putObj l o)) a₁ (A₁.putObj l o)) (fun _ _ _ => False))
        { tmps := (ps.zip (encs k)).foldl (fun t (p, v) => t.setIfInBounds p v) a.tmps, defers := [] } A)
    (hend : ∀ (D k : Nat) (W : World), w.heap.size ≤ D → (k = N ∧ I N W ∨ 1 ≤ k ∧ k ≤ N ∧ Ix k W) → W.heap[D]? = some (.deferred (some [])) → Q .normal { a with defers := { target := .collected D, args := #[] } :: a.defers } W) :
    (Code.rangeFunc g ps assign body).wpIn F n P (Exit.inBlock id Q) a w := by
  refine wpIn_range_it hro h1 hg hFg eg hT hps hseq I (fun c k A => c = .exit id ∧ Ix k A) hI (fun c k A B h hb => ⟨h.1, hIx k A B h.2 hb⟩) h0 hround
    (fun D W hD hi hd => hend D N W hD (.inl ⟨rfl, hi⟩) hd) ?_
  rintro D c k W hD h1 h2 ⟨rfl, hx⟩ hd
  refine wpIn_exit ?_
  show (if id = id then _ else _)
  rw [if_pos rfl]
  exact hend D k W hD (.inr ⟨h1, h2, hx⟩) hd
/-- rounds of the law's inner loop: k are over; all that lay there ahead of the number's cell lies as it lay -/
def NK (V : World) (τ many : Int) (k : Nat) (A : World) : Prop := Below V.heap.size V A ∧ Row A V.heap.size 3 [.int .i64 (k : Int)] ∧ (τ = 0 → k = 0 ∨ (k : Int) < many)
def NX (V : World) (τ many : Int) (k : Nat) (A : World) : Prop := τ = 0 ∧ Below V.heap.size V A ∧ Row A V.heap.size 3 [.int .i64 (k : Int)] ∧ many ≤ (k : Int) ∧ (k = 1 ∨ (k : Int) ≤ many)
theorem NK.stay {V : World} {τ many : Int} {k : Nat} {A B : World} {H : Nat} (hH : V.heap.size < H) (h : NK V τ many k A) (hb : Below H A B) : NK V τ many k B :=
  ⟨h.1.trans (hb.mono (Nat.le_of_lt hH)), h.2.1.below hb hH, h.2.2⟩
theorem NX.stay {V : World} {τ many : Int} {k : Nat} {A B : World} {H : Nat} (hH : V.heap.size < H) (h : NX V τ many k A) (hb : Below H A B) : NX V τ many k B :=
  ⟨h.1, h.2.1.trans (hb.mono (Nat.le_of_lt hH)), h.2.2.1.below hb hH, h.2.2.2⟩
/-- .. and they are over -/
def NE (V : World) (τ many : Int) (k : Nat) (A : World) : Prop := Below V.heap.size V A ∧ Row A V.heap.size 3 [.int .i64 (k : Int)] ∧ (τ = 0 → (k : Int) = max 1 (min 11 many)) ∧ (τ ≠ 0 → k = 11)
theorem NE.of {V : World} {τ many : Int} {k : Nat} {A : World} (h : k = 11 ∧ NK V τ many 11 A ∨ 1 ≤ k ∧ k ≤ 11 ∧ NX V τ many k A) : NE V τ many k A := by
  rcases h with ⟨rfl, h1, h2, h3⟩ | ⟨h1, h2, h3, h4, h5, h6, h7⟩
  · exact ⟨h1, h2, fun h => by have := h3 h; omega, fun _ => rfl⟩
  · exact ⟨h4, h5, fun _ => by omega, fun h => absurd h3 h⟩
set_option maxRecDepth 100000 in
set_option maxHeartbeats 3200000 in
theorem aesMakes_walk (key b : List Int) (many : Int) (w : World) (hk : key.length = 16) (hB : Byt key) (lb : b.length = 16) (hb : Byt b) :
    Calls Try.prog 6 #[.agg (bv key).toArray, .agg (bv b).toArray, .int .i64 many] w fun e w' => e = .returned (.bool true) ∧ Below w.heap.size w w' := by
  have HK := Lib.hid hk
  have HB := Lib.hid hB
  have HL := Lib.hid lb
  have HBb := Lib.hid hb
  have hsl := run_slice_blk
  clear hk hB lb hb
  refine (callsIn_wide (n := 9)).1 ?_
  refine callsIn_of_wp_marks Try.func6 rfl trivial ?_ rfl
  simp only [Try.ntmps6, List.size_toArray, List.length_cons, List.length_nil, Nat.reduceAdd, Nat.reduceSub, Array.replicate_succ, Array.replicate_zero, List.push_toArray, List.append_toArray, List.nil_append, List.cons_append]
  refine wpIn_wide.2 ?_
  go_wp2_with (fail)
  generalize hV : (((w.alloc _).alloc _).alloc _).alloc _ = V
  have HV : Hid (Row V w.heap.size 29 (bv key) ∧ Row V (w.heap.size + 1) 29 (bv b) ∧ Row V (w.heap.size + 1 + 1) 3 [.int .i64 many] ∧ Row V (w.heap.size + 1 + 1 + 1) 4 [.bool false] ∧ Below w.heap.size w V) := by
    rw [← hV]; exact (rows4 w 29 29 3 4 (bv key) (bv b) [.int .i64 many] [.bool false]).out
  clear hV
  refine (aNew_any key w.heap.size 0 16 V HK.out HB.out HV.out.1.range).mono ?_
  rintro e w1 ⟨g, rfl, hg, hc, hb1⟩
  have HM : Hid (MB w key b many g w1) := by
    obtain ⟨h0, h1, h2, h3, h4⟩ := HV.out
    exact ⟨h0.below hb1 h0.lt, h1.below hb1 h1.lt, h2.below hb1 h2.lt, h3.below hb1 h3.lt, hc, h4.trans (hb1.mono h4.size)⟩
  clear HV hg hc hb1
  have i16 : (Try.prog.info? 29).map (·.size) = some (bv b).length := by rw [bv_length, HL.out]; kernel_rfl
  have I16 := Lib.hid i16
  obtain ⟨x, hx⟩ : ∃ x, x = stepL key b 10 := ⟨_, rfl⟩
  have hxl : x.length = 16 := by rw [hx]; exact stepL_length _ _ 10
  have x16 : (Try.prog.info? 29).map (·.size) = some (bv x).length := by rw [bv_length, hxl]; kernel_rfl
  have X16 := Lib.hid x16
  have xin : (bv (zeroL 16)).length = (bv x).length := by rw [bv_length, bv_length, hxl, zeroL_length]
  have XIN := Lib.hid xin
  have HX := Lib.hid hx
  clear i16 x16 xin hx
  go_wp2_with (refine wpList_load_Row rfl 29 _ rfl _ rfl HM.out.2.1 Try.underlying29 I16.out ?_; refine stay ?_)
  refine go_on ?_
  go_wp2_with (fail)
  have hmk := aMake_any g key b w1 HK.out HB.out HL.out HBb.out HM.out.2.2.2.2.1
  rw [← HX.out] at hmk
  refine hmk.mono ?_
  clear hmk
  rintro e w3 ⟨rfl, hb3⟩
  have HM3 := Lib.hid (HM.out.over hb3)
  have n3 := Lib.hid (Row.new w3 29 (bv (zeroL 16)))
  clear hb3 HM
  go_wp2_with (refine wpList_store_Row rfl 29 _ _ rfl w3.heap.size (bv x) rfl rfl n3.out X16.out XIN.out (bv_one _) ?_; refine stay ?_)
  refine go_on ?_
  have hF : Row ((w3.alloc (.cells (bv (zeroL 16)).toArray 29)).setRow w3.heap.size (bv x).toArray) w3.heap.size 29 (bv x) ∧ Below w3.heap.size w3 ((w3.alloc (.cells (bv (zeroL 16)).toArray 29)).setRow w3.heap.size (bv x).toArray) :=
    ⟨n3.out.put _, below_setRow ((Below.refl _ w3).alloc (Nat.le_refl _) _) (Nat.le_refl _) _⟩
  generalize hW4 : (w3.alloc _).setRow _ _ = w4
  have H4 : Hid (Row w4 w3.heap.size 29 (bv x) ∧ MB w key b many g w4) := by
    rw [← hW4]; exact ⟨hF.1, HM3.out.over hF.2⟩
  clear hW4 hF n3 HM3
  go_upto_region 3 with (fail)
  obtain ⟨X, hX, gx, hgx⟩ := Ext.over_index w4
  have hmx : ∀ x', MB w key b many g (gx x') := fun x' => H4.out.2.over ((hgx _).2 ⟨x', rfl⟩)
  have HMX := Lib.hid hmx
  have HGI := Lib.hid hgx
  clear hmx hgx
  have hszx : ∀ x', w4.heap.size ≤ (gx x').heap.size := fun x' => ((HGI.out _).2 ⟨x', rfl⟩ : Ext.Over _ _).size
  have HSX := Lib.hid hszx
  clear hszx
  refine Ext.region 4 (Ext.at_ [(2, stepsS w4.heap.size key b), (3, newS w4.heap.size 37 [.slice none 0 0])]) (fun w' => ∃ x, w' = gx x) (by kernel_rfl) (by kernel_rfl) ((HGI.out _).1 (Ext.Over.drew w4)) (Ext.at_stable (by
    intro p hp v
    simp only [List.mem_cons, List.not_mem_nil, or_false] at hp
    rcases hp with rfl | rfl
    · exact stepsS_stable _ _ _ _
    · exact newS_stable _ _ _ _)) ?_
  simp only [List.take_succ_cons, List.take_zero, List.drop_succ_cons, List.drop_zero]
  refine Ext.walk_take 1 (by kernel_rfl) (by kernel_rfl) (by kernel_rfl) ?_
  simp only [List.take_succ_cons, List.take_zero, List.drop_succ_cons, List.drop_zero]
  repeat (go_big_quiet_step (fail))
  refine wpQuiet_nil ?_
  refine Ext.walk_load (Ext.wanted_plain rfl) rfl 29 _ rfl (w.heap.size + 1) 0 rfl (bv b) _ (by rintro _ ⟨x', rfl⟩; exact (HMX.out x').2.1.range) Try.underlying29 rfl I16.out ?_
  simp only [Act.put, List.setIfInBounds_toArray, List.set_cons_zero, List.set_cons_succ]
  refine Ext.walk_spec _ rfl rfl ?_ ?_
  · rintro _ ⟨x', rfl⟩ _
    go_simp
    refine Ext.call_post HGI.out ((rSteps_any w.heap.size 0 16 key b _ HK.out HB.out HL.out HBb.out (HMX.out x').1.range).mono ?_)
    rintro e w' ⟨v, rfl, ho, hbl⟩
    obtain ⟨gs, cap, rfl⟩ := ownsRow_succ ho
    exact ⟨_, rfl, ⟨gs, cap, rfl⟩, owns_base ho (HSX.out x'), hbl⟩
  · rintro v ⟨gs, scap, rfl⟩
    simp only [Act.put, List.setIfInBounds_toArray, List.set_cons_zero, List.set_cons_succ]
    refine Ext.walk_spec _ rfl rfl ?_ ?_
    · rintro _ ⟨x', rfl⟩ _
      go_simp
      exact Ext.made HGI.out ⟨_, rfl⟩ ⟨_, rfl, HSX.out x', Row.new (gx x') 37 [.slice none 0 0]⟩
    · rintro v ⟨gw, rfl⟩
      simp only [Act.put, List.setIfInBounds_toArray, List.set_cons_zero, List.set_cons_succ]
      refine Ext.walk_end ?_
      intro wx hwx hK
      have hown : wx.ownsRow w4.heap.size 29 16 (.slice (some ⟨gs, 0, none⟩) 11 scap) 11 (flatS key b 11) := (hK 2).2
      obtain ⟨g2, e2, hgw, hrow⟩ := Ext.upd_new hK
      cases e2
      have hov : Ext.Over w4 wx := (HGI.out _).2 hwx
      have hx4 := H4.out.1.below hov H4.out.1.lt
      have hm4 := H4.out.2.over hov
      have hw3 := H4.out.1.lt
      have hgs := hown.lt gs rfl
      have c0 := hrow.cell (i := 0) rfl
      have f0 := hrow.frozen 0
      have hne : gs ≠ gw := by
        rintro rfl
        rcases hown.2 with h | ⟨g', cap', cur, e, _, hh, _⟩
        · exact absurd h.2 (by omega)
        · cases e
          have := hh.symm.trans hrow
          cases this
      have hsz4 : w.heap.size + 1 + 1 + 1 < w4.heap.size := H4.out.2.2.2.2.1.lt
      have hgl : g < w4.heap.size := Row.lt H4.out.2.2.2.2.2.1
      have HN : Hid (MB w key b many g (wx.setCell ⟨gw, 0, none⟩ (.slice (some ⟨gs, 0, none⟩) 11 scap)) ∧ Row (wx.setCell ⟨gw, 0, none⟩ (.slice (some ⟨gs, 0, none⟩) 11 scap)) w3.heap.size 29 (bv x) ∧
          Row (wx.setCell ⟨gw, 0, none⟩ (.slice (some ⟨gs, 0, none⟩) 11 scap)) gw 37 [.slice (some ⟨gs, 0, none⟩) 11 scap] ∧ (wx.setCell ⟨gw, 0, none⟩ (.slice (some ⟨gs, 0, none⟩) 11 scap)).ownsRow w.heap.size 29 16 (.slice (some ⟨gs, 0, none⟩) 11 scap) 11 (flatS key b 11)) := by
        have hbl : Below w4.heap.size wx (wx.setCell ⟨gw, 0, none⟩ (.slice (some ⟨gs, 0, none⟩) 11 scap)) := (Below.refl _ wx).setCell (p := ⟨gw, 0, none⟩) hgw _
        obtain ⟨h0, h1, h2, h3, h4, h5⟩ := hm4
        refine ⟨⟨h0.below hbl (by omega), h1.below hbl (by omega), h2.below hbl (by omega), h3.below hbl (by omega), Row.below h4 hbl hgl, h5.trans (hbl.mono (by omega))⟩, hx4.below hbl hw3, hrow.set 0 _, owns_base (owns_setCell hown (fun k hk => by cases hk; exact hne) _) (by omega)⟩
      clear hown hK hwx hov hx4 hm4 hw3 hne hsz4 hgl hgw hrow HGI HMX HSX H4
      clear hX gx X
      go_upto_region 4 with (fail)
      generalize wx.setCell ⟨gw, 0, none⟩ _ = w6 at HN ⊢
      clear c0 f0 hgs
      go_wp2_with (refine wpList_load_Row rfl 29 _ rfl _ rfl HN.out.1.2.1 Try.underlying29 I16.out ?_; refine stay ?_)
      refine go_on ?_
      go_wp2_with (fail)
      refine (aSteps_any (some ⟨g, 0, none⟩) b w6).mono ?_
      rintro e w7 ⟨rfl, rP, rQ, hsz, hb7⟩
      have HC : Hid (MC w key b x many g w3.heap.size gw gs scap w6.heap.size w7) := by
        obtain ⟨h0, h1, h2, h3⟩ := HN.out
        exact ⟨h0.over hb7, h1.below hb7 h1.lt, h2.below hb7 h2.lt, owns_below h3 hb7 (fun k hk => (h3.lt k hk).2), rP, rQ⟩
      clear HN rP rQ hsz hb7
      go_wp2_with (fail)
      have HV0 : Hid (MC w key b x many g w3.heap.size gw gs scap w6.heap.size (w7.alloc (.cells #[.int .i64 0] 3)) ∧ Row (w7.alloc (.cells #[.int .i64 0] 3)) w7.heap.size 3 [.int .i64 0]) :=
        ⟨HC.out.over ((Below.refl _ w7).alloc (Nat.le_refl _) _), Row.new w7 3 [.int .i64 0]⟩
      generalize w7.alloc _ = V0 at HV0 ⊢
      obtain ⟨Bt0, hBt0⟩ : ∃ Bt, Bt = w7.heap.size := ⟨_, rfl⟩
      rw [← hBt0] at HV0 ⊢
      clear hBt0 HC
      have hnf := run_eq_nilFunc
      refine wp_loop_rounds 3 ?_
      rw [rounds_succ]
      have c0 := HV0.out.2.cell (i := 0) rfl
      go_wp2_with (fail)
      have hnk0 : NK V0 0 many 0 (V0.alloc (.cells #[.int .i64 0] 3)) := ⟨(Below.refl _ V0).alloc (Nat.le_refl _) _, Row.new V0 3 [.int .i64 0], fun _ => .inl rfl⟩
      have hszS : V0.heap.size < (V0.alloc (.cells #[.int .i64 0] 3)).heap.size := by simp
      generalize V0.alloc _ = S0 at hnk0 hszS ⊢
      have HNK0 := Lib.hid hnk0
      clear c0 hnk0
      refine (wpIn_wide (n := 9)).1 ?_
      refine wpIn_range_brk rfl (by omega) (gf := 59) (lb := #[.pointer (some ⟨w6.heap.size, 0, none⟩), .pointer (some ⟨w6.heap.size + 1, 0, none⟩)]) rfl trivial (enters_of Try.func59 (by kernel_rfl) rfl)
        (encs := fun k => #[.int .i64 (k : Int), .agg (bv (stepL key b k)).toArray]) (N := 11) (T := fun _ => False) (fun h => h) (fun _ => rfl)
        (fun W1 hb1 _ => by
          have hm := (HV0.out.1.over HNK0.out.1).over (hb1.mono (Nat.le_refl _))
          exact stepsIt_gives _ w6.heap.size (w6.heap.size + 1) g key b _ W1 HK.out HB.out HL.out HBb.out hm.2.2.2.2.1 hm.2.2.2.2.2 hm.1.2.2.2.2.1)
        (NK V0 0 many) (NX V0 0 many)
        (fun k A B h hb => h.stay hszS hb) (fun k A B h hb => h.stay hszS hb) HNK0.out ?round0 ?_
      case round0 =>
        rintro l k A hk hl1 hl2 hnk
        have HNK := Lib.hid hnk
        have hszA : V0.heap.size < A.heap.size := hnk.2.1.lt
        clear hnk
        obtain ⟨y, hy⟩ : ∃ y, y = stepL key b k := ⟨_, rfl⟩
        have hyl : y.length = 16 := by rw [hy]; exact stepL_length _ _ k
        have y16 : (Try.prog.info? 29).map (·.size) = some (bv y).length := by rw [bv_length, hyl]; kernel_rfl
        have Y16 := Lib.hid y16
        have yin : 0 + (bv y).length ≤ (bv (zeroL 16)).length := by rw [bv_length, bv_length, hyl, zeroL_length]; omega
        have YIN := Lib.hid yin
        rw [← hy]
        have HY := Lib.hid hy
        have n0 := Lib.hid (Row.new A 29 (bv (zeroL 16)))
        clear y16 yin hy
        gi_wp2_with (refine wpListIn_store_in rfl 29 _ _ rfl A.heap.size 0 (bv y) rfl rfl n0.out Y16.out YIN.out (bv_one _) ?_; refine stay ?_)
        refine go_on ?_
        have hA1 : Row ((A.alloc (.cells (bv (zeroL 16)).toArray 29)).setCells A.heap.size 0 (bv y)) A.heap.size 29 (bv y) ∧
            Below A.heap.size A ((A.alloc (.cells (bv (zeroL 16)).toArray 29)).setCells A.heap.size 0 (bv y)) :=
          ⟨n0.out.putAll _ (by rw [bv_length, bv_length, hyl, zeroL_length]), below_setCells (Nat.le_refl _) _ _ ((Below.refl _ A).alloc (Nat.le_refl _) _)⟩
        generalize hA : (A.alloc _).setCells A.heap.size 0 _ = A1
        have HA1 : Hid (Row A1 A.heap.size 29 (bv y) ∧ Below A.heap.size A A1) := by rw [← hA]; exact hA1
        clear hA hA1 n0 YIN
        gi_wp2
        refine ⟨KeepB.below HA1.out.2 (Nat.le_refl _), fun o => ?_⟩
        have hA2 : Row (A1.putObj l o) A.heap.size 29 (bv y) ∧ NK V0 0 many k (A1.putObj l o) :=
          ⟨HA1.out.1.turned (by omega) _, (HNK.out.stay hszS (HA1.out.2.mono (by omega))).stay hszS (below_putObj A1 o (by omega))⟩
        generalize A1.putObj l o = A2 at hA2 ⊢
        have HA2 := Lib.hid hA2
        have HM2 := Lib.hid (HV0.out.1.over hA2.2.1)
        clear hA2 HA1 HNK
        gi_wp2_with (fail)
        obtain ⟨X, hX, gx, hgx⟩ := Ext.over_index A2
        have hov : ∀ x', Below A2.heap.size A2 (gx x') := fun x' => (hgx _).2 ⟨x', rfl⟩
        have hcn : ∀ x', (gx x').cell? ⟨V0.heap.size, 0, none⟩ = some (.int .i64 (k : Int)) := fun x' => (HA2.out.2.2.1.below (hov x') HA2.out.2.2.1.lt).cell (i := 0) rfl
        have hcs : ∀ x', (gx x').cell? ⟨gw, 0, none⟩ = some (.slice (some ⟨gs, 0, none⟩) 11 scap) := fun x' => ((HM2.out.over (hov x')).2.2.1).cell (i := 0) rfl
        have hry : ∀ x', (gx x').rangeAt A.heap.size 0 (bv y) := fun x' => (HA2.out.1.below (hov x') HA2.out.1.lt).range
        have hrs : ∀ x', (gx x').rangeAt gs (k * 16) (bv y) := fun x' => by
          have := owns_range (HM2.out.over (hov x')).2.2.2.1 k y hyl (fun j hj => by rw [HY.out]; exact flatS_get key b k j hj 11 hk)
          simpa using this
        have HRY := Lib.hid hry
        have HRS := Lib.hid hrs
        have HGI := Lib.hid hgx
        have hq := run_equal_bytes 29 16 Try.underlying29 y y hyl hyl
        rw [decide_eq_true rfl] at hq
        have hgu := guardBlk
        have hd : decide ((k : Int) > 10) = false := decide_eq_false (by omega)
        have hk0 : (0 : Int) ≤ (k : Int) := by omega
        have hk1 : (k : Int) < 11 := by omega
        clear hov hry hrs hgx
        refine Ext.regionIn (Ext.open_round _ l) (fun _ => none) (fun w' => ∃ x, w' = gx x) (by kernel_rfl) (by kernel_rfl) (by kernel_rfl) ((HGI.out _).1 (Ext.Over.drew A2)) (fun j s h => by cases h) ?_
        refine Ext.walk_take 8 (by kernel_rfl) (by kernel_rfl) (by kernel_rfl) ?_
        simp only [List.take_succ_cons, List.take_zero, List.drop_succ_cons, List.drop_zero]
        repeat (go_big_quiet_step (fail))
        refine wpQuiet_nil ?_
        refine Ext.walk_load (by kernel_rfl) rfl 29 _ rfl A.heap.size 0 rfl (bv y) _ (by rintro _ ⟨x', rfl⟩; exact HRY.out x') Try.underlying29 rfl Y16.out ?_
        simp only [Act.put, List.setIfInBounds_toArray, List.set_cons_zero, List.set_cons_succ]
        refine Ext.walk_take 3 (by kernel_rfl) (by kernel_rfl) (by kernel_rfl) ?_
        simp only [List.take_succ_cons, List.take_zero, List.drop_succ_cons, List.drop_zero]
        repeat (go_big_quiet_step (fail))
        refine wpQuiet_nil ?_
        refine Ext.walk_load (by kernel_rfl) rfl 29 _ rfl gs (k * 16) rfl (bv y) _ (by rintro _ ⟨x', rfl⟩; exact HRS.out x') Try.underlying29 rfl Y16.out ?_
        simp only [Act.put, List.setIfInBounds_toArray, List.set_cons_zero, List.set_cons_succ]
        refine Ext.walk_take 2 (by kernel_rfl) (by kernel_rfl) (by kernel_rfl) ?_
        simp only [List.take_succ_cons, List.take_zero, List.drop_succ_cons, List.drop_zero]
        repeat (go_big_quiet_step (fail))
        refine wpQuiet_nil ?_
        refine Ext.walk_end ?_
        intro wx hwx _
        have hbx : Below A2.heap.size A2 wx := (HGI.out _).2 hwx
        clear hwx HRY HRS HGI hcn hcs hq hgu hX gx X hd
        have HNX : Hid (NK V0 0 many k wx) := HA2.out.2.stay HA2.out.2.2.1.lt hbx
        have c14 := HNX.out.2.1.cell (i := 0) rfl
        have f14 := HNX.out.2.1.frozen 0
        have c13 := (HV0.out.2.below HNX.out.1 HV0.out.2.lt).cell (i := 0) rfl
        have c5 := (HM2.out.over hbx).1.2.2.1.cell (i := 0) rfl
        have n13 : Bt0 ≠ V0.heap.size := Nat.ne_of_lt HV0.out.2.lt
        have n5 : w.heap.size + 1 + 1 ≠ V0.heap.size := Nat.ne_of_lt HV0.out.1.1.2.2.1.lt
        have HBX := Lib.hid hbx
        have HKN : Hid (KeepB S0.heap.size (fun _ => False) A2 (wx.setCell ⟨V0.heap.size, 0, none⟩ (.int .i64 ((k : Int) + 1))) ∧ Below V0.heap.size V0 (wx.setCell ⟨V0.heap.size, 0, none⟩ (.int .i64 ((k : Int) + 1))) ∧
            Row (wx.setCell ⟨V0.heap.size, 0, none⟩ (.int .i64 ((k : Int) + 1))) V0.heap.size 3 [.int .i64 ((k + 1 : Nat) : Int)]) :=
          ⟨(KeepB.below hbx (Nat.le_refl _)).setCell (.inl hszS) (.inl fun h => h) _, HNX.out.1.setCell (p := ⟨V0.heap.size, 0, none⟩) (Nat.le_refl _) _, by have := HNX.out.2.1.set 0 (.int .i64 ((k : Int) + 1)); simpa using this⟩
        clear hbx HBX HA2 HM2
        by_cases hmn : (0 : Int) = 0 ∧ many ≤ (k : Int) + 1
        · have hge : decide ((k : Int) + 1 ≥ many) = true := decide_eq_true hmn.2
          first
            | (exfalso; exact absurd hmn.1 (by decide))
            | (gi_wp2
               exact ⟨HKN.out.1, rfl, rfl, HKN.out.2.1, HKN.out.2.2, by omega, by have := HNX.out.2.2 rfl; omega⟩)
        · have hge : (0 : Int) = 0 → decide ((k : Int) + 1 ≥ many) = false := fun h => decide_eq_false (by omega)
          have hlt : (0 : Int) = 0 → (k : Int) + 1 < many := fun h => by omega
          have HLT : Hid (NK V0 0 many (k + 1) (wx.setCell ⟨V0.heap.size, 0, none⟩ (.int .i64 ((k : Int) + 1)))) := ⟨HKN.out.2.1, HKN.out.2.2, fun h => .inr (by have := hlt h; omega)⟩
          first
            | have hge := hge rfl
            | skip
          clear hlt
          gi_wp2
          exact ⟨HKN.out.1, HLT.out⟩
      rintro D0 k0 W0 hD0 he hd
      have HE0 : Hid (NE V0 0 many k0 W0 ∧ W0.heap[D0]? = some (.deferred (some []))) := ⟨NE.of he, hd⟩
      have HME := Lib.hid (HV0.out.1.over HE0.out.1.1)
      clear he hd HNK0
      have c14 := HE0.out.1.2.1.cell (i := 0) rfl
      have c13 := (HV0.out.2.below HE0.out.1.1 HV0.out.2.lt).cell (i := 0) rfl
      have c5 := HME.out.1.2.2.1.cell (i := 0) rfl
      have hq0 : (0 : Int) = 0 → max 1 (min 11 many) = (k0 : Int) := fun h => (HE0.out.1.2.2.1 h).symm
      have hq1 : (0 : Int) ≠ 0 → k0 = 11 := fun h => HE0.out.1.2.2.2 h
      first
        | (have hq0' := hq0 rfl; clear hq0 hq1)
        | (have hq1' := hq1 (by decide); clear hq0 hq1; subst hq1')
      go_wp2_with (fail)
      have HV1 : Hid (MC w key b x many g w3.heap.size gw gs scap w6.heap.size (W0.alloc (.cells #[.int .i64 1] 3)) ∧ Row (W0.alloc (.cells #[.int .i64 1] 3)) W0.heap.size 3 [.int .i64 1]) :=
        ⟨HME.out.over ((Below.refl _ W0).alloc (Nat.le_refl _) _), Row.new W0 3 [.int .i64 1]⟩
      have HD0 : Hid ((W0.alloc (.cells #[.int .i64 1] 3)).heap[D0]? = some (.deferred (some [])) ∧ D0 < (W0.alloc (.cells #[.int .i64 1] 3)).heap.size) := by
        have h := HE0.out.2
        have hl : D0 < W0.heap.size := (Array.getElem?_eq_some_iff.1 h).1
        exact ⟨(Below.heap_alloc W0 _ D0 hl).trans h, by simp; omega⟩
      have HX0 : Hid (Below V0.heap.size V0 (W0.alloc (.cells #[.int .i64 1] 3))) := HE0.out.1.1.alloc HE0.out.1.1.size _
      generalize W0.alloc _ = V1 at HV1 HD0 HX0 ⊢
      obtain ⟨Bt1, hBt1⟩ : ∃ Bt, Bt = W0.heap.size := ⟨_, rfl⟩
      rw [← hBt1] at HV1 ⊢
      try clear hq0'
      clear hBt1 HME c14 c13 c5
      rw [rounds_succ]
      have c0 := HV1.out.2.cell (i := 0) rfl
      go_wp2_with (fail)
      have hnk0 : NK V1 1 many 0 (V1.alloc (.cells #[.int .i64 0] 3)) := ⟨(Below.refl _ V1).alloc (Nat.le_refl _) _, Row.new V1 3 [.int .i64 0], fun _ => .inl rfl⟩
      have hszS : V1.heap.size < (V1.alloc (.cells #[.int .i64 0] 3)).heap.size := by simp
      generalize V1.alloc _ = S1 at hnk0 hszS ⊢
      have HNK0 := Lib.hid hnk0
      clear c0 hnk0
      refine (wpIn_wide (n := 9)).1 ?_
      refine wpIn_range_brk rfl (by omega) (gf := 59) (lb := #[.pointer (some ⟨w6.heap.size, 0, none⟩), .pointer (some ⟨w6.heap.size + 1, 0, none⟩)]) rfl trivial (enters_of Try.func59 (by kernel_rfl) rfl)
        (encs := fun k => #[.int .i64 (k : Int), .agg (bv (stepL key b k)).toArray]) (N := 11) (T := fun _ => False) (fun h => h) (fun _ => rfl)
        (fun W1 hb1 _ => by
          have hm := (HV1.out.1.over HNK0.out.1).over (hb1.mono (Nat.le_refl _))
          exact stepsIt_gives _ w6.heap.size (w6.heap.size + 1) g key b _ W1 HK.out HB.out HL.out HBb.out hm.2.2.2.2.1 hm.2.2.2.2.2 hm.1.2.2.2.2.1)
        (NK V1 1 many) (NX V1 1 many)
        (fun k A B h hb => h.stay hszS hb) (fun k A B h hb => h.stay hszS hb) HNK0.out ?round1 ?_
      case round1 =>
        rintro l k A hk hl1 hl2 hnk
        have HNK := Lib.hid hnk
        have hszA : V1.heap.size < A.heap.size := hnk.2.1.lt
        clear hnk
        obtain ⟨y, hy⟩ : ∃ y, y = stepL key b k := ⟨_, rfl⟩
        have hyl : y.length = 16 := by rw [hy]; exact stepL_length _ _ k
        have y16 : (Try.prog.info? 29).map (·.size) = some (bv y).length := by rw [bv_length, hyl]; kernel_rfl
        have Y16 := Lib.hid y16
        have yin : 0 + (bv y).length ≤ (bv (zeroL 16)).length := by rw [bv_length, bv_length, hyl, zeroL_length]; omega
        have YIN := Lib.hid yin
        rw [← hy]
        have HY := Lib.hid hy
        have n0 := Lib.hid (Row.new A 29 (bv (zeroL 16)))
        clear y16 yin hy
        gi_wp2_with (refine wpListIn_store_in rfl 29 _ _ rfl A.heap.size 0 (bv y) rfl rfl n0.out Y16.out YIN.out (bv_one _) ?_; refine stay ?_)
        refine go_on ?_
        have hA1 : Row ((A.alloc (.cells (bv (zeroL 16)).toArray 29)).setCells A.heap.size 0 (bv y)) A.heap.size 29 (bv y) ∧
            Below A.heap.size A ((A.alloc (.cells (bv (zeroL 16)).toArray 29)).setCells A.heap.size 0 (bv y)) :=
          ⟨n0.out.putAll _ (by rw [bv_length, bv_length, hyl, zeroL_length]), below_setCells (Nat.le_refl _) _ _ ((Below.refl _ A).alloc (Nat.le_refl _) _)⟩
        generalize hA : (A.alloc _).setCells A.heap.size 0 _ = A1
        have HA1 : Hid (Row A1 A.heap.size 29 (bv y) ∧ Below A.heap.size A A1) := by rw [← hA]; exact hA1
        clear hA hA1 n0 YIN
        gi_wp2
        refine ⟨KeepB.below HA1.out.2 (Nat.le_refl _), fun o => ?_⟩
        have hA2 : Row (A1.putObj l o) A.heap.size 29 (bv y) ∧ NK V1 1 many k (A1.putObj l o) :=
          ⟨HA1.out.1.turned (by omega) _, (HNK.out.stay hszS (HA1.out.2.mono (by omega))).stay hszS (below_putObj A1 o (by omega))⟩
        generalize A1.putObj l o = A2 at hA2 ⊢
        have HA2 := Lib.hid hA2
        have HM2 := Lib.hid (HV1.out.1.over hA2.2.1)
        clear hA2 HA1 HNK
        gi_wp2_with (fail)
        obtain ⟨X, hX, gx, hgx⟩ := Ext.over_index A2
        have hov : ∀ x', Below A2.heap.size A2 (gx x') := fun x' => (hgx _).2 ⟨x', rfl⟩
        have hcn : ∀ x', (gx x').cell? ⟨V1.heap.size, 0, none⟩ = some (.int .i64 (k : Int)) := fun x' => (HA2.out.2.2.1.below (hov x') HA2.out.2.2.1.lt).cell (i := 0) rfl
        have hcs : ∀ x', (gx x').cell? ⟨gw, 0, none⟩ = some (.slice (some ⟨gs, 0, none⟩) 11 scap) := fun x' => ((HM2.out.over (hov x')).2.2.1).cell (i := 0) rfl
        have hry : ∀ x', (gx x').rangeAt A.heap.size 0 (bv y) := fun x' => (HA2.out.1.below (hov x') HA2.out.1.lt).range
        have hrs : ∀ x', (gx x').rangeAt gs (k * 16) (bv y) := fun x' => by
          have := owns_range (HM2.out.over (hov x')).2.2.2.1 k y hyl (fun j hj => by rw [HY.out]; exact flatS_get key b k j hj 11 hk)
          simpa using this
        have HRY := Lib.hid hry
        have HRS := Lib.hid hrs
        have HGI := Lib.hid hgx
        have hq := run_equal_bytes 29 16 Try.underlying29 y y hyl hyl
        rw [decide_eq_true rfl] at hq
        have hgu := guardBlk
        have hd : decide ((k : Int) > 10) = false := decide_eq_false (by omega)
        have hk0 : (0 : Int) ≤ (k : Int) := by omega
        have hk1 : (k : Int) < 11 := by omega
        clear hov hry hrs hgx
        refine Ext.regionIn (Ext.open_round _ l) (fun _ => none) (fun w' => ∃ x, w' = gx x) (by kernel_rfl) (by kernel_rfl) (by kernel_rfl) ((HGI.out _).1 (Ext.Over.drew A2)) (fun j s h => by cases h) ?_
        refine Ext.walk_take 8 (by kernel_rfl) (by kernel_rfl) (by kernel_rfl) ?_
        simp only [List.take_succ_cons, List.take_zero, List.drop_succ_cons, List.drop_zero]
        repeat (go_big_quiet_step (fail))
        refine wpQuiet_nil ?_
        refine Ext.walk_load (by kernel_rfl) rfl 29 _ rfl A.heap.size 0 rfl (bv y) _ (by rintro _ ⟨x', rfl⟩; exact HRY.out x') Try.underlying29 rfl Y16.out ?_
        simp only [Act.put, List.setIfInBounds_toArray, List.set_cons_zero, List.set_cons_succ]
        refine Ext.walk_take 3 (by kernel_rfl) (by kernel_rfl) (by kernel_rfl) ?_
        simp only [List.take_succ_cons, List.take_zero, List.drop_succ_cons, List.drop_zero]
        repeat (go_big_quiet_step (fail))
        refine wpQuiet_nil ?_
        refine Ext.walk_load (by kernel_rfl) rfl 29 _ rfl gs (k * 16) rfl (bv y) _ (by rintro _ ⟨x', rfl⟩; exact HRS.out x') Try.underlying29 rfl Y16.out ?_
        simp only [Act.put, List.setIfInBounds_toArray, List.set_cons_zero, List.set_cons_succ]
        refine Ext.walk_take 2 (by kernel_rfl) (by kernel_rfl) (by kernel_rfl) ?_
        simp only [List.take_succ_cons, List.take_zero, List.drop_succ_cons, List.drop_zero]
        repeat (go_big_quiet_step (fail))
        refine wpQuiet_nil ?_
        refine Ext.walk_end ?_
        intro wx hwx _
        have hbx : Below A2.heap.size A2 wx := (HGI.out _).2 hwx
        clear hwx HRY HRS HGI hcn hcs hq hgu hX gx X hd
        have HNX : Hid (NK V1 1 many k wx) := HA2.out.2.stay HA2.out.2.2.1.lt hbx
        have c14 := HNX.out.2.1.cell (i := 0) rfl
        have f14 := HNX.out.2.1.frozen 0
        have c13 := (HV1.out.2.below HNX.out.1 HV1.out.2.lt).cell (i := 0) rfl
        have c5 := (HM2.out.over hbx).1.2.2.1.cell (i := 0) rfl
        have n13 : Bt1 ≠ V1.heap.size := Nat.ne_of_lt HV1.out.2.lt
        have n5 : w.heap.size + 1 + 1 ≠ V1.heap.size := Nat.ne_of_lt HV1.out.1.1.2.2.1.lt
        have HBX := Lib.hid hbx
        have HKN : Hid (KeepB S1.heap.size (fun _ => False) A2 (wx.setCell ⟨V1.heap.size, 0, none⟩ (.int .i64 ((k : Int) + 1))) ∧ Below V1.heap.size V1 (wx.setCell ⟨V1.heap.size, 0, none⟩ (.int .i64 ((k : Int) + 1))) ∧
            Row (wx.setCell ⟨V1.heap.size, 0, none⟩ (.int .i64 ((k : Int) + 1))) V1.heap.size 3 [.int .i64 ((k + 1 : Nat) : Int)]) :=
          ⟨(KeepB.below hbx (Nat.le_refl _)).setCell (.inl hszS) (.inl fun h => h) _, HNX.out.1.setCell (p := ⟨V1.heap.size, 0, none⟩) (Nat.le_refl _) _, by have := HNX.out.2.1.set 0 (.int .i64 ((k : Int) + 1)); simpa using this⟩
        clear hbx HBX HA2 HM2
        by_cases hmn : (1 : Int) = 0 ∧ many ≤ (k : Int) + 1
        · have hge : decide ((k : Int) + 1 ≥ many) = true := decide_eq_true hmn.2
          first
            | (exfalso; exact absurd hmn.1 (by decide))
            | (gi_wp2
               exact ⟨HKN.out.1, rfl, rfl, HKN.out.2.1, HKN.out.2.2, by omega, by have := HNX.out.2.2 rfl; omega⟩)
        · have hge : (1 : Int) = 0 → decide ((k : Int) + 1 ≥ many) = false := fun h => decide_eq_false (by omega)
          have hlt : (1 : Int) = 0 → (k : Int) + 1 < many := fun h => by omega
          have HLT : Hid (NK V1 1 many (k + 1) (wx.setCell ⟨V1.heap.size, 0, none⟩ (.int .i64 ((k : Int) + 1)))) := ⟨HKN.out.2.1, HKN.out.2.2, fun h => .inr (by have := hlt h; omega)⟩
          first
            | have hge := hge rfl
            | skip
          clear hlt
          gi_wp2
          exact ⟨HKN.out.1, HLT.out⟩
      rintro D1 k1 W1 hD1 he hd
      have HE1 : Hid (NE V1 1 many k1 W1 ∧ W1.heap[D1]? = some (.deferred (some []))) := ⟨NE.of he, hd⟩
      have HME := Lib.hid (HV1.out.1.over HE1.out.1.1)
      clear he hd HNK0
      have c14 := HE1.out.1.2.1.cell (i := 0) rfl
      have c13 := (HV1.out.2.below HE1.out.1.1 HV1.out.2.lt).cell (i := 0) rfl
      have c5 := HME.out.1.2.2.1.cell (i := 0) rfl
      have hq0 : (1 : Int) = 0 → max 1 (min 11 many) = (k1 : Int) := fun h => (HE1.out.1.2.2.1 h).symm
      have hq1 : (1 : Int) ≠ 0 → k1 = 11 := fun h => HE1.out.1.2.2.2 h
      first
        | (have hq0' := hq0 rfl; clear hq0 hq1)
        | (have hq1' := hq1 (by decide); clear hq0 hq1; subst hq1')
      go_wp2_with (fail)
      have HV2 : Hid (MC w key b x many g w3.heap.size gw gs scap w6.heap.size (W1.alloc (.cells #[.int .i64 2] 3)) ∧ Row (W1.alloc (.cells #[.int .i64 2] 3)) W1.heap.size 3 [.int .i64 2]) :=
        ⟨HME.out.over ((Below.refl _ W1).alloc (Nat.le_refl _) _), Row.new W1 3 [.int .i64 2]⟩
      have HD1 : Hid ((W1.alloc (.cells #[.int .i64 2] 3)).heap[D1]? = some (.deferred (some [])) ∧ D1 < (W1.alloc (.cells #[.int .i64 2] 3)).heap.size) := by
        have h := HE1.out.2
        have hl : D1 < W1.heap.size := (Array.getElem?_eq_some_iff.1 h).1
        exact ⟨(Below.heap_alloc W1 _ D1 hl).trans h, by simp; omega⟩
      have HX1 : Hid (Below V1.heap.size V1 (W1.alloc (.cells #[.int .i64 2] 3))) := HE1.out.1.1.alloc HE1.out.1.1.size _
      generalize W1.alloc _ = V2 at HV2 HD1 HX1 ⊢
      obtain ⟨Bt2, hBt2⟩ : ∃ Bt, Bt = W1.heap.size := ⟨_, rfl⟩
      rw [← hBt2] at HV2 ⊢
      try clear hq0'
      clear hBt2 HME c14 c13 c5
      rw [rounds_succ]
      have c0 := HV2.out.2.cell (i := 0) rfl
      go_upto_region 22 with (fail)
      clear c0
      have HDs : Hid (V2.heap[D0]? = some (.deferred (some [])) ∧ V2.heap[D1]? = some (.deferred (some [])) ∧ D0 < V2.heap.size ∧ D1 < V2.heap.size ∧ MC w key b x many g w3.heap.size gw gs scap w6.heap.size V2 ∧ D0 ≠ D1 ∧ w.heap.size + 1 + 1 + 1 < D0 ∧ w.heap.size + 1 + 1 + 1 < D1) := by
        have h1 := HD0.out.2
        have h2 := HV0.out.1.1.2.2.2.1.lt
        exact ⟨(HX1.out.block D0 HD0.out.2).trans HD0.out.1, HD1.out.1, Nat.lt_of_lt_of_le HD0.out.2 HX1.out.size, HD1.out.2, HV2.out.1, by omega, by omega, by have := HV1.out.1.1.2.2.2.1.lt; omega⟩
      clear HD0 HD1 HX0 HX1 HE0 HE1 HV0 HV1 HV2 hD0 hD1
      obtain ⟨X, hX, gx, hgx⟩ := Ext.over_index V2
      have hmx : ∀ x', MC w key b x many g w3.heap.size gw gs scap w6.heap.size (gx x') := fun x' => HDs.out.2.2.2.2.1.over ((hgx _).2 ⟨x', rfl⟩)
      have hcs : ∀ x', (gx x').cell? ⟨gw, 0, none⟩ = some (.slice (some ⟨gs, 0, none⟩) 11 scap) := fun x' => (hmx x').2.2.1.cell (i := 0) rfl
      have hrs : ∀ x', (gx x').rangeAt gs 160 (bv x) := fun x' => owns_range (hmx x').2.2.2.1 10 x hxl (fun j hj => by rw [HX.out]; exact flatS_get key b 10 j hj 11 (by omega))
      have HMX := Lib.hid hmx
      have HRS := Lib.hid hrs
      have HGI := Lib.hid hgx
      have hq := run_equal_bytes 29 16 Try.underlying29 x x hxl hxl
      rw [decide_eq_true rfl] at hq
      have hgu := guardBlk
      clear hmx hrs hgx
      refine Ext.region 16 (Ext.at_ [(1, Ext.eqS (.int .i64 0)), (3, Ext.eqS (.int .i64 0)), (14, Ext.eqS (.bool true))]) (fun w' => ∃ x, w' = gx x) (by kernel_rfl) (by kernel_rfl) ((HGI.out _).1 (Ext.Over.drew V2)) (Ext.at_stable (by
        intro p hp v
        simp only [List.mem_cons, List.not_mem_nil, or_false] at hp
        rcases hp with rfl | rfl | rfl <;> exact Ext.eqS_stable _ _)) ?_
      simp only [List.take_succ_cons, List.take_zero, List.drop_succ_cons, List.drop_zero]
      refine Ext.walk_take 1 (by kernel_rfl) (by kernel_rfl) (by kernel_rfl) ?_
      simp only [List.take_succ_cons, List.take_zero, List.drop_succ_cons, List.drop_zero]
      repeat (go_big_quiet_step (fail))
      refine wpQuiet_nil ?_
      refine Ext.walk_spec _ rfl rfl (by rintro _ ⟨x', rfl⟩ _; go_simp; exact Ext.call_same HGI.out (num3_any 0 _)) ?_
      rintro v rfl
      simp only [Act.put, List.setIfInBounds_toArray, List.set_cons_zero, List.set_cons_succ]
      refine Ext.walk_take 1 (by kernel_rfl) (by kernel_rfl) (by kernel_rfl) ?_
      simp only [List.take_succ_cons, List.take_zero, List.drop_succ_cons, List.drop_zero]
      repeat (go_big_quiet_step (fail))
      refine wpQuiet_nil ?_
      refine Ext.walk_spec _ rfl rfl (by rintro _ ⟨x', rfl⟩ _; go_simp; exact Ext.call_same HGI.out (num3_any 0 _)) ?_
      rintro v rfl
      simp only [Act.put, List.setIfInBounds_toArray, List.set_cons_zero, List.set_cons_succ]
      refine Ext.walk_take 3 (by kernel_rfl) (by kernel_rfl) (by kernel_rfl) ?_
      simp only [List.take_succ_cons, List.take_zero, List.drop_succ_cons, List.drop_zero]
      repeat (go_big_quiet_step (fail))
      refine wpQuiet_nil ?_
      refine Ext.walk_load (by kernel_rfl) rfl 29 _ rfl w3.heap.size 0 rfl (bv x) _ (by rintro _ ⟨x', rfl⟩; exact (HMX.out x').2.1.range) Try.underlying29 rfl X16.out ?_
      simp only [Act.put, List.setIfInBounds_toArray, List.set_cons_zero, List.set_cons_succ]
      refine Ext.walk_take 2 (by kernel_rfl) (by kernel_rfl) (by kernel_rfl) ?_
      simp only [List.take_succ_cons, List.take_zero, List.drop_succ_cons, List.drop_zero]
      repeat (go_big_quiet_step (fail))
      refine wpQuiet_nil ?_
      refine Ext.walk_load (by kernel_rfl) rfl 29 _ rfl gs 160 rfl (bv x) _ (by rintro _ ⟨x', rfl⟩; exact HRS.out x') Try.underlying29 rfl X16.out ?_
      simp only [Act.put, List.setIfInBounds_toArray, List.set_cons_zero, List.set_cons_succ]
      refine Ext.walk_take 3 (by kernel_rfl) (by kernel_rfl) (by kernel_rfl) ?_
      simp only [List.take_succ_cons, List.take_zero, List.drop_succ_cons, List.drop_zero]
      repeat (go_big_quiet_step (fail))
      refine wpQuiet_nil ?_
      refine Ext.walk_spec_guarded _ (by kernel_rfl) rfl (by rintro _ ⟨x', rfl⟩ _; go_simp; exact Ext.call_eq HGI.out (works3_any _)) ?_
      rintro v rfl
      simp only [Act.put, List.setIfInBounds_toArray, List.set_cons_zero, List.set_cons_succ]
      refine Ext.walk_take 1 (by kernel_rfl) (by kernel_rfl) (by kernel_rfl) ?_
      simp only [List.take_succ_cons, List.take_zero, List.drop_succ_cons, List.drop_zero]
      repeat (go_big_quiet_step (fail))
      refine wpQuiet_nil ?_
      refine Ext.walk_end ?_
      intro wx hwx _
      have hov : Below V2.heap.size V2 wx := (HGI.out _).2 hwx
      have hm := HDs.out.2.2.2.2.1.over hov
      have HZ : Hid (wx.heap[D0]? = some (.deferred (some [])) ∧ wx.heap[D1]? = some (.deferred (some [])) ∧ Row wx (w.heap.size + 1 + 1 + 1) 4 [.bool false] ∧ Below w.heap.size w wx ∧ D0 ≠ D1 ∧ w.heap.size + 1 + 1 + 1 < D0 ∧ w.heap.size + 1 + 1 + 1 < D1) :=
        ⟨(hov.block D0 HDs.out.2.2.1).trans HDs.out.1, (hov.block D1 HDs.out.2.2.2.1).trans HDs.out.2.1, hm.1.2.2.2.1, hm.1.2.2.2.2.2, HDs.out.2.2.2.2.2⟩
      have c6 := HZ.out.2.2.1.cell (i := 0) rfl
      have f6 := HZ.out.2.2.1.frozen 0
      clear hwx hov hm HDs HMX HRS HGI hcs hq hgu hX gx X
      go_wp2
      have HY : Hid ((wx.setCell ⟨w.heap.size + 1 + 1 + 1, 0, none⟩ (.bool true)).heap[D0]? = some (.deferred (some [])) ∧ (wx.setCell ⟨w.heap.size + 1 + 1 + 1, 0, none⟩ (.bool true)).heap[D1]? = some (.deferred (some [])) ∧
          Row (wx.setCell ⟨w.heap.size + 1 + 1 + 1, 0, none⟩ (.bool true)) (w.heap.size + 1 + 1 + 1) 4 [.bool true] ∧ Below w.heap.size w (wx.setCell ⟨w.heap.size + 1 + 1 + 1, 0, none⟩ (.bool true)) ∧ D0 ≠ D1 ∧ w.heap.size + 1 + 1 + 1 < D0 ∧ w.heap.size + 1 + 1 + 1 < D1) := by
        obtain ⟨h1, h2, h3, h4, h5, h6, h7⟩ := HZ.out
        exact ⟨(Below.heap_setCell wx ⟨w.heap.size + 1 + 1 + 1, 0, none⟩ _ D0 (by simp; omega)).trans h1, (Below.heap_setCell wx ⟨w.heap.size + 1 + 1 + 1, 0, none⟩ _ D1 (by simp; omega)).trans h2, h3.set 0 (.bool true), h4.setCell (p := ⟨w.heap.size + 1 + 1 + 1, 0, none⟩) (by simp; omega) _, h5, h6, h7⟩
      generalize wx.setCell _ _ = wy at HY ⊢
      clear HZ c6 f6
      obtain ⟨h1, h2, h3, h4, h5, h6, h7⟩ := HY.out
      refine ⟨by simp, .inl ⟨_, _, rfl, run_takeDeferred h2, ?_⟩⟩
      refine ⟨by simp, .inl ⟨_, _, rfl, run_takeDeferred ((World.putObj_heap_other h5).trans h1), ?_⟩⟩
      have hr : Row ((wy.putObj D1 (.deferred none)).putObj D0 (.deferred none)) (w.heap.size + 1 + 1 + 1) 4 [.bool true] := (h3.turned (by omega) _).turned (by omega) _
      have hbl : Below w.heap.size w ((wy.putObj D1 (.deferred none)).putObj D0 (.deferred none)) := (h4.trans (below_putObj wy _ (by omega))).trans (below_putObj _ _ (by omega))
      generalize (wy.putObj D1 (.deferred none)).putObj D0 (.deferred none) = wz at hr hbl ⊢
      have c6 := hr.cell (i := 0) rfl
      clear h1 h2 h3 h4 h5 h6 h7 HY hr
      exact ⟨.bool true, results_cell1 rfl _ _ _ _ rfl c6, rfl, hbl⟩
theorem cells16 : Try.prog.cellsOf 29 = 16 := by kernel_rfl
set_option maxRecDepth 100000 in
theorem aesMakes_lifted (os : Os) (started : os.Started) (H : Type) (enc : TypeId × Value → H) :
    ReturnsInHanded {} Try.checked os 6 .any (Rows.aesMakesSpec.pre6 enc Try.prog Try.f6 Rows.aesMakesRow.domain false) (Rows.aesMakesSpec.post enc Try.prog Try.f6 false true false false) := by
  refine returnsInHanded_of_change (C := Try.checked) own started (by kernel_rfl) Try.func6
    (ChangeSpec.witness6 (enc := enc) (C := Try.checked) false ⟨#[], #[.agg (Array.replicate 16 (.int .u8 0)), .agg (Array.replicate 16 (.int .u8 0)), .int .i64 0], []⟩ 8 (by kernel_rfl) (by kernel_rfl) (by kernel_rfl) (by kernel_rfl)) ?_
  intro W base args ds gs before hval0 hW hcnd _
  have hval : ∀ (j : Nat) t v, Try.f6.params[j]? = some t → args[j]? = some v → Value.okWide Try.prog W .any base t v := hval0
  have hW' := hW
  obtain ⟨p, q, hA, hV, rfl, hfz, hnd⟩ := hW
  rw [show Try.f6.params.toList = [29, 29, 3] from rfl] at hA
  obtain ⟨rfl, rfl⟩ := trodVars_none hV
  obtain ⟨v0, v1, v2, d0, d1, d2, p0, p1, p2, rfl, rfl, rfl, h0, h1, h2⟩ := trodAll_three hA
  obtain ⟨one, rfl, l1, b1⟩ := open_bytes Try.underlying29 Try.underlying5 cells_u8 cells16 (hval 0 29 v0 rfl rfl) h0
  obtain ⟨two, rfl, l2, b2⟩ := open_bytes Try.underlying29 Try.underlying5 cells_u8 cells16 (hval 1 29 v1 rfl rfl) h1
  obtain ⟨n, rfl, rfl, rfl, wn⟩ := open_int Try.underlying3 (hval 2 3 v2 rfl rfl) h2
  refine (aesMakes_walk one two n W l1 b1 l2 b2).mono fun e W' ⟨he, hb⟩ => ?_
  subst he
  exact post_true laidOut hW' hb rfl (by kernel_rfl) rfl Try.underlying4 rfl
theorem aesMakes_over : Rows.aesMakesRow.holds Try.pinned (OpenSpec.ofChange Rows.aesMakesSpec) :=
  OpenClaim.holds_of_wide 6 Try.f6 rfl rfl rfl rfl rfl rfl rfl ⟨rfl, rfl, rfl, rfl, rfl⟩ rfl rfl rfl rfl rfl (by kernel_rfl) Try.func6 (by kernel_rfl)
    (of_decide_eq_true (by kernel_rfl)) (by unfold Func.isWrapper; first | (rw [if_pos (by decide +kernel)]; kernel_rfl) | (rw [if_neg (by decide +kernel)]; exact ⟨rfl, rfl⟩))
    (fun os started H enc _ => aesMakes_lifted os started H enc)
theorem aesMakes_holds : Rows.AesMakesSaid := aesMakes_over
#print axioms aesMakes_holds
end Go.Proofs.Ytfkpilfnhgjmfaa
