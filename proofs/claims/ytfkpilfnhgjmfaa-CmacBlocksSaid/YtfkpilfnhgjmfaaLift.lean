/-
  From a law's walk to its row: arguments opened; what is asked behind the call.
-/
import Derived.Test.YtfkpilfnhgjmfaaRows0
import Derived.Test.YtfkpilfnhgjmfaaRows
import Derived.WalkKit
import Derived.ProofKit
import Derived.OpenShut
import Derived.Carry
import Derived.Deep.Slices
import Derived.Deep.MidRow
namespace Go.Proofs.Ytfkpilfnhgjmfaa
open Go.ChangeShapes Go.WideShapes Go.ChangeAt Go.RowKit
theorem own : ownKnob Try.prog.godebug = none := by kernel_rfl
theorem laidOut : laidOutB Try.prog = true := by kernel_rfl
section
variable {H : Type} {enc : TypeId × Value → H} {P : Program}
theorem trodAll_stays (hl : laidOutB P = true) {W W' : World} {sp : Nat → Bool} : ∀ (ts : List TypeId) (vs : List Value) (ds : List (DataW H)) (ps : List MemPlace),
    ts.all (fun t => P.readableRec t && decide (t < P.types.size)) = true → DataW.TrodAll enc P W 0 (fun _ => true) true ts vs ds ps → (∀ p ∈ ps, W.sameAt W' p) → (∀ p ∈ ps, sp p.block = true) →
    DataW.TrodAll enc P W' 0 sp true ts vs ds ps
  | [], [], [], _, _, h, _, _ => h
  | t :: ts, v :: vs, d :: ds, ps, hr, h, hs, hp => by
    obtain ⟨p, q, h1, h2, rfl⟩ := h
    simp only [List.all_cons, Bool.and_eq_true, decide_eq_true_eq] at hr
    exact ⟨p, q, WideElems.Trod_stays hl hr.1.1 hr.1.2 h1 (fun x hx => hs x (List.mem_append_left _ hx)) (fun x hx => hp x (List.mem_append_left _ hx)),
      trodAll_stays hl ts vs ds q hr.2 h2 (fun x hx => hs x (List.mem_append_right _ hx)) (fun x hx => hp x (List.mem_append_right _ hx)), rfl⟩
/-- **Behind the call**: true has come; the arguments read as before. -/
theorem post_true (hl : laidOutB P = true) {f : Func} {s : ChangeSpec} {apart fresh handsOn again : Bool} {W W' : World} {args : Array Value} {ds gs : List (DataW H)} {before : List MemPlace} {tb : TypeId}
    (hW : DataW.Whole enc P f.params.toList s.vars apart W args.toList ds gs before) (hb : Below W.heap.size W W') (hv : s.vars = [])
    (hr : f.params.toList.all (fun t => P.readableRec t && decide (t < P.types.size)) = true) (hrt : f.resultTypes = #[tb]) (htb : P.underlying tb = some .bool)
    (hfn : s.fn H (ds ++ gs) = { results := [.lit (.bool true)], args := ds }) :
    ∃ v, Ending.returned (.bool true) = .returned v ∧ s.post enc P f apart fresh handsOn again W args v W' := by
  refine ⟨_, rfl, ?_⟩
  have hlt : ∀ p ∈ before, p.block < W.heap.size := fun p hp => hW.lt p hp
  obtain ⟨p, q, hA, hV, rfl, hz, hn⟩ := id hW
  rw [hv] at hV
  obtain ⟨rfl, rfl⟩ := trodVars_none hV
  rw [List.append_nil] at *
  have hargs : ∀ sp : Nat → Bool, (∀ x ∈ p, sp x.block = true) → DataW.TrodAll enc P W' 0 sp true f.params.toList args.toList (s.fn H ds).args p := fun sp hsp => by
    rw [hfn]
    exact trodAll_stays hl _ _ _ _ hr hA (fun x hx => hb.same (hlt x (by simpa using hx))) hsp
  have hres : ∀ (b : Nat) (sp : Nat → Bool) (hd : Bool), DataW.TrodAll enc P W' b sp hd f.resultTypes.toList ((Value.bool true).resultList f.resultTypes.size) (s.fn H ds).results [] := fun b sp hd => by
    rw [hfn, hrt]
    exact trodAll_cons_mk (shut_bool htb _) trodAll_mk0
  have hok : ∀ (j : Nat) (t : TypeId) (r : Value), f.resultTypes[j]? = some t → ((Value.bool true).resultList f.resultTypes.size)[j]? = some r → Value.okWide P W' .any 0 t r := ok_one hrt rfl (okWide_bool_mk htb _)
  have hvars : ∀ sp : Nat → Bool, DataW.TrodVars enc P W' sp s.vars (s.fn H ds).vars [] := fun sp => by
    rw [hfn, hv]; rfl
  have hold : ∀ x ∈ p, (fun b => decide (b < W.heap.size)) x.block = true := fun x hx => by simpa using hlt x (by simpa using hx)
  refine ⟨ds, [], p, [], p, [], by simpa using hW, by simpa using hres _ _ _, by simpa using hargs _ hold, by simpa using hvars _, hb.frame _, fun _ => ?_⟩
  refine ⟨hok, _, _, ([] ++ p) ++ [], ⟨[] ++ p, [], trodAll_append (by simpa using hargs _ (fun _ _ => rfl)) (by simpa using hres _ _ _), by simpa using hvars _, rfl, ?_, ?_⟩, ?_⟩
  · intro b off hp
    have hp' : MemPlace.cell b off ∈ p := by simpa using hp
    rw [hb.frozen (p := ⟨b, off, none⟩) (hlt (.cell b off) (by simpa using hp'))]
    exact hz b off (by simpa using hp')
  · intro ha
    simpa using hn ha
  · intro x hx _
    simpa using hx
/-- the number of a cell -/
def cellInt : Value → Int
  | .int _ x => x
  | _ => 0
theorem bytes_of (cs : List Value) (h : ∀ i, i < cs.length → ∃ x : Int, cs[i]? = some (.int .u8 x) ∧ (Lit.int .u8 x).wf = true) : ∃ l : List Int, cs = bv l ∧ Byt l := by
  refine ⟨cs.map cellInt, ?_, Byt.of_mem ?_⟩
  · apply List.ext_getElem
    · simp [bv]
    · intro i h1 h2
      obtain ⟨x, hx, _⟩ := h i h1
      have : cs[i] = .int .u8 x := (List.getElem?_eq_some_iff.1 hx).2
      simp [bv, this, cellInt, u8v]
  · intro x hx
    obtain ⟨v, hv, rfl⟩ := List.mem_map.1 hx
    obtain ⟨i, hi, rfl⟩ := List.mem_iff_getElem.1 hv
    obtain ⟨y, hy, wy⟩ := h i hi
    have : cs[i] = .int .u8 y := (List.getElem?_eq_some_iff.1 hy).2
    have b := bounds_u8 wy
    simp only [this, cellInt]
    omega
/-- An argument that is an array of bytes, opened. -/
theorem open_bytes {w : World} {r : Reach} {b0 base n : Nat} {spare : Nat → Bool} {held : Bool} {t e : TypeId} {v : Value} {d : DataW H} {ps : List MemPlace} (ht : P.underlying t = some (.array n e)) (he : P.underlying e = some (.int .u8)) (hc : P.cellsOf e = 1) (hct : P.cellsOf t = n)
    (hval : Value.okWide P w r b0 t v) (hd : DataW.Trod enc P w base spare held t v d ps) : ∃ l : List Int, v = .agg (bv l).toArray ∧ l.length = n ∧ Byt l := by
  unfold Value.okWide at hval
  rw [ht] at hval
  obtain ⟨cs, rfl, hs, _⟩ := hval
  obtain ⟨fuel, hf⟩ := hd
  simp only [Value.cells] at hf
  obtain ⟨xs, m, _, _, hl, hxs, hel⟩ := DataW.trod_array ht hf
  have hall : ∀ i, i < cs.toList.length → ∃ x : Int, cs.toList[i]? = some (.int .u8 x) ∧ (Lit.int .u8 x).wf = true := fun i hi => by
    have hin : i < n := by rw [hl, hct] at hi; exact hi
    have h1 := hel i hin
    rw [List.getElem?_eq_getElem (by omega), hc, Nat.mul_one] at h1
    obtain ⟨x, hx, _, hw⟩ := DataW.trod_int he h1
    refine ⟨x, ?_, hw⟩
    have h2 : ((cs.toList.drop i).take 1)[0]? = some (.int .u8 x) := by rw [hx]; rfl
    rw [List.getElem?_take_of_lt (by omega), List.getElem?_drop, Nat.add_zero] at h2
    exact h2
  obtain ⟨l, e1, hb⟩ := bytes_of cs.toList hall
  refine ⟨l, ?_, ?_, hb⟩
  · rw [← e1]
  · have := congrArg List.length e1
    rw [bv_length] at this
    rw [← this, hl, hct]
/-- the blocks of a slice -/
def Blks (w : World) (p : Option Addr) (n : Nat) (L : Nat → List Int) : Prop :=
  ∀ i, i < n → ∃ b off, p = some ⟨b, off, none⟩ ∧ w.rangeAt b (off + i * 16) (bv (L i)) ∧ (L i).length = 16 ∧ Byt (L i)
/-- An argument that is a slice of blocks of 16 bytes, opened. -/
theorem open_blks {w : World} {r : Reach} {b0 base : Nat} {t tb e : TypeId} {v : Value} {d : DataW H} {ps : List MemPlace} (ht : P.underlying t = some (.slice tb)) (hb : P.underlying tb = some (.array 16 e)) (he : P.underlying e = some (.int .u8)) (hc : P.cellsOf e = 1) (hct : P.cellsOf tb = 16)
    (hval : Value.okWide P w r b0 t v) (hd : DataW.Trod enc P w base (fun _ => true) true t v d ps) : ∃ p n cap L, v = .slice p n cap ∧ n ≤ maxLen ∧ Blks w p n L := by
  obtain ⟨a, n, cap, rfl⟩ := okWide_slice ht hval
  obtain ⟨fuel, hf⟩ := hd
  simp only [Value.cells] at hf
  rcases Go.Deep.open_slice ht hf with ⟨h1, _⟩ | ⟨a', len, cap', m, n', D, Pl, h1, _, hlc, hcm, hm, _, hel⟩
  · simp only [List.cons.injEq, Value.slice.injEq, and_true] at h1
    obtain ⟨rfl, rfl, rfl⟩ := h1
    exact ⟨none, 0, 0, fun _ => [], rfl, by omega, fun i hi => absurd hi (Nat.not_lt_zero _)⟩
  · simp only [List.cons.injEq, Value.slice.injEq, and_true] at h1
    obtain ⟨rfl, rfl, rfl⟩ := h1
    have hlm : n ≤ m := by rw [hm, if_pos rfl]; exact hlc
    have key : ∀ i, i < n → ∃ l : List Int, (∀ j v, (bv l)[j]? = some v → w.cell? ((a'.add (i * 16)).add j) = some v) ∧ l.length = 16 ∧ Byt l := fun i hi => by
      obtain ⟨cs, h2, h3⟩ := hel i (by omega)
      rw [hct] at h2
      obtain ⟨_, hl2, hcell⟩ := World.cells?_some h2
      obtain ⟨xs, m', _, _, hl, hxs, hele⟩ := DataW.trod_array hb h3
      have hall : ∀ j, j < cs.length → ∃ x : Int, cs[j]? = some (.int .u8 x) ∧ (Lit.int .u8 x).wf = true := fun j hj => by
        have h4 := hele j (by omega)
        rw [List.getElem?_eq_getElem (by omega), hc, Nat.mul_one] at h4
        obtain ⟨x, hx, _, hw⟩ := DataW.trod_int he h4
        refine ⟨x, ?_, hw⟩
        have h5 : ((cs.drop j).take 1)[0]? = some (.int .u8 x) := by rw [hx]; rfl
        rw [List.getElem?_take_of_lt (by omega), List.getElem?_drop, Nat.add_zero] at h5
        exact h5
      obtain ⟨l, e1, hbl⟩ := bytes_of cs hall
      refine ⟨l, fun j v hv => ?_, ?_, hbl⟩
      · rw [← e1] at hv
        have hj : j < 16 := by rw [← hl2]; exact (List.getElem?_eq_some_iff.1 hv).1
        rw [hcell j hj, hv]
      · have := congrArg List.length e1
        rw [bv_length] at this
        omega
    refine ⟨some a', n, cap, fun i => if h : i < n then Classical.choose (key i h) else [], rfl, Nat.le_trans hlc hcm, fun i hi => ?_⟩
    have h0 := Classical.choose_spec (key 0 (by omega))
    have hi2 := Classical.choose_spec (key i hi)
    obtain ⟨b, off, spot⟩ := a'
    have hs : spot = none := by
      have := h0.1 0 _ (bv_get _ 0 (by rw [h0.2.1]; omega))
      simpa [Addr.add] using World.cell?_spot this
    subst hs
    refine ⟨b, off, rfl, ?_, ?_⟩
    · simp only [dif_pos hi]
      intro j v hv
      have := hi2.1 j v hv
      rwa [Addr.add_mid, Addr.add_mid] at this
    · simp only [dif_pos hi]
      exact hi2.2
end
end Go.Proofs.Ytfkpilfnhgjmfaa
