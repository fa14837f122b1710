/-
  No two bytes have one box; no two blocks have one round, no two one step: plainly.
-/
import Derived.Test.YtfkpilfnhgjmfaaStep
namespace Go.Proofs.Ytfkpilfnhgjmfaa
open Go.RowKit
/-! ### Bytes as numbers -/
theorem xcl {a b c : Nat} (h : a ^^^ b = a ^^^ c) : b = c := by
  have : a ^^^ (a ^^^ b) = a ^^^ (a ^^^ c) := by rw [h]
  rwa [← Nat.xor_assoc, ← Nat.xor_assoc, Nat.xor_self, Nat.zero_xor, Nat.zero_xor] at this
theorem xcr {a b c : Nat} (h : b ^^^ a = c ^^^ a) : b = c := xcl (a := a) (by rw [Nat.xor_comm a b, h, Nat.xor_comm])
theorem x0 {a b : Nat} (h : a ^^^ b = 0) : a = b := xcr (a := b) (by rw [h, Nat.xor_self])
/-- the box turned round -/
def unbox : List Nat := [82, 9, 106, 213, 48, 54, 165, 56, 191, 64, 163, 158, 129, 243, 215, 251, 124, 227, 57, 130, 155, 47, 255, 135, 52, 142, 67, 68, 196, 222, 233, 203, 84, 123, 148, 50, 166, 194, 35, 61, 238, 76, 149, 11, 66, 250, 195, 78, 8, 46, 161, 102, 40, 217, 36, 178, 118, 91, 162, 73, 109, 139, 209, 37, 114, 248, 246, 100, 134, 104, 152, 22, 212, 164, 92, 204, 93, 101, 182, 146, 108, 112, 72, 80, 253, 237, 185, 218, 94, 21, 70, 87, 167, 141, 157, 132, 144, 216, 171, 0, 140, 188, 211, 10, 247, 228, 88, 5, 184, 179, 69, 6, 208, 44, 30, 143, 202, 63, 15, 2, 193, 175, 189, 3, 1, 19, 138, 107, 58, 145, 17, 65, 79, 103, 220, 234, 151, 242, 207, 206, 240, 180, 230, 115, 150, 172, 116, 34, 231, 173, 53, 133, 226, 249, 55, 232, 28, 117, 223, 110, 71, 241, 26, 113, 29, 41, 197, 137, 111, 183, 98, 14, 170, 24, 190, 27, 252, 86, 62, 75, 198, 210, 121, 32, 154, 219, 192, 254, 120, 205, 90, 244, 31, 221, 168, 51, 136, 7, 199, 49, 177, 18, 16, 89, 39, 128, 236, 95, 96, 81, 127, 169, 25, 181, 74, 13, 45, 229, 122, 159, 147, 201, 156, 239, 160, 224, 59, 77, 174, 42, 245, 176, 200, 235, 187, 60, 131, 83, 153, 97, 23, 43, 4, 126, 186, 119, 214, 38, 225, 105, 20, 99, 85, 33, 12, 125]
theorem unbox_table : allBelow 256 (fun a => Nat.beq (unbox.getD (boxRef a) 0) a) = true := by decide +kernel
theorem unbox_box (a : Nat) (h : a < 256) : unbox.getD (boxRef a) 0 = a := Nat.eq_of_beq_eq_true (allBelow_spec unbox_table a h)
theorem box_one {a b : Int} (a0 : 0 ≤ a) (a1 : a < 256) (b0 : 0 ≤ b) (b1 : b < 256) (h : box8 a = box8 b) : a = b := by
  have h' : boxRef a.toNat = boxRef b.toNat := by unfold box8 at h; omega
  have e1 := unbox_box a.toNat (by omega)
  have e2 := unbox_box b.toNat (by omega)
  rw [h'] at e1
  omega
theorem two_table : allBelow 256 (fun a => Nat.beq (mulN 2 a) (xt a)) = true := by decide +kernel
theorem three_table : allBelow 256 (fun a => Nat.beq (mulN 3 a) (xt a ^^^ a)) = true := by decide +kernel
theorem mul_two (a : Nat) (h : a < 256) : mulN 2 a = xt a := Nat.eq_of_beq_eq_true (allBelow_spec two_table a h)
theorem mul_three (a : Nat) (h : a < 256) : mulN 3 a = xt a ^^^ a := Nat.eq_of_beq_eq_true (allBelow_spec three_table a h)
theorem xt_zero : xt 0 = 0 := rfl
/-- a column's mix, as numbers -/
def mixN (a b c d : Nat) : Nat := ((xt a ^^^ (xt b ^^^ b)) ^^^ c) ^^^ d
theorem xor8_lt {a b : Nat} (ha : a < 256) (hb : b < 256) : a ^^^ b < 256 := Nat.xor_lt_two_pow (n := 8) ha hb
theorem mixN_xor (a b c d a' b' c' d' : Nat) (ha : a < 256) (ha' : a' < 256) (hb : b < 256) (hb' : b' < 256) : mixN (a ^^^ a') (b ^^^ b') (c ^^^ c') (d ^^^ d') = mixN a b c d ^^^ mixN a' b' c' d' := by
  unfold mixN
  rw [xt_xor a a' ha ha', xt_xor b b' hb hb']
  ac_rfl
/-- a column that is mixed into nought is nought -/
theorem mixN_zero (a b c d : Nat) (ha : a < 256) (hb : b < 256) (hc : c < 256) (hd : d < 256) (h0 : mixN a b c d = 0) (h1 : mixN b c d a = 0) (h2 : mixN c d a b = 0) (h3 : mixN d a b c = 0) :
    a = 0 ∧ b = 0 ∧ c = 0 ∧ d = 0 := by
  have e0 : xt (a ^^^ b) = (b ^^^ c) ^^^ d := by rw [xt_xor a b ha hb]; refine x0 (Eq.trans ?_ h0); unfold mixN; ac_rfl
  have e1 : xt (b ^^^ c) = (c ^^^ d) ^^^ a := by rw [xt_xor b c hb hc]; refine x0 (Eq.trans ?_ h1); unfold mixN; ac_rfl
  have e2 : xt (c ^^^ d) = (d ^^^ a) ^^^ b := by rw [xt_xor c d hc hd]; refine x0 (Eq.trans ?_ h2); unfold mixN; ac_rfl
  have e3 : xt (d ^^^ a) = (a ^^^ b) ^^^ c := by rw [xt_xor d a hd ha]; refine x0 (Eq.trans ?_ h3); unfold mixN; ac_rfl
  have s1 : ∀ x y z : Nat, (x ^^^ y) ^^^ (y ^^^ z) = x ^^^ z := fun x y z => by rw [Nat.xor_assoc, ← Nat.xor_assoc y, Nat.xor_self, Nat.zero_xor]
  have f0 : xt (a ^^^ c) = b ^^^ a := by
    have := xt_xor (a ^^^ b) (b ^^^ c) (xor8_lt ha hb) (xor8_lt hb hc)
    rw [s1, e0, e1] at this
    rw [this, show ((b ^^^ c) ^^^ d) ^^^ ((c ^^^ d) ^^^ a) = (b ^^^ (c ^^^ d)) ^^^ ((c ^^^ d) ^^^ a) from by ac_rfl, s1]
  have f1 : xt (a ^^^ c) = d ^^^ c := by
    have := xt_xor (c ^^^ d) (d ^^^ a) (xor8_lt hc hd) (xor8_lt hd ha)
    rw [s1, e2, e3, Nat.xor_comm c a] at this
    rw [this, show ((d ^^^ a) ^^^ b) ^^^ ((a ^^^ b) ^^^ c) = (d ^^^ (a ^^^ b)) ^^^ ((a ^^^ b) ^^^ c) from by ac_rfl, s1]
  have f2 : xt (b ^^^ d) = c ^^^ b := by
    have := xt_xor (b ^^^ c) (c ^^^ d) (xor8_lt hb hc) (xor8_lt hc hd)
    rw [s1, e1, e2] at this
    rw [this, show ((c ^^^ d) ^^^ a) ^^^ ((d ^^^ a) ^^^ b) = (c ^^^ (d ^^^ a)) ^^^ ((d ^^^ a) ^^^ b) from by ac_rfl, s1]
  have g : b ^^^ a = d ^^^ c := f0.symm.trans f1
  have g2 : a ^^^ c = b ^^^ d := by
    refine xcl (a := a ^^^ d) ?_
    rw [show (a ^^^ d) ^^^ (a ^^^ c) = (d ^^^ a) ^^^ (a ^^^ c) from by ac_rfl, s1, show (a ^^^ d) ^^^ (b ^^^ d) = (a ^^^ d) ^^^ (d ^^^ b) from by ac_rfl, s1, ← g, Nat.xor_comm]
  have hca : c = a := by
    rw [g2, f2] at f0
    refine xcr (a := b) ?_
    rw [f0, Nat.xor_comm]
  subst hca
  rw [Nat.xor_self, xt_zero] at f0
  have hb' := x0 f0.symm
  subst hb'
  rw [Nat.xor_self] at g
  have hd' := x0 g.symm
  subst hd'
  rw [Nat.xor_self, xt_zero, Nat.zero_xor] at e0
  exact ⟨e0.symm, e0.symm, e0.symm, e0.symm⟩
theorem mixN_one (a b c d a' b' c' d' : Nat) (ha : a < 256) (hb : b < 256) (hc : c < 256) (hd : d < 256) (ha' : a' < 256) (hb' : b' < 256) (hc' : c' < 256) (hd' : d' < 256)
    (h0 : mixN a b c d = mixN a' b' c' d') (h1 : mixN b c d a = mixN b' c' d' a') (h2 : mixN c d a b = mixN c' d' a' b') (h3 : mixN d a b c = mixN d' a' b' c') : a = a' ∧ b = b' ∧ c = c' ∧ d = d' := by
  have := mixN_zero (a ^^^ a') (b ^^^ b') (c ^^^ c') (d ^^^ d') (xor8_lt ha ha') (xor8_lt hb hb') (xor8_lt hc hc') (xor8_lt hd hd')
    (by rw [mixN_xor _ _ _ _ _ _ _ _ ha ha' hb hb', h0, Nat.xor_self]) (by rw [mixN_xor _ _ _ _ _ _ _ _ hb hb' hc hc', h1, Nat.xor_self])
    (by rw [mixN_xor _ _ _ _ _ _ _ _ hc hc' hd hd', h2, Nat.xor_self]) (by rw [mixN_xor _ _ _ _ _ _ _ _ hd hd' ha ha', h3, Nat.xor_self])
  exact ⟨x0 this.1, x0 this.2.1, x0 this.2.2.1, x0 this.2.2.2⟩
/-! ### .. and as bytes -/
theorem x8_toNat (a b : Int) (a0 : 0 ≤ a) (a1 : a < 256) (b0 : 0 ≤ b) (b1 : b < 256) : x8 a b = ((a.toNat ^^^ b.toNat : Nat) : Int) := u8_xor a b a0 a1 b0 b1
theorem x8_one {a b c : Int} (a0 : 0 ≤ a) (a1 : a < 256) (b0 : 0 ≤ b) (b1 : b < 256) (c0 : 0 ≤ c) (c1 : c < 256) (h : x8 a c = x8 b c) : a = b := by
  rw [x8_toNat a c a0 a1 c0 c1, x8_toNat b c b0 b1 c0 c1] at h
  have := xcr (a := c.toNat) (b := a.toNat) (c := b.toNat) (by omega)
  omega
theorem mixAt_nat (c : List Int) (hc : Byt c) (k : Nat) : mixAt c k = ((mixN (el c k).toNat (el c ((k + 1) % 4)).toNat (el c ((k + 2) % 4)).toNat (el c ((k + 3) % 4)).toNat : Nat) : Int) := by
  have b0 := hc k
  have b1 := hc ((k + 1) % 4)
  have b2 := hc ((k + 2) % 4)
  have b3 := hc ((k + 3) % 4)
  unfold mixAt
  generalize el c k = p at *
  generalize el c ((k + 1) % 4) = q at *
  generalize el c ((k + 2) % 4) = r at *
  generalize el c ((k + 3) % 4) = s at *
  obtain ⟨p, rfl⟩ := Int.eq_ofNat_of_zero_le b0.1
  obtain ⟨q, rfl⟩ := Int.eq_ofNat_of_zero_le b1.1
  obtain ⟨r, rfl⟩ := Int.eq_ofNat_of_zero_le b2.1
  obtain ⟨s, rfl⟩ := Int.eq_ofNat_of_zero_le b3.1
  have hp : p < 256 := by omega
  have hq : q < 256 := by omega
  have hr : r < 256 := by omega
  have hs : s < 256 := by omega
  have m2 : mul8 2 (p : Int) = ((xt p : Nat) : Int) := (mul8_nat 2 p).trans (by rw [mul_two p hp])
  have m3 : mul8 3 (q : Int) = ((xt q ^^^ q : Nat) : Int) := (mul8_nat 3 q).trans (by rw [mul_three q hq])
  have l2 := xt_lt p hp
  have l3 := xor8_lt (xt_lt q hq) hq
  rw [m2, m3, show ∀ a b : Nat, x8 (a : Int) (b : Int) = bits .xor .u8 (a : Int) (b : Int) from fun _ _ => rfl, u8_xor_nat _ _ l2 l3]
  rw [show ∀ a b : Nat, x8 (a : Int) (b : Int) = bits .xor .u8 (a : Int) (b : Int) from fun _ _ => rfl, u8_xor_nat _ _ (xor8_lt l2 l3) hr]
  rw [show ∀ a b : Nat, x8 (a : Int) (b : Int) = bits .xor .u8 (a : Int) (b : Int) from fun _ _ => rfl, u8_xor_nat _ _ (xor8_lt (xor8_lt l2 l3) hr) hs]
  simp only [Int.toNat_natCast]
  rfl
theorem mixAt_one (c d : List Int) (hc : Byt c) (hd : Byt d) (h : ∀ k, k < 4 → mixAt c k = mixAt d k) : ∀ k, k < 4 → el c k = el d k := by
  have H : ∀ k, k < 4 → mixN (el c k).toNat (el c ((k + 1) % 4)).toNat (el c ((k + 2) % 4)).toNat (el c ((k + 3) % 4)).toNat = mixN (el d k).toNat (el d ((k + 1) % 4)).toNat (el d ((k + 2) % 4)).toNat (el d ((k + 3) % 4)).toNat := fun k hk => by
    have := h k hk
    rw [mixAt_nat c hc, mixAt_nat d hd] at this
    omega
  have hN : ∀ k, (el c k).toNat < 256 ∧ (el d k).toNat < 256 := fun k => by have := hc k; have := hd k; omega
  have := mixN_one _ _ _ _ _ _ _ _ (hN 0).1 (hN 1).1 (hN 2).1 (hN 3).1 (hN 0).2 (hN 1).2 (hN 2).2 (hN 3).2 (H 0 (by omega)) (H 1 (by omega)) (H 2 (by omega)) (H 3 (by omega))
  intro k hk
  have h0 := hc k
  have h1 := hd k
  rcases (by omega : k = 0 ∨ k = 1 ∨ k = 2 ∨ k = 3) with rfl | rfl | rfl | rfl <;> omega
/-! ### Blocks -/
theorem el_of_eq {a b : List Int} (ha : a.length = 16) (hb : b.length = 16) (h : ∀ k, k < 16 → el a k = el b k) : a = b := by
  rw [tab_of a ha, tab_of b hb]
  exact tab_congr h
theorem tab_inj {n : Nat} {f g : Nat → Int} (h : tab n f = tab n g) : ∀ k, k < n → f k = g k := fun k hk => by rw [← tab_el n f k hk, h, tab_el n g k hk]
theorem xorL_one {a b k : List Int} (la : a.length = 16) (lb : b.length = 16) (ha : Byt a) (hb : Byt b) (hk : Byt k) (h : xorL a k = xorL b k) : a = b :=
  el_of_eq la lb fun i hi => x8_one (ha i).1 (ha i).2 (hb i).1 (hb i).2 (hk i).1 (hk i).2 (tab_inj h i hi)
theorem boxedL_one {a b : List Int} (la : a.length = 16) (lb : b.length = 16) (ha : Byt a) (hb : Byt b) (h : boxedL a = boxedL b) : a = b :=
  el_of_eq la lb fun i hi => box_one (ha i).1 (ha i).2 (hb i).1 (hb i).2 (tab_inj h i hi)
theorem movedL_one {a b : List Int} (la : a.length = 16) (lb : b.length = 16) (h : movedL a = movedL b) : a = b :=
  el_of_eq la lb fun i hi => by
    have := tab_inj h ((i + 12 * (i % 4)) % 16) (by omega)
    rw [show ((i + 12 * (i % 4)) % 16 + 4 * ((i + 12 * (i % 4)) % 16 % 4)) % 16 = i by omega] at this
    exact this
theorem mixedL_one {a b : List Int} (la : a.length = 16) (lb : b.length = 16) (ha : Byt a) (hb : Byt b) (h : mixedL a = mixedL b) : a = b :=
  el_of_eq la lb fun i hi => by
    have h1 : ∀ k, k < 4 → mixAt (colOf a (i / 4)) k = mixAt (colOf b (i / 4)) k := fun k hk => by
      have := tab_inj h (i / 4 * 4 + k) (by omega)
      unfold mixedAt at this
      rwa [show (i / 4 * 4 + k) / 4 = i / 4 by omega, show (i / 4 * 4 + k) % 4 = k by omega] at this
    have h2 := mixAt_one _ _ (colOf_byt a _ ha) (colOf_byt b _ hb) h1 (i % 4) (by omega)
    unfold colOf at h2
    rwa [tab_el _ _ _ (by omega), tab_el _ _ _ (by omega), show i / 4 * 4 + i % 4 = i by omega] at h2
theorem roundL_one {a b k : List Int} {last : Bool} (la : a.length = 16) (lb : b.length = 16) (ha : Byt a) (hb : Byt b) (hk : Byt k) (h : roundL a k last = roundL b k last) : a = b := by
  unfold roundL at h
  have la1 : (boxedL a).length = 16 := tab_length _ _
  have lb1 : (boxedL b).length = 16 := tab_length _ _
  have la2 : (movedL (boxedL a)).length = 16 := tab_length _ _
  have lb2 : (movedL (boxedL b)).length = 16 := tab_length _ _
  have ha1 := boxedL_byt ha
  have hb1 := boxedL_byt hb
  cases last
  · exact boxedL_one la lb ha hb (movedL_one la1 lb1 (mixedL_one la2 lb2 (movedL_byt ha1) (movedL_byt hb1) (xorL_one (tab_length _ _) (tab_length _ _) (mixedL_byt (movedL_byt ha1)) (mixedL_byt (movedL_byt hb1)) hk h)))
  · exact boxedL_one la lb ha hb (movedL_one la1 lb1 (xorL_one la2 lb2 (movedL_byt ha1) (movedL_byt hb1) hk h))
/-- no two blocks have one step -/
theorem stepL_one {key a b : List Int} (hk : Byt key) (la : a.length = 16) (lb : b.length = 16) (ha : Byt a) (hb : Byt b) : ∀ n, stepL key a n = stepL key b n → a = b
  | 0, h => xorL_one la lb ha hb (kS_byt key hk 0) h
  | n + 1, h => stepL_one hk la lb ha hb n (roundL_one (stepL_length key a n) (stepL_length key b n) (stepL_byt key a hk ha n) (stepL_byt key b hk hb n) (kS_byt key hk (n + 1)) h)
/-- a byte times its inverse -/
theorem mul_inv (a : Int) (a0 : 0 < a) (a1 : a < 256) : mul8 a (inv8 a) = 1 := by
  have := inv_one a.toNat (by omega) (by omega)
  unfold mul8 inv8
  rw [Int.toNat_natCast, this]
  rfl
theorem inv_of_zero : inv8 0 = 0 := by
  have := inv_zero
  unfold inv8
  rw [show (0 : Int).toNat = 0 from rfl, this]
  rfl
end Go.Proofs.Ytfkpilfnhgjmfaa
