/-
  Plain facts on the two sums of texts: a register of 32 bits stepped bit by bit, and two halves modulo 65521.
-/
import Derived.Laws.BitsAllLaws
namespace Go.Proofs.Sums

abbrev R := BitVec 32
def poly : R := 0xEDB88320#32
/-- turned, all bits -/
def inv (c : R) : R := ~~~c
/-- one bit -/
def h1 (x : R) : R := if x.getLsbD 0 then (x >>> 1) ^^^ poly else x >>> 1
/-- a byte 0 -/
def zb (x : R) : R := h1 (h1 (h1 (h1 (h1 (h1 (h1 (h1 x)))))))
def stepB (x : R) (c : UInt8) : R := zb (x ^^^ BitVec.ofNat 32 c.toNat)
def runB (x : R) (s : List UInt8) : R := s.foldl stepB x
def zbs : Nat → R → R
  | 0, x => x
  | n + 1, x => zbs n (zb x)

theorem h1_xor (x y : R) : h1 (x ^^^ y) = h1 x ^^^ h1 y := by
  unfold h1
  rw [BitVec.getLsbD_xor, BitVec.ushiftRight_xor_distrib]
  cases x.getLsbD 0 <;> cases y.getLsbD 0 <;> simp
  · rw [BitVec.xor_assoc]
  · rw [BitVec.xor_assoc, BitVec.xor_assoc, BitVec.xor_comm (y >>> 1)]
  · rw [show x >>> 1 ^^^ poly ^^^ (y >>> 1 ^^^ poly) = x >>> 1 ^^^ y >>> 1 ^^^ (poly ^^^ poly) by
      simp only [BitVec.xor_assoc]; congr 1; rw [← BitVec.xor_assoc, BitVec.xor_comm poly, BitVec.xor_assoc]]
    simp
theorem zb_xor (x y : R) : zb (x ^^^ y) = zb x ^^^ zb y := by
  unfold zb; simp only [h1_xor]
theorem zbs_xor (n : Nat) (x y : R) : zbs n (x ^^^ y) = zbs n x ^^^ zbs n y := by
  induction n generalizing x y with
  | zero => rfl
  | succ n ih => simp only [zbs]; rw [zb_xor, ih]
theorem zbs_add (m n : Nat) (x : R) : zbs (m + n) x = zbs n (zbs m x) := by
  induction m generalizing x with
  | zero => simp [zbs]
  | succ m ih => rw [show m + 1 + n = (m + n) + 1 by omega]; simp only [zbs]; exact ih _
theorem runB_lin (s : List UInt8) : ∀ x y : R, runB (x ^^^ y) s = runB x s ^^^ zbs s.length y := by
  induction s with
  | nil => intro x y; rfl
  | cons c s ih =>
    intro x y
    simp only [runB, List.foldl_cons, List.length_cons, zbs] at *
    rw [← ih]
    congr 1
    unfold stepB
    rw [← zb_xor]
    congr 1
    rw [BitVec.xor_assoc, BitVec.xor_assoc, BitVec.xor_comm y]
theorem runB_append (x : R) (s t : List UInt8) : runB x (s ++ t) = runB (runB x s) t := by simp [runB]
theorem runB_zeros (n : Nat) (x : R) : runB x (List.replicate n 0) = zbs n x := by
  induction n generalizing x with
  | zero => rfl
  | succ n ih =>
    simp only [List.replicate_succ, runB, List.foldl_cons, zbs] at *
    rw [ih]; congr 1
    show zb (x ^^^ BitVec.ofNat 32 0) = zb x
    simp

theorem h1_zero (x : R) (h : h1 x = 0#32) : x = 0#32 := by
  unfold h1 at h
  split at h
  · exfalso
    have h2 : x >>> 1 = poly := by
      have := congrArg (· ^^^ poly) h
      simpa [BitVec.xor_assoc] using this
    have h3 : (x >>> 1).getLsbD 31 = poly.getLsbD 31 := by rw [h2]
    rw [BitVec.getLsbD_ushiftRight] at h3
    simp [poly] at h3
  · rename_i hb
    have h0 : x.toNat / 2 = 0 := by
      have := congrArg BitVec.toNat h
      simpa [BitVec.toNat_ushiftRight, Nat.shiftRight_eq_div_pow] using this
    have hb' : x.toNat % 2 = 0 := by
      have : x.getLsbD 0 = false := by simpa using hb
      rw [BitVec.getLsbD] at this
      simp [Nat.testBit_zero] at this
      omega
    apply BitVec.eq_of_toNat_eq
    simp; omega
theorem zb_zero (x : R) (h : zb x = 0#32) : x = 0#32 := by
  unfold zb at h
  exact h1_zero _ (h1_zero _ (h1_zero _ (h1_zero _ (h1_zero _ (h1_zero _ (h1_zero _ (h1_zero _ h)))))))
theorem zbs_zero (n : Nat) (x : R) (h : zbs n x = 0#32) : x = 0#32 := by
  induction n generalizing x with
  | zero => exact h
  | succ n ih => exact zb_zero _ (ih _ h)
theorem xor_eq_zero {x y : R} (h : x ^^^ y = 0#32) : x = y := by
  have := congrArg (· ^^^ y) h
  simpa [BitVec.xor_assoc] using this
/-- a byte that is turned is told -/
theorem runB_turned (x : R) (a : List UInt8) (c d : UInt8) (b : List UInt8) (h : c ≠ d) : runB x (a ++ c :: b) ≠ runB x (a ++ d :: b) := by
  intro e
  rw [runB_append, runB_append] at e
  simp only [runB, List.foldl_cons] at e
  generalize List.foldl stepB x a = y at e
  have e1 : runB (stepB y c) b = runB (stepB y d) b := e
  rw [show stepB y d = stepB y c ^^^ zb (BitVec.ofNat 32 c.toNat ^^^ BitVec.ofNat 32 d.toNat) by
    unfold stepB; rw [← zb_xor]; congr 1
    rw [BitVec.xor_assoc, ← BitVec.xor_assoc (BitVec.ofNat 32 c.toNat)]; simp, runB_lin] at e1
  have e2 : zbs b.length (zb (BitVec.ofNat 32 c.toNat ^^^ BitVec.ofNat 32 d.toNat)) = 0#32 := by
    have := congrArg (runB (stepB y c) b ^^^ ·) e1
    simpa [← BitVec.xor_assoc] using this.symm
  have e3 := xor_eq_zero (zb_zero _ (zbs_zero _ _ e2))
  apply h
  have := congrArg BitVec.toNat e3
  simp only [BitVec.toNat_ofNat] at this
  have h1 := c.toNat_lt
  have h2 := d.toNat_lt
  apply UInt8.toNat_inj.1
  omega

/-- what four bits that fall off do -/
def tab : List R := [0x00000000#32, 0x1db71064#32, 0x3b6e20c8#32, 0x26d930ac#32, 0x76dc4190#32, 0x6b6b51f4#32, 0x4db26158#32, 0x5005713c#32,
  0xedb88320#32, 0xf00f9344#32, 0xd6d6a3e8#32, 0xcb61b38c#32, 0x9b64c2b0#32, 0x86d3d2d4#32, 0xa00ae278#32, 0xbdbdf21c#32]
def nib (x : R) : R := tab.getD (x.toNat % 16) 0 ^^^ x >>> 4
theorem low_high (x : R) : x = BitVec.ofNat 32 (x.toNat % 16) ^^^ (x >>> 4 <<< 4) := by
  apply BitVec.eq_of_getLsbD_eq
  intro i hi
  rw [BitVec.getLsbD_xor, BitVec.getLsbD_shiftLeft, BitVec.getLsbD_ushiftRight, BitVec.getLsbD_ofNat]
  by_cases h : i < 4
  · rw [show (16 : Nat) = 2 ^ 4 from rfl, Nat.testBit_mod_two_pow]
    simp [h, hi, BitVec.getLsbD]
  · rw [show (16 : Nat) = 2 ^ 4 from rfl, Nat.testBit_mod_two_pow]
    simp [h, hi]
    congr 1; omega
theorem h1_even (x : R) (h : x.getLsbD 0 = false) : h1 x = x >>> 1 := by unfold h1; rw [if_neg (by rw [h]; simp)]
theorem h4_high (y : R) : h1 (h1 (h1 (h1 (y <<< 4)))) = y <<< 4 >>> 4 := by
  rw [h1_even (y <<< 4) (by simp), h1_even (y <<< 4 >>> 1) (by simp), h1_even (y <<< 4 >>> 1 >>> 1) (by simp), h1_even (y <<< 4 >>> 1 >>> 1 >>> 1) (by simp)]
  rw [← BitVec.shiftRight_add, ← BitVec.shiftRight_add, ← BitVec.shiftRight_add]
theorem h4_low : ∀ k : Fin 16, h1 (h1 (h1 (h1 (BitVec.ofNat 32 k.val)))) = tab.getD k.val 0 := by decide +kernel
theorem nib_eq (x : R) : nib x = h1 (h1 (h1 (h1 x))) := by
  have h := low_high x
  have e : h1 (h1 (h1 (h1 x))) = h1 (h1 (h1 (h1 (BitVec.ofNat 32 (x.toNat % 16))))) ^^^ h1 (h1 (h1 (h1 (x >>> 4 <<< 4)))) := by
    conv => lhs; rw [h]
    simp only [h1_xor]
  rw [e, h4_low ⟨x.toNat % 16, Nat.mod_lt _ (by decide)⟩, h4_high]
  unfold nib
  congr 1
  apply BitVec.eq_of_getLsbD_eq
  intro i hi
  simp only [BitVec.getLsbD_ushiftRight, BitVec.getLsbD_shiftLeft]
  by_cases h : 4 + i < 32
  · simp [h]
  · simp [h]; rw [BitVec.getLsbD_of_ge]; omega
theorem stepB_nib (x : R) (c : UInt8) : nib (nib (x ^^^ BitVec.ofNat 32 c.toNat)) = stepB x c := by
  rw [nib_eq, nib_eq]; rfl

/-! steps as what is done with each bit -/
def ofBits (m : Nat → R) (x : R) : Nat → R
  | 0 => 0#32
  | n + 1 => if x.getLsbD n then ofBits m x n ^^^ m n else ofBits m x n
/-- what linear steps do is what they do with each bit -/
theorem ofBits_lin (f : R → R) (hf : ∀ x y, f (x ^^^ y) = f x ^^^ f y) (x : R) (n : Nat) :
    ofBits (fun i => f (BitVec.twoPow 32 i)) x n = f (x &&& BitVec.ofNat 32 (2 ^ n - 1)) := by
  have f0 : f 0#32 = 0#32 := by
    have := hf 0#32 0#32
    simp at this; exact this
  induction n with
  | zero => simp [ofBits, f0]
  | succ n ih =>
    have hs : x &&& BitVec.ofNat 32 (2 ^ (n + 1) - 1) = if x.getLsbD n then (x &&& BitVec.ofNat 32 (2 ^ n - 1)) ^^^ BitVec.twoPow 32 n else x &&& BitVec.ofNat 32 (2 ^ n - 1) := by
      apply BitVec.eq_of_getLsbD_eq
      intro i hi
      have key : ∀ m, (BitVec.ofNat 32 (2 ^ m - 1)).getLsbD i = decide (i < m) := by
        intro m
        rw [BitVec.getLsbD_ofNat, Nat.testBit_two_pow_sub_one]; simp [hi]
      by_cases hb : x.getLsbD n
      · rw [if_pos hb, BitVec.getLsbD_xor, BitVec.getLsbD_and, BitVec.getLsbD_and, key, key, BitVec.getLsbD_twoPow]
        by_cases he : n = i
        · subst he; simp [hb, hi]
        · simp [he]
          have : decide (i < n + 1) = decide (i < n) := by rw [decide_eq_decide]; omega
          rw [this]
      · rw [if_neg hb, BitVec.getLsbD_and, BitVec.getLsbD_and, key, key]
        by_cases he : n = i
        · subst he; simp [hb]
        · have : decide (i < n + 1) = decide (i < n) := by rw [decide_eq_decide]; omega
          rw [this]
    rw [hs]
    simp only [ofBits]
    split
    · rw [hf, ih]
    · exact ih
theorem ofBits_all (f : R → R) (hf : ∀ x y, f (x ^^^ y) = f x ^^^ f y) (x : R) : ofBits (fun i => f (BitVec.twoPow 32 i)) x 32 = f x := by
  rw [ofBits_lin f hf]
  congr 1
  apply BitVec.eq_of_getLsbD_eq
  intro i hi
  rw [BitVec.getLsbD_and, BitVec.getLsbD_ofNat, Nat.testBit_two_pow_sub_one]; simp [hi]
theorem ofBits_congr (m m' : Nat → R) (x : R) (n : Nat) (h : ∀ i, i < n → m i = m' i) : ofBits m x n = ofBits m' x n := by
  induction n with
  | zero => rfl
  | succ n ih => simp only [ofBits]; rw [ih (fun i hi => h i (by omega)), h n (by omega)]

def h1n : Nat → R → R
  | 0, x => x
  | n + 1, x => h1 (h1n n x)
theorem h1n_8 (x : R) (c : UInt8) : h1n 8 (x ^^^ BitVec.ofNat 32 c.toNat) = stepB x c := rfl
open Go in
theorem xor32 (a b : R) : bits .xor .u32 (a.toNat : Int) (b.toNat : Int) = ((a ^^^ b).toNat : Int) := by
  rw [u32_xor_nat _ _ a.isLt b.isLt, BitVec.toNat_xor]
open Go in
theorem xor32_byte (a : R) (c : UInt8) : bits .xor .u32 (a.toNat : Int) ((c.toNat : Int) % 4294967296) = ((a ^^^ BitVec.ofNat 32 c.toNat).toNat : Int) := by
  rw [← xor32]
  congr 1
theorem shr32 (a : R) : (a.toNat : Int) / 2 = ((a >>> 1).toNat : Int) := by
  rw [BitVec.toNat_ushiftRight, Nat.shiftRight_eq_div_pow]; omega
theorem bit0 (a : R) : a.getLsbD 0 = decide (a.toNat % 2 = 1) := by
  rw [BitVec.getLsbD, Nat.testBit_zero]
theorem h1_odd (a : R) (h : a.toNat % 2 = 1) : h1 a = (a >>> 1) ^^^ poly := by unfold h1; rw [if_pos (by rw [bit0]; simpa using h)]
theorem h1_ev (a : R) (h : ¬ a.toNat % 2 = 1) : h1 a = a >>> 1 := by unfold h1; rw [if_neg (by rw [bit0]; simpa using h)]

/-! the other sum: two halves -/
def adlStep (x : Int × Int) (c : UInt8) : Int × Int := ((x.1 + (c.toNat : Int)) % 65521, (x.2 + (x.1 + (c.toNat : Int)) % 65521) % 65521)
def adl (x : Int × Int) (s : List UInt8) : Int × Int := s.foldl adlStep x
theorem adl_append (x : Int × Int) (s t : List UInt8) : adl x (s ++ t) = adl (adl x s) t := by simp [adl]
theorem adlStep_bd (x : Int × Int) (c : UInt8) : 0 ≤ (adlStep x c).1 ∧ (adlStep x c).1 < 65521 ∧ 0 ≤ (adlStep x c).2 ∧ (adlStep x c).2 < 65521 := by
  unfold adlStep; simp only; omega
theorem adl_bd (x : Int × Int) (s : List UInt8) (h : 0 ≤ x.1 ∧ x.1 < 65521 ∧ 0 ≤ x.2 ∧ x.2 < 65521) : 0 ≤ (adl x s).1 ∧ (adl x s).1 < 65521 ∧ 0 ≤ (adl x s).2 ∧ (adl x s).2 < 65521 := by
  induction s generalizing x with
  | nil => exact h
  | cons c s ih => exact ih _ (adlStep_bd x c)
def toldA (x : Int × Int) : Int := x.2 * 65536 + x.1
/-! what the halves come to -/
def sumC (s : List UInt8) : Int := (s.map fun c => (c.toNat : Int)).sum
def sumW (s : List UInt8) : Int := match s with
  | [] => 0
  | c :: t => ((t.length : Int) + 1) * (c.toNat : Int) + sumW t
theorem adl_eq (s : List UInt8) : ∀ (l h : Int), 0 ≤ l → l < 65521 → 0 ≤ h → h < 65521 → adl (l, h) s = ((l + sumC s) % 65521, (h + (s.length : Int) * l + sumW s) % 65521) := by
  induction s with
  | nil => intro l h h1 h2 h3 h4; simp only [adl, List.foldl_nil, sumC, sumW, List.map_nil, List.sum_nil, List.length_nil]; congr 1 <;> omega
  | cons c s ih =>
    intro l h h1 h2 h3 h4
    have e : adl (l, h) (c :: s) = adl ((l + (c.toNat : Int)) % 65521, (h + (l + (c.toNat : Int)) % 65521) % 65521) s := rfl
    rw [e, ih _ _ (by omega) (by omega) (by omega) (by omega)]
    have hs : sumC (c :: s) = (c.toNat : Int) + sumC s := by simp [sumC]
    have hw : sumW (c :: s) = ((s.length : Int) + 1) * (c.toNat : Int) + sumW s := rfl
    rw [hs, hw, List.length_cons, show ((s.length + 1 : Nat) : Int) = (s.length : Int) + 1 from rfl]
    congr 1
    · omega
    · generalize sumW s = W
      generalize (s.length : Int) = n
      generalize (c.toNat : Int) = c'
      have hm : n * ((l + c') % 65521) % 65521 = n * (l + c') % 65521 := by rw [Int.mul_emod, Int.emod_emod_of_dvd _ (Int.dvd_refl _), ← Int.mul_emod]
      have e1 : n * (l + c') = n * l + n * c' := Int.mul_add _ _ _
      have e2 : (n + 1) * l = n * l + l := by rw [Int.add_mul, Int.one_mul]
      have e3 : (n + 1) * c' = n * c' + c' := by rw [Int.add_mul, Int.one_mul]
      generalize n * ((l + c') % 65521) = q1 at *
      generalize n * (l + c') = q2 at *
      rw [e2, e3]
      generalize n * l = q3 at *
      generalize n * c' = q4 at *
      omega
theorem adl_join (l h : Int) (t : List UInt8) (h1 : 0 ≤ l) (h2 : l < 65521) (h3 : 0 ≤ h) (h4 : h < 65521) :
    (adl (l, h) t).1 = (l + 65521 - 1 + (adl (1, 0) t).1) % 65521 ∧
    (adl (l, h) t).2 = (h + (adl (1, 0) t).2 + (t.length : Int) % 65521 * ((l + 65521 - 1) % 65521)) % 65521 := by
  rw [adl_eq t l h h1 h2 h3 h4, adl_eq t 1 0 (by decide) (by decide) (by decide) (by decide)]
  simp only
  constructor
  · omega
  · generalize sumW t = W
    generalize (t.length : Int) = n
    have hm : n % 65521 * ((l + 65521 - 1) % 65521) % 65521 = n * (l + 65521 - 1) % 65521 := by rw [← Int.mul_emod]
    have e1 : n * (l + 65521 - 1) = n * l + n * 65520 := by rw [show l + 65521 - 1 = l + 65520 by omega, Int.mul_add]
    generalize n % 65521 * ((l + 65521 - 1) % 65521) = q1 at *
    generalize n * (l + 65521 - 1) = q2 at *
    generalize n * l = q3 at *
    omega
/-- a byte that is turned is told -/
theorem adl_turned (a : List UInt8) (c d : UInt8) (b : List UInt8) (h : c ≠ d) : toldA (adl (1, 0) (a ++ c :: b)) ≠ toldA (adl (1, 0) (a ++ d :: b)) := by
  have hc := adl_bd (1, 0) (a ++ c :: b) (by decide)
  have hd := adl_bd (1, 0) (a ++ d :: b) (by decide)
  intro e
  unfold toldA at e
  have e1 : (adl (1, 0) (a ++ c :: b)).1 = (adl (1, 0) (a ++ d :: b)).1 := by omega
  rw [adl_eq _ 1 0 (by decide) (by decide) (by decide) (by decide), adl_eq _ 1 0 (by decide) (by decide) (by decide) (by decide)] at e1
  simp only [sumC, List.map_append, List.map_cons, List.sum_append, List.sum_cons] at e1
  have h1 := c.toNat_lt
  have h2 := d.toNat_lt
  apply h
  apply UInt8.toNat_inj.1
  omega
end Go.Proofs.Sums
