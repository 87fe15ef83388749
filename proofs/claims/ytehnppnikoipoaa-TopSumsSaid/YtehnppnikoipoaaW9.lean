import Derived.Test.YtehnppnikoipoaaW8
import Derived.Test.YtehnppnikoipoaaBytes
import Derived.Test.YtehnppnikoipoaaClone
import Derived.Deep.QuietTactic
import Derived.BigQuiet
import Derived.Deep.DeepCutAuto
import Derived.Deep.OwnRows
namespace Go.Proofs.Ytehnppnikoipoaa
open Go.RowKit Go.Proofs.Sums
theorem inv_inv (c : R) : inv (inv c) = c := by simp [inv]
theorem tmod_bd (a : Int) : -300 ≤ a.tmod 301 ∧ a.tmod 301 ≤ 300 := by
  have h1 := Int.tmod_lt_of_pos a (show (0 : Int) < 301 by decide)
  have h2 := Int.tmod_lt_of_pos (-a) (show (0 : Int) < 301 by decide)
  rw [Int.neg_tmod] at h2
  omega
theorem bstr_append (a b : List UInt8) : bstr a ++ bstr b = bstr (a ++ b) := by
  apply ByteArray.ext
  simp [bstr]
theorem wrap_R (c : R) : wrap64 (c.toNat : Int) = (c.toNat : Int) := by have := c.isLt; unfold wrap64; omega
theorem join_fact (xs ys : List UInt8) : zbs ys.length (inv (runB (BitVec.allOnes 32) xs)) ^^^ inv (runB (BitVec.allOnes 32) ys) = inv (runB (BitVec.allOnes 32) (xs ++ ys)) := by
  rw [runB_append]
  have h := runB_lin ys (BitVec.allOnes 32) (inv (runB (BitVec.allOnes 32) xs))
  rw [show BitVec.allOnes 32 ^^^ inv (runB (BitVec.allOnes 32) xs) = runB (BitVec.allOnes 32) xs from by unfold inv; rw [BitVec.allOnes_xor, BitVec.not_not]] at h
  rw [h]
  unfold inv
  rw [BitVec.xor_comm, BitVec.not_xor_left]
def farV (S X : R) (m : Int) : Int := if m < 0 then 0 else ((zbs m.toNat S ^^^ X).toNat : Int)
def farE (m : Int) : Int := if m < 0 then 3 else 0
theorem join_far (S X : R) (m : Int) (w : World) (h1 : -300 ≤ m) (h2 : m ≤ 300) : Calls Try.prog 7 #[.int .i64 (S.toNat : Int), .int .i64 (X.toNat : Int), .int .i64 m] w
    fun e w' => e = .returned (.tuple #[.int .i64 (farV S X m), .int .i64 (farE m)]) ∧ Below w.heap.size w w' := by
  by_cases h : m < 0
  · unfold farV farE
    rw [if_pos h, if_pos h]
    exact join_no _ _ _ w (by rw [show decide (0 ≤ m) = false by simpa using h]; simp)
  · unfold farV farE
    rw [if_neg h, if_neg h]
    obtain ⟨n, rfl⟩ := Int.eq_ofNat_of_zero_le (show 0 ≤ m by omega)
    exact join_yes S X n w (by omega)
theorem made_rdB (W : World) (n : Nat) : RdB (W.alloc (.cells (madeCells #[.int .u8 0] n) 5)) (some ⟨W.heap.size, 0, none⟩) (List.replicate n 0) :=
  ⟨fun h => (by cases h), fun j hj => ⟨_, rfl, by
    have hj' : j < n := by simpa using hj
    have ha : (⟨W.heap.size, 0, none⟩ : Addr).add j = ⟨W.heap.size, j, none⟩ := by unfold Addr.add; split <;> simp_all
    rw [ha, cell_of_row _ _ _ _ _ _ (heap_alloc_new _ _)]
    simp [madeCells, hj', bval, Nat.mod_one]⟩⟩
def xorR (a b : R) : R := a ^^^ b
theorem xor64 (a b : R) : bits .xor .i64 (a.toNat : Int) (b.toNat : Int) = ((xorR a b).toNat : Int) := by
  unfold xorR
  have ha := a.isLt
  have hb := b.isLt
  have e1 : (BitVec.ofInt 64 (a.toNat : Int) ^^^ BitVec.ofInt 64 (b.toNat : Int)).toNat = (a ^^^ b).toNat := by
    rw [BitVec.toNat_xor, BitVec.toNat_xor, BitVec.ofInt_natCast, BitVec.ofInt_natCast, BitVec.toNat_ofNat, BitVec.toNat_ofNat, Nat.mod_eq_of_lt (by omega), Nat.mod_eq_of_lt (by omega)]
  show IntKind.i64.wrap ((BitVec.ofInt 64 (a.toNat : Int) ^^^ BitVec.ofInt 64 (b.toNat : Int)).toNat : Int) = _
  rw [e1]
  have := (a ^^^ b).isLt
  generalize (a ^^^ b).toNat = q at *
  clear e1
  simp only [IntKind.wrap, IntKind.bits, IntKind.signed]
  simp
  omega
theorem sum1 (s : ByteArray) (X : R) (g : Nat) (w : World) (hs : s.size ≤ 120) (hX : runB (BitVec.allOnes 32) s.data.toList = X) (hB : Blk w g #[.string s] 9) :
    Calls Try.prog 8 #[.slice (some ⟨g, 0, none⟩) 1 1] w fun e w' => e = .returned (.int .i64 ((inv X).toNat : Int)) ∧ Below w.heap.size w w' := by
  have h := sum_any g [s] 1 w (by simp) (fun x hx => le_maxLen (by simp at hx; subst hx; omega)) (fun j hj => by
    rw [hB.cell]
    obtain rfl : j = 0 := by simp at hj; omega
    rfl)
  rw [show sumB [s] = X from hX] at h
  exact h
theorem sum2 (s t : ByteArray) (X : R) (g : Nat) (w : World) (hs : s.size ≤ 120) (ht : t.size ≤ 120) (hX : runB (runB (BitVec.allOnes 32) s.data.toList) t.data.toList = X) (hB : Blk w g #[.string s, .string t] 9) :
    Calls Try.prog 8 #[.slice (some ⟨g, 0, none⟩) 2 2] w fun e w' => e = .returned (.int .i64 ((inv X).toNat : Int)) ∧ Below w.heap.size w w' := by
  have h := sum_any g [s, t] 2 w (by simp) (fun x hx => le_maxLen (by simp at hx; rcases hx with rfl | rfl <;> omega)) (fun j hj => by
    rw [hB.cell]
    have : j = 0 ∨ j = 1 := by simp at hj; omega
    rcases this with rfl | rfl <;> rfl)
  rw [show sumB [s, t] = X from hX] at h
  exact h
theorem told_bd (l h : Int) (b : 0 ≤ l ∧ l < 65521 ∧ 0 ≤ h ∧ h < 65521) : -9223372036854775808 ≤ h * 65536 + l ∧ h * 65536 + l ≤ 9223372036854775807 := by omega
theorem isA_told (l h : Int) (b : 0 ≤ l ∧ l < 65521 ∧ 0 ≤ h ∧ h < 65521) : isA (h * 65536 + l) = true := by
  unfold isA; simp only [decide_eq_true_eq]; omega
theorem moreA_told (l h l' h' : Int) (ys : List UInt8) (w : World) (b : 0 ≤ l ∧ l < 65521 ∧ 0 ≤ h ∧ h < 65521) (hy : ys.length ≤ 120) (hpq : adl (l, h) ys = (l', h')) :
    Calls Try.prog 10 #[.int .i64 (h * 65536 + l), .string (bstr ys)] w fun e w' => e = .returned (.tuple #[.int .i64 (h' * 65536 + l'), .int .i64 0]) ∧ Below w.heap.size w w' := by
  have h1 := moreA_yes (h * 65536 + l) (bstr ys) w (le_maxLen (by rw [bstr_size]; omega)) (told_bd l h b) (isA_told l h b)
  rw [show (h * 65536 + l) % 65536 = l by omega, show (h * 65536 + l) / 65536 = h by omega, bstr_list, hpq] at h1
  exact h1
theorem join_told (la ha lb hb lc hc : Int) (ys : List UInt8) (p : 0 ≤ la ∧ la < 65521 ∧ 0 ≤ ha ∧ ha < 65521) (q : 0 ≤ lb ∧ lb < 65521 ∧ 0 ≤ hb ∧ hb < 65521) (hq : adl (1, 0) ys = (lb, hb)) (hpq : adl (la, ha) ys = (lc, hc)) :
    jA (ha * 65536 + la) (hb * 65536 + lb) (ys.length : Int) = hc * 65536 + lc := by
  have h := adl_join la ha ys p.1 p.2.1 p.2.2.1 p.2.2.2
  rw [hq, hpq] at h
  simp only at h
  unfold jA
  rw [show (ha * 65536 + la) % 65536 = la by omega, show (ha * 65536 + la) / 65536 = ha by omega, show (hb * 65536 + lb) % 65536 = lb by omega, show (hb * 65536 + lb) / 65536 = hb by omega, ← h.1, ← h.2]
theorem and_low (n : Int) (h : 0 ≤ n ∧ n ≤ 9223372036854775807) : bits BinOp.and IntKind.i64 n 65535 = n % 65536 := by
  obtain ⟨k, rfl⟩ := Int.eq_ofNat_of_zero_le h.1
  have e1 : (BitVec.ofInt 64 (k : Int) &&& BitVec.ofInt 64 65535).toNat = k % 65536 := by
    rw [BitVec.toNat_and]
    have : (BitVec.ofInt 64 (k : Int)).toNat = k := by rw [BitVec.ofInt_natCast, BitVec.toNat_ofNat]; omega
    rw [this]
    show k &&& 65535 = _
    exact Nat.and_two_pow_sub_one_eq_mod k 16
  show IntKind.i64.wrap ((BitVec.ofInt 64 (k : Int) &&& BitVec.ofInt 64 65535).toNat : Int) = _
  rw [e1]
  simp [IntKind.wrap, IntKind.bits, IntKind.signed]
  omega
theorem turn_byte (x : UInt8) (b : Nat) (hb : b < 256) : ∃ d : UInt8, bits BinOp.xor IntKind.u8 (x.toNat : Int) (1 + (b : Int) % 255) = (d.toNat : Int) ∧ d ≠ x := by
  refine ⟨x ^^^ UInt8.ofNat (1 + b % 255), ?_, ?_⟩
  · have h := u8_xor_nat x.toNat (1 + b % 255) x.toNat_lt (by omega)
    rw [show (1 : Int) + (b : Int) % 255 = ((1 + b % 255 : Nat) : Int) by omega, h, UInt8.toNat_xor, UInt8.toNat_ofNat']
    rw [Nat.mod_eq_of_lt (show 1 + b % 255 < 2 ^ 8 by omega)]
  · intro e
    have e2 := congrArg (x ^^^ ·) e
    simp only [← UInt8.xor_assoc, UInt8.xor_self, UInt8.zero_xor] at e2
    have e3 := congrArg UInt8.toNat e2
    rw [UInt8.toNat_ofNat', Nat.mod_eq_of_lt (show 1 + b % 255 < 2 ^ 8 by omega)] at e3
    simp at e3
theorem turned_rdB {W : World} {g : Nat} {cur : Array Value} {xs : List UInt8} (hB : Blk W g cur 5) (hc : ∀ j, j < xs.length → cur[j]? = some (bval (xs.getD j 0))) (j : Nat) (d : UInt8) :
    RdB (W.setCell ⟨g, j, none⟩ (.int .u8 (d.toNat : Int))) (some ⟨g, 0, none⟩) (xs.set j d) := by
  refine ⟨fun h => (by cases h), fun i hi => ⟨_, rfl, ?_⟩⟩
  have ha : (⟨g, 0, none⟩ : Addr).add i = ⟨g, i, none⟩ := by unfold Addr.add; split <;> simp_all
  have hi' : i < xs.length := by simpa using hi
  rw [ha, (hB.set j _).cell i]
  have hci := hc i hi'
  rw [Array.getElem?_setIfInBounds]
  by_cases hij : j = i
  · subst hij
    have hs : j < cur.size := (Array.getElem?_eq_some_iff.1 hci).1
    rw [if_pos rfl, if_pos hs]
    simp [bval, hi']
  · rw [if_neg hij, hci]
    simp [List.getD_eq_getElem?_getD, List.getElem?_set, hij]
theorem turned_str {W : World} {g : Nat} {cur : Array Value} {xs : List UInt8} (hB : Blk W g cur 5) (hc : ∀ j, j < xs.length → cur[j]? = some (bval (xs.getD j 0))) (j : Nat) (_hj : j < xs.length) (d : UInt8) (W' : World)
    (hb : Below (W.setCell ⟨g, j, none⟩ (.int .u8 (d.toNat : Int))).heap.size (W.setCell ⟨g, j, none⟩ (.int .u8 (d.toNat : Int))) W') (c : Nat) :
    (convert 22 9 (.slice (some ⟨g, 0, none⟩) xs.length c)).run Try.prog W' = .ok (.string (bstr (xs.set j d))) W' :=
  ((turned_rdB hB hc j d).grow hb).str (P := Try.prog) 22 5 9 xs.length c (by simp) Try.underlying22 Try.underlying5 Try.underlying9
theorem turned_ne (xs : List UInt8) (j : Nat) (hj : j < xs.length) (d : UInt8) (hd : d ≠ xs.getD j 0) :
    runB (BitVec.allOnes 32) (xs.set j d) ≠ runB (BitVec.allOnes 32) xs ∧ toldA (adl (1, 0) (xs.set j d)) ≠ toldA (adl (1, 0) xs) := by
  have e1 : xs = xs.take j ++ xs.getD j 0 :: xs.drop (j + 1) := by
    rw [List.getD_eq_getElem?_getD, List.getElem?_eq_getElem hj, Option.getD_some, ← List.drop_eq_getElem_cons hj, List.take_append_drop]
  have e2 : xs.set j d = xs.take j ++ d :: xs.drop (j + 1) := by rw [List.set_eq_take_append_cons_drop, if_pos hj]
  generalize xs.getD j 0 = x at *
  rw [e2]
  generalize xs.take j = a at *
  generalize xs.drop (j + 1) = b at *
  rw [e1]
  exact ⟨runB_turned _ a d x b hd, adl_turned a d x b hd⟩
theorem jA_fact (n lb hb m : Int) (q : 0 ≤ lb ∧ lb < 65521 ∧ 0 ≤ hb ∧ hb < 65521) :
    jA n (hb * 65536 + lb) m = (n / 65536 + hb + m * ((n % 65536 + 65520) % 65521)) % 65521 * 65536 + ((n % 65536 + 65520) % 65521 + lb) % 65521 := by
  unfold jA
  rw [show (hb * 65536 + lb) % 65536 = lb by omega, show (hb * 65536 + lb) / 65536 = hb by omega, show n % 65536 + 65521 - 1 = n % 65536 + 65520 by omega]
  generalize n % 65536 + 65520 = k
  have h1 : m % 65521 * (k % 65521) % 65521 = m * k % 65521 := by rw [← Int.mul_emod]
  have h2 : m * (k % 65521) % 65521 = m * k % 65521 := by rw [Int.mul_emod, Int.emod_emod_of_dvd _ (Int.dvd_refl _), ← Int.mul_emod]
  generalize m % 65521 * (k % 65521) = a at *
  generalize m * (k % 65521) = b at *
  omega
set_option maxRecDepth 100000 in
set_option maxHeartbeats 1000000 in
theorem law_any (a0 : Option Addr) (c0 : Nat) (xs : List UInt8) (a1 : Option Addr) (c1 : Nat) (ys : List UInt8) (a2 : Int) (S : R) (at' by' : Nat) (a6 : Int) (w : World) (h0 : RdB w a0 xs) (h1 : RdB w a1 ys)
    (hx : xs.length ≤ 60) (hy : ys.length ≤ 60) (hn : -32768 ≤ a2 ∧ a2 ≤ 32767) (hat : at' < 65536) (hby : by' < 256) (h6 : -9223372036854775808 ≤ a6 ∧ a6 ≤ 9223372036854775807) :
    Calls Try.prog 3 #[.slice a0 xs.length c0, .slice a1 ys.length c1, .int .i16 a2, .int .u32 (S.toNat : Int), .int .u16 (at' : Int), .int .u8 (by' : Int), .int .i64 a6] w fun e w' => e = .returned (.bool true) ∧ Below w.heap.size w w' := by
  have k0 := fun (n : Nat) => (h0.drewN n).str (P := Try.prog) 22 5 9 xs.length c0 rfl Try.underlying22 Try.underlying5 Try.underlying9
  have k1 := fun (n : Nat) => (h1.drewN n).str (P := Try.prog) 22 5 9 ys.length c1 rfl Try.underlying22 Try.underlying5 Try.underlying9
  go_enter Try.func3, Try.ntmps3
  go_wp2_with fail
  go_quiet (fail)
  clear k0 k1
  have hb1 := below_drewN w nq
  generalize w.drewN nq = W1 at hb1 ⊢
  have sx : (bstr xs).size ≤ 60 := hx
  have sy : (bstr ys).size ≤ 60 := hy
  have nr := not_int
  have ws := wrap_R
  replace h6 := Lib.hid h6
  have ap := bstr_append
  obtain ⟨m, hm, hm1, hm2⟩ : ∃ m, a2.tmod 301 = m ∧ -300 ≤ m ∧ m ≤ 300 := ⟨_, rfl, (tmod_bd a2).1, (tmod_bd a2).2⟩
  go_wp2_with fail
  refine (bitwise_any _ (BitVec.allOnes 32) rfl (bstr xs) _ (le_maxLen (by omega))).mono ?_
  rintro e w' ⟨rfl, rfl⟩
  rw [bstr_list]
  generalize hX : runB (BitVec.allOnes 32) xs = X
  replace hX := Lib.hid hX
  go_wp2_with fail
  refine (bitwise_any _ (BitVec.allOnes 32) rfl (bstr ys) _ (le_maxLen (by omega))).mono ?_
  rintro e w' ⟨rfl, rfl⟩
  rw [bstr_list]
  generalize hY : runB (BitVec.allOnes 32) ys = Y
  replace hY := Lib.hid hY
  go_wp2_with fail
  refine (bitwise_any _ (BitVec.allOnes 32) rfl (bstr (xs ++ ys)) _ (le_maxLen (by rw [bstr_size]; simp; omega))).mono ?_
  rintro e w' ⟨rfl, rfl⟩
  rw [bstr_list]
  generalize hXY : runB (BitVec.allOnes 32) (xs ++ ys) = XY
  replace hXY := Lib.hid hXY
  go_wp2_with fail
  refine (more_yes (inv X) (bstr ys) _ (le_maxLen (by omega))).mono ?_
  rintro e w2 ⟨rfl, hb2⟩
  rw [bstr_list, show inv (runB (inv (inv X)) ys) = inv XY from by rw [inv_inv, ← hX.out, ← hXY.out, runB_append]]
  go_wp2_with fail
  refine (more_yes S (bstr ys) _ (le_maxLen (by omega))).mono ?_
  rintro e w3 ⟨rfl, hb3⟩
  rw [bstr_list]
  go_wp2_with fail
  refine (join_yes (inv X) (inv Y) ys.length _ (by omega)).mono ?_
  rintro e w4 ⟨rfl, hb4⟩
  rw [show zbs ys.length (inv X) ^^^ inv Y = inv XY from by rw [← hX.out, ← hY.out, ← hXY.out]; exact join_fact xs ys]
  go_wp2_with fail
  refine (join_far S (inv X) m _ hm1 hm2).mono ?_
  rintro e w5 ⟨rfl, hb5⟩
  have hB5 := (((hb1.grow hb2).grow hb3).grow hb4).grow hb5
  replace hB5 := Lib.hid hB5
  clear hb1 hb2 hb3 hb4 hb5
  go_upto_if 113 with fail
  go_cut [29] from 112 to 118 (fun v W => ∃ V : R, v = .int .u32 (V.toNat : Int) ∧ Hid (V = zbs m.toNat S) ∧ Below w.heap.size w W)
  case first =>
    by_cases hpos : 0 < m
    · obtain ⟨n, rfl⟩ := Int.eq_ofNat_of_zero_le (show 0 ≤ m by omega)
      have hmk := fun W : World => run_make_row' (P := Try.prog) 22 5 (.int .u8 0) 1 Try.underlying22 (by kernel_rfl) rfl .i64 .i64 n (by omega) (by omega) W
      have hcv := fun W : World => (made_rdB W n).str (P := Try.prog) 22 5 9 n n (by simp) Try.underlying22 Try.underlying5 Try.underlying9
      go_wp2_with fail
      refine (bitwise_any _ S rfl (bstr (List.replicate n 0)) _ (le_maxLen (by rw [bstr_size]; simp; omega))).mono ?_
      rintro e w' ⟨rfl, rfl⟩
      rw [bstr_list, runB_zeros]
      go_wp2_with fail
      go_meet
      exact ⟨_, rfl, Lib.hid rfl, hB5.out.alloc hB5.out.size _⟩
    · go_wp2_with fail
      go_meet
      exact ⟨S, rfl, Lib.hid (by rw [show m.toNat = 0 by omega]; rfl), hB5.out⟩
  case rest =>
    obtain ⟨V, rfl, hV, hB⟩ := hcut
    have xr := xor64
    go_upto_if 124 with fail
    clear xr
    go_cut [30, 31] from 112 to 124 (fun v e W => v = .int .i64 (farV S (inv X) m) ∧ e = .int .i64 (farE m) ∧ Below w.heap.size w W)
    case first =>
      by_cases hneg : m < 0
      · go_wp2_with fail
        go_meet
        exact ⟨by unfold farV; rw [if_pos hneg], by unfold farE; rw [if_pos hneg], hB⟩
      · go_wp2_with fail
        go_meet
        exact ⟨by unfold farV; rw [if_neg (show ¬ m < 0 by omega), hV.out]; rfl, by unfold farE; rw [if_neg (show ¬ m < 0 by omega)], hB⟩
    case rest =>
      clear hB
      obtain ⟨rfl, rfl, hB⟩ := hcut
      go_wp2_with fail
      refine (sum1 (bstr xs) X _ _ (by omega) hX.out (Blk.new _ _ _)).mono ?_
      rintro e w6 ⟨rfl, hb6⟩
      replace hb6 := Lib.hid ((hB.alloc hB.size _).grow hb6)
      go_wp2_with fail
      refine (sum2 (bstr xs) (bstr ys) XY _ _ (by omega) (by omega) (by rw [← runB_append]; exact hXY.out) (Blk.new _ _ _)).mono ?_
      rintro e w7 ⟨rfl, hb7⟩
      replace hb7 := Lib.hid ((hb6.out.alloc hb6.out.size _).grow hb7)
      go_wp2_with fail
      refine (bitwise_any _ (inv S) (not32 S) (bstr ys) _ (le_maxLen (by omega))).mono ?_
      rintro e w' ⟨rfl, rfl⟩
      rw [bstr_list]
      go_wp2_with fail
      refine (more_no 4294967296 (bstr xs) _ (by decide)).mono ?_
      rintro e w8 ⟨rfl, hb8⟩
      replace hb8 := Lib.hid (hb7.out.grow hb8)
      go_wp2_with fail
      refine (more_no (-1) (bstr xs) _ (by decide)).mono ?_
      rintro e w9 ⟨rfl, hb9⟩
      replace hb9 := Lib.hid (hb8.out.grow hb9)
      go_wp2_with fail
      refine (join_no 0 (-1) 1 _ (by decide)).mono ?_
      rintro e w10 ⟨rfl, hb10⟩
      replace hb10 := Lib.hid (hb9.out.grow hb10)
      go_wp2_with fail
      refine (halves_any 1 0 (bstr xs) _ (le_maxLen (by omega)) (by decide) (by decide)).mono ?_
      rintro e w' ⟨rfl, rfl⟩
      rw [bstr_list]
      generalize hp : adl (1, 0) xs = p
      have pb := adl_bd (1, 0) xs (by decide)
      rw [hp] at pb
      replace hp := Lib.hid hp
      obtain ⟨la, ha⟩ := p
      obtain ⟨pb1, pb2, pb3, pb4⟩ := pb
      go_wp2_with fail
      refine (halves_any 1 0 (bstr ys) _ (le_maxLen (by omega)) (by decide) (by decide)).mono ?_
      rintro e w' ⟨rfl, rfl⟩
      rw [bstr_list]
      generalize hq : adl (1, 0) ys = q
      have qb := adl_bd (1, 0) ys (by decide)
      rw [hq] at qb
      replace hq := Lib.hid hq
      obtain ⟨lb, hb⟩ := q
      obtain ⟨qb1, qb2, qb3, qb4⟩ := qb
      go_wp2_with fail
      refine (halves_any 1 0 (bstr (xs ++ ys)) _ (le_maxLen (by rw [bstr_size]; simp; omega)) (by decide) (by decide)).mono ?_
      rintro e w' ⟨rfl, rfl⟩
      rw [bstr_list]
      generalize hr : adl (1, 0) (xs ++ ys) = r
      have rb := adl_bd (1, 0) (xs ++ ys) (by decide)
      rw [hr] at rb
      replace hr := Lib.hid hr
      obtain ⟨lc, hc⟩ := r
      obtain ⟨rb1, rb2, rb3, rb4⟩ := rb
      simp only at pb1 pb2 pb3 pb4 qb1 qb2 qb3 qb4 rb1 rb2 rb3 rb4
      have hpq : adl (la, ha) ys = (lc, hc) := by rw [← hp.out, ← adl_append, hr.out]
      have hpq' := Lib.hid hpq
      have hjn := join_told la ha lb hb lc hc ys ⟨pb1, pb2, pb3, pb4⟩ ⟨qb1, qb2, qb3, qb4⟩ hq.out hpq
      replace hjn := Lib.hid hjn
      clear hpq
      go_wp2_with fail
      refine (moreA_told la ha lc hc ys _ ⟨pb1, pb2, pb3, pb4⟩ (by omega) hpq'.out).mono ?_
      rintro e w11 ⟨rfl, hb11⟩
      replace hb11 := Lib.hid (hb10.out.grow hb11)
      go_wp2_with fail
      refine (joinA_yes _ _ (ys.length : Int) _ (told_bd la ha ⟨pb1, pb2, pb3, pb4⟩) (told_bd lb hb ⟨qb1, qb2, qb3, qb4⟩) (isA_told la ha ⟨pb1, pb2, pb3, pb4⟩) (isA_told lb hb ⟨qb1, qb2, qb3, qb4⟩) (by omega)).mono ?_
      rintro e w12 ⟨rfl, hb12⟩
      replace hb12 := Lib.hid (hb11.out.grow hb12)
      rw [hjn.out]
      go_upto_region 30 with fail
      go_cut [44] from 255 to 266 (fun v W => v = .bool (isA a6) ∧ Below w.heap.size w W)
      case first =>
        by_cases o1 : 0 ≤ a6
        · have han := and_low a6 ⟨o1, h6.out.2⟩
          have o4 := h6.out.2
          by_cases o2 : a6 / 65536 < 65521
          · by_cases o3 : a6 % 65536 < 65521
            · go_wp2_with fail
              go_meet
              exact ⟨by rw [show isA a6 = true by unfold isA; simp only [decide_eq_true_eq]; omega], hb12.out⟩
            · go_wp2_with fail
              go_meet
              exact ⟨by rw [show isA a6 = false by unfold isA; simp only [decide_eq_false_iff_not]; omega], hb12.out⟩
          · go_wp2_with fail
            go_meet
            exact ⟨by rw [show isA a6 = false by unfold isA; simp only [decide_eq_false_iff_not]; omega], hb12.out⟩
        · go_wp2_with fail
          go_meet
          exact ⟨by rw [show isA a6 = false by unfold isA; simp only [decide_eq_false_iff_not]; omega], hb12.out⟩
      case rest =>
        clear hB
        obtain ⟨rfl, hB⟩ := hcut
        cases hia : isA a6
        · go_wp2_with fail
          refine (moreA_no a6 (bstr ys) _ h6.out hia).mono ?_
          rintro e w13 ⟨rfl, hb13⟩
          replace hb13 := Lib.hid (hB.grow hb13)
          go_wp2_with fail
          refine (joinA_no a6 _ m _ h6.out (told_bd lb hb ⟨qb1, qb2, qb3, qb4⟩) (by rw [hia]; rfl)).mono ?_
          rintro e w14 ⟨rfl, hb14⟩
          replace hb14 := Lib.hid (hb13.out.grow hb14)
          go_wp2_with fail
          refine (sumA_any (bstr xs) _ (le_maxLen (by omega))).mono ?_
          rintro e w15 ⟨rfl, hb15⟩
          replace hb15 := Lib.hid (hb14.out.grow hb15)
          rw [bstr_list, hp.out, show toldA (la, ha) = ha * 65536 + la from rfl]
          go_wp2_with fail
          · have hpos : 0 < xs.length := by omega
            obtain ⟨x0, hx0⟩ : ∃ x0, a0 = some x0 := by
              cases a0 with
              | none => have := h0.nil rfl; subst this; simp at hpos
              | some x0 => exact ⟨x0, rfl⟩
            subst hx0
            refine (clone_any x0 c0 xs _ ((h0.grow hb15.out)) hpos (by omega)).mono ?_
            rintro e w16 ⟨v, rfl, hown, hb16⟩
            obtain ⟨g, cap, cur, rfl, hgB, hcur, hcells⟩ := hown
            have hge : w.heap.size ≤ g := Nat.le_trans hb15.out.size hgB
            replace hgB := Lib.hid hgB
            replace hb16 := Lib.hid (hb15.out.grow hb16)
            obtain ⟨j, hj⟩ : ∃ j : Nat, at' % xs.length = j := ⟨_, rfl⟩
            have hjl : j < xs.length := by rw [← hj]; exact Nat.mod_lt _ hpos
            have hji : ((at' : Int)) % (xs.length : Int) = (j : Int) := by rw [← hj]; exact (Int.natCast_emod _ _).symm
            have cj := (hcur.cell j).trans (hcells j hjl)
            have fj := hcur.frozen j
            obtain ⟨d, hd1, hd2⟩ := turn_byte (xs.getD j 0) by' hby
            have hstr := turned_str hcur hcells j hjl d
            replace hj := Lib.hid hj
            replace hcells := Lib.hid hcells
            generalize hxj : xs.getD j 0 = xj at cj hd1 hd2
            replace hd2 := Lib.hid hd2
            replace hxj := Lib.hid hxj
            unfold bval at cj
            have hstr0 := hstr _ (Below.refl _ _) cap
            replace hstr := Lib.hid hstr
            have hsl : (xs.set j d).length ≤ 60 := by simpa using hx
            have hne := turned_ne xs j hjl d (by rw [hxj.out]; exact hd2.out)
            replace hne := Lib.hid hne
            have ssz : (bstr (xs.set j d)).size ≤ 60 := by rw [bstr_size]; exact hsl
            have hB16 := hb16.out.setCell (p := ⟨g, j, none⟩) hge (.int .u8 (d.toNat : Int))
            replace hB16 := Lib.hid hB16
            go_wp2_with fail
            have hbk := Blk.new (w16.setCell ⟨g, j, none⟩ (.int .u8 (d.toNat : Int))) #[.string (bstr (xs.set j d))] 9
            rw [show (w16.setCell ⟨g, j, none⟩ (.int .u8 (d.toNat : Int))).heap.size = w16.heap.size by simp] at hbk
            refine (sum1 (bstr (xs.set j d)) _ _ _ (by omega) rfl hbk).mono ?_
            rintro e w17 ⟨rfl, hb17⟩
            rw [bstr_list]
            have hn1 : (((inv (runB (BitVec.allOnes 32) (xs.set j d))).toNat : Int) == ((inv X).toNat : Int)) = false := by
              rw [beq_eq_false_iff_ne]
              intro e
              apply hne.out.1
              rw [hX.out]
              have e2 := BitVec.eq_of_toNat_eq (Int.ofNat.inj e)
              have e3 := congrArg inv e2
              rwa [inv_inv, inv_inv] at e3
            have hstr1 := hstr.out w17 (((Below.refl _ _).alloc (Nat.le_refl _) _).grow hb17) cap
            have hB17 := (hB16.out.alloc hB16.out.size _).grow hb17
            replace hB17 := Lib.hid hB17
            clear hstr0
            generalize inv (runB (BitVec.allOnes 32) (xs.set j d)) = X' at hn1 ⊢
            go_wp2_with fail
            refine (sumA_any (bstr (xs.set j d)) _ (le_maxLen (by omega))).mono ?_
            rintro e w18 ⟨rfl, hb18⟩
            rw [bstr_list]
            have hn2 : (toldA (adl (1, 0) (xs.set j d)) == ha * 65536 + la) = false := by
              rw [beq_eq_false_iff_ne]
              intro e
              apply hne.out.2
              rw [hp.out, e]; rfl
            have hB18 := hB17.out.grow hb18
            replace hB18 := Lib.hid hB18
            generalize toldA (adl (1, 0) (xs.set j d)) = T' at hn2 ⊢
            go_wp2_with fail
            refine (sealed_any _).mono ?_
            rintro e w19 ⟨rfl, hb19⟩
            go_wp2_with fail
            go_ret
            exact ⟨rfl, hB18.out.grow hb19⟩
          · (refine (sealed_any _).mono ?_; rintro e w16 ⟨rfl, hb16⟩; go_wp2_with fail; go_ret; exact ⟨rfl, hb15.out.grow hb16⟩)
        · have pis : 0 ≤ a6 ∧ a6 % 65536 < 65521 ∧ a6 / 65536 < 65521 := by simpa [isA] using hia
          obtain ⟨o1, o3, o2⟩ := pis
          have o4 := h6.out.2
          have han := and_low a6 ⟨o1, o4⟩
          go_wp2_with fail
          refine (moreA_yes a6 (bstr ys) _ (le_maxLen (by omega)) h6.out hia).mono ?_
          rintro e w13 ⟨rfl, hb13⟩
          replace hb13 := Lib.hid (hB.grow hb13)
          rw [bstr_list]
          generalize hz : adl (a6 % 65536, a6 / 65536) ys = z
          have zb := adl_bd (a6 % 65536, a6 / 65536) ys ⟨by simp only; omega, by simp only; omega, by simp only; omega, by simp only; omega⟩
          rw [hz] at zb
          obtain ⟨l1, u1⟩ := z
          simp only at zb
          obtain ⟨zb1, zb2, zb3, zb4⟩ := zb
          rw [show toldA (l1, u1) = u1 * 65536 + l1 from rfl]
          replace hz := Lib.hid hz
          by_cases hneg : m < 0
          · go_wp2_with fail
            refine (joinA_no a6 _ m _ h6.out (told_bd lb hb ⟨qb1, qb2, qb3, qb4⟩) (by rw [show decide (0 ≤ m) = false by simpa using hneg]; simp)).mono ?_
            rintro e w14 ⟨rfl, hb14⟩
            replace hb14 := Lib.hid (hb13.out.grow hb14)
            go_wp2_with fail
            refine (sumA_any (bstr xs) _ (le_maxLen (by omega))).mono ?_
            rintro e w15 ⟨rfl, hb15⟩
            replace hb15 := Lib.hid (hb14.out.grow hb15)
            rw [bstr_list, hp.out, show toldA (la, ha) = ha * 65536 + la from rfl]
            go_wp2_with fail
            refine (halves_any (a6 % 65536) (a6 / 65536) (bstr ys) _ (le_maxLen (by omega)) (by omega) (by omega)).mono ?_
            rintro e w' ⟨rfl, rfl⟩
            rw [bstr_list, hz.out]
            go_wp2_with fail
            · have hpos : 0 < xs.length := by omega
              obtain ⟨x0, hx0⟩ : ∃ x0, a0 = some x0 := by
                cases a0 with
                | none => have := h0.nil rfl; subst this; simp at hpos
                | some x0 => exact ⟨x0, rfl⟩
              subst hx0
              refine (clone_any x0 c0 xs _ ((h0.grow hb15.out)) hpos (by omega)).mono ?_
              rintro e w16 ⟨v, rfl, hown, hb16⟩
              obtain ⟨g, cap, cur, rfl, hgB, hcur, hcells⟩ := hown
              have hge : w.heap.size ≤ g := Nat.le_trans hb15.out.size hgB
              replace hgB := Lib.hid hgB
              replace hb16 := Lib.hid (hb15.out.grow hb16)
              obtain ⟨j, hj⟩ : ∃ j : Nat, at' % xs.length = j := ⟨_, rfl⟩
              have hjl : j < xs.length := by rw [← hj]; exact Nat.mod_lt _ hpos
              have hji : ((at' : Int)) % (xs.length : Int) = (j : Int) := by rw [← hj]; exact (Int.natCast_emod _ _).symm
              have cj := (hcur.cell j).trans (hcells j hjl)
              have fj := hcur.frozen j
              obtain ⟨d, hd1, hd2⟩ := turn_byte (xs.getD j 0) by' hby
              have hstr := turned_str hcur hcells j hjl d
              replace hj := Lib.hid hj
              replace hcells := Lib.hid hcells
              generalize hxj : xs.getD j 0 = xj at cj hd1 hd2
              replace hd2 := Lib.hid hd2
              replace hxj := Lib.hid hxj
              unfold bval at cj
              have hstr0 := hstr _ (Below.refl _ _) cap
              replace hstr := Lib.hid hstr
              have hsl : (xs.set j d).length ≤ 60 := by simpa using hx
              have hne := turned_ne xs j hjl d (by rw [hxj.out]; exact hd2.out)
              replace hne := Lib.hid hne
              have ssz : (bstr (xs.set j d)).size ≤ 60 := by rw [bstr_size]; exact hsl
              have hB16 := hb16.out.setCell (p := ⟨g, j, none⟩) hge (.int .u8 (d.toNat : Int))
              replace hB16 := Lib.hid hB16
              go_wp2_with fail
              have hbk := Blk.new (w16.setCell ⟨g, j, none⟩ (.int .u8 (d.toNat : Int))) #[.string (bstr (xs.set j d))] 9
              rw [show (w16.setCell ⟨g, j, none⟩ (.int .u8 (d.toNat : Int))).heap.size = w16.heap.size by simp] at hbk
              refine (sum1 (bstr (xs.set j d)) _ _ _ (by omega) rfl hbk).mono ?_
              rintro e w17 ⟨rfl, hb17⟩
              rw [bstr_list]
              have hn1 : (((inv (runB (BitVec.allOnes 32) (xs.set j d))).toNat : Int) == ((inv X).toNat : Int)) = false := by
                rw [beq_eq_false_iff_ne]
                intro e
                apply hne.out.1
                rw [hX.out]
                have e2 := BitVec.eq_of_toNat_eq (Int.ofNat.inj e)
                have e3 := congrArg inv e2
                rwa [inv_inv, inv_inv] at e3
              have hstr1 := hstr.out w17 (((Below.refl _ _).alloc (Nat.le_refl _) _).grow hb17) cap
              have hB17 := (hB16.out.alloc hB16.out.size _).grow hb17
              replace hB17 := Lib.hid hB17
              clear hstr0
              generalize inv (runB (BitVec.allOnes 32) (xs.set j d)) = X' at hn1 ⊢
              go_wp2_with fail
              refine (sumA_any (bstr (xs.set j d)) _ (le_maxLen (by omega))).mono ?_
              rintro e w18 ⟨rfl, hb18⟩
              rw [bstr_list]
              have hn2 : (toldA (adl (1, 0) (xs.set j d)) == ha * 65536 + la) = false := by
                rw [beq_eq_false_iff_ne]
                intro e
                apply hne.out.2
                rw [hp.out, e]; rfl
              have hB18 := hB17.out.grow hb18
              replace hB18 := Lib.hid hB18
              generalize toldA (adl (1, 0) (xs.set j d)) = T' at hn2 ⊢
              go_wp2_with fail
              refine (sealed_any _).mono ?_
              rintro e w19 ⟨rfl, hb19⟩
              go_wp2_with fail
              go_ret
              exact ⟨rfl, hB18.out.grow hb19⟩
            · (refine (sealed_any _).mono ?_; rintro e w16 ⟨rfl, hb16⟩; go_wp2_with fail; go_ret; exact ⟨rfl, hb15.out.grow hb16⟩)
          · have hm0 : 0 ≤ m := by omega
            have hpr := prod_bd m ((a6 % 65536 + 65520) % 65521) hm0 (by omega) (by omega) (by omega)
            go_wp2_with fail
            refine (joinA_yes a6 _ m _ h6.out (told_bd lb hb ⟨qb1, qb2, qb3, qb4⟩) hia (isA_told lb hb ⟨qb1, qb2, qb3, qb4⟩) ⟨hm0, by omega⟩).mono ?_
            rintro e w14 ⟨rfl, hb14⟩
            replace hb14 := Lib.hid (hb13.out.grow hb14)
            rw [jA_fact a6 lb hb m ⟨qb1, qb2, qb3, qb4⟩]
            go_wp2_with fail
            refine (sumA_any (bstr xs) _ (le_maxLen (by omega))).mono ?_
            rintro e w15 ⟨rfl, hb15⟩
            replace hb15 := Lib.hid (hb14.out.grow hb15)
            rw [bstr_list, hp.out, show toldA (la, ha) = ha * 65536 + la from rfl]
            go_wp2_with fail
            refine (halves_any (a6 % 65536) (a6 / 65536) (bstr ys) _ (le_maxLen (by omega)) (by omega) (by omega)).mono ?_
            rintro e w' ⟨rfl, rfl⟩
            rw [bstr_list, hz.out]
            go_wp2_with fail
            · have hpos : 0 < xs.length := by omega
              obtain ⟨x0, hx0⟩ : ∃ x0, a0 = some x0 := by
                cases a0 with
                | none => have := h0.nil rfl; subst this; simp at hpos
                | some x0 => exact ⟨x0, rfl⟩
              subst hx0
              refine (clone_any x0 c0 xs _ ((h0.grow hb15.out)) hpos (by omega)).mono ?_
              rintro e w16 ⟨v, rfl, hown, hb16⟩
              obtain ⟨g, cap, cur, rfl, hgB, hcur, hcells⟩ := hown
              have hge : w.heap.size ≤ g := Nat.le_trans hb15.out.size hgB
              replace hgB := Lib.hid hgB
              replace hb16 := Lib.hid (hb15.out.grow hb16)
              obtain ⟨j, hj⟩ : ∃ j : Nat, at' % xs.length = j := ⟨_, rfl⟩
              have hjl : j < xs.length := by rw [← hj]; exact Nat.mod_lt _ hpos
              have hji : ((at' : Int)) % (xs.length : Int) = (j : Int) := by rw [← hj]; exact (Int.natCast_emod _ _).symm
              have cj := (hcur.cell j).trans (hcells j hjl)
              have fj := hcur.frozen j
              obtain ⟨d, hd1, hd2⟩ := turn_byte (xs.getD j 0) by' hby
              have hstr := turned_str hcur hcells j hjl d
              replace hj := Lib.hid hj
              replace hcells := Lib.hid hcells
              generalize hxj : xs.getD j 0 = xj at cj hd1 hd2
              replace hd2 := Lib.hid hd2
              replace hxj := Lib.hid hxj
              unfold bval at cj
              have hstr0 := hstr _ (Below.refl _ _) cap
              replace hstr := Lib.hid hstr
              have hsl : (xs.set j d).length ≤ 60 := by simpa using hx
              have hne := turned_ne xs j hjl d (by rw [hxj.out]; exact hd2.out)
              replace hne := Lib.hid hne
              have ssz : (bstr (xs.set j d)).size ≤ 60 := by rw [bstr_size]; exact hsl
              have hB16 := hb16.out.setCell (p := ⟨g, j, none⟩) hge (.int .u8 (d.toNat : Int))
              replace hB16 := Lib.hid hB16
              go_wp2_with fail
              have hbk := Blk.new (w16.setCell ⟨g, j, none⟩ (.int .u8 (d.toNat : Int))) #[.string (bstr (xs.set j d))] 9
              rw [show (w16.setCell ⟨g, j, none⟩ (.int .u8 (d.toNat : Int))).heap.size = w16.heap.size by simp] at hbk
              refine (sum1 (bstr (xs.set j d)) _ _ _ (by omega) rfl hbk).mono ?_
              rintro e w17 ⟨rfl, hb17⟩
              rw [bstr_list]
              have hn1 : (((inv (runB (BitVec.allOnes 32) (xs.set j d))).toNat : Int) == ((inv X).toNat : Int)) = false := by
                rw [beq_eq_false_iff_ne]
                intro e
                apply hne.out.1
                rw [hX.out]
                have e2 := BitVec.eq_of_toNat_eq (Int.ofNat.inj e)
                have e3 := congrArg inv e2
                rwa [inv_inv, inv_inv] at e3
              have hstr1 := hstr.out w17 (((Below.refl _ _).alloc (Nat.le_refl _) _).grow hb17) cap
              have hB17 := (hB16.out.alloc hB16.out.size _).grow hb17
              replace hB17 := Lib.hid hB17
              clear hstr0
              generalize inv (runB (BitVec.allOnes 32) (xs.set j d)) = X' at hn1 ⊢
              go_wp2_with fail
              refine (sumA_any (bstr (xs.set j d)) _ (le_maxLen (by omega))).mono ?_
              rintro e w18 ⟨rfl, hb18⟩
              rw [bstr_list]
              have hn2 : (toldA (adl (1, 0) (xs.set j d)) == ha * 65536 + la) = false := by
                rw [beq_eq_false_iff_ne]
                intro e
                apply hne.out.2
                rw [hp.out, e]; rfl
              have hB18 := hB17.out.grow hb18
              replace hB18 := Lib.hid hB18
              generalize toldA (adl (1, 0) (xs.set j d)) = T' at hn2 ⊢
              go_wp2_with fail
              refine (sealed_any _).mono ?_
              rintro e w19 ⟨rfl, hb19⟩
              go_wp2_with fail
              go_ret
              exact ⟨rfl, hB18.out.grow hb19⟩
            · (refine (sealed_any _).mono ?_; rintro e w16 ⟨rfl, hb16⟩; go_wp2_with fail; go_ret; exact ⟨rfl, hb15.out.grow hb16⟩)
end Go.Proofs.Ytehnppnikoipoaa
