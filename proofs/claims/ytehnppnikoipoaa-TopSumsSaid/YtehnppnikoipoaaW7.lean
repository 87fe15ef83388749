import Derived.Test.YtehnppnikoipoaaW6
namespace Go.Proofs.Ytehnppnikoipoaa
open Go.RowKit Go.Proofs.Sums
set_option maxHeartbeats 400000 in
theorem parted_any (n : Int) (w : World) (hn : 0 ≤ n ∧ n ≤ 9223372036854775807) :
    Calls Try.prog 20 #[.int .i64 n] w fun e w' => e = .returned (.agg #[.int .i64 (n % 65536), .int .i64 (n / 65536)]) ∧ Below w.heap.size w w' := by
  obtain ⟨n1, n2⟩ := hn
  go_enter Try.func20, Try.ntmps20
  go_wp2
  refine bodyPost_ret (v := .agg #[.int .i64 (n % 65536), .int .i64 (n / 65536)]) (by simp [results, Try.results20, go_sem]) rfl ⟨rfl, ?_⟩
  exact (Below.refl _ _).alloc (Nat.le_refl _) _
theorem eql_halves (a b c d : Int) (w : World) : (binOp .eql 46 (.agg #[.int .i64 a, .int .i64 b]) (.agg #[.int .i64 c, .int .i64 d])).run Try.prog w = .ok (.bool ((a == c) && ((b == d) && true))) w := by
  refine eql_struct Try.underlying46 (by kernel_rfl) ?_
  refine eqFields_cons rfl (by go_simp; rfl) (by go_simp; rfl) (by go_simp) ?_
  exact eqFields_cons rfl (by go_simp; rfl) (by go_simp; rfl) (by go_simp) eqFields_nil
theorem prod_bd (a b : Int) (h0 : 0 ≤ a) (h1 : a ≤ 65520) (h2 : 0 ≤ b) (h3 : b ≤ 65520) : 0 ≤ a * b ∧ a * b ≤ 4292870400 := by
  constructor
  · exact Int.mul_nonneg h0 h2
  · calc a * b ≤ 65520 * 65520 := Int.mul_le_mul h1 h3 h2 (by omega)
      _ ≤ 4292870400 := by omega
def isA (n : Int) : Bool := decide (0 ≤ n ∧ n % 65536 < 65521 ∧ n / 65536 < 65521)
set_option maxHeartbeats 400000 in
theorem isA_any (n : Int) (w : World) (hn : -9223372036854775808 ≤ n ∧ n ≤ 9223372036854775807) :
    Calls Try.prog 19 #[.int .i64 n] w fun e w' => e = .returned (.bool (isA n)) ∧ Below w.heap.size w w' := by
  obtain ⟨n1, n2⟩ := hn
  by_cases h : 0 ≤ n
  · have e1 : isA n = ((n % 65536 == n % 65536 % 65521) && (n / 65536 == n / 65536 % 65521)) := by
      rw [Bool.eq_iff_iff]; unfold isA; simp only [decide_eq_true_eq, Bool.and_eq_true, beq_iff_eq]; omega
    replace e1 := Lib.hid e1
    clear n1
    have hq := eql_halves
    go_enter Try.func19, Try.ntmps19
    go_wp2_with (go_at_call 20; refine (parted_any _ _ ⟨h, n2⟩).mono ?_; rintro e w' ⟨rfl, hb⟩)
    go_ret
    exact ⟨by rw [e1.out]; simp, hb⟩
  · have e1 : Hid (isA n = false) := Lib.hid (by unfold isA; simp only [decide_eq_false_iff_not]; omega)
    go_enter Try.func19, Try.ntmps19
    go_wp2
    go_ret
    exact ⟨by rw [e1.out]; rfl, Below.refl _ _⟩
set_option maxHeartbeats 400000 in
theorem sumA_any (s : ByteArray) (w : World) (hs : s.size ≤ maxLen) :
    Calls Try.prog 12 #[.string s] w fun e w' => e = .returned (.int .i64 (toldA (adl (1, 0) s.data.toList))) ∧ Below w.heap.size w w' := by
  have ht := fun (W : World) (h1 : w.heap.size < W.heap.size) (hB : Blk W w.heap.size #[.int .i64 1, .int .i64 0] 49) => take_any w.heap.size (1, 0) 49 s W h1 hB (by decide) hs
  replace ht := Lib.hid ht
  go_enter Try.func12, Try.ntmps12
  go_wp2_with (go_at_call 21; refine (ht.out _ (by simp) (Blk.new _ _ _)).mono ?_; rintro e w' ⟨rfl, hb⟩)
  go_ret
  exact ⟨rfl, ((Below.refl _ _).alloc (Nat.le_refl _) _).trans hb⟩
set_option maxHeartbeats 400000 in
theorem moreA_no (n : Int) (s : ByteArray) (w : World) (hn : -9223372036854775808 ≤ n ∧ n ≤ 9223372036854775807) (h : isA n = false) : Calls Try.prog 10 #[.int .i64 n, .string s] w fun e w' => e = .returned (.tuple #[.int .i64 0, .int .i64 3]) ∧ Below w.heap.size w w' := by
  go_enter Try.func10, Try.ntmps10
  go_wp2_with (go_at_call 19; refine (isA_any _ _ hn).mono ?_; rintro e w' ⟨rfl, hb⟩)
  go_ret2
  exact ⟨rfl, hb⟩
set_option maxHeartbeats 400000 in
theorem moreA_yes (n : Int) (s : ByteArray) (w : World) (hs : s.size ≤ maxLen) (hn : -9223372036854775808 ≤ n ∧ n ≤ 9223372036854775807) (h : isA n = true) : Calls Try.prog 10 #[.int .i64 n, .string s] w
    fun e w' => e = .returned (.tuple #[.int .i64 (toldA (adl (n % 65536, n / 65536) s.data.toList)), .int .i64 0]) ∧ Below w.heap.size w w' := by
  have hp : 0 ≤ n ∧ n % 65536 < 65521 ∧ n / 65536 < 65521 := by simpa [isA] using h
  have ht := fun (g : Nat) (W : World) (h1 : g < W.heap.size) (hB : Blk W g #[.int .i64 (n % 65536), .int .i64 (n / 65536)] 49) => take_any g (n % 65536, n / 65536) 49 s W h1 hB ⟨by simp only; omega, by simp only; omega, by simp only; omega, by simp only; omega⟩ hs
  replace ht := Lib.hid ht
  have hp' := Lib.hid hp
  clear hp
  go_enter Try.func10, Try.ntmps10
  go_wp2_with (first | (go_at_call 19; refine (isA_any _ _ hn).mono ?_; rintro e w' ⟨rfl, hb⟩) | (go_at_call 20; refine (parted_any _ _ ⟨hp'.out.1, hn.2⟩).mono ?_; rintro e w2 ⟨rfl, hb2⟩) | (go_at_call 21; refine (ht.out _ _ (by simp) (Blk.new _ _ _)).mono ?_; rintro e w3 ⟨rfl, hb3⟩))
  go_ret2
  have h1 := hb.grow hb2
  exact ⟨rfl, (h1.alloc h1.size _).trans ⟨hb3.os, hb3.tape, hb3.output, hb3.size, fun i hi => hb3.block i (by have := h1.size; omega)⟩⟩
def jA (x y n : Int) : Int := ((x / 65536 + y / 65536 + n % 65521 * ((x % 65536 + 65521 - 1) % 65521)) % 65521) * 65536 + (x % 65536 + 65521 - 1 + y % 65536) % 65521
set_option maxHeartbeats 400000 in
theorem joinA_no (x y n : Int) (w : World) (hx : -9223372036854775808 ≤ x ∧ x ≤ 9223372036854775807) (hy : -9223372036854775808 ≤ y ∧ y ≤ 9223372036854775807) (h : (isA x && isA y && decide (0 ≤ n)) = false) :
    Calls Try.prog 11 #[.int .i64 x, .int .i64 y, .int .i64 n] w fun e w' => e = .returned (.tuple #[.int .i64 0, .int .i64 3]) ∧ Below w.heap.size w w' := by
  replace hx := Lib.hid hx
  replace hy := Lib.hid hy
  cases ha : isA x
  · go_enter Try.func11, Try.ntmps11
    go_wp2_with (go_at_call 19; refine (isA_any _ _ hx.out).mono ?_; rintro e w' ⟨rfl, hb1⟩)
    go_ret2
    exact ⟨rfl, hb1⟩
  · cases hb : isA y
    · go_enter Try.func11, Try.ntmps11
      go_wp2_with fail
      refine (isA_any _ _ hx.out).mono ?_
      rintro e w1 ⟨rfl, hb1⟩
      go_wp2_with fail
      refine (isA_any _ _ hy.out).mono ?_
      rintro e w2 ⟨rfl, hb2⟩
      go_wp2_with fail
      go_ret2
      exact ⟨rfl, hb1.grow hb2⟩
    · have hn : n < 0 := by rw [ha, hb] at h; simpa using h
      clear h
      go_enter Try.func11, Try.ntmps11
      go_wp2_with fail
      refine (isA_any _ _ hx.out).mono ?_
      rintro e w1 ⟨rfl, hb1⟩
      go_wp2_with fail
      refine (isA_any _ _ hy.out).mono ?_
      rintro e w2 ⟨rfl, hb2⟩
      go_wp2_with fail
      go_ret2
      exact ⟨rfl, hb1.grow hb2⟩
set_option maxHeartbeats 800000 in
theorem joinA_yes (x y n : Int) (w : World) (hx : -9223372036854775808 ≤ x ∧ x ≤ 9223372036854775807) (hy : -9223372036854775808 ≤ y ∧ y ≤ 9223372036854775807) (ha : isA x = true) (hb : isA y = true) (hn : 0 ≤ n ∧ n ≤ 1000000) :
    Calls Try.prog 11 #[.int .i64 x, .int .i64 y, .int .i64 n] w fun e w' => e = .returned (.tuple #[.int .i64 (jA x y n), .int .i64 0]) ∧ Below w.heap.size w w' := by
  have px : 0 ≤ x ∧ x % 65536 < 65521 ∧ x / 65536 < 65521 := by simpa [isA] using ha
  have py : 0 ≤ y ∧ y % 65536 < 65521 ∧ y / 65536 < 65521 := by simpa [isA] using hb
  obtain ⟨hn1, hn2⟩ := hn
  replace hx := Lib.hid hx
  replace hy := Lib.hid hy
  have hprod := prod_bd (n % 65521) ((x % 65536 + 65521 - 1) % 65521) (by omega) (by omega) (by omega) (by omega)
  have hj : Hid (jA x y n = ((x / 65536 + y / 65536 + n % 65521 * ((x % 65536 + 65521 - 1) % 65521)) % 65521) * 65536 + (x % 65536 + 65521 - 1 + y % 65536) % 65521) := Lib.hid rfl
  go_enter Try.func11, Try.ntmps11
  go_wp2_with fail
  refine (isA_any _ _ hx.out).mono ?_
  rintro e w1 ⟨rfl, hb1⟩
  go_wp2_with fail
  refine (isA_any _ _ hy.out).mono ?_
  rintro e w2 ⟨rfl, hb2⟩
  go_wp2_with fail
  refine (parted_any _ _ ⟨px.1, hx.out.2⟩).mono ?_
  rintro e w3 ⟨rfl, hb3⟩
  go_wp2_with fail
  refine (parted_any _ _ ⟨py.1, hy.out.2⟩).mono ?_
  rintro e w4 ⟨rfl, hb4⟩
  have hB := ((hb1.grow hb2).grow hb3).grow hb4
  replace hB := Lib.hid hB
  clear hb1 hb2 hb3 hb4
  go_wp2_with fail
  refine (told_any _ _ _ ⟨by omega, by omega⟩ ⟨by omega, by omega⟩).mono ?_
  rintro e w5 ⟨rfl, hb5⟩
  go_wp2_with fail
  go_ret2
  exact ⟨by rw [hj.out]; rfl, ((hB.out.alloc hB.out.size _).alloc (by have := hB.out.size; simp; omega) _).grow hb5⟩
end Go.Proofs.Ytehnppnikoipoaa
