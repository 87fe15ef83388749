import Derived.Test.YtehnppnikoipoaaW3
namespace Go.Proofs.Ytehnppnikoipoaa
open Go.RowKit Go.Proofs.Sums
def isB (n : Int) : Bool := decide (0 ≤ n ∧ n ≤ 4294967295)
theorem isB_nat (c : R) : isB (c.toNat : Int) = true := by unfold isB; have := c.isLt; simp; omega
theorem is_any (n : Int) (w : World) : Calls Try.prog 14 #[.int .i64 n] w fun e w' => e = .returned (.bool (isB n)) ∧ w = w' := by
  by_cases h : 0 ≤ n
  · by_cases h2 : n ≤ 4294967295
    · go_enter Try.func14, Try.ntmps14
      go_wp2
      go_ret
      exact ⟨by unfold isB; simp [h, h2], rfl⟩
    · go_enter Try.func14, Try.ntmps14
      go_wp2
      go_ret
      exact ⟨by unfold isB; simp [h, h2], rfl⟩
  · go_enter Try.func14, Try.ntmps14
    go_wp2
    go_ret
    exact ⟨by rw [show isB n = false by unfold isB; simp only [decide_eq_false_iff_not]; omega]; rfl, rfl⟩
theorem not32 (c : R) : bits .xor .u32 IntKind.u32.max (c.toNat : Int) = ((inv c).toNat : Int) := by
  rw [show IntKind.u32.max = ((BitVec.allOnes 32).toNat : Int) from rfl, xor32, BitVec.allOnes_xor]; rfl
theorem not_if (c : R) : bits .xor .u32 (if IntKind.u32.signed = true then -1 else IntKind.u32.max) (c.toNat : Int) = ((inv c).toNat : Int) := by
  rw [if_neg (by decide)]; exact not32 c
theorem not_int (c : R) : wrap64 (bits .xor .u32 IntKind.u32.max (c.toNat : Int)) = ((inv c).toNat : Int) := by
  rw [not32]; have := (inv c).isLt; unfold wrap64; omega
def sumB (ss : List ByteArray) : R := ss.foldl (fun x s => runB x s.data.toList) (BitVec.allOnes 32)
set_option maxHeartbeats 400000 in
theorem sum_any (g : Nat) (ss : List ByteArray) (c : Nat) (w : World) (hl : ss.length ≤ 1000) (hs : ∀ s ∈ ss, s.size ≤ maxLen)
    (hc : ∀ j, j < ss.length → w.cell? ⟨g, j, none⟩ = some (.string (ss.getD j ByteArray.empty))) :
    Calls Try.prog 8 #[.slice (some ⟨g, 0, none⟩) ss.length c] w fun e w' => e = .returned (.int .i64 ((inv (sumB ss)).toNat : Int)) ∧ Below w.heap.size w w' := by
  replace hc := Lib.hid hc
  replace hs := Lib.hid hs
  go_enter Try.func8, Try.ntmps8
  go_wp2
  go_loopw [3, 8] (fun x i wr => ∃ k : Nat, k ≤ ss.length ∧ i = .int .i64 k ∧ x = .int .u32 ((sumB (ss.take k)).toNat : Int) ∧ Below w.heap.size w wr) (fun _ i _ => ss.length - (intOf i).toNat)
  case atStart => exact ⟨0, Nat.zero_le _, rfl, rfl, Below.refl _ _⟩
  case round =>
    obtain ⟨k, hk, rfl, rfl, hb⟩ := hrel
    by_cases hlt : k < ss.length
    · have c1 := hc.out k hlt
      have c2 : wr.cell? ⟨g, k, none⟩ = some (.string (ss.getD k ByteArray.empty)) := pw_cell hb c1
      have hsz : (ss.getD k ByteArray.empty).size ≤ maxLen := hs.out _ (by simp [hlt])
      have hnx : Hid (sumB (ss.take (k + 1)) = runB (sumB (ss.take k)) (ss.getD k ByteArray.empty).data.toList) := Lib.hid (by
        unfold sumB
        rw [List.take_succ_eq_append_getElem hlt, List.foldl_append]; simp [hlt])
      clear c1
      generalize ss.getD k ByteArray.empty = s at *
      generalize sumB (ss.take k) = y at *
      go_wp2_with (go_at_call 15; refine (run_any _ y rfl s _ hsz).mono ?_; rintro e w' ⟨rfl, hb'⟩)
      refine ⟨⟨k + 1, by omega, by go_num, ?_, hb.grow hb'⟩, by simp [intOf]; omega⟩
      rw [hnx.out]
    · obtain rfl : k = ss.length := by omega
      go_wp2
      go_ret
      exact ⟨ret_int (not_int _), hb⟩
set_option maxHeartbeats 400000 in
theorem more_no (n : Int) (s : ByteArray) (w : World) (h : isB n = false) : Calls Try.prog 6 #[.int .i64 n, .string s] w fun e w' => e = .returned (.tuple #[.int .i64 0, .int .i64 3]) ∧ Below w.heap.size w w' := by
  go_enter Try.func6, Try.ntmps6
  go_wp2_with (go_at_call 14; refine (is_any _ _).mono ?_; rintro e w' ⟨rfl, rfl⟩)
  go_ret2
  exact ⟨rfl, Below.refl _ _⟩
set_option maxHeartbeats 400000 in
theorem more_yes (c : R) (s : ByteArray) (w : World) (hs : s.size ≤ maxLen) : Calls Try.prog 6 #[.int .i64 (c.toNat : Int), .string s] w fun e w' => e = .returned (.tuple #[.int .i64 ((inv (runB (inv c) s.data.toList)).toNat : Int), .int .i64 0]) ∧ Below w.heap.size w w' := by
  have h := isB_nat c
  go_enter Try.func6, Try.ntmps6
  go_wp2_with (first | (go_at_call 14; refine (is_any _ _).mono ?_; rintro e w' ⟨rfl, rfl⟩) | (go_at_call 15; refine (run_any _ (inv c) (not_if c) s _ hs).mono ?_; rintro e w' ⟨rfl, hb⟩))
  go_ret2
  have e := not_int (runB (inv c) s.data.toList)
  exact ⟨by rw [← e]; rfl, hb⟩
end Go.Proofs.Ytehnppnikoipoaa
