import Derived.Test.YtehnppnikoipoaaProg
import Derived.Test.YtehnppnikoipoaaSums
import Derived.Test.YtehnppnikoipoaaKit
import Derived.BigQuiet
import Derived.Deep.QuietTactic
import Derived.Lib.Hide
namespace Go.Proofs.Ytehnppnikoipoaa
open Go.RowKit Go.Proofs.Sums

theorem take_snoc (s : ByteArray) (k : Nat) (h : k < s.size) : s.data.toList.take (k + 1) = s.data.toList.take k ++ [s[k]] := by
  rw [List.take_succ_eq_append_getElem (by simpa using h)]; rfl
theorem runB_snoc (c : R) (s : ByteArray) (k : Nat) (h : k < s.size) : runB c (s.data.toList.take (k + 1)) = stepB (runB c (s.data.toList.take k)) s[k] := by
  rw [take_snoc s k h, runB_append]; rfl
set_option maxHeartbeats 400000 in
theorem bitwise_any (n : Int) (c : R) (hn : n = (c.toNat : Int)) (s : ByteArray) (w : World) (hs : s.size ≤ maxLen) :
    Calls Try.prog 5 #[.int .u32 n, .string s] w fun e w' => e = .returned (.int .u32 ((runB c s.data.toList).toNat : Int)) ∧ w = w' := by
  subst hn
  unfold maxLen at hs
  go_enter Try.func5, Try.ntmps5
  go_wp2
  go_loop [0, 9] (fun x i => ∃ k : Nat, k ≤ s.size ∧ i = .int .i64 k ∧ x = .int .u32 ((runB c (s.data.toList.take k)).toNat : Int)) (fun _ i => s.size - (intOf i).toNat)
  case atStart => exact ⟨0, Nat.zero_le _, rfl, rfl⟩
  case round =>
    obtain ⟨k, hk, rfl, rfl⟩ := hrel
    by_cases hlt : k < s.size
    · have hsn := Lib.hid (runB_snoc c s k hlt)
      generalize hy : runB c (s.data.toList.take k) = y at *
      clear hy
      go_wp2
      go_loop [0, 18] (fun x j => ∃ m : Nat, m ≤ 8 ∧ j = .int .i64 m ∧ x = .int .u32 ((h1n m (y ^^^ BitVec.ofNat 32 s[k].toNat)).toNat : Int)) (fun _ j => 8 - (intOf j).toNat)
      case atStart => exact ⟨0, by omega, rfl, by rw [xor32_byte]; rfl⟩
      case round =>
        obtain ⟨m, hm, rfl, rfl⟩ := hrel
        by_cases hlt8 : m < 8
        · have hs1 : h1n (m + 1) (y ^^^ BitVec.ofNat 32 s[k].toNat) = h1 (h1n m (y ^^^ BitVec.ofNat 32 s[k].toNat)) := rfl
          replace hs1 := Lib.hid hs1
          generalize hz : h1n m (y ^^^ BitVec.ofNat 32 s[k].toNat) = z at *
          clear hz
          go_wp2
          · have ht : (z.toNat : Int) % 2 = 1 := by rename_i h; simpa using h
            refine ⟨⟨m + 1, by omega, by go_num, ?_⟩, by simp [intOf]; omega⟩
            rw [hs1.out, h1_odd z (by omega), ← xor32, ← shr32]; rfl
          · have ht : ¬ (z.toNat : Int) % 2 = 1 := by rename_i h; simpa using h
            refine ⟨⟨m + 1, by omega, by go_num, ?_⟩, by simp [intOf]; omega⟩
            rw [hs1.out, h1_ev z (by omega), ← shr32]; rfl
        · obtain rfl : m = 8 := by omega
          rw [h1n_8]
          go_wp2
          refine ⟨⟨k + 1, by omega, by go_num, ?_⟩, by simp [intOf]; omega⟩
          rw [hsn.out]
    · go_wp2
      go_ret
      exact ⟨ret_int (by rw [List.take_of_length_le (by simp; omega)]), rfl⟩
end Go.Proofs.Ytehnppnikoipoaa
