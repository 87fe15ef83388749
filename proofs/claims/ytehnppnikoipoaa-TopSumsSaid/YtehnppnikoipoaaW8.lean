import Derived.Test.YtehnppnikoipoaaW7
namespace Go.Proofs.Ytehnppnikoipoaa
open Go.RowKit Go.Proofs.Sums
def s1234 : ByteArray := ⟨#[49, 50, 51, 52]⟩
def s56789 : ByteArray := ⟨#[53, 54, 55, 56, 57]⟩
theorem seal1 : ((inv (sumB [s1234, s56789])).toNat : Int) = 3421780262 := by decide +kernel
theorem seal2 : toldA (adl (1, 0) [87, 105, 107, 105, 112, 101, 100, 105, 97]) = 300286872 := by decide +kernel
theorem seal3 : toldA (adl (1, 0) []) = 1 := by decide +kernel
theorem le_maxLen {n : Nat} (h : n ≤ 1000000000) : n ≤ maxLen := by unfold maxLen; omega
set_option maxHeartbeats 400000 in
theorem sealed_any (w : World) : Calls Try.prog 4 #[] w fun e w' => e = .returned (.bool true) ∧ Below w.heap.size w w' := by
  have hs := fun (W : World) (hB : Blk W w.heap.size #[.string s1234, .string s56789] 9) => sum_any w.heap.size [s1234, s56789] 2 W (by simp) (fun s hs => le_maxLen (by simp at hs; rcases hs with rfl | rfl <;> decide))
    (fun j hj => by
      rw [hB.cell]
      have : j = 0 ∨ j = 1 := by simp at hj; omega
      rcases this with rfl | rfl <;> rfl)
  rw [seal1] at hs
  have h2 := fun (W : World) => sumA_any ⟨#[87, 105, 107, 105, 112, 101, 100, 105, 97]⟩ W (le_maxLen (by decide))
  have h3 := fun (W : World) => sumA_any ⟨#[]⟩ W (le_maxLen (by decide))
  simp only [seal2, seal3] at h2 h3
  replace hs := Lib.hid hs
  replace h2 := Lib.hid h2
  replace h3 := Lib.hid h3
  go_enter Try.func4, Try.ntmps4
  go_wp2_with fail
  refine (hs.out _ (Blk.new _ _ _)).mono ?_
  rintro e w1 ⟨rfl, hb1⟩
  go_wp2_with fail
  refine (h2.out _).mono ?_
  rintro e w2 ⟨rfl, hb2⟩
  go_wp2_with fail
  refine (h3.out _).mono ?_
  rintro e w3 ⟨rfl, hb3⟩
  go_wp2_with fail
  go_ret
  exact ⟨rfl, ((((Below.refl _ _).alloc (Nat.le_refl _) _).grow hb1).grow hb2).grow hb3⟩
end Go.Proofs.Ytehnppnikoipoaa
