import Derived.Test.YtehnppnikoipoaaBytes
import Derived.Test.YtehnppnikoipoaaProg
import Derived.WalkSpells
namespace Go.Proofs.Ytehnppnikoipoaa
open Go.RowKit
/-- A row of bytes of the call's own. -/
def OwnB (B : Nat) (v : Value) (xs : List UInt8) (w' : World) : Prop :=
  ∃ g cap cur, v = .slice (some ⟨g, 0, none⟩) xs.length cap ∧ B ≤ g ∧ Blk w' g cur 5 ∧ ∀ j, j < xs.length → cur[j]? = some (bval (xs.getD j 0))
theorem OwnB.of {w' : World} {B : Nat} {v : Value} {xs : List UInt8} (h : w'.ownsRow B 5 1 v xs.length (xs.map bval)) (hp : 0 < xs.length) : OwnB B v xs w' := by
  rcases h.2 with ⟨_, h0⟩ | ⟨g, cap, cur, rfl, hb, hh, hn, hm, hs, ht⟩
  · omega
  · refine ⟨g, cap, cur, rfl, hb, ⟨hh⟩, fun j hj => ?_⟩
    have hj2 : j < cur.size := by omega
    have e : (cur.toList.take (xs.length * 1))[j]? = (xs.map bval)[j]? := by rw [ht]
    rw [Nat.mul_one, List.getElem?_take, if_pos hj] at e
    rw [← Array.getElem?_toList, e]
    simp [hj]
theorem infoB : (Try.prog.info? 5).map (fun i => (i.zero, i.size, i.bytes)) = some (some (.int .u8 0), 1, 1) := by kernel_rfl
set_option maxHeartbeats 400000 in
theorem clone_any (x : Addr) (c : Nat) (xs : List UInt8) (w : World) (h : RdB w (some x) xs) (hp : 0 < xs.length) (hl : xs.length ≤ 100000) :
    Calls Try.prog 13 #[.slice (some x) xs.length c] w fun e w' => ∃ v, e = .returned v ∧ OwnB w.heap.size v xs w' ∧ Below w.heap.size w w' := by
  have hq := fun (W : World) => run_neq_slice_nil_any (P := Try.prog) W 22 5 (some x) xs.length c 0 0 Try.underlying22
  have hq2 := fun (W : World) => Go.Lib.run_eql_slice_nil (P := Try.prog) W 22 5 (some x) xs.length c 0 0 Try.underlying22
  replace h := Lib.hid h
  obtain ⟨i0, hi, hz0, hz1, hz2⟩ := info_parts infoB
  go_enter Try.func13, Try.ntmps13
  have hR : RdB (w.alloc (.cells #[] 5)) (some x) xs := h.out.grow ((Below.refl _ _).alloc (Nat.le_refl _) _)
  have hnews : ∀ (j : Nat) (u : Value), (xs.map bval)[j]? = some u → (w.alloc (.cells #[] 5)).cell? (x.add j) = some u := by
    intro j u hj
    have hjl : j < xs.length := by
      rcases Nat.lt_or_ge j xs.length with h | h
      · exact h
      · rw [List.getElem?_eq_none (by simpa using h)] at hj
        cases hj
    obtain ⟨y, e, hc⟩ := hR.at_ j hjl
    obtain rfl : x = y := Option.some.inj e
    rw [hc]
    simpa [hjl] using hj
  replace hnews := Lib.hid hnews
  clear hR
  go_wp2_with (at_builtin; refine wpList_append_own _ rfl _ _ 22 rfl w.heap.size 5 i0 (.int .u8 0) 1 1 Try.underlying22 hi hz0 hz1 hz2 rfl (by decide) _ 0 [] rfl (World.ownsRow_lit w #[] 0 (Nat.le_refl _) (by simp [maxLen]) rfl) x xs.length c (xs.map bval) rfl (by simp) hnews.out (by simp [bval, Value.oneCell']) (by simp only [maxLen]; omega) (by omega) (by simp) ?_; intro v' w1 hown hgrow _)
  go_ret
  refine ⟨v', rfl, OwnB.of (by simpa using hown) hp, ?_⟩
  refine ((Below.refl _ _).alloc (Nat.le_refl _) _).grown hgrow (by simp) ?_
  intro k e
  have : w.heap.size = k := Option.some.inj e
  omega
end Go.Proofs.Ytehnppnikoipoaa
