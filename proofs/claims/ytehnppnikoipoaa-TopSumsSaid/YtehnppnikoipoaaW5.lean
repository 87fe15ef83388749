import Derived.Test.YtehnppnikoipoaaW4
namespace Go.Proofs.Ytehnppnikoipoaa
open Go.RowKit Go.Proofs.Sums
/-- n times what is done -/
def pow2 (f : R → R) : Nat → R → R
  | 0, x => x
  | n + 1, x => pow2 f n (f x)
theorem pow2_add (f : R → R) (m n : Nat) (x : R) : pow2 f (m + n) x = pow2 f n (pow2 f m x) := by
  induction m generalizing x with
  | zero => simp [pow2]
  | succ m ih => rw [show m + 1 + n = (m + n) + 1 by omega]; exact ih _
theorem zbs_pow (n : Nat) (x : R) : zbs n x = pow2 zb n x := by
  induction n generalizing x with
  | zero => rfl
  | succ n ih => exact ih _
theorem pow2_twice (f : R → R) (q : Nat) (y : R) : pow2 (fun x => f (f x)) q y = pow2 f (2 * q) y := by
  induction q generalizing y with
  | zero => rfl
  | succ q ih => rw [show 2 * (q + 1) = 2 * q + 1 + 1 by omega]; exact ih _
theorem and1 (k : Nat) (hk : k ≤ 1000000) : bits BinOp.and IntKind.i64 (k : Int) 1 = ((k % 2 : Nat) : Int) := by
  have e1 : (BitVec.ofInt 64 (k : Int) &&& BitVec.ofInt 64 1).toNat = k % 2 := by
    rw [BitVec.toNat_and]
    have : (BitVec.ofInt 64 (k : Int)).toNat = k := by rw [BitVec.ofInt_natCast, BitVec.toNat_ofNat]; omega
    rw [this]
    show k &&& 1 = _
    exact nat_mask1 k
  show IntKind.i64.wrap ((BitVec.ofInt 64 (k : Int) &&& BitVec.ofInt 64 1).toNat : Int) = _
  rw [e1]
  simp [IntKind.wrap, IntKind.bits, IntKind.signed]
  omega
set_option maxHeartbeats 400000 in
theorem join_no (a b n : Int) (w : World) (h : (isB a && isB b && decide (0 ≤ n)) = false) : Calls Try.prog 7 #[.int .i64 a, .int .i64 b, .int .i64 n] w fun e w' => e = .returned (.tuple #[.int .i64 0, .int .i64 3]) ∧ Below w.heap.size w w' := by
  cases ha : isB a
  · go_enter Try.func7, Try.ntmps7
    go_wp2_with (go_at_call 14; refine (is_any _ _).mono ?_; rintro e w' ⟨rfl, rfl⟩)
    go_ret2
    exact ⟨rfl, Below.refl _ _⟩
  · cases hb : isB b
    · go_enter Try.func7, Try.ntmps7
      go_wp2_with (go_at_call 14; refine (is_any _ _).mono ?_; rintro e w' ⟨rfl, rfl⟩)
      go_ret2
      exact ⟨rfl, Below.refl _ _⟩
    · have hn : n < 0 := by rw [ha, hb] at h; simpa using h
      clear h
      go_enter Try.func7, Try.ntmps7
      go_wp2_with (go_at_call 14; refine (is_any _ _).mono ?_; rintro e w' ⟨rfl, rfl⟩)
      go_ret2
      exact ⟨rfl, Below.refl _ _⟩
set_option maxHeartbeats 400000 in
theorem join_yes (a b : R) (n : Nat) (w : World) (hn : n ≤ 1000000) : Calls Try.prog 7 #[.int .i64 (a.toNat : Int), .int .i64 (b.toNat : Int), .int .i64 n] w
    fun e w' => e = .returned (.tuple #[.int .i64 ((zbs n a ^^^ b).toNat : Int), .int .i64 0]) ∧ Below w.heap.size w w' := by
  have ha := isB_nat a
  have hb := isB_nat b
  go_enter Try.func7, Try.ntmps7
  go_wp2_with (first | (go_at_call 14; refine (is_any _ _).mono ?_; rintro e w' ⟨rfl, rfl⟩) | (go_at_call 16; refine (byteSteps_any _).mono ?_; rintro e w' ⟨rfl, hb⟩) | (refine wpList_store_new rfl 41 _ _ rfl _ rfl rfl 41 _ (by kernel_rfl) (by kernel_rfl) (mcells_one _) ?_))
  refine wp_gen (fun W => Below w.heap.size w W ∧ Blk W w'.heap.size (mcells fun i => zb (BitVec.twoPow 32 i)) 41) ⟨hb.alloc hb.size _, Blk.new _ _ _⟩ ?_
  rintro W ⟨hbW, hM⟩
  have hB := hb.size
  generalize w'.heap.size = B at hM hB ⊢
  clear hb
  dsimp only [Act.put]
  go_loopw [2, 8] (fun nv x wr => ∃ (k : Nat) (y : R) (f : R → R), k ≤ 1000000 ∧ nv = .int .i64 k ∧ x = .int .u32 (y.toNat : Int) ∧ Below w.heap.size w wr ∧ Blk wr B (mcells fun i => f (BitVec.twoPow 32 i)) 41 ∧ Hid ((∀ p q, f (p ^^^ q) = f p ^^^ f q) ∧ pow2 f k y = zbs n a)) (fun nv _ _ => (intOf nv).toNat)
  case atStart => exact ⟨n, a, zb, hn, rfl, rfl, hbW, hM, Lib.hid ⟨zb_xor, (zbs_pow n a).symm⟩⟩
  case round =>
    clear hbW hM
    obtain ⟨k, y, f, hk, rfl, rfl, hbW, hM, hf⟩ := hrel
    by_cases hpos : 0 < k
    · have hM' := Lib.hid hM.at_
      obtain ⟨q, hq⟩ : ∃ q : Nat, k / 2 = q := ⟨_, rfl⟩
      have hq2 : (k : Int) / 2 = (q : Int) := by omega
      have hmu : q < k := by omega
      have hq3 : q ≤ 1000000 := by omega
      rcases Nat.mod_two_eq_zero_or_one k with hk2 | hk2
      · have hpa : bits BinOp.and IntKind.i64 (k : Int) 1 = 0 := by rw [and1 k hk, hk2]; rfl
        have hfin : pow2 (fun x => f (f x)) q y = zbs n a := by rw [pow2_twice, ← hf.out.2]; congr 1; omega
        replace hfin := Lib.hid hfin
        clear hq hk2
        go_wp2_with (first | (refine wpList_load_row rfl 41 _ rfl B rfl 41 _ (0, 0) _ hM'.out Try.underlying41 rfl (by kernel_rfl) ?_) | fail)
        refine (twice_any _ _).mono ?_
        rintro e w2 ⟨rfl, hb2⟩
        have hM2' := Lib.hid (hM.below hb2).at_
        have hbW2 := hbW.grow hb2
        go_wp2_with (refine wpList_store_row rfl 41 _ _ rfl B _ rfl rfl 41 _ hM2'.out (by kernel_rfl) rfl (mcells_one _) ?_)
        go_wp2
        refine ⟨⟨q, y, fun x => f (f x), hq3, by go_num, rfl, below_setRow hbW2 _ _ hB, ?_, Lib.hid ⟨fun p q => by simp only [hf.out.1], hfin.out⟩⟩, by simp [intOf]; omega⟩
        rw [← mcells_congr _ _ fun i _ => ofBits_all f hf.out.1 _]
        exact (hM.below hb2).row _
      · have hpa : bits BinOp.and IntKind.i64 (k : Int) 1 = 1 := by rw [and1 k hk, hk2]; rfl
        have hfin : pow2 (fun x => f (f x)) q (f y) = zbs n a := by rw [pow2_twice, ← hf.out.2]; show pow2 f (2 * q + 1) y = _; congr 1; omega
        replace hfin := Lib.hid hfin
        clear hq hk2
        go_wp2_with (first | (refine wpList_load_row rfl 41 _ rfl B rfl 41 _ (0, 0) _ hM'.out Try.underlying41 rfl (by kernel_rfl) ?_) | fail)
        refine (of_any _ _ y rfl _).mono ?_
        rintro e w1 ⟨rfl, hb1⟩
        have hM1 := hM.below hb1
        have hM1' := Lib.hid hM1.at_
        have hbW1 := hbW.grow hb1
        have hfy := ofBits_all f hf.out.1 y
        go_wp2_with (first | (refine wpList_load_row rfl 41 _ rfl B rfl 41 _ (0, 0) _ hM1'.out Try.underlying41 rfl (by kernel_rfl) ?_) | fail)
        refine (twice_any _ _).mono ?_
        rintro e w2 ⟨rfl, hb2⟩
        have hM2' := Lib.hid (hM1.below hb2).at_
        have hbW2 := hbW1.grow hb2
        go_wp2_with (refine wpList_store_row rfl 41 _ _ rfl B _ rfl rfl 41 _ hM2'.out (by kernel_rfl) rfl (mcells_one _) ?_)
        go_wp2
        refine ⟨⟨q, f y, fun x => f (f x), hq3, by go_num, by rw [← hfy], below_setRow hbW2 _ _ hB, ?_, Lib.hid ⟨fun p q => by simp only [hf.out.1], hfin.out⟩⟩, by simp [intOf]; omega⟩
        rw [← mcells_congr _ _ fun i _ => ofBits_all f hf.out.1 _]
        exact (hM1.below hb2).row _
    · obtain rfl : k = 0 := by omega
      have hy : Hid (y = zbs n a) := Lib.hid hf.out.2
      go_wp2
      go_ret2
      have e : wrap64 (bits BinOp.xor IntKind.u32 (y.toNat : Int) (b.toNat : Int)) = ((zbs n a ^^^ b).toNat : Int) := by
        rw [xor32, hy.out]; have := (zbs n a ^^^ b).isLt; unfold wrap64; omega
      exact ⟨by rw [← e]; rfl, hbW⟩
end Go.Proofs.Ytehnppnikoipoaa
