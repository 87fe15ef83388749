import Derived.Test.YtehnppnikoipoaaW2
import Derived.Test.YtehnppnikoipoaaRegion
import Derived.Deep.QuietTactic
import Derived.BigQuiet
namespace Go.Proofs.Ytehnppnikoipoaa
open Go.RowKit Go.Proofs.Sums
structure TwC (B : Nat) (w : World) (k : Nat) (m : Nat → R) (W : World) : Prop where
  b : Below B w W
  A : Blk W B (mcells m) 41
  Z : Blk W (B + 1) (mcells fun _ => 0#32) 41
  M : Blk W (B + 2) (mcells fun j => if j < k then ofBits m (m j) 32 else 0#32) 41
theorem TwC.below {B : Nat} {w : World} {k : Nat} {m : Nat → R} {W W' : World} (h : TwC B w k m W) (hb : Below W.heap.size W W') : TwC B w k m W' :=
  ⟨below_trans_size h.b h.A.lt hb, h.A.below hb, h.Z.below hb, h.M.below hb⟩
set_option maxHeartbeats 400000 in
theorem twice_any (m : Nat → R) (w : World) : Calls Try.prog 18 #[.agg (mcells m)] w fun e w' => e = .returned (.agg (mcells fun i => ofBits m (m i) 32)) ∧ Below w.heap.size w w' := by
  go_enter Try.func18, Try.ntmps18
  go_wp2_with (refine wpList_box_row rfl 41 _ rfl (mcells m) rfl ?_)
  rw [mcells_zero]
  refine wp_gen (fun W => Below w.heap.size w W ∧ Blk W w.heap.size (mcells m) 41 ∧ Blk W (w.heap.size + 1) (mcells fun _ => 0#32) 41 ∧ Blk W (w.heap.size + 2) (mcells fun _ => 0#32) 41)
    ⟨(((Below.refl _ _).alloc (Nat.le_refl _) _).alloc (by simp) _).alloc (by simp; omega) _, ((Blk.new _ _ _).alloc _).alloc _, by simpa using (Blk.new (w.alloc _) _ _).alloc _, by simpa using Blk.new ((w.alloc _).alloc _) _ _⟩ ?_
  rintro W ⟨hbW, hA, hR, hM⟩
  generalize hB : w.heap.size = B at hbW hA hR hM ⊢
  go_loopw [5] (fun i wr => ∃ k : Nat, k ≤ 32 ∧ i = .int .i64 k ∧ Below B w wr ∧ Blk wr B (mcells m) 41 ∧ Blk wr (B + 1) (mcells fun _ => 0#32) 41 ∧ Blk wr (B + 2) (mcells fun j => if j < k then ofBits m (m j) 32 else 0#32) 41) (fun i _ => 32 - (intOf i).toNat)
  case atStart => exact ⟨0, Nat.zero_le _, rfl, hbW, hA, hR, by simpa using hM⟩
  case round =>
    clear hbW hA hR hM
    obtain ⟨k, hk, rfl, hbW, hA, hR, hM⟩ := hrel
    by_cases hlt : k < 32
    · have cA := (hA.cell k).trans (mcells_at _ k hlt)
      go_wp2_with fail
      refine wp_region_quiet_last _ (TwC B w k m) rfl (by kernel_rfl) (by kernel_rfl) (by kernel_rfl) ⟨hbW.drew, hA.drew, hR.drew, hM.drew⟩ ?_
      dsimp only [List.dropLast]
      (refine quiet_value rfl ?_ (fun W hW => ?_) ?_; rotate_left; · (go_simp; rfl))
      refine quiet_value rfl (.agg (mcells m)) (fun W hW => run_load_cell 41 _ rfl _ rfl _ (run_loadVar_row W B 41 41 (mcells m) (0, 0) _ hW.A.at_ Try.underlying41 rfl (by kernel_rfl))) ?_
      (refine quiet_value rfl ?_ (fun W hW => ?_) ?_; rotate_left; · (go_simp; rfl))
      (refine quiet_value rfl ?_ (fun W hW => ?_) ?_; rotate_left; · (go_simp; rfl))
      (refine quiet_value rfl ?_ (fun W hW => ?_) ?_; rotate_left; · (have hc := (hW.A.cell k).trans (mcells_at _ k hlt); go_simp; rfl))
      refine quiet_call rfl (.int .u32 ((ofBits m (m k) 32).toNat : Int)) 17 #[.agg (mcells m), .int .u32 ((m k).toNat : Int)] (fun W => by go_simp) (fun W hW => (of_any m _ (m k) rfl W).mono fun e w' ⟨he, hb⟩ => ⟨he, hW.below hb⟩) ?_
      (refine quiet_value rfl ?_ (fun W hW => ?_) ?_; rotate_left; · (go_simp; rfl))
      refine wpQuiet_nil ?_
      intro w1 hW
      have c1 := (hW.M.cell k).trans (mcells_at _ k hlt)
      have f1 := hW.M.frozen k
      go_wp2
      refine ⟨⟨k + 1, by omega, by go_num, hW.b.setCell (by simp; omega) _, hW.A.setOther _ (by simp; omega) _, hW.Z.setOther _ (by simp) _, ?_⟩, by simp [intOf]; omega⟩
      have h2 := hW.M.set k (.int .u32 ((ofBits m (m k) 32).toNat : Int))
      rw [mcells_set _ _ _ hlt] at h2
      have e2 : upd (fun j => if j < k then ofBits m (m j) 32 else 0#32) k (ofBits m (m k) 32) = fun j => if j < k + 1 then ofBits m (m j) 32 else 0#32 := by
        funext j
        unfold upd
        by_cases h : j = k
        · subst h
          simp only [if_true]
          rw [if_pos (by omega)]
        · simp only [if_neg h]
          by_cases h' : j < k
          · rw [if_pos h', if_pos (by omega)]
          · rw [if_neg h', if_neg (by omega)]
      rw [e2] at h2
      exact h2
    · obtain rfl : k = 32 := by omega
      have hR' := Lib.hid hR.at_
      have hM' := Lib.hid hM.at_
      go_wp2_with (first | (refine wpList_load_row rfl 41 _ rfl (B + 2) rfl 41 _ (0, 0) _ hM'.out Try.underlying41 rfl (by kernel_rfl) ?_) | (refine wpList_store_row rfl 41 _ _ rfl (B + 1) _ rfl rfl 41 _ hR'.out (by kernel_rfl) rfl (mcells_one _) ?_))
      refine bodyPost_ret (results_cell_row rfl _ _ _ _ _ _ _ rfl (hR.row _).at_ Try.underlying41 rfl (by kernel_rfl)) rfl ⟨?_, ?_⟩
      · rw [mcells_congr _ _ (fun j hj => if_pos hj)]
      · rw [hB]; exact below_setRow hbW _ _ (by omega)
end Go.Proofs.Ytehnppnikoipoaa
