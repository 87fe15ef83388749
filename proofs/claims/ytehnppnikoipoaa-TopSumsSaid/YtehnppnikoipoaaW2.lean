import Derived.Test.YtehnppnikoipoaaW1
namespace Go.Proofs.Ytehnppnikoipoaa
open Go.RowKit Go.Proofs.Sums
def tabV : Array Value := #[.int .u32 0x00000000, .int .u32 0x1db71064, .int .u32 0x3b6e20c8, .int .u32 0x26d930ac, .int .u32 0x76dc4190, .int .u32 0x6b6b51f4, .int .u32 0x4db26158, .int .u32 0x5005713c,
  .int .u32 0xedb88320, .int .u32 0xf00f9344, .int .u32 0xd6d6a3e8, .int .u32 0xcb61b38c, .int .u32 0x9b64c2b0, .int .u32 0x86d3d2d4, .int .u32 0xa00ae278, .int .u32 0xbdbdf21c]
theorem tabV_one : tabV.all (·.oneCell') = true := by simp [tabV, Value.oneCell']
theorem tabV_eq : tabV = (tab.map fun x => Value.int .u32 (x.toNat : Int)).toArray := by
  simp [tabV, tab]
theorem tabV_at (k : Nat) (hk : k < 16) : tabV[k]? = some (.int .u32 ((tab.getD k 0).toNat : Int)) := by
  rw [tabV_eq]
  have h : k < tab.length := hk
  simp only [List.getElem?_toArray, List.getElem?_map, List.getD_eq_getElem?_getD, List.getElem?_eq_getElem h]
  rfl
set_option maxHeartbeats 400000 in
theorem nibbles_any (w : World) : Calls Try.prog 23 #[] w fun e w' => e = .returned (.agg tabV) ∧ Below w.heap.size w w' := by
  go_enter Try.func23, Try.ntmps23
  go_wp2_with (first | (refine wpList_built rfl 51 _ rfl tabV (by kernel_rfl) ?_) | (refine wpList_store_new rfl 51 _ _ rfl tabV rfl rfl 51 _ (by kernel_rfl) (by kernel_rfl) tabV_one ?_))
  refine bodyPost_ret (v := .agg tabV) (results_cell_row rfl _ _ _ _ _ _ _ rfl (heap_alloc_new _ _) Try.underlying51 rfl (by kernel_rfl)) rfl ⟨rfl, ?_⟩
  exact (Below.refl _ _).alloc (Nat.le_refl _) _
theorem and15 (x : R) : (bits .and .u32 (x.toNat : Int) 15).toNat = x.toNat % 16 := by
  have := u32_and_nat x.toNat 15 x.isLt (by omega)
  rw [show ((15 : Nat) : Int) = 15 from rfl] at this
  rw [this, nat_mask4]; rfl
theorem and15_range (x : R) : 0 ≤ bits .and .u32 (x.toNat : Int) 15 ∧ bits .and .u32 (x.toNat : Int) 15 < 16 := by
  have := u32_and_nat x.toNat 15 x.isLt (by omega)
  rw [show ((15 : Nat) : Int) = 15 from rfl] at this
  rw [this, nat_mask4]; omega
theorem shr32_4 (a : R) : (a.toNat : Int) / ((16 : Nat) : Int) = ((a >>> 4).toNat : Int) := by
  rw [BitVec.toNat_ushiftRight, Nat.shiftRight_eq_div_pow]; omega
theorem nib_int (x : R) : bits .xor .u32 ((tab.getD (x.toNat % 16) 0).toNat : Int) ((x.toNat : Int) / ((16 : Nat) : Int)) = ((nib x).toNat : Int) := by
  rw [shr32_4, xor32]; rfl
theorem nib_facts (W : World) (b : Nat) (z : R) (hT : ∀ k, k < 16 → W.cell? ⟨b, k, none⟩ = some (.int .u32 ((tab.getD k 0).toNat : Int))) :
    ∃ (j : Nat) (t z' : R), j < 16 ∧ bits .and .u32 (z.toNat : Int) 15 = (j : Int) ∧ W.cell? ⟨b, j, none⟩ = some (.int .u32 (t.toNat : Int)) ∧ bits .xor .u32 (t.toNat : Int) ((z.toNat : Int) / 16) = (z'.toNat : Int) ∧ Hid (z' = nib z) := by
  refine ⟨z.toNat % 16, tab.getD (z.toNat % 16) 0, nib z, by omega, ?_, hT _ (by omega), nib_int z, Lib.hid rfl⟩
  have := and15 z
  have := and15_range z
  omega
set_option maxHeartbeats 400000 in
theorem run_any (n : Int) (c : R) (hn : n = (c.toNat : Int)) (s : ByteArray) (w : World) (hs : s.size ≤ maxLen) :
    Calls Try.prog 15 #[.int .u32 n, .string s] w fun e w' => e = .returned (.int .u32 ((runB c s.data.toList).toNat : Int)) ∧ Below w.heap.size w w' := by
  subst hn
  unfold maxLen at hs
  go_enter Try.func15, Try.ntmps15
  go_wp2_with (first | (go_at_call 23; refine (nibbles_any _).mono ?_; rintro e w' ⟨rfl, hb⟩) | (refine wpList_store_new rfl 51 _ _ rfl tabV rfl rfl 51 _ (by kernel_rfl) (by kernel_rfl) tabV_one ?_))
  refine wp_gen (fun W => Below w.heap.size w W ∧ ∀ k, k < 16 → W.cell? ⟨w'.heap.size, k, none⟩ = some (.int .u32 ((tab.getD k 0).toNat : Int))) ⟨hb.alloc hb.size _, ?_⟩ ?_
  · intro k hk
    rw [cell_of_row _ _ _ _ _ _ (heap_alloc_new _ _)]
    exact tabV_at k hk
  rintro W ⟨hbW, hT⟩
  replace hT := Lib.hid hT
  generalize w'.heap.size = B at *
  clear hb
  go_loop [0, 10] (fun x i => ∃ k : Nat, k ≤ s.size ∧ i = .int .i64 k ∧ x = .int .u32 ((runB c (s.data.toList.take k)).toNat : Int)) (fun _ i => s.size - (intOf i).toNat)
  case atStart => exact ⟨0, Nat.zero_le _, rfl, rfl⟩
  case round =>
    obtain ⟨k, hk, rfl, rfl⟩ := hrel
    by_cases hlt : k < s.size
    · have hsn := Lib.hid (runB_snoc c s k hlt)
      generalize hy : runB c (s.data.toList.take k) = y at *
      clear hy
      obtain ⟨z, e1, hz⟩ : ∃ z : R, bits .xor .u32 (y.toNat : Int) ((s[k].toNat : Int) % 4294967296) = (z.toNat : Int) ∧ Hid (z = y ^^^ BitVec.ofNat 32 s[k].toNat) := ⟨_, xor32_byte y s[k], Lib.hid rfl⟩
      obtain ⟨j1, t1, z1, hj1, i1, c1, x1, hz1⟩ := nib_facts W B z hT.out
      obtain ⟨j2, t2, z2, hj2, i2, c2, x2, hz2⟩ := nib_facts W B z1 hT.out
      go_wp2
      refine ⟨⟨k + 1, by omega, by go_num, ?_⟩, by simp [intOf]; omega⟩
      rw [hsn.out, hz2.out, hz1.out, hz.out, stepB_nib]
    · go_wp2
      go_ret
      exact ⟨ret_int (by rw [List.take_of_length_le (by simp; omega)]), hbW⟩

/-! 32 steps in a row -/
def mcells (m : Nat → R) : Array Value := ((List.range 32).map fun i => Value.int .u32 ((m i).toNat : Int)).toArray
theorem mcells_size (m : Nat → R) : (mcells m).size = 32 := by simp [mcells]
theorem mcells_at (m : Nat → R) (i : Nat) (h : i < 32) : (mcells m)[i]? = some (.int .u32 ((m i).toNat : Int)) := by simp [mcells, List.getElem?_range h]
theorem mcells_one (m : Nat → R) : (mcells m).all (·.oneCell') = true := by simp [mcells, Value.oneCell']
def upd (m : Nat → R) (i : Nat) (v : R) : Nat → R := fun j => if j = i then v else m j
theorem mcells_set (m : Nat → R) (i : Nat) (v : R) (h : i < 32) : (mcells m).setIfInBounds i (.int .u32 (v.toNat : Int)) = mcells (upd m i v) := by
  apply Array.ext
  · simp [mcells]
  · intro j h1 h2
    have hj : j < 32 := by simpa [mcells] using h2
    simp only [mcells, List.setIfInBounds_toArray, List.getElem_toArray, List.getElem_set, List.getElem_map, List.getElem_range, upd]
    by_cases e : j = i
    · subst e; simp
    · rw [if_neg (fun h => e h.symm), if_neg e]
theorem mcells_zero : (#[.int .u32 0, .int .u32 0, .int .u32 0, .int .u32 0, .int .u32 0, .int .u32 0, .int .u32 0, .int .u32 0, .int .u32 0, .int .u32 0, .int .u32 0, .int .u32 0, .int .u32 0, .int .u32 0, .int .u32 0, .int .u32 0,
    .int .u32 0, .int .u32 0, .int .u32 0, .int .u32 0, .int .u32 0, .int .u32 0, .int .u32 0, .int .u32 0, .int .u32 0, .int .u32 0, .int .u32 0, .int .u32 0, .int .u32 0, .int .u32 0, .int .u32 0, .int .u32 0] : Array Value) = mcells (fun _ => 0#32) := by
  simp [mcells, List.range_succ]
theorem mcells_congr (m m' : Nat → R) (h : ∀ i, i < 32 → m i = m' i) : mcells m = mcells m' := by
  unfold mcells
  congr 1
  apply List.map_congr_left
  intro i hi
  rw [h i (by simpa using hi)]
theorem below_trans_size {w W W' : World} {B : Nat} (h : Below B w W) (hs : B < W.heap.size) (h' : Below W.heap.size W W') : Below B w W' :=
  h.trans ⟨h'.os, h'.tape, h'.output, h'.size, fun i hi => h'.block i (by omega)⟩
/-- A box for a whole row. -/
theorem wpList_box_row {P : Program} {ops : Array Oper} {rest : List Oper} {o : Oper} {a : Act} {w : World} {Q : Exit → Act → World → Prop} (hgd : o.guard = none) (ty : TypeId) (x : Operand) (ho : o.op = .box ty x)
    (cells : Array Value) (hx : a.eval x = .agg cells) (h : wpList P ops Q rest (a.put o.dst (.pointer (some ⟨w.heap.size, 0, none⟩))) (w.alloc (.cells cells ty))) : wpList P ops Q (o :: rest) a w := by
  refine wpList_plain hgd fun K hK => ?_
  unfold Oper.wp execOp
  simp only [ho, hx]
  simp only [Instr.box, newVar, newRow, Value.cells, Sem.run_bind, go_sem]
  exact hK _ _ h
theorem bitk (x : R) (k : Nat) : x.getLsbD k = decide (bits .and .u32 ((x.toNat : Int) / 2 ^ k) 1 = 1) := by
  have h := u32_and_nat (x.toNat / 2 ^ k) 1 (Nat.lt_of_le_of_lt (Nat.div_le_self _ _) x.isLt) (by omega)
  rw [nat_mask1] at h
  have e : ((x.toNat / 2 ^ k : Nat) : Int) = (x.toNat : Int) / 2 ^ k := by simp
  rw [e, show ((1 : Nat) : Int) = 1 from rfl] at h
  rw [h, BitVec.getLsbD, Nat.testBit_eq_decide_div_mod_eq, decide_eq_decide]
  omega
set_option maxHeartbeats 400000 in
theorem of_any (m : Nat → R) (n : Int) (x : R) (hn : n = (x.toNat : Int)) (w : World) :
    Calls Try.prog 17 #[.agg (mcells m), .int .u32 n] w fun e w' => e = .returned (.int .u32 ((ofBits m x 32).toNat : Int)) ∧ Below w.heap.size w w' := by
  subst hn
  go_enter Try.func17, Try.ntmps17
  go_wp2_with (refine wpList_box_row rfl 41 _ rfl (mcells m) rfl ?_)
  refine wp_gen (fun W => Below w.heap.size w W ∧ Blk W w.heap.size (mcells m) 41) ⟨(Below.refl _ _).alloc (Nat.le_refl _) _, Blk.new _ _ _⟩ ?_
  rintro W ⟨hbW, hB⟩
  replace hbW := Lib.hid hbW
  go_loop [5, 7] (fun y i => ∃ k : Nat, k ≤ 32 ∧ i = .int .i64 k ∧ y = .int .u32 ((ofBits m x k).toNat : Int)) (fun _ i => 32 - (intOf i).toNat)
  case atStart => exact ⟨0, Nat.zero_le _, rfl, rfl⟩
  case round =>
    obtain ⟨k, hk, rfl, rfl⟩ := hrel
    by_cases hlt : k < 32
    · have hc := hB.cell k
      rw [mcells_at m k hlt] at hc
      go_wp2
      · have hb : x.getLsbD k = true := by rename_i h; rw [bitk x k]; simpa using h
        refine ⟨⟨k + 1, by omega, by go_num, ?_⟩, by simp [intOf]; omega⟩
        rw [xor32]; simp only [ofBits]; rw [if_pos hb]
      · have hb : ¬ x.getLsbD k = true := by rename_i h; rw [bitk x k]; simpa using h
        refine ⟨⟨k + 1, by omega, by go_num, ?_⟩, by simp [intOf]; omega⟩
        simp only [ofBits]; rw [if_neg hb]
    · obtain rfl : k = 32 := by omega
      go_wp2
      go_ret
      exact ⟨rfl, hbW.out⟩
set_option maxHeartbeats 400000 in
theorem byteSteps_any (w : World) : Calls Try.prog 16 #[] w fun e w' => e = .returned (.agg (mcells fun i => zb (BitVec.twoPow 32 i))) ∧ Below w.heap.size w w' := by
  go_enter Try.func16, Try.ntmps16
  go_wp2
  rw [mcells_zero]
  refine wp_gen (fun W => Below w.heap.size w W ∧ Blk W w.heap.size (mcells fun _ => 0#32) 41 ∧ Blk W (w.heap.size + 1) (mcells fun _ => 0#32) 41) ⟨((Below.refl _ _).alloc (Nat.le_refl _) _).alloc (by simp) _, (Blk.new _ _ _).alloc _, by simpa using Blk.new (w.alloc _) _ _⟩ ?_
  rintro W ⟨hbW, hR, hM⟩
  generalize hB : w.heap.size = B at hbW hR hM ⊢
  go_loopw [3] (fun i wr => ∃ k : Nat, k ≤ 32 ∧ i = .int .i64 k ∧ Below B w wr ∧ Blk wr B (mcells fun _ => 0#32) 41 ∧ Blk wr (B + 1) (mcells fun j => if j < k then zb (BitVec.twoPow 32 j) else 0#32) 41) (fun i _ => 32 - (intOf i).toNat)
  case atStart => exact ⟨0, Nat.zero_le _, rfl, hbW, hR, by simpa using hM⟩
  case round =>
    clear hbW hR hM
    obtain ⟨k, hk, rfl, hbW, hR, hM⟩ := hrel
    by_cases hlt : k < 32
    · have hr := fun (W : World) => run_any ((2 : Int) ^ k % 4294967296) (BitVec.twoPow 32 k) (by rw [BitVec.toNat_twoPow]; simp) ⟨#[0]⟩ W (by decide)
      go_wp2_with (go_at_call 15; refine (hr _).mono ?_; rintro e w1 ⟨rfl, hb1⟩; have hM1 := hM.below hb1; have hR1 := hR.below hb1; have hB1 := below_trans_size hbW hR.lt hb1; have c1 := (hM1.cell k).trans (mcells_at _ k hlt); have f1 := hM1.frozen k; clear hr)
      refine ⟨⟨k + 1, by omega, by go_num, hB1.setCell (by simp) _, hR1.setOther _ (by simp) _, ?_⟩, by simp [intOf]; omega⟩
      have h2 := hM1.set k (.int .u32 ((runB (BitVec.twoPow 32 k) [0]).toNat : Int))
      rw [mcells_set _ _ _ hlt] at h2
      have e2 : upd (fun j => if j < k then zb (BitVec.twoPow 32 j) else 0#32) k (runB (BitVec.twoPow 32 k) [0]) = fun j => if j < k + 1 then zb (BitVec.twoPow 32 j) else 0#32 := by
        funext j
        unfold upd
        by_cases h : j = k
        · subst h
          simp only [if_true]
          rw [if_pos (by omega)]
          show zb (BitVec.twoPow 32 j ^^^ BitVec.ofNat 32 0) = _
          simp
        · simp only [if_neg h]
          by_cases h' : j < k
          · rw [if_pos h', if_pos (by omega)]
          · rw [if_neg h', if_neg (by omega)]
      rw [e2] at h2
      exact h2
    · obtain rfl : k = 32 := by omega
      have hR' := Lib.hid hR.at_
      have hM' := Lib.hid hM.at_
      go_wp2_with (first | (refine wpList_load_row rfl 41 _ rfl (B + 1) rfl 41 _ (0, 0) _ hM'.out Try.underlying41 rfl (by kernel_rfl) ?_) | (refine wpList_store_row rfl 41 _ _ rfl B _ rfl rfl 41 _ hR'.out (by kernel_rfl) rfl (mcells_one _) ?_))
      refine bodyPost_ret (results_cell_row rfl _ _ _ _ _ _ _ rfl (hR.row _).at_ Try.underlying41 rfl (by kernel_rfl)) rfl ⟨?_, ?_⟩
      · rw [mcells_congr _ _ (fun j hj => if_pos hj)]
      · rw [hB]; exact below_setRow hbW _ _ (Nat.le_refl _)
end Go.Proofs.Ytehnppnikoipoaa
