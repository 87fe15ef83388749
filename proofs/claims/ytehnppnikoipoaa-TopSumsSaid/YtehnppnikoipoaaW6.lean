import Derived.Test.YtehnppnikoipoaaW5
namespace Go.Proofs.Ytehnppnikoipoaa
open Go.RowKit Go.Proofs.Sums
theorem adl_snoc (x : Int × Int) (s : ByteArray) (k : Nat) (h : k < s.size) : adl x (s.data.toList.take (k + 1)) = adlStep (adl x (s.data.toList.take k)) s[k] := by
  rw [take_snoc s k h, adl_append]; rfl
set_option maxHeartbeats 400000 in
theorem halves_any (l h : Int) (s : ByteArray) (w : World) (hs : s.size ≤ maxLen) (hl : 0 ≤ l ∧ l < 65521) (hh : 0 ≤ h ∧ h < 65521) :
    Calls Try.prog 9 #[.int .i64 l, .int .i64 h, .string s] w fun e w' => e = .returned (.tuple #[.int .i64 (adl (l, h) s.data.toList).1, .int .i64 (adl (l, h) s.data.toList).2]) ∧ w = w' := by
  unfold maxLen at hs
  have hbd0 := fun k => adl_bd (l, h) (s.data.toList.take k) ⟨hl.1, hl.2, hh.1, hh.2⟩
  replace hbd0 := Lib.hid hbd0
  go_enter Try.func9, Try.ntmps9
  go_wp2
  go_loop [0, 1, 11] (fun x y i => ∃ k : Nat, k ≤ s.size ∧ i = .int .i64 k ∧ x = .int .i64 (adl (l, h) (s.data.toList.take k)).1 ∧ y = .int .i64 (adl (l, h) (s.data.toList.take k)).2) (fun _ _ i => s.size - (intOf i).toNat)
  case atStart => exact ⟨0, Nat.zero_le _, rfl, rfl, rfl⟩
  case round =>
    obtain ⟨k, hk, rfl, rfl, rfl⟩ := hrel
    by_cases hlt : k < s.size
    · have hsn := Lib.hid (adl_snoc (l, h) s k hlt)
      have hbd := hbd0.out k
      generalize adl (l, h) (s.data.toList.take k) = z at *
      obtain ⟨z1, z2⟩ := z
      simp only at hbd
      have hb8 := s[k].toNat_lt
      obtain ⟨b1, b2, b3, b4⟩ := hbd
      go_wp2
      refine ⟨⟨k + 1, by omega, by go_num, ?_, ?_⟩, by simp [intOf]; omega⟩
      · rw [hsn.out]; rfl
      · rw [hsn.out]; rfl
    · obtain rfl : k = s.size := by omega
      go_wp2
      go_ret2
      exact ⟨by rw [List.take_of_length_le (by simp)]; rfl, rfl⟩
structure Cells2 (g : Nat) (x y : Int) (t : TypeId) (w W : World) : Prop where
  b : Below g w W
  k : Blk W g #[.int .i64 x, .int .i64 y] t
theorem Cells2.c0 {g : Nat} {x y : Int} {t : TypeId} {w W : World} (h : Cells2 g x y t w W) : W.cell? ⟨g, 0, none⟩ = some (.int .i64 x) := h.k.cell 0
theorem Cells2.c1 {g : Nat} {x y : Int} {t : TypeId} {w W : World} (h : Cells2 g x y t w W) : W.cell? ⟨g, 1, none⟩ = some (.int .i64 y) := h.k.cell 1
set_option maxHeartbeats 400000 in
theorem grow_any (g : Nat) (x y : Int) (t : TypeId) (c : UInt8) (w : World) (hB : Blk w g #[.int .i64 x, .int .i64 y] t) (hx : 0 ≤ x ∧ x < 65521) (hy : 0 ≤ y ∧ y < 65521) :
    Calls Try.prog 24 #[.pointer (some ⟨g, 0, none⟩), .int .u8 (c.toNat : Int)] w fun e w' => e = .returned (.tuple #[]) ∧ Cells2 g (adlStep (x, y) c).1 (adlStep (x, y) c).2 t w w' := by
  have c0 : w.cell? ⟨g, 0, none⟩ = some (.int .i64 x) := hB.cell 0
  have c1 : w.cell? ⟨g, 1, none⟩ = some (.int .i64 y) := hB.cell 1
  have f0 := hB.frozen 0
  have f1 := hB.frozen 1
  have h8 := c.toNat_lt
  obtain ⟨x1, x2⟩ := hx
  obtain ⟨y1, y2⟩ := hy
  go_enter Try.func24, Try.ntmps24
  go_wp2
  have z0 : 0 ≤ (x + (c.toNat : Int)) % 65521 ∧ (x + (c.toNat : Int)) % 65521 < 65521 := by omega
  obtain ⟨z, hz⟩ : ∃ z, (x + (c.toNat : Int)) % 65521 = z := ⟨_, rfl⟩
  rw [hz] at z0
  refine wp_gen (Cells2 g z y t w) ⟨(Below.refl _ _).setCell (p := ⟨g, 0, none⟩) (Nat.le_refl _) _, by rw [← hz]; exact hB.set 0 _⟩ ?_
  rintro W0 hW0
  have e1 : Hid ((adlStep (x, y) c) = (z, (y + z) % 65521)) := Lib.hid (by unfold adlStep; simp only; rw [hz])
  replace hz := Lib.hid hz
  clear c0 c1 f0 f1 hB
  obtain ⟨z1, z2⟩ := z0
  refine wp_region_quiet_last _ (Cells2 g z y t w) rfl (by kernel_rfl) (by kernel_rfl) (by kernel_rfl) ⟨hW0.b.drew, hW0.k.drew⟩ ?_
  dsimp only [List.dropLast]
  repeat (refine quiet_value rfl ?_ (fun W hW => ?_) ?_; rotate_left; · (have c0 := hW.c0; have c1 := hW.c1; go_simp; rfl))
  refine wpQuiet_nil ?_
  intro W hW
  have c0 := hW.c0
  have c1 := hW.c1
  have f1 := hW.k.frozen 1
  go_wp2
  go_end0
  rw [e1.out]
  exact ⟨rfl, hW.b.setCell (p := ⟨g, 1, none⟩) (Nat.le_refl _) _, hW.k.set 1 _⟩
set_option maxHeartbeats 400000 in
theorem told_any (x y : Int) (w : World) (hx : 0 ≤ x ∧ x < 65521) (hy : 0 ≤ y ∧ y < 65521) :
    Calls Try.prog 22 #[.agg #[.int .i64 x, .int .i64 y]] w fun e w' => e = .returned (.int .i64 (toldA (x, y))) ∧ Below w.heap.size w w' := by
  obtain ⟨x1, x2⟩ := hx
  obtain ⟨y1, y2⟩ := hy
  go_enter Try.func22, Try.ntmps22
  go_wp2
  go_ret
  exact ⟨rfl, (Below.refl _ _).alloc (Nat.le_refl _) _⟩
structure TakeC (g : Nat) (x : Int × Int) (t : TypeId) (w W : World) : Prop where
  c : Cells2 g x.1 x.2 t w W
set_option maxHeartbeats 400000 in
theorem take_any (g : Nat) (x : Int × Int) (t : TypeId) (s : ByteArray) (w : World) (hg : g < w.heap.size) (hB : Blk w g #[.int .i64 x.1, .int .i64 x.2] t) (hx : 0 ≤ x.1 ∧ x.1 < 65521 ∧ 0 ≤ x.2 ∧ x.2 < 65521) (hs : s.size ≤ maxLen) :
    Calls Try.prog 21 #[.pointer (some ⟨g, 0, none⟩), .string s] w fun e w' => e = .returned (.int .i64 (toldA (adl x s.data.toList))) ∧ Below g w w' := by
  unfold maxLen at hs
  have hbd0 := fun k => adl_bd x (s.data.toList.take k) hx
  replace hbd0 := Lib.hid hbd0
  go_enter Try.func21, Try.ntmps21
  go_wp2
  go_loopw [8] (fun i wr => ∃ k : Nat, k ≤ s.size ∧ i = .int .i64 k ∧ TakeC g (adl x (s.data.toList.take k)) t w wr) (fun i _ => s.size - (intOf i).toNat)
  case atStart => exact ⟨0, Nat.zero_le _, rfl, ⟨⟨Below.refl _ _, hB⟩⟩⟩
  case round =>
    clear hB
    obtain ⟨k, hk, rfl, hW⟩ := hrel
    by_cases hlt : k < s.size
    · have hsn := Lib.hid (adl_snoc x s k hlt)
      have hbd := hbd0.out k
      generalize adl x (s.data.toList.take k) = z at *
      obtain ⟨z1, z2⟩ := z
      simp only at hbd
      have hg8 := fun (W : World) (hW : TakeC g (z1, z2) t w W) => grow_any g z1 z2 t s[k] W hW.c.k ⟨hbd.1, hbd.2.1⟩ hbd.2.2
      replace hg8 := Lib.hid hg8
      go_wp2_with fail
      refine wp_region_quiet_last _ (TakeC g (z1, z2) t w) rfl (by kernel_rfl) (by kernel_rfl) (by kernel_rfl) ⟨⟨hW.c.b.drew, hW.c.k.drew⟩⟩ ?_
      dsimp only [List.dropLast]
      repeat (refine quiet_value rfl ?_ (fun W hW => ?_) ?_; rotate_left; · (go_simp; rfl))
      refine wpQuiet_nil ?_
      intro W1 hW1
      go_wp2_with (go_at_call 24; refine (hg8.out W1 hW1).mono ?_; rintro e w2 ⟨rfl, hW2⟩)
      refine ⟨⟨k + 1, by omega, by go_num, ?_⟩, by simp [intOf]; omega⟩
      rw [hsn.out]
      exact ⟨⟨hW1.c.b.trans hW2.b, hW2.k⟩⟩
    · obtain rfl : k = s.size := by omega
      have hbd := hbd0.out s.size
      rw [List.take_of_length_le (by simp)] at hW hbd
      have hbd' := Lib.hid hbd
      have c0 := hW.c.c0
      have c1 := hW.c.c1
      generalize hz : adl x s.data.toList = z at *
      replace hz := Lib.hid hz
      clear hbd
      go_wp2_with (go_at_call 22; refine (told_any _ _ _ ⟨hbd'.out.1, hbd'.out.2.1⟩ hbd'.out.2.2).mono ?_; rintro e w' ⟨rfl, hb⟩)
      go_ret
      exact ⟨by rw [hz.out]; rfl, hW.c.b.trans ⟨hb.os, hb.tape, hb.output, hb.size, fun i hi => hb.block i (by have := hW.c.b.size; omega)⟩⟩
end Go.Proofs.Ytehnppnikoipoaa
