/-
  Laws of my own for walks: arrays by value, worlds under a name.
-/
import Derived.WalkKit
import Derived.BigQuiet
import Derived.Deep.QuietTactic
import Derived.Lib.Hide
import Derived.KernelRfl
import Derived.Laws.StructEq
namespace Go.Proofs.Ytehnppnikoipoaa
open Go.RowKit
theorem ret_int {k : IntKind} {a b : Int} (h : a = b) : Ending.returned (.int k a) = .returned (.int k b) := by rw [h]
theorem bcell {W w1 : World} (hb : Below W.heap.size W w1) : (∀ b o, b < W.heap.size → w1.cell? ⟨b, o, none⟩ = W.cell? ⟨b, o, none⟩) ∧ (∀ b o, b < W.heap.size → w1.frozen? ⟨b, o, none⟩ = W.frozen? ⟨b, o, none⟩) :=
  ⟨fun b o h => hb.cell (p := ⟨b, o, none⟩) h, fun b o h => hb.frozen (p := ⟨b, o, none⟩) h⟩
section
variable {P : Program} {ops : Array Oper} {rest : List Oper} {o : Oper} {c : Code} {Q : Exit → Act → World → Prop} {a : Act} {w : World}
/-- The world under a name, with what is to be known of it. -/
theorem wp_gen (F : World → Prop) (hF : F w) (h : ∀ W, F W → c.wp P Q a W) : c.wp P Q a w := h w hF
theorem wpList_gen (F : World → Prop) (hF : F w) (h : ∀ W, F W → wpList P ops Q rest a W) : wpList P ops Q rest a w := h w hF
/-- An array or a struct put together. -/
theorem wpList_built (hg : o.guard = none) (t : TypeId) (parts : Array (Nat × Operand)) (ho : o.op = .build t parts) (cells : Array Value)
    (hf : P.built t (parts.map fun (i, x) => (i, a.eval x)).toList = some cells)
    (h : wpList P ops Q rest (a.put o.dst (.agg cells)) w) : wpList P ops Q (o :: rest) a w :=
  wpList_build hg t parts ho (by rw [hf]; rfl) (by rw [hf]; exact h)
end
theorem alloc_setRow (w : World) (A B : Array Value) (t : TypeId) : (w.alloc (.cells A t)).setRow w.heap.size B = w.alloc (.cells B t) := by
  unfold World.setRow World.alloc
  simp only
  congr 1
  apply Array.ext
  · simp
  · intro i h1 h2
    simp only [Array.getElem_modify, Array.getElem_push]
    split
    · rename_i hi
      rw [dif_neg (by omega), dif_neg (by omega)]
    · rename_i hi
      simp at h2
      rw [dif_pos (by omega), dif_pos (by omega)]
/-- A variable's new block is filled with a whole row. -/
theorem wpList_store_new {P : Program} {ops : Array Oper} {rest : List Oper} {o : Oper} {a : Act} {w : World} {Q : Exit → Act → World → Prop} (hgd : o.guard = none) (ty : TypeId) (x y : Operand) (ho : o.op = .store ty x y)
    (cells : Array Value) (hx : a.eval x = .pointer (some ⟨w.heap.size, 0, none⟩)) (hy : a.eval y = .agg cells)
    (t : TypeId) (old : Array Value) (hi : (P.info? ty).map (·.size) = some cells.size)
    (hold : old.size = cells.size) (h1 : cells.all (·.oneCell') = true)
    (h : wpList P ops Q rest (a.put o.dst undef) (w.alloc (.cells cells t))) : wpList P ops Q (o :: rest) a (w.alloc (.cells old t)) :=
  wpList_store_row hgd ty x y ho w.heap.size cells hx hy t old (heap_alloc_new _ _) hi hold h1 (by rw [alloc_setRow]; exact h)
/-- A block's cells under one name. -/
structure Blk (W : World) (b : Nat) (cs : Array Value) (t : TypeId) : Prop where
  at_ : W.heap[b]? = some (.cells cs t (0, 0))
theorem Blk.cell {W : World} {b : Nat} {cs : Array Value} {t : TypeId} (h : Blk W b cs t) (j : Nat) : W.cell? ⟨b, j, none⟩ = cs[j]? := cell_of_row _ _ _ _ _ _ h.at_
theorem Blk.frozen {W : World} {b : Nat} {cs : Array Value} {t : TypeId} (h : Blk W b cs t) (j : Nat) : W.frozen? ⟨b, j, none⟩ = false := frozen_of_row _ _ _ _ _ h.at_
theorem Blk.lt {W : World} {b : Nat} {cs : Array Value} {t : TypeId} (h : Blk W b cs t) : b < W.heap.size := (Array.getElem?_eq_some_iff.1 h.at_).1
theorem Blk.new (w : World) (cs : Array Value) (t : TypeId) : Blk (w.alloc (.cells cs t)) w.heap.size cs t := ⟨heap_alloc_new _ _⟩
theorem Blk.alloc {W : World} {b : Nat} {cs : Array Value} {t : TypeId} (h : Blk W b cs t) (o : Obj) : Blk (W.alloc o) b cs t := ⟨by rw [heap_alloc_old _ _ h.lt]; exact h.at_⟩
theorem Blk.drew {W : World} {b : Nat} {cs : Array Value} {t : TypeId} (h : Blk W b cs t) : Blk W.drew b cs t := ⟨h.at_⟩
theorem Blk.below {W W' : World} {b : Nat} {cs : Array Value} {t : TypeId} (h : Blk W b cs t) (hb : Below W.heap.size W W') : Blk W' b cs t := ⟨(hb.block b h.lt).trans h.at_⟩
theorem Blk.set {W : World} {b : Nat} {cs : Array Value} {t : TypeId} (h : Blk W b cs t) (j : Nat) (v : Value) : Blk (W.setCell ⟨b, j, none⟩ v) b (cs.setIfInBounds j v) t := ⟨heap_setCell_same _ _ _ _ _ _ h.at_⟩
theorem Blk.setOther {W : World} {b : Nat} {cs : Array Value} {t : TypeId} (h : Blk W b cs t) (p : Addr) (hp : b ≠ p.block) (v : Value) : Blk (W.setCell p v) b cs t := ⟨(heap_setCell_other _ _ _ _ hp).trans h.at_⟩
theorem Blk.row {W : World} {b : Nat} {cs : Array Value} {t : TypeId} (h : Blk W b cs t) (c' : Array Value) : Blk (W.setRow b c') b c' t := ⟨setRow_heap _ _ _ _ _ _ h.at_⟩
theorem Blk.rowOther {W : World} {b : Nat} {cs : Array Value} {t : TypeId} (h : Blk W b cs t) (g : Nat) (c' : Array Value) (hg : b ≠ g) : Blk (W.setRow g c') b cs t := ⟨(setRow_other _ _ _ _ hg).trans h.at_⟩
theorem below_setRow {B : Nat} {w W : World} (h : Below B w W) (g : Nat) (cs : Array Value) (hg : B ≤ g) : Below B w (W.setRow g cs) :=
  ⟨h.os, h.tape, h.output, by simpa using h.size, fun i hi => (setRow_other _ _ _ _ (by omega)).trans (h.block i hi)⟩
/-! Two structs held against each other, field by field. -/
section
variable {P : Program} {d : Nat} {xs ys : Array Value} {f : Field} {fs : List Field} {a b : Value} {r s : Bool} {w : World}
theorem eqFields_nil : (Op.eqFields d xs ys []).run P w = .ok true w := by simp [Op.eqFields]
theorem eqFields_cons (hn : (f.name == "_") = false) (ha : (part f.type xs f.offset).run P w = .ok a w) (hb : (part f.type ys f.offset).run P w = .ok b w) (he : (Op.equalIn d f.type a b).run P w = .ok r w)
    (hr : (Op.eqFields d xs ys fs).run P w = .ok s w) : (Op.eqFields d xs ys (f :: fs)).run P w = .ok (r && s) w := by
  have hn' : ¬ f.name = "_" := by simpa using hn
  cases r <;> simp [Op.eqFields, hn', Sem.run_bind, ha, hb, he, hr]
theorem eql_struct {t : TypeId} {fs : Array Field} (hu : P.underlying t = some (.struct fs)) (hp : P.stoodInHeld t = false) (h : (Op.eqFields 9999 xs ys fs.toList).run P w = .ok r w) :
    (Go.binOp .eql t (.agg xs) (.agg ys)).run P w = .ok (.bool r) w := by
  have hf : P.fieldsOf t = fs := by simp [Program.fieldsOf, hu]
  rw [run_eql_struct, run_equalIn_struct (P := P) w 9999 t xs ys (by rw [hf]; exact hu) hp, hf, h]
  rfl
theorem neq_struct {t : TypeId} {fs : Array Field} (hu : P.underlying t = some (.struct fs)) (hp : P.stoodInHeld t = false) (h : (Op.eqFields 9999 xs ys fs.toList).run P w = .ok r w) :
    (Go.binOp .neq t (.agg xs) (.agg ys)).run P w = .ok (.bool (!r)) w := by
  have hf : P.fieldsOf t = fs := by simp [Program.fieldsOf, hu]
  rw [run_neq_struct, run_equalIn_struct (P := P) w 9999 t xs ys (by rw [hf]; exact hu) hp, hf, h]
  rfl
end
theorem pw_cell {w w1 : World} (h : Below w.heap.size w w1) {a : Addr} {v : Value} (hc : w.cell? a = some v) : w1.cell? a = some v := (h.cell (World.block_lt_of_cell? w a hc)).trans hc
theorem _root_.Go.RowKit.Below.grow {w W W' : World} (h : Below w.heap.size w W) (h' : Below W.heap.size W W') : Below w.heap.size w W' :=
  h.trans ⟨h'.os, h'.tape, h'.output, h'.size, fun i hi => h'.block i (by have := h.size; omega)⟩
end Go.Proofs.Ytehnppnikoipoaa
