/-
  Bytes: a slice of bytes that came in, or that was made, and a string.
-/
import Derived.Test.YtehnppnikoipoaaKit
import Derived.Laws.BytesArg
import Derived.Lib.SliceRun
namespace Go.Proofs.Ytehnppnikoipoaa
open Go.RowKit
def bval (b : UInt8) : Value := .int .u8 (b.toNat : Int)
/-- The slice's elements, as bytes. -/
structure RdB (W : World) (a : Option Addr) (xs : List UInt8) : Prop where
  nil : a = none → xs = []
  at_ : ∀ j, j < xs.length → ∃ x, a = some x ∧ W.cell? (x.add j) = some (bval (xs.getD j 0))
theorem RdB.grow {W W' : World} {a : Option Addr} {xs : List UInt8} (h : RdB W a xs) (hb : Below W.heap.size W W') : RdB W' a xs :=
  ⟨h.nil, fun j hj => by obtain ⟨x, e, hc⟩ := h.at_ j hj; exact ⟨x, e, pw_cell hb hc⟩⟩
theorem below_drewN (W : World) (n : Nat) : Below W.heap.size W (W.drewN n) := ⟨rfl, rfl, rfl, Nat.le_refl _, fun _ _ => rfl⟩
theorem RdB.drewN {W : World} {a : Option Addr} {xs : List UInt8} (h : RdB W a xs) (n : Nat) : RdB (W.drewN n) a xs := h.grow (below_drewN W n)
def bstr (xs : List UInt8) : ByteArray := ⟨xs.toArray⟩
theorem bstr_list (xs : List UInt8) : (bstr xs).data.toList = xs := rfl
theorem bstr_size (xs : List UInt8) : (bstr xs).size = xs.length := rfl
theorem strOfNums_bytes (xs : List UInt8) : strOfNums (xs.map fun b => (b.toNat : Int)) = bstr xs := by
  unfold strOfNums bstr
  congr 2
  rw [List.map_map]
  conv => rhs; rw [← List.map_id xs]
  apply List.map_congr_left
  intro b _
  simp
theorem rdB_of {w : World} {a : Option Addr} {len cap : Nat} {zs : List Int}
    (h : (a = none ∧ len = 0 ∧ cap = 0 ∧ zs = []) ∨ ∃ x, a = some x ∧ len ≤ cap ∧ cap ≤ maxLen ∧ zs.length = cap ∧ (∀ i, i < zs.length → w.cell? (x.add i) = some (.int .u8 (zs.getD i 0))) ∧ ∀ n ∈ zs, (Lit.int .u8 n).wf = true) :
    ∃ xs : List UInt8, xs.length = len ∧ RdB w a xs := by
  rcases h with ⟨rfl, rfl, rfl, rfl⟩ | ⟨x, rfl, hl, hm, hz, hc, hwf⟩
  · exact ⟨[], rfl, fun _ => rfl, fun j hj => by simp at hj⟩
  · refine ⟨(zs.take len).map fun n => UInt8.ofNat n.toNat, by simp; omega, fun h => (by cases h), fun j hj => ⟨x, rfl, ?_⟩⟩
    have hj' : j < zs.length := by simp at hj; omega
    have hjl : j < len := by simp at hj; omega
    rw [hc j hj']
    have hw := hwf zs[j] (by simp)
    have hb : 0 ≤ zs[j] ∧ zs[j] ≤ 255 := by
      simp [Lit.wf, IntKind.min, IntKind.max, IntKind.bits, IntKind.signed] at hw
      omega
    simp only [bval, List.getD_eq_getElem?_getD, List.getElem?_map, List.getElem?_take, if_pos hjl, List.getElem?_eq_getElem hj', Option.map_some, Option.getD_some]
    congr 2
    simp
    omega
theorem RdB.load {P : Program} {W : World} {x : Addr} {xs : List UInt8} (h : RdB W (some x) xs) : (loadCells x xs.length).run P W = .ok ((xs.map fun b => (b.toNat : Int)).map (Value.int .u8)).toArray W := by
  have := run_loadCells_list (P := P) W x ((xs.map fun b => (b.toNat : Int)).map (Value.int .u8)) (fun j v hj => by
    have hjl : j < xs.length := by
      rcases Nat.lt_or_ge j xs.length with h | h
      · exact h
      · rw [List.getElem?_eq_none (by simpa using h)] at hj
        cases hj
    obtain ⟨y, e, hc⟩ := h.at_ j hjl
    obtain rfl : x = y := Option.some.inj e
    rw [hc]
    simp [List.getElem?_eq_getElem hjl] at hj
    subst hj
    simp [bval, List.getD, List.getElem?_eq_getElem hjl])
  simpa using this
theorem RdB.str {P : Program} {W : World} {a : Option Addr} {xs : List UInt8} (h : RdB W a xs) (src e dst : TypeId) (n c : Nat) (hn : n = xs.length) (hs : P.underlying src = some (.slice e)) (he : P.underlying e = some (.int .u8)) (hd : P.underlying dst = some .string) :
    (convert src dst (.slice a n c)).run P W = .ok (.string (bstr xs)) W := by
  subst hn
  cases a with
  | none =>
    obtain rfl := h.nil rfl
    exact run_convert_bytes_nil W src e hs he 0 c dst hd
  | some x =>
    rw [← strOfNums_bytes xs, run_convert_bytes_string W src dst e _ _ c hs he hd, run_bytesToString W _ _ c _ h.load, foldl_push_bytes]
    simp [strOfNums, ByteArray.empty, ByteArray.emptyWithCapacity]
    rfl
end Go.Proofs.Ytehnppnikoipoaa
