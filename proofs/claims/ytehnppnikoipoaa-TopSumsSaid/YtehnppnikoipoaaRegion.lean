/-
  A law of my own on a statement whose order is open: all its operations but the last one are quiet in a class of worlds, and the last one waits for all of them.
-/
import Derived.Test.YtehnppnikoipoaaKit
import Derived.Deep.Quiet
import Derived.Orders
namespace Go.Proofs.Ytehnppnikoipoaa
open Go.RowKit

def tailB (hd : Array Oper) (last : Oper) : Bool :=
  (List.range hd.size).all (fun i => match hd[i]? with
    | none => false
    | some o => o.after.all (fun e => !Region.binds .any e || decide (e.on < i)) && (match o.guard with | none => true | some (j, _) => decide (j < hd.size))) &&
  (List.range hd.size).all (fun i => (last.after.any fun e => Region.binds .any e && e.on == i) || (List.range hd.size).any fun j => decide (i < j) && match hd[j]? with
    | none => false
    | some o => o.after.any fun e => Region.binds .any e && e.on == i) &&
  last.after.all (fun e => decide (e.on < hd.size)) && last.guard.isNone

section
variable {P : Program} {hd : Array Oper} {last : Oper}

structure Tail (hd : Array Oper) (last : Oper) : Prop where
  low : ∀ (i : Nat) (o : Oper), hd[i]? = some o → ∀ e ∈ o.after, Region.binds .any e = true → e.on < i
  guard : ∀ (i : Nat) (o : Oper), hd[i]? = some o → ∀ j b, o.guard = some (j, b) → j < hd.size
  all : ∀ i, i < hd.size → (∃ e ∈ last.after, Region.binds .any e = true ∧ e.on = i) ∨ ∃ j o, i < j ∧ hd[j]? = some o ∧ ∃ e ∈ o.after, Region.binds .any e = true ∧ e.on = i
  inn : ∀ e ∈ last.after, e.on < hd.size
  free : last.guard = none

theorem Tail.of (h : tailB hd last = true) : Tail hd last := by
  simp only [tailB, Bool.and_eq_true, List.all_eq_true, List.mem_range] at h
  obtain ⟨⟨⟨h1, h2⟩, h3⟩, h4⟩ := h
  have h1' : ∀ (i : Nat) (o : Oper), hd[i]? = some o → (∀ e ∈ o.after, Region.binds .any e = true → e.on < i) ∧ (∀ j b, o.guard = some (j, b) → j < hd.size) := by
    intro i o ho
    have hi : i < hd.size := (Array.getElem?_eq_some_iff.1 ho).1
    have := h1 i hi
    rw [ho] at this
    simp only [Bool.and_eq_true] at this
    refine ⟨fun e he hb => ?_, fun j b hj => ?_⟩
    · have := (Array.all_eq_true_iff_forall_mem.1 this.1) e he
      simpa [hb] using this
    · have := this.2
      rw [hj] at this
      simpa using this
  refine ⟨fun i o ho => (h1' i o ho).1, fun i o ho => (h1' i o ho).2, fun i hi => ?_, fun e he => ?_, by simpa using h4⟩
  · have h2' := h2 i hi
    rw [Bool.or_eq_true] at h2'
    rcases h2' with h2' | h2'
    · obtain ⟨e, he, hb⟩ := Array.any_eq_true'.1 h2'
      simp only [Bool.and_eq_true, beq_iff_eq] at hb
      exact .inl ⟨e, he, hb.1, hb.2⟩
    · obtain ⟨j, _, hj⟩ := List.any_eq_true.1 h2'
      simp only [Bool.and_eq_true, decide_eq_true_eq] at hj
      obtain ⟨hij, hj⟩ := hj
      cases ho : hd[j]? with
      | none => rw [ho] at hj; cases hj
      | some o =>
        rw [ho] at hj
        obtain ⟨e, he, hb⟩ := Array.any_eq_true'.1 hj
        simp only [Bool.and_eq_true, beq_iff_eq] at hb
        exact .inr ⟨j, o, hij, ho, e, he, hb.1, hb.2⟩
  · simpa using (Array.all_eq_true_iff_forall_mem.1 h3) e he

/-- What is asked behind the head. -/
def thenLast (P : Program) (hd : Array Oper) (last : Oper) (Q : Exit → Act → World → Prop) : Exit → Act → World → Prop
  | .normal, a, w => wpList P (hd.push last) Q [last] a w
  | e, a, w => Q e a w

theorem wpOp_push (ht : Tail hd last) {Q : Exit → Act → World → Prop} {i : Nat} (hi : i < hd.size) {K K' : Act → World → Prop} {a : Act} {w : World} (hK : ∀ a w, K a w → K' a w)
    (h : wpOp P hd (thenLast P hd last Q) i K a w) : wpOp P (hd.push last) Q i K' a w := by
  have hget : (hd.push last)[i]? = hd[i]? := by rw [Array.getElem?_push, if_neg (by omega)]
  obtain ⟨o, ho⟩ : ∃ o, hd[i]? = some o := ⟨hd[i], Array.getElem?_eq_getElem hi⟩
  unfold wpOp at h ⊢
  rw [hget]
  simp only [ho] at h ⊢
  have hw : Region.wanted o (yielded (hd.push last) a.tmps) = Region.wanted o (yielded hd a.tmps) := by
    unfold Region.wanted
    cases hg : o.guard with
    | none => rfl
    | some p =>
      obtain ⟨j, b⟩ := p
      have hj := ht.guard i o ho j b hg
      have : (hd.push last)[j]? = hd[j]? := by rw [Array.getElem?_push, if_neg (by omega)]
      simp only [yielded, this]
  rw [hw]
  split
  · rename_i hwt
    rw [if_pos hwt] at h
    rcases h with h | ⟨h, hl⟩
    · left
      unfold Oper.wp at *
      generalize (execOp a.eval o).run P w = r at *
      cases r with
      | ok n w' =>
        cases n <;> simp only [Oper.upon] at h ⊢ <;>
          first
            | exact hK _ _ h
            | exact Calls.mono h (fun e w'' he => by cases e <;> first | exact hK _ _ he | exact he)
            | exact Rows.mono h (fun _ _ he => hK _ _ he)
      | halt x w' => cases x <;> simp only [Oper.upon] at h ⊢ <;> exact h
    · exact .inr ⟨h, hl⟩
  · rename_i hwf
    rw [if_neg hwf] at h
    exact hK _ _ h

def unlisted (l : Array Bool) : Nat := l.toList.countP (· == false)

theorem ready_some (ht : Tail hd last) (listed : Array Bool) (hs : listed.size = hd.size) (hn : Region.ready .any hd listed = []) : ∀ i, i < hd.size → listed.getD i true = true := by
  intro i
  induction i using Nat.strongRecOn with
  | _ i ih =>
    intro hi
    cases hl : listed.getD i true with
    | true => rfl
    | false =>
      exfalso
      have : i ∈ Region.ready .any hd listed := by
        refine mem_ready.2 ⟨hl, hd[i], Array.getElem?_eq_getElem hi, fun e he hb => ?_⟩
        have hlt := ht.low i hd[i] (Array.getElem?_eq_getElem hi) e he hb
        have := ih e.on hlt (by omega)
        have hin : e.on < listed.size := by omega
        simpa [hin] using this
      rw [hn] at this
      cases this

theorem getD_push_lt (l : Array Bool) (i : Nat) (d : Bool) (h : i < l.size) : (l.push false).getD i d = l.getD i d := by
  simp only [Array.getD_eq_getD_getElem?, Array.getElem?_push, if_neg (show ¬ i = l.size by omega)]

theorem ready_push (ht : Tail hd last) (listed : Array Bool) (hs : listed.size = hd.size) (i : Nat) (hi : i < hd.size) : i ∈ Region.ready .any (hd.push last) (listed.push false) ↔ i ∈ Region.ready .any hd listed := by
  have hget : (hd.push last)[i]? = hd[i]? := by rw [Array.getElem?_push, if_neg (by omega)]
  rw [mem_ready, mem_ready, hget, getD_push_lt _ _ _ (by omega)]
  constructor
  · rintro ⟨h1, o, ho, h2⟩
    refine ⟨h1, o, ho, fun e he hb => ?_⟩
    have := h2 e he hb
    rwa [getD_push_lt _ _ _ (by have := ht.low i o ho e he hb; omega)] at this
  · rintro ⟨h1, o, ho, h2⟩
    refine ⟨h1, o, ho, fun e he hb => ?_⟩
    rw [getD_push_lt _ _ _ (by have := ht.low i o ho e he hb; omega)]
    exact h2 e he hb

theorem ready_lt (listed : Array Bool) (ops : Array Oper) (i : Nat) (h : i ∈ Region.ready .any ops listed) : i < ops.size := by
  obtain ⟨_, o, ho, _⟩ := mem_ready.1 h
  exact (Array.getElem?_eq_some_iff.1 ho).1

/-- All of the head is listed: the last one comes up, and nothing behind it. -/
theorem wpAny_last (ht : Tail hd last) {Q : Exit → Act → World → Prop} (listed : Array Bool) (hs : listed.size = hd.size) (hall : ∀ i, i < hd.size → listed.getD i true = true) (a : Act) (w : World)
    (h : wpList P (hd.push last) Q [last] a w) : wpAny P .any (hd.push last) Q 1 (listed.push false) a w := by
  have hlast : (hd.push last)[hd.size]? = some last := by simp
  have hD : ∀ i, i < hd.size → listed.getD i false = true := fun i hi => by
    have := hall i hi
    have hin : i < listed.size := by omega
    simpa [hin] using this
  have hr : ∀ i, i ∈ Region.ready .any (hd.push last) (listed.push false) → i = hd.size := by
    intro i hi
    have hlt := ready_lt _ _ _ hi
    simp only [Array.size_push] at hlt
    by_cases hh : i < hd.size
    · have := (mem_ready.1 hi).1
      rw [getD_push_lt _ _ _ (by omega), hall i hh] at this
      cases this
    · omega
  have hin : hd.size ∈ Region.ready .any (hd.push last) (listed.push false) := by
    refine mem_ready.2 ⟨by simp [← hs], last, hlast, fun e he hb => ?_⟩
    have := ht.inn e he
    rw [getD_push_lt _ _ _ (by omega)]
    exact hD _ this
  refine ⟨fun h0 => (by rw [h0] at hin; cases hin), fun i hi => ?_⟩
  obtain rfl := hr i hi
  unfold wpOp
  simp only [hlast]
  unfold wpList at h
  have hlist : wpList P (hd.push last) Q [] = wpAny P .any (hd.push last) Q 0 ((listed.push false).setIfInBounds hd.size true) := by
    funext a' w'
    simp only [wpList, wpAny, eq_iff_iff]
    refine ⟨fun hq => ⟨?_, hq⟩, fun hq => hq.2⟩
    cases hx : Region.ready .any (hd.push last) ((listed.push false).setIfInBounds hd.size true) with
    | nil => rfl
    | cons x xs =>
      exfalso
      have hxm : x ∈ Region.ready .any (hd.push last) ((listed.push false).setIfInBounds hd.size true) := by rw [hx]; simp
      have hlt := ready_lt _ _ _ hxm
      simp only [Array.size_push] at hlt
      have h1 := (mem_ready.1 hxm).1
      by_cases hxe : x = hd.size
      · subst hxe
        simp [← hs] at h1
      · rw [getD_set_ne true (by omega), getD_push_lt _ _ _ (by omega), hall x (by omega)] at h1
        cases h1
  rw [← hlist]
  exact h

theorem unlisted_set (l : Array Bool) (i : Nat) (hi : i < l.size) (h : l.getD i true = false) : unlisted l = unlisted (l.setIfInBounds i true) + 1 := by
  have hv : l[i] = false := by simpa [hi] using h
  unfold unlisted
  rw [Array.toList_setIfInBounds]
  have hlen : i < l.toList.length := by simpa using hi
  have hv' : l.toList[i] = false := by simpa using hv
  have e1 : l.toList = l.toList.take i ++ l.toList[i] :: l.toList.drop (i + 1) := by rw [← List.drop_eq_getElem_cons hlen, List.take_append_drop]
  have e2 : l.toList.set i true = l.toList.take i ++ true :: l.toList.drop (i + 1) := by rw [List.set_eq_take_append_cons_drop, if_pos hlen]
  conv => lhs; rw [e1]
  rw [e2, List.countP_append, List.countP_append, List.countP_cons, List.countP_cons, hv']
  simp; omega

theorem unlisted_zero (l : Array Bool) (h : unlisted l = 0) (i : Nat) (hi : i < l.size) : l.getD i true = true := by
  unfold unlisted at h
  rw [List.countP_eq_zero] at h
  have := h l[i] (by simp)
  simp [hi]
  simpa using this

def Closed (hd : Array Oper) (listed : Array Bool) : Prop := ∀ (j : Nat) (o : Oper), hd[j]? = some o → listed.getD j false = true → ∀ e ∈ o.after, Region.binds .any e = true → listed.getD e.on false = true
theorem closed_set {listed : Array Bool} {i : Nat} (hs : listed.size = hd.size) (hc : Closed hd listed) (hi : i ∈ Region.ready .any hd listed) : Closed hd (listed.setIfInBounds i true) := by
  obtain ⟨_, oi, hoi, hall⟩ := mem_ready.1 hi
  intro j o ho hl e he hb
  by_cases hij : i = j
  · subst hij
    obtain rfl : o = oi := Option.some.inj (ho.symm.trans hoi)
    exact getD_set_true (hall e he hb)
  · rw [getD_set_ne false hij] at hl
    exact getD_set_true (hc j o ho hl e he hb)
theorem getD_replicate_false (m j : Nat) : (Array.replicate m false).getD j false = false := by
  rcases Nat.lt_or_ge j m with h | h
  · simp [h]
  · simp [h]
theorem all_listed (ht : Tail hd last) (listed : Array Bool) (hs : listed.size = hd.size) (hc : Closed hd listed) (hl : ∀ e ∈ last.after, Region.binds .any e = true → listed.getD e.on false = true) :
    ∀ (d i : Nat), hd.size - i = d → i < hd.size → listed.getD i false = true := by
  intro d
  induction d using Nat.strongRecOn with
  | _ d ih =>
    intro i hd' hi
    rcases ht.all i hi with ⟨e, he, hb, rfl⟩ | ⟨j, o, hij, ho, e, he, hb, rfl⟩
    · exact hl e he hb
    · have hj : j < hd.size := (Array.getElem?_eq_some_iff.1 ho).1
      exact hc j o ho (ih (hd.size - j) (by omega) j rfl hj) e he hb
theorem wpAny_push (ht : Tail hd last) {Q : Exit → Act → World → Prop} : ∀ (fuel : Nat) (listed : Array Bool) (a : Act) (w : World), listed.size = hd.size → Closed hd listed → unlisted listed = fuel →
    wpAny P .any hd (thenLast P hd last Q) fuel listed a w → wpAny P .any (hd.push last) Q (fuel + 1) (listed.push false) a w
  | 0, listed, a, w, hs, hc, hu, h => wpAny_last ht listed hs (fun i hi => unlisted_zero _ hu _ (by omega)) a w h.2
  | fuel + 1, listed, a, w, hs, hc, hu, h => by
    have hex : ∃ i, i < hd.size ∧ listed.getD i true = false := by
      apply Classical.byContradiction
      intro hne
      have hz : unlisted listed = 0 := by
        unfold unlisted
        rw [List.countP_eq_zero]
        intro b hb
        obtain ⟨i, hi, rfl⟩ := List.mem_iff_getElem.1 hb
        have hi' : i < listed.size := by simpa using hi
        intro hf
        apply hne
        refine ⟨i, by omega, ?_⟩
        simp [hi']
        simpa using hf
      omega
    refine ⟨fun h0 => ?_, fun i hi => ?_⟩
    · exfalso
      have hr : Region.ready .any hd listed = [] := by
        cases hx : Region.ready .any hd listed with
        | nil => rfl
        | cons x xs =>
          have hxm : x ∈ Region.ready .any hd listed := by rw [hx]; simp
          have := (ready_push ht listed hs x (ready_lt _ _ _ hxm)).2 hxm
          rw [h0] at this
          cases this
      obtain ⟨i, hi, hf⟩ := hex
      rw [ready_some ht listed hs hr i hi] at hf
      cases hf
    · have hlt := ready_lt _ _ _ hi
      simp only [Array.size_push] at hlt
      have hil : i < hd.size := by
        rcases Nat.lt_or_ge i hd.size with h' | h'
        · exact h'
        · exfalso
          obtain rfl : i = hd.size := by omega
          obtain ⟨_, o, ho, h2⟩ := mem_ready.1 hi
          have hlast : (hd.push last)[hd.size]? = some last := by simp
          obtain rfl : o = last := Option.some.inj (ho.symm.trans hlast)
          obtain ⟨j, hj, hf⟩ := hex
          have := all_listed ht listed hs hc (fun e he hb => by
            have := h2 e he hb
            rwa [getD_push_lt _ _ _ (by have := ht.inn e he; omega)] at this) _ j rfl hj
          have hin : j < listed.size := by omega
          simp [hin] at this hf
          rw [this] at hf
          cases hf
      have hi' := (ready_push ht listed hs i hil).1 hi
      refine wpOp_push ht hil (fun a' w' h' => ?_) (h.2 i hi')
      have hf := (mem_ready.1 hi').1
      have hset : (listed.push false).setIfInBounds i true = (listed.setIfInBounds i true).push false := by
        apply Array.ext_getElem?
        intro j
        simp only [Array.getElem?_setIfInBounds, Array.getElem?_push, Array.size_setIfInBounds, Array.size_push]
        by_cases hij : i = j
        · subst hij
          rw [if_pos rfl, if_pos (by omega), if_neg (by omega), if_pos rfl, if_pos (by omega)]
        · rw [if_neg hij, if_neg hij]
      rw [hset]
      exact wpAny_push ht fuel (listed.setIfInBounds i true) a' w' (by simpa using hs) (closed_set hs hc hi') (by have := unlisted_set listed i (by omega) hf; omega) h'

/-- **THE LAW.** The head is quiet in the class C, in the order of the text; the last operation is carried out in whatever world of C. -/
theorem wp_region_quiet_last {id : Nat} {Q : Exit → Act → World → Prop} {a : Act} {w : World} {l : List Oper} (last : Oper) (C : World → Prop) (hl : l = l.dropLast ++ [last]) (hm : P.follows .mixedOrders = true)
    (ht : tailB l.dropLast.toArray last = true) (hB : Region.lexB .any l.dropLast.toArray = true) (hC : C w.drew)
    (h : wpQuiet P l.dropLast.toArray C (fun a' => ∀ w', C w' → wpList P l.toArray Q [last] a' w') l.dropLast a) : (Code.region id l.toArray true).wp P Q a w := by
  generalize hh : l.dropLast = h' at *
  have hops : l.toArray = h'.toArray.push last := by rw [hl]; simp
  refine wp_region_any hm ?_
  rw [hops]
  have hrep : Array.replicate (h'.toArray.push last).size false = (Array.replicate h'.toArray.size false).push false := by
    rw [Array.size_push, Array.replicate_succ]
  rw [hrep, Array.size_push]
  refine wpAny_push (Tail.of ht) _ _ _ _ (by simp) (fun j o ho hl => by rw [getD_replicate_false] at hl; cases hl) ?_ ?_
  · simp [unlisted, List.countP_replicate]
  · simp only [Region.lexB, Bool.and_eq_true] at hB
    refine wpAny_of_quiet (C := C) (Q := fun a' => ∀ w', C w' → wpList P l.toArray Q [last] a' w') (fun a' w' hw' hq => ?_) _ _ _ _ hC ?_
    · show wpList P (h'.toArray.push last) Q [last] a' w'
      rw [← hops]; exact hq w' hw'
    · have := wpAnyQ_lex (C := C) (md := .any) hB.1 h' 0 (Array.replicate h'.toArray.size false) a (by simp) (by simpa using hB.2) h
      simpa using this
/-- One operation of the head: a value, in every world of the class. -/
theorem quiet_value {ops : Array Oper} {rest : List Oper} {o : Oper} {a : Act} {C : World → Prop} {Q : Act → Prop} (hg : o.guard = none) (v : Value)
    (hrun : ∀ w, C w → (execOp a.eval o).run P w = .ok (.value v) w) (h : wpQuiet P ops C Q rest (a.put o.dst v)) : wpQuiet P ops C Q (o :: rest) a := by
  unfold wpQuiet
  rw [if_pos (by simp [Region.wanted, hg])]
  exact ⟨v, fun w hw => by unfold Oper.quietAt; rw [hrun w hw]; exact ⟨rfl, rfl⟩, h⟩
/-- A call. -/
theorem quiet_call {ops : Array Oper} {rest : List Oper} {o : Oper} {a : Act} {C : World → Prop} {Q : Act → Prop} (hg : o.guard = none) (v : Value) (f : FuncId) (args : Array Value)
    (hrun : ∀ w, (execOp a.eval o).run P w = .ok (.enter f args) w) (hc : ∀ w, C w → Calls P f args w fun e w' => e = .returned v ∧ C w') (h : wpQuiet P ops C Q rest (a.put o.dst v)) : wpQuiet P ops C Q (o :: rest) a := by
  unfold wpQuiet
  rw [if_pos (by simp [Region.wanted, hg])]
  exact ⟨v, fun w hw => by unfold Oper.quietAt; rw [hrun w]; exact ⟨rfl, hc w hw⟩, h⟩
/-- A load of one cell. -/
theorem run_load_cell {o : Oper} {a : Act} {w : World} (ty : TypeId) (x : Operand) (ho : o.op = .load ty x) (p : Addr) (hx : a.eval x = .pointer (some p)) (v : Value) (hl : (loadVar ty p).run P w = .ok v w) :
    (execOp a.eval o).run P w = .ok (.value v) w := by
  unfold execOp
  simp only [ho, hx, Instr.loadAt, Instr.sureAddr, Sem.run_bind, Sem.run_pure, Result.andThen_ok, hl]
end
end Go.Proofs.Ytehnppnikoipoaa
