/- A part of the proof of CrewDigestsUpto (no statement of its own): Cr8. -/
import Derived.Test.YthkaigokcognmaaM13
import Derived.Test.YthkaigokcognmaaM18
import Derived.Below
section
set_option linter.unusedSimpArgs false
namespace Go.Pool
open Go.Conc Go.RowKit Go.Proofs Go.ConcN
open Go.ConcR (KK wgBlock WgAt stA smA rd wr mk DC0)
theorem de_nil {E : Event → Prop} {w w' : World} : DE E w w' #[] := fun e he => by simp at he
theorem termsL (Shun : Loc → Prop) (B : Nat) : Terms AtRel (DE (EvL Shun B)) := ⟨atRel_trans, fun _ => de_nil⟩
theorem drawL (Shun : Loc → Prop) (B : Nat) : LetsDraw (DE (EvL Shun B)) := fun _ => de_nil
noncomputable def opsM : Array Oper := match Try.f49.body with
 | some (.seq _ (.seq (.region _ ops _) _)) => ops
 | _ => #[]
theorem readyM : ∀ l0 l1 l2 l3 l4 l5 : Bool, Region.ready .any opsM #[l0, l1, l2, l3, l4, l5] = [] → (l0 && l1 && l2 && l3 && l4 && l5) = true := by decide +kernel
theorem depsMb : ∀ l0 l1 l2 l3 l4 l5 : Bool, ((Region.ready .any opsM #[l0, l1, l2, l3, l4, l5]).all fun i =>
  (i == 0 && !l0) || (i == 1 && !l1) || (i == 2 && !l2) || (i == 3 && !l3) || (i == 4 && !l4 && l0 && l2) || (i == 5 && !l5 && l1 && l3 && l4)) = true := by decide +kernel
theorem depsM {l0 l1 l2 l3 l4 l5 : Bool} {i : Nat} (hi : i ∈ Region.ready .any opsM #[l0, l1, l2, l3, l4, l5]) :
  (i = 0 ∧ l0 = false) ∨ (i = 1 ∧ l1 = false) ∨ (i = 2 ∧ l2 = false) ∨ (i = 3 ∧ l3 = false) ∨ (i = 4 ∧ l4 = false ∧ l0 = true ∧ l2 = true) ∨ (i = 5 ∧ l5 = false ∧ l1 = true ∧ l3 = true ∧ l4 = true) := by
 have := List.all_eq_true.1 (depsMb l0 l1 l2 l3 l4 l5) i hi
 simp only [Bool.or_eq_true, Bool.and_eq_true, beq_iff_eq, Bool.not_eq_true'] at this
 simpa only [or_assoc, and_assoc] using this
def T49 (n N : Nat) (fv : Value) (H : Nat) (v6 v7 v8 v9 v10 : Value) : Array Value :=
 #[.int .i64 n, .int .i64 N, fv, undef, undef, .pointer (some ⟨H, 0, none⟩), v6, v7, v8, v9, v10, undef, undef, undef, undef, undef, undef, undef, undef, undef, undef, undef]
structure Made (H : Nat) (w0 : World) (l0 l1 l2 l3 l4 l5 : Bool) (c e j x : Nat) (w : World) : Prop where
 below : Below H w0 w
 size : w.heap.size = H + (1 - cntF l0) + (1 - cntF l1) + (1 - cntF l2) + (1 - cntF l3)
 hc : l0 = true → H ≤ c ∧ c < w.heap.size ∧ w.heap[c]? = some (.chan 0 #[] false 0 0 false)
 he : l1 = true → H ≤ e ∧ e < w.heap.size ∧ w.heap[e]? = some (.chan 1 #[] false 0 0 false)
 hj : l2 = true → H ≤ j ∧ j < w.heap.size ∧ w.heap[j]? = some (.cells #[if l4 then .chan (some c) else .chan none] 66)
 hx : l3 = true → H ≤ x ∧ x < w.heap.size ∧ w.heap[x]? = some (.cells #[if l5 then .chan (some e) else .chan none] 78)
 ce : l0 = true → l1 = true → c ≠ e
 cj : l0 = true → l2 = true → c ≠ j
 cx : l0 = true → l3 = true → c ≠ x
 ej : l1 = true → l2 = true → e ≠ j
 ex : l1 = true → l3 = true → e ≠ x
 jx : l2 = true → l3 = true → j ≠ x
 h4 : l4 = true → l0 = true ∧ l2 = true
 h5 : l5 = true → l1 = true ∧ l3 = true
theorem Made.at {H : Nat} {w0 : World} {l0 l1 l2 l3 l4 l5 : Bool} {c e j x : Nat} {w : World} (h : Made H w0 l0 l1 l2 l3 l4 l5 c e j x w) (d : Nat) : Made H w0 l0 l1 l2 l3 l4 l5 c e j x (w.at d) :=
 ⟨⟨h.below.os, h.below.tape, h.below.output, h.below.size, h.below.block⟩, h.size, h.hc, h.he, h.hj, h.hx, h.ce, h.cj, h.cx, h.ej, h.ex, h.jx, h.h4, h.h5⟩
theorem bytes3 : ∃ i, Try.prog.info? 3 = some i ∧ i.bytes = 8 := by
 have h : (Try.prog.info? 3).map (·.bytes) = some 8 := by kernel_rfl
 obtain ⟨i, hi, hb⟩ := Option.map_eq_some_iff.1 h
 exact ⟨i, hi, hb⟩
theorem bytes79 : ∃ i, Try.prog.info? 79 = some i ∧ i.bytes = 0 := by
 have h : (Try.prog.info? 79).map (·.bytes) = some 0 := by kernel_rfl
 obtain ⟨i, hi, hb⟩ := Option.map_eq_some_iff.1 h
 exact ⟨i, hi, hb⟩
theorem mk0 (w : World) : (Instr.makeChan 66 (.int .i64 0)).run Try.prog w = .ok (.chan (some w.heap.size)) (w.alloc (.chan 0 #[] false 0 0 false)) := by
 obtain ⟨i, hi, hb⟩ := bytes3
 simpa using run_makeChan (P := Try.prog) (w := w) Try.underlying66 hi .i64 0 (by omega) (by rw [hb]; omega)
theorem mk0e (w : World) (es : Array Event) : (Instr.makeChan 66 (.int .i64 0)).events Try.prog w es = es := by
 obtain ⟨i, hi, hb⟩ := bytes3
 simpa using events_makeChan (P := Try.prog) (w := w) Try.underlying66 hi .i64 0 (by omega) (by rw [hb]; omega) es
theorem mk1 (w : World) : (Instr.makeChan 78 (.int .i64 1)).run Try.prog w = .ok (.chan (some w.heap.size)) (w.alloc (.chan 1 #[] false 0 0 false)) := by
 obtain ⟨i, hi, hb⟩ := bytes79
 simpa using run_makeChan (P := Try.prog) (w := w) Try.underlying78 hi .i64 1 (by omega) (by rw [hb]; omega)
theorem mk1e (w : World) (es : Array Event) : (Instr.makeChan 78 (.int .i64 1)).events Try.prog w es = es := by
 obtain ⟨i, hi, hb⟩ := bytes79
 simpa using events_makeChan (P := Try.prog) (w := w) Try.underlying78 hi .i64 1 (by omega) (by rw [hb]; omega) es
section
variable {H : Nat} {w0 w : World} {l0 l1 l2 l3 l4 l5 : Bool} {c e j x : Nat}
theorem Made.geH (h : Made H w0 l0 l1 l2 l3 l4 l5 c e j x w) : H ≤ w.heap.size := by have := h.size; omega
theorem Made.leH (h : Made H w0 l0 l1 l2 l3 l4 l5 c e j x w) : w.heap.size ≤ H + 4 := by have := h.size; omega
theorem Made.op0 (h : Made H w0 false l1 l2 l3 l4 l5 c e j x w) : Made H w0 true l1 l2 l3 l4 l5 w.heap.size e j x (w.alloc (.chan 0 #[] false 0 0 false)) := by
 have hold : ∀ b, b < w.heap.size → (w.alloc (.chan 0 #[] false 0 0 false)).heap[b]? = w.heap[b]? := fun b hb => Below.heap_alloc _ _ _ hb
 have hg := h.geH
 have h4 : l4 = false := Bool.eq_false_iff.2 fun hl => absurd (h.h4 hl).1 (by simp)
 subst h4
 refine ⟨h.below.alloc hg _, by rw [World.size_alloc, h.size]; simp [cntF] <;> omega, fun _ => ⟨hg, by simp, heap_alloc_new _ _⟩, fun p => ?_, fun p => ?_, fun p => ?_, fun _ p => ?_, fun _ p => ?_, fun _ p => ?_, h.ej, h.ex, h.jx, by simp, h.h5⟩
 ·obtain ⟨a1, a2, a3⟩ := h.he p; exact ⟨a1, by simp; omega, (hold _ a2).trans a3⟩
 ·obtain ⟨a1, a2, a3⟩ := h.hj p; exact ⟨a1, by simp; omega, (hold _ a2).trans a3⟩
 ·obtain ⟨a1, a2, a3⟩ := h.hx p; exact ⟨a1, by simp; omega, (hold _ a2).trans a3⟩
 ·have := (h.he p).2.1; omega
 ·have := (h.hj p).2.1; omega
 ·have := (h.hx p).2.1; omega
theorem Made.op1 (h : Made H w0 l0 false l2 l3 l4 l5 c e j x w) : Made H w0 l0 true l2 l3 l4 l5 c w.heap.size j x (w.alloc (.chan 1 #[] false 0 0 false)) := by
 have hold : ∀ b, b < w.heap.size → (w.alloc (.chan 1 #[] false 0 0 false)).heap[b]? = w.heap[b]? := fun b hb => Below.heap_alloc _ _ _ hb
 have hg := h.geH
 have h5 : l5 = false := Bool.eq_false_iff.2 fun hl => absurd (h.h5 hl).1 (by simp)
 subst h5
 refine ⟨h.below.alloc hg _, by rw [World.size_alloc, h.size]; simp [cntF] <;> omega, fun p => ?_, fun _ => ⟨hg, by simp, heap_alloc_new _ _⟩, fun p => ?_, fun p => ?_, fun p _ => ?_, h.cj, h.cx, fun _ p => ?_, fun _ p => ?_, h.jx, h.h4, by simp⟩
 ·obtain ⟨a1, a2, a3⟩ := h.hc p; exact ⟨a1, by simp; omega, (hold _ a2).trans a3⟩
 ·obtain ⟨a1, a2, a3⟩ := h.hj p; exact ⟨a1, by simp; omega, (hold _ a2).trans a3⟩
 ·obtain ⟨a1, a2, a3⟩ := h.hx p; exact ⟨a1, by simp; omega, (hold _ a2).trans a3⟩
 ·have := (h.hc p).2.1; omega
 ·have := (h.hj p).2.1; omega
 ·have := (h.hx p).2.1; omega
theorem Made.op2 (h : Made H w0 l0 l1 false l3 l4 l5 c e j x w) : Made H w0 l0 l1 true l3 l4 l5 c e w.heap.size x (w.alloc (.cells #[.chan none] 66)) := by
 have hold : ∀ b, b < w.heap.size → (w.alloc (.cells #[.chan none] 66)).heap[b]? = w.heap[b]? := fun b hb => Below.heap_alloc _ _ _ hb
 have hg := h.geH
 have h4 : l4 = false := Bool.eq_false_iff.2 fun hl => absurd (h.h4 hl).2 (by simp)
 subst h4
 refine ⟨h.below.alloc hg _, by rw [World.size_alloc, h.size]; simp [cntF] <;> omega, fun p => ?_, fun p => ?_, fun _ => ⟨hg, by simp, heap_alloc_new _ _⟩, fun p => ?_, h.ce, fun p _ => ?_, h.cx, fun p _ => ?_, h.ex, fun _ p => ?_, by simp, h.h5⟩
 ·obtain ⟨a1, a2, a3⟩ := h.hc p; exact ⟨a1, by simp; omega, (hold _ a2).trans a3⟩
 ·obtain ⟨a1, a2, a3⟩ := h.he p; exact ⟨a1, by simp; omega, (hold _ a2).trans a3⟩
 ·obtain ⟨a1, a2, a3⟩ := h.hx p; exact ⟨a1, by simp; omega, (hold _ a2).trans a3⟩
 ·have := (h.hc p).2.1; omega
 ·have := (h.he p).2.1; omega
 ·have := (h.hx p).2.1; omega
theorem Made.op3 (h : Made H w0 l0 l1 l2 false l4 l5 c e j x w) : Made H w0 l0 l1 l2 true l4 l5 c e j w.heap.size (w.alloc (.cells #[.chan none] 78)) := by
 have hold : ∀ b, b < w.heap.size → (w.alloc (.cells #[.chan none] 78)).heap[b]? = w.heap[b]? := fun b hb => Below.heap_alloc _ _ _ hb
 have hg := h.geH
 have h5 : l5 = false := Bool.eq_false_iff.2 fun hl => absurd (h.h5 hl).2 (by simp)
 subst h5
 refine ⟨h.below.alloc hg _, by rw [World.size_alloc, h.size]; simp [cntF] <;> omega, fun p => ?_, fun p => ?_, fun p => ?_, fun _ => ⟨hg, by simp, heap_alloc_new _ _⟩, h.ce, h.cj, fun p _ => ?_, h.ej, fun p _ => ?_, fun p _ => ?_, h.h4, by simp⟩
 ·obtain ⟨a1, a2, a3⟩ := h.hc p; exact ⟨a1, by simp; omega, (hold _ a2).trans a3⟩
 ·obtain ⟨a1, a2, a3⟩ := h.he p; exact ⟨a1, by simp; omega, (hold _ a2).trans a3⟩
 ·obtain ⟨a1, a2, a3⟩ := h.hj p; exact ⟨a1, by simp; omega, (hold _ a2).trans a3⟩
 ·have := (h.hc p).2.1; omega
 ·have := (h.he p).2.1; omega
 ·have := (h.hj p).2.1; omega
theorem Made.op4 (h : Made H w0 true l1 true l3 false l5 c e j x w) : Made H w0 true l1 true l3 true l5 c e j x (w.setCell ⟨j, 0, none⟩ (.chan (some c))) := by
 have A := aside_setCell w ⟨j, 0, none⟩ (.chan (some c))
 obtain ⟨b1, b2, b3⟩ := h.hj rfl
 refine ⟨h.below.setCell b1 _, by rw [A.size, h.size], fun p => ?_, fun p => ?_, fun _ => ⟨b1, by rw [A.size]; exact b2, ?_⟩, fun p => ?_, h.ce, h.cj, h.cx, h.ej, h.ex, h.jx, by simp, h.h5⟩
 ·obtain ⟨a1, a2, a3⟩ := h.hc p; exact ⟨a1, by rw [A.size]; exact a2, (A.block _ (h.cj rfl rfl)).trans a3⟩
 ·obtain ⟨a1, a2, a3⟩ := h.he p; exact ⟨a1, by rw [A.size]; exact a2, (A.block _ (h.ej p rfl)).trans a3⟩
 ·rw [heap_setCell_at b3]; rfl
 ·obtain ⟨a1, a2, a3⟩ := h.hx p; exact ⟨a1, by rw [A.size]; exact a2, (A.block _ fun y => h.jx rfl p y.symm).trans a3⟩
theorem Made.op5 (h : Made H w0 l0 true l2 true l4 false c e j x w) : Made H w0 l0 true l2 true l4 true c e j x (w.setCell ⟨x, 0, none⟩ (.chan (some e))) := by
 have A := aside_setCell w ⟨x, 0, none⟩ (.chan (some e))
 obtain ⟨b1, b2, b3⟩ := h.hx rfl
 refine ⟨h.below.setCell b1 _, by rw [A.size, h.size], fun p => ?_, fun p => ?_, fun p => ?_, fun _ => ⟨b1, by rw [A.size]; exact b2, ?_⟩, h.ce, h.cj, h.cx, h.ej, h.ex, h.jx, h.h4, by simp⟩
 ·obtain ⟨a1, a2, a3⟩ := h.hc p; exact ⟨a1, by rw [A.size]; exact a2, (A.block _ (h.cx p rfl)).trans a3⟩
 ·obtain ⟨a1, a2, a3⟩ := h.he p; exact ⟨a1, by rw [A.size]; exact a2, (A.block _ (h.ex rfl rfl)).trans a3⟩
 ·obtain ⟨a1, a2, a3⟩ := h.hj p; exact ⟨a1, by rw [A.size]; exact a2, (A.block _ (h.jx p rfl)).trans a3⟩
 ·rw [heap_setCell_at b3]; rfl
end
def IM (n N : Nat) (fv : Value) (H Bb : Nat) (w0 : World) (f : Nat) (listed : Array Bool) (a : Act) (w : World) : Prop :=
 ∃ (l0 l1 l2 l3 l4 l5 : Bool) (c e j x : Nat), listed = #[l0, l1, l2, l3, l4, l5] ∧ f = cntF l0 + cntF l1 + cntF l2 + cntF l3 + cntF l4 + cntF l5 ∧
  a = ⟨T49 n N fv Bb (gv l2 (.pointer (some ⟨j, 0, none⟩))) (gv l3 (.pointer (some ⟨x, 0, none⟩))) undef (gv l0 (.chan (some c))) (gv l1 (.chan (some e))), []⟩ ∧ Made H w0 l0 l1 l2 l3 l4 l5 c e j x w
section
variable {n N : Nat} {fv : Value} {H Bb B : Nat} {w0 : World} {Shun : Loc → Prop}
set_option maxRecDepth 100000 in
set_option maxHeartbeats 4000000 in
theorem makes (hS : ∀ b, H ≤ b → ¬ Shun (.cell ⟨b, 0, none⟩)) (hB : H + 4 ≤ B) (hH : w0.heap.size = H) {id : Nat} :
  (Code.region id opsM true).wpC Try.prog true AtRel (DE (EvL Shun B)) 49 (6 * 1 + 1 + 1) (fun ex a w => ex = .normal ∧ ∃ c e j x, a = ⟨T49 n N fv Bb (.pointer (some ⟨j, 0, none⟩)) (.pointer (some ⟨x, 0, none⟩)) undef (.chan (some c)) (.chan (some e)), []⟩ ∧ Made H w0 true true true true true true c e j x w)
   ⟨T49 n N fv Bb undef undef undef undef undef, []⟩ w0 := by
 have T := termsL Shun B
 simp only [opsM, Try.f49]
 refine region_inv T (drawL Shun B) (by first | kernel_rfl | rfl) 1 (IM n N fv H Bb w0) ?_ ?_ ?_ ?_
 ·rintro w₁ ⟨d, rfl⟩
  refine ⟨false, false, false, false, false, false, 0, 0, 0, 0, rfl, rfl, rfl, ⟨⟨rfl, rfl, rfl, Nat.le_refl _, fun _ _ => rfl⟩, by show w0.heap.size = _; simp [cntF, hH], ?_, ?_, ?_, ?_, ?_, ?_, ?_, ?_, ?_, ?_, ?_, ?_⟩⟩ <;> simp
 ·rintro listed a w ⟨l0, l1, l2, l3, l4, l5, c, e, j, x, rfl, hc, rfl, hM⟩
  obtain rfl := cntF_eq (b := l0) (by omega)
  obtain rfl := cntF_eq (b := l1) (by omega)
  obtain rfl := cntF_eq (b := l2) (by omega)
  obtain rfl := cntF_eq (b := l3) (by omega)
  obtain rfl := cntF_eq (b := l4) (by omega)
  obtain rfl := cntF_eq (b := l5) (by omega)
  exact ⟨rfl, c, e, j, x, rfl, hM⟩
 ·rintro f listed a w ⟨l0, l1, l2, l3, l4, l5, c, e, j, x, rfl, hc, rfl, hM⟩ hn
  have := readyM l0 l1 l2 l3 l4 l5 hn
  simp only [Bool.and_eq_true] at this
  obtain ⟨⟨⟨⟨⟨rfl, rfl⟩, rfl⟩, rfl⟩, rfl⟩, rfl⟩ := this
  simp [cntF] at hc
 ·rintro f listed a w i ⟨l0, l1, l2, l3, l4, l5, c, e, j, x, rfl, hc, rfl, hM⟩ hmem rest m hnext
  rcases depsM hmem with ⟨rfl, rfl⟩ | ⟨rfl, rfl⟩ | ⟨rfl, rfl⟩ | ⟨rfl, rfl⟩ | ⟨rfl, rfl, rfl, rfl⟩ | ⟨rfl, rfl, rfl, rfl, rfl⟩
  ·co_apply opsC_cons_k rfl (by rfl)
   intro w₁ hR K hK
   obtain ⟨d, rfl⟩ := hR
   replace hM := hM.at d
   have hmk := mk0 (w.at d)
   have hme := mk0e (w.at d)
   simp only [T49]
   go_simp
   refine hK _ _ ⟨?_, ?_⟩
   ·intro ex hex
    have hm := mem_listed hex
    simp [go_sem, *] at hm
   exact hnext _ _ ⟨true, l1, l2, l3, l4, l5, (w.at d).heap.size, e, j, x, rfl, by simp [cntF] at hc ⊢; omega, rfl, hM.op0⟩
  ·co_apply opsC_cons_k rfl (by rfl)
   intro w₁ hR K hK
   obtain ⟨d, rfl⟩ := hR
   replace hM := hM.at d
   have hmk := mk1 (w.at d)
   have hme := mk1e (w.at d)
   simp only [T49]
   go_simp
   refine hK _ _ ⟨?_, ?_⟩
   ·intro ex hex
    have hm := mem_listed hex
    simp [go_sem, *] at hm
   exact hnext _ _ ⟨l0, true, l2, l3, l4, l5, c, (w.at d).heap.size, j, x, rfl, by simp [cntF] at hc ⊢; omega, rfl, hM.op1⟩
  ·co_apply opsC_cons_k rfl (by rfl)
   intro w₁ hR K hK
   obtain ⟨d, rfl⟩ := hR
   replace hM := hM.at d
   simp only [T49]
   go_simp
   refine hK _ _ ⟨?_, ?_⟩
   ·intro ex hex
    have hm := mem_listed hex
    simp [go_sem, *] at hm
   exact hnext _ _ ⟨l0, l1, true, l3, l4, l5, c, e, (w.at d).heap.size, x, rfl, by simp [cntF] at hc ⊢; omega, rfl, hM.op2⟩
  ·co_apply opsC_cons_k rfl (by rfl)
   intro w₁ hR K hK
   obtain ⟨d, rfl⟩ := hR
   replace hM := hM.at d
   simp only [T49]
   go_simp
   refine hK _ _ ⟨?_, ?_⟩
   ·intro ex hex
    have hm := mem_listed hex
    simp [go_sem, *] at hm
   exact hnext _ _ ⟨l0, l1, l2, true, l4, l5, c, e, j, (w.at d).heap.size, rfl, by simp [cntF] at hc ⊢; omega, rfl, hM.op3⟩
  ·co_apply opsC_cons_k rfl (by rfl)
   intro w₁ hR K hK
   obtain ⟨d, rfl⟩ := hR
   replace hM := hM.at d
   obtain ⟨q1, q2, q3⟩ := hM.hj rfl
   have hcell : (w.at d).cell? ⟨j, 0, none⟩ = some (.chan none) := by simp [World.cell?, q3]
   have hfr : (w.at d).frozen? ⟨j, 0, none⟩ = false := by simp [World.frozen?, q3]
   simp only [T49, gv_t]
   go_simp
   try (unfold stored; go_simp)
   refine hK _ _ ⟨?_, ?_⟩
   ·intro ex hex
    have hm := mem_listed hex
    simp [go_sem, T49, gv_t, *] at hm
    subst hm
    have hl := hM.leH
    exact evL_cell _ _ (hS _ q1) (by show j < B; omega)
   exact hnext _ _ ⟨true, l1, true, l3, true, l5, c, e, j, x, rfl, by simp [cntF] at hc ⊢; omega, rfl, hM.op4⟩
  ·co_apply opsC_cons_k rfl (by rfl)
   intro w₁ hR K hK
   obtain ⟨d, rfl⟩ := hR
   replace hM := hM.at d
   obtain ⟨q1, q2, q3⟩ := hM.hx rfl
   have hcell : (w.at d).cell? ⟨x, 0, none⟩ = some (.chan none) := by simp [World.cell?, q3]
   have hfr : (w.at d).frozen? ⟨x, 0, none⟩ = false := by simp [World.frozen?, q3]
   simp only [T49, gv_t]
   go_simp
   try (unfold stored; go_simp)
   refine hK _ _ ⟨?_, ?_⟩
   ·intro ex hex
    have hm := mem_listed hex
    simp [go_sem, T49, gv_t, *] at hm
    subst hm
    have hl := hM.leH
    exact evL_cell _ _ (hS _ q1) (by show x < B; omega)
   exact hnext _ _ ⟨l0, true, l2, true, true, true, c, e, j, x, rfl, by simp [cntF] at hc ⊢; omega, rfl, hM.op5⟩
end
end Go.Pool
end
