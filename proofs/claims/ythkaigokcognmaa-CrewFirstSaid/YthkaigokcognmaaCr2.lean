/-
  CREW 2: contracts in company of the functions that the laws hand to Map.
-/
import Derived.Test.YthkaigokcognmaaCr1
import Derived.Test.YthkaigokcognmaaChecked
import Derived.Conc.CompanyMem
import Derived.RowKit
import Derived.KernelRfl
namespace Go.Pool
open Go.Conc Go.RowKit Go.Proofs

theorem termsJ (φ : Ph) (k : Nat) : Terms (Frm φ (· = k)) (DJ φ k) := ⟨Frm.trans', fun _ => dj_none (by simp)⟩
theorem drawJ (φ : Ph) (k : Nat) : LetsDraw (DJ φ k) := fun w => ⟨.at k w _, by simp⟩
theorem ownDrawJ (φ : Ph) (k : Nat) (w : World) : Frm φ (· = k) w { w with drawn := w.drawn + 1 } := Frm.at w _

/-- A block that is only read in the phase. -/
structure Still (φ : Ph) (b : Nat) : Prop where
  wg : b ≠ φ.Wg
  ch : b ≠ φ.Ch
  en : b ≠ φ.En
  fd : φ.Fd ≠ some b
  pb : ¬ φ.pb b
  shun : ∀ a : Addr, a.block = b → ¬ φ.Shun (.cell a)
  low : b < φ.B

theorem Still.cell {φ : Ph} {b : Nat} (h : Still φ b) {own : Nat → Prop} {w w₁ : World} (r : Frm φ own w w₁) (o : Nat) : w₁.cell? ⟨b, o, none⟩ = w.cell? ⟨b, o, none⟩ := cell_block (r.block b h.wg h.ch h.en h.fd h.pb) o

theorem evp_read {φ : Ph} {b : Nat} (h : Still φ b) (o : Nat) (own : Nat → Prop) (g : Nat) : EvP φ own g ⟨.cell ⟨b, o, none⟩, false, false⟩ := by
  refine ⟨fun x hx => ?_, by simp, by simp, by simp, ?_⟩
  · rw [ofEvent_cell0] at hx
    simp only [MemAct.touch?, Option.some.injEq] at hx
    subst hx
    exact .inr (.inl ⟨rfl, rfl, _, rfl, h.wg, h.pb, h.shun _ rfl⟩)
  · rw [ofEvent_cell0]; exact h.low

theorem evp_own {φ : Ph} {b k : Nat} (h : φ.pb b) (hB : b < φ.B) (wr : Bool) (g : Nat) : EvP φ (· = k) g ⟨.cell ⟨b, k, none⟩, wr, false⟩ := by
  refine ⟨fun x hx => ?_, by simp, by simp, by simp, ?_⟩
  · rw [ofEvent_cell0] at hx
    simp only [MemAct.touch?, Option.some.injEq] at hx
    subst hx
    exact .inr (.inr (.inl ⟨rfl, k, rfl, _, rfl, h, rfl⟩))
  · rw [ofEvent_cell0]; exact hB

section
variable {φ : Ph} {k : Nat} {S : World → Prop}

set_option maxRecDepth 100000 in
/-- CrewSame's function: the square. -/
theorem f35_c (hS : ∀ w w₁, S w → Frm φ (· = k) w w₁ → S w₁) (x : Int) : ∃ m, ∀ w, S w → CallsC Try.prog false (Frm φ (· = k)) (DJ φ k) 35 #[.int .i64 x] m w fun v w' => v = .int .i64 (IntKind.i64.wrap (x * x)) ∧ S w' := by
  co_apply Exists.intro
  intro w hF
  co_apply callsC_of_wpC Try.func35 (by rfl) rfl
  simp only [Try.ntmps35, List.size_toArray, List.length_cons, List.length_nil, Nat.reduceAdd, Nat.reduceSub, Array.replicate_succ, Array.replicate_zero, List.push_toArray, List.append_toArray, List.nil_append, List.cons_append]
  co_go (termsJ φ k) (fun h r => hS _ _ h r) hF (co_quiet (termsJ φ k))
  exact ⟨rfl, _, resultsC_tmp (by rfl) _, by simp, hF⟩
set_option maxRecDepth 100000 in
/-- CrewSame's second. -/
theorem f36_c (hS : ∀ w w₁, S w → Frm φ (· = k) w w₁ → S w₁) (x : Int) : ∃ m, ∀ w, S w → CallsC Try.prog false (Frm φ (· = k)) (DJ φ k) 36 #[.int .i64 x] m w fun v w' => v = .int .i64 (IntKind.i64.wrap (x * x)) ∧ S w' := by
  co_apply Exists.intro
  intro w hF
  co_apply callsC_of_wpC Try.func36 (by rfl) rfl
  simp only [Try.ntmps36, List.size_toArray, List.length_cons, List.length_nil, Nat.reduceAdd, Nat.reduceSub, Array.replicate_succ, Array.replicate_zero, List.push_toArray, List.append_toArray, List.nil_append, List.cons_append]
  co_go (termsJ φ k) (fun h r => hS _ _ h r) hF (co_quiet (termsJ φ k))
  exact ⟨rfl, _, resultsC_tmp (by rfl) _, by simp, hF⟩
set_option maxRecDepth 100000 in
/-- awake's: twice. -/
theorem f51_c (hS : ∀ w w₁, S w → Frm φ (· = k) w w₁ → S w₁) (x : Int) : ∃ m, ∀ w, S w → CallsC Try.prog false (Frm φ (· = k)) (DJ φ k) 51 #[.int .i64 x] m w fun v w' => v = .int .i64 (IntKind.i64.wrap (x + x)) ∧ S w' := by
  co_apply Exists.intro
  intro w hF
  co_apply callsC_of_wpC Try.func51 (by rfl) rfl
  simp only [Try.ntmps51, List.size_toArray, List.length_cons, List.length_nil, Nat.reduceAdd, Nat.reduceSub, Array.replicate_succ, Array.replicate_zero, List.push_toArray, List.append_toArray, List.nil_append, List.cons_append]
  co_go (termsJ φ k) (fun h r => hS _ _ h r) hF (co_quiet (termsJ φ k))
  exact ⟨rfl, _, resultsC_tmp (by rfl) _, by simp, hF⟩
set_option maxRecDepth 100000 in
/-- CrewMaps's function: three times, and what 'by' holds. -/
theorem f28_c (hS : ∀ w w₁, S w → Frm φ (· = k) w w₁ → S w₁) {c : Nat} (hc : Still φ c) {y : Int} (hy : ∀ w, S w → w.cell? ⟨c, 0, none⟩ = some (.int .i64 y)) (x : Int) : ∃ m, ∀ w, S w → CallsC Try.prog false (Frm φ (· = k)) (DJ φ k) 28 #[.int .i64 x, .pointer (some ⟨c, 0, none⟩)] m w fun v w' => v = .int .i64 (IntKind.i64.wrap (IntKind.i64.wrap (x * 3) + y)) ∧ S w' := by
  co_apply Exists.intro
  intro w hF
  co_apply callsC_of_wpC Try.func28 (by rfl) rfl
  simp only [Try.ntmps28, List.size_toArray, List.length_cons, List.length_nil, Nat.reduceAdd, Nat.reduceSub, Array.replicate_succ, Array.replicate_zero, List.push_toArray, List.append_toArray, List.nil_append, List.cons_append]
  co_stmt (termsJ φ k) (fun h r => hS _ _ h r) hF (co_quiet (termsJ φ k))
  co_ctl (termsJ φ k)
  co_reg (termsJ φ k)
  co_op (fun h r => hS _ _ h r) hF (co_quiet (termsJ φ k))
  co_op (fun h r => hS _ _ h r) hF (co_quiet (termsJ φ k))
  co_opw (fun h r => hS _ _ h r) hF (have hld := hy _ hF) (refine ⟨.refl k _, ?_⟩; co_evs (exact evp_read hc 0 _ _))
  co_go (termsJ φ k) (fun h r => hS _ _ h r) hF (co_quiet (termsJ φ k))
  exact ⟨rfl, _, resultsC_tmp (by rfl) _, by simp, hF⟩
end
end Go.Pool
