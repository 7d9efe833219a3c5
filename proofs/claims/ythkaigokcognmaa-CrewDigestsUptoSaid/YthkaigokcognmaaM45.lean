/- A part of the proof of CrewDigestsUpto (no statement of its own): End2. -/
import Derived.Test.YthkaigokcognmaaM18
section
namespace Go.Pool
open Go.Conc
theorem law_runs {P : Program} {Post : Value → World → Prop} {g : Goroutine} {W : World} (h : EndsF P Post (fun _ => False) 0 g W) :
  ∃ M last o w' t', runNT P (M + 1) (solo g W) #[] = (.ended o w', t') ∧ runN P M (solo g W) = .next last ∧ step P last = .ended o w' ∧ Good P Post last o w' t' :=
 h W (atRel_refl W) #[g] none #[] (fun _ => 0) rfl (leavers_one P g) past_nil
theorem row_of {W : World} {a : Addr} {n : Nat} {f : Nat → Value} (h : ∀ i, i < n → W.cell? (a.add i) = some (f i)) (k : Nat) (hk : k < n) :
  ∃ b o, (some a : Option Addr) = some ⟨b, o, none⟩ ∧ b < W.heap.size ∧ W.cell? ⟨b, o + k, none⟩ = some (f k) := by
 obtain ⟨b, o, s⟩ := a
 have h0 := h 0 (by omega)
 have hs : s = none := by
  cases s with
  | none => rfl
  | some x =>
   simp only [Addr.add, if_true, World.cell?] at h0
   cases hh : W.heap[b]? with
   | none => rw [hh] at h0; cases h0
   | some ob => rw [hh] at h0; cases ob <;> simp at h0
 subst hs
 refine ⟨b, o, rfl, ?_, ?_⟩
 ·rcases Nat.lt_or_ge b W.heap.size with hlt | hge
  ·exact hlt
  ·simp only [Addr.add, if_true, World.cell?] at h0
   rw [Array.getElem?_eq_none hge] at h0
   cases h0
 ·have := h k hk
  by_cases hk0 : k = 0
  ·subst hk0; simpa [Addr.add] using this
  ·simpa [Addr.add, hk0] using this
end Go.Pool
end
