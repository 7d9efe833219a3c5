/-
  WG M: small things for the walks through sync.WaitGroup in the phase.
-/
import Derived.Test.YthkaigokcognmaaPool2
import Derived.Conc.WgGenN3
namespace Go.Pool
open Go.Conc Go.ConcN Go.RowKit Go.Conc.Lib Go.ConcR.Gen Go.ConcN.Gen
open Go.ConcR (KK wgBlock WgAt stA smA rd wr mk)

theorem di_nil {φ : Ph} {own : Nat → Prop} {g : Nat} {w : World} : DI φ own g w w #[] := di_none (by simp)
theorem dj_nil {φ : Ph} {k : Nat} {w : World} : DJ φ k w w #[] := dj_none (by simp)

theorem fr_rely {φ : Ph} {own : Nat → Prop} {F : World → Prop} (hF2 : ∀ w w', Frm φ own w w' → F w → F w') {w w₁ : World} (h : F w ∧ WgLive φ.ty φ.Wg w) (r : Frm φ own w w₁) : F w₁ ∧ WgLive φ.ty φ.Wg w₁ := ⟨hF2 _ _ r h.1, r.live h.2⟩

theorem evp_said {φ : Ph} (G : Geo φ) (a : Addr) (h : a.block = φ.Wg) (m : Mark) (hm : m = .read a ∨ m = .write a) : EvP φ own0 0 ⟨.mark m, false, true⟩ := by
  rcases hm with rfl | rfl
  · refine ⟨fun x hx => ?_, by simp, by simp, by simp, ?_⟩
    · simp only [MemAct.ofEvent, MemAct.touch?, Option.some.injEq] at hx
      subst hx
      exact .inl ⟨⟨a, rfl, h⟩, by simp, by simp⟩
    · have := G.wgB; rw [← h] at this; exact this
  · refine ⟨fun x hx => ?_, by simp, by simp, by simp, ?_⟩
    · simp only [MemAct.ofEvent, MemAct.touch?, Option.some.injEq] at hx
      subst hx
      exact .inl ⟨⟨a, rfl, h⟩, by simp, by simp⟩
    · have := G.wgB; rw [← h] at this; exact this

end Go.Pool
