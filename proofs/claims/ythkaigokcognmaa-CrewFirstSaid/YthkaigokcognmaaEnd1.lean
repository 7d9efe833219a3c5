/-
  END 1: the run from here on ends well, whatever the leavers do: a word for main's walk beside goroutines that only leave, and the phase as one step of it.
-/
import Derived.Test.YthkaigokcognmaaPool9
import Derived.Test.YthkaigokcognmaaWg2
import Derived.DuoClaim
namespace Go.Pool
open Go.Conc Go.ConcN
open Go.ConcR (stA smA rd wr mk KK WgAt wgBlock)

section
variable (P : Program) (Post : Value → World → Prop)
def Ends (m : Machine) (t : Trace) : Prop :=
  ∃ N last o w' t', runNT P (N + 1) m t = (.ended o w', t') ∧ runN P N m = .next last ∧ step P last = .ended o w' ∧ Good P Post last o w' t'
/-- With goroutine 0 as it stands in world w, the others leavers, the trace past: the run ends well. -/
def EndsF (Shun : Loc → Prop) (B : Nat) (g : Goroutine) (w : World) : Prop :=
  ∀ w₁, AtRel w w₁ → ∀ (gs : Array Goroutine) (sl : Option (Nat × Nat)) (t : Trace) (q : Nat → Nat), gs[0]? = some g → Leavers P t gs q → Past Shun B t → Ends P Post (crowd gs w₁ sl) t
end

section
variable {P : Program} {Post : Value → World → Prop} {Shun : Loc → Prop} {B B' : Nat} {g : Goroutine} {w : World}

theorem Ends.of_run {k : Nat} {m m' : Machine} {t t' : Trace} (h : runNT P k m t = (.next m', t')) (h' : Ends P Post m' t') : Ends P Post m t := by
  obtain ⟨K2, last, o, w', t'', e1, e2, e3, e4⟩ := h'
  refine ⟨k + K2, last, o, w', t'', ?_, ?_, e3, e4⟩
  · rw [Nat.add_assoc, runNT_add, h]; exact e1
  · rw [runN_add, ← runNT_fst P _ _ t, h]; exact e2

theorem EndsF.mono (hB : B ≤ B') (h : EndsF P Post Shun B' g w) : EndsF P Post Shun B g w := fun w₁ h₁ gs sl t q h0 hL hP => h w₁ h₁ gs sl t q h0 hL (hP.mono hB)
theorem EndsF.rely {w₁ : World} (h : EndsF P Post Shun B g w) (r : AtRel w w₁) : EndsF P Post Shun B g w₁ := fun w₂ h₂ => h w₂ (atRel_trans _ _ _ r h₂)

theorem EndsF.of_goes {D : World → World → Array Event → Prop} {n : Nat} (hD : ∀ w w' es, D w w' es → ∀ e ∈ es, EvL Shun B e) (h : Goes P true AtRel D (EndsF P Post Shun B) n g w) : EndsF P Post Shun B g w := by
  intro w₁ h₁ gs sl t q h0 hL hP
  obtain ⟨N, gs', a', w', sl', t', q', hr, _, h0', hS, hL', hP'⟩ := walk_beside hD _ n gs g w₁ sl t q (Nat.le_refl _) h0 hL hP (Goes.rely atRel_trans h h₁)
  exact .of_run hr (hS w' (atRel_refl w') gs' sl' t' q' h0' hL' hP')

theorem EndsF.last (h : ∀ w₁, AtRel w w₁ → AtEnd P Shun B Post g w₁) : EndsF P Post Shun B g w := by
  intro w₁ h₁ gs sl t q h0 hL hP
  exact beside_ends (D := DE (EvL Shun B)) (n := 0) (fun _ _ _ h => h) h0 hL hP fun w₂ h₂ => h w₂ (atRel_trans _ _ _ h₁ h₂)

theorem EndsF.step (hs : g.status = .running) (h : ∀ w₁, AtRel w w₁ → (stepG P true g w₁).goes fun g' w' es => DE (EvL Shun B) w₁ w' es ∧ EndsF P Post Shun B g' w') : EndsF P Post Shun B g w := by
  refine EndsF.of_goes (D := DE (EvL Shun B)) (n := 1) (fun _ _ _ h => h) (Goes.step hs fun w₁ h₁ => ?_)
  have := h w₁ h₁
  revert this
  cases stepG P true g w₁ <;> simp only [GStep.goes, imp_self]
  exact fun ⟨d, x⟩ => ⟨d, fun w₂ h₂ => x.rely h₂⟩

/-- What main lists behind the acquire touches no shunned place plainly. -/
theorem evL_of_evP {φ : Ph} {e : Event} (h : EvP φ own0 0 e) : EvL (fun l => φ.Shun l ∨ ShN φ.Wg l) φ.B e := by
  refine ⟨fun x hx hs hk => ?_, h.2.1, h.2.2.1, h.2.2.2.2⟩
  rcases h.1 x hx with ⟨_, h1, _⟩ | ⟨_, _, a, h3, h4, _, h6⟩ | ⟨_, _, h1, _⟩ | ⟨h1, _⟩
  · exact h1 hk
  · rcases hs with hs | ⟨a', h7, h8⟩
    · exact h6 hs
    · rw [h3] at h7; cases h7; exact h4 h8
  · exact h1
  · rw [hk] at h1; cases h1

/-- ████ THE PHASE, AS ONE STEP. ████ -/
theorem EndsF.phase {φ : Ph} {n N : Nat} {Pre Done : Nat → World → Prop} {An Nx AnW : Goroutine → World → Prop} {B0 : Nat} (G : Geo φ) (J : Jobs φ n Pre Done) (hA : ∀ g w, An g w → g.status = .running) (hAr : ∀ g w, AnW g w → g.status = .running) (hN1 : 1 ≤ N) (hN : N < 2147483648)
    (hAn : ∀ g w, An g w → ∃ m, Goes P false (Frm φ own0) (DI φ own0 1) (RecvS P φ n Pre Done An) m g w)
    (hAnW : ∀ g w, AnW g w → ∃ m, Goes P true (Frm φ own0) (DI φ own0 0) (W1S P φ n Done Nx AnW) m g w)
    (hB : B0 ≤ φ.B) (hW : B0 ≤ φ.Wg)
    (hstart : ∀ w₁, AtRel w w₁ → Spawns P φ n Pre Done An (Hand P φ n AnW n) N g w₁) (hwg : WgAt φ.ty φ.Wg w 0 0) (hch : ∃ s r, w.heap[φ.Ch]? = some (.chan 0 #[] false s r false)) (hen : ∃ s r, w.heap[φ.En]? = some (.chan 1 #[] false s r false)) (hfd : ∀ fd, φ.Fd = some fd → ∃ s r, w.heap[fd]? = some (.chan n #[] false s r false)) (hpre : ∀ k, k < n → Pre k w)
    (hNx : ∀ a' w', Nx a' w' → EndsF P Post (fun l => φ.Shun l ∨ ShN φ.Wg l) φ.B a' w') : EndsF P Post φ.Shun B0 g w := by
  rintro w₁ h₁ gs sl t q h0 hL hP
  have hs := hstart w₁ h₁
  obtain ⟨d, rfl⟩ := h₁
  obtain ⟨k, m', t', hr, gs', w', sl', a', q', f, rfl, _, h0', hg, hL', hP', _, _⟩ := Go.Pool.phase G J hA hAr hN1 hN hAn hAnW h0 hL hP hB hW hs (sl := sl) hwg hch hen hfd (fun k hk => J.pre k w _ (fun _ _ => rfl) (hpre k hk))
  refine .of_run hr ?_
  exact EndsF.of_goes (D := DI φ own0 0) (n := f) (fun _ _ _ h e he => evL_of_evP (h.2 e he)) (Goes.weak (fun _ _ h => h) hNx hg) w' (atRel_refl w') gs' sl' t' q' h0' hL' hP'
end
end Go.Pool
