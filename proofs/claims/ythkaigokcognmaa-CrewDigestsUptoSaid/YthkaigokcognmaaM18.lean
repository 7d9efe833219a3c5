/- A part of the proof of CrewDigestsUpto (no statement of its own): Pool8, Pool9, End1. -/
import Derived.Test.YthkaigokcognmaaM17
import Derived.Test.YthkaigokcognmaaM08
import Derived.DuoClaim
section
set_option linter.unusedSimpArgs false
namespace Go.Pool
open Go.Conc Go.ConcN
open Go.ConcR (stA smA rd wr mk KK WgAt wgBlock g_of_ofEvents loc_of_ofEvent Bk bk_of_mute ofEvent_loc_mark ofEvent_mk)
section
variable {P : Program} {φ : Ph} {n : Nat} {Pre Done : Nat → World → Prop} {An Nx AnW : Goroutine → World → Prop} {N N0 L : Nat} {wb : World}
  {j H : Nat} {who mkr : Nat → Nat} {closed : Bool} {gs gs' : Array Goroutine} {w w' : World} {sl : Option (Nat × Nat)} {t u : Trace} {D : Nat → PD} {d0 f0 f' : Nat} {tag tag' : MTag} {a a' : Goroutine} {st sm st' sm' : Int} {es : Array Event}
theorem w1Step (G : Geo φ) (J : Jobs φ n Pre Done) (hA : ∀ g w, An g w → g.status = .running) (hN : N < 2147483648) (ha : gs[0]? = some a) (hcom : Com P φ n Pre Done An N0 L j H who mkr true gs w t D 1) (hE : Enough φ n H) (hjN : j - L = N) (hwb : Frm φ own0 wb w) (hwg : WgAt φ.ty φ.Wg w st sm)
  (hmode : Go.ConcN.Mode j (fun y => (D y).wd) .w1 st sm) (h : Goes P true (Frm φ own0) (DI φ own0 0) (W1S P φ n Done Nx AnW) f0 a w) :
  Goal P φ n Pre Done An Nx AnW N N0 L wb (mphi n N L (Vw j D) (.c .w1) + Wsum j D, (j, fun y => (D y).tree), f0 + 2 * Fsm j D) (runT P (crowd gs w sl) 0) t := by
 have hV := hcom.Vle
 rcases Goes.cases h with hstop | ⟨m', rfl, hstep⟩
 ·obtain ⟨_, hall⟩ := hstop w (.refl w)
  obtain ⟨ho, rfl, rfl, _⟩ := Mode.open_inv hmode trivial
  obtain ⟨a', hgo, h0, hne⟩ := hall (Vw j D) (by omega) (by simpa [pend] using hwg)
  have hbk : ∀ e ∈ #[rd (stA φ.Wg)], Bk φ.Wg e := by intro e he; simp at he; subst he; exact bk_cell _ _ rfl
  by_cases hv : Vw j D = 0
  ·obtain ⟨m₂, hk⟩ := h0 hv
   refine bookM G J hA ha hcom hwb hgo (.refl φ.Wg w) hwg hbk (tag' := .c .ke) (by rw [hjN]; exact .ke hk) ?_ ⟨rfl, hE⟩ (by simp) (.inl (by simp only [mphi, phi]; omega))
   have e : ((Vc j (fun y => (D y).wd) + pend .w1 : Nat) : Int) * KK = 0 := by have : Vc j (fun y => (D y).wd) = 0 := hv; rw [this]; simp [pend]
   rw [e]
   exact .fin trivial (allQuit_of ho hv)
  ·obtain ⟨m₂, hk⟩ := hne hv
   exact bookM G J hA ha hcom hwb hgo (.refl φ.Wg w) hwg hbk (tag' := .c (.w2 (Vw j D))) (by rw [hjN]; exact .w2 hk) (Mode.reopen hmode trivial trivial rfl (fun vs e => by cases e; exact ⟨Nat.le_refl _, by omega⟩)) ⟨rfl, hE⟩ (by simp) (.inl (by simp only [mphi, phi]; omega))
 ·obtain ⟨a', w', es, hgo, hD, hg'⟩ := hstep w (.refl w)
  exact idleM G J hA ha hcom hwb hwg hmode ⟨rfl, hE⟩ (by simp) hgo hD (by rw [hjN]; exact .w1 hg') (by omega)
set_option maxHeartbeats 1600000 in
theorem stepMain (G : Geo φ) (J : Jobs φ n Pre Done) (hA : ∀ g w, An g w → g.status = .running) (hN : N < 2147483648)
  (hAn : ∀ g w, AnW g w → ∃ m, Goes P true (Frm φ own0) (DI φ own0 0) (W1S P φ n Done Nx AnW) m g w)
  (ha : gs[0]? = some a) (hms : MSit P φ n Pre Done An Nx AnW N tag (j - L) f0 d0 a w) (hcom : Com P φ n Pre Done An N0 L j H who mkr closed gs w t D d0)
  (hlink : Link φ n tag closed H) (hwb : Frm φ own0 wb w) (hwg : WgAt φ.ty φ.Wg w st sm) (hmode : Go.ConcN.Mode j (fun y => (D y).wd) tag.ct st sm) (hrun : a.status = .running) :
  Goal P φ n Pre Done An Nx AnW N N0 L wb (mphi n N L (Vw j D) tag + Wsum j D, (j, fun y => (D y).tree), f0 + 2 * Fsm j D) (runT P (crowd gs w sl) 0) t := by
 have hV := hcom.Vle
 have hLj := hcom.Lj
 generalize hq : j - L = q at hms
 cases hms with
 | skd hr h =>
  rename_i r
  obtain ⟨rfl, rfl⟩ := hlink
  rcases Goes.cases h with hstop | ⟨m', rfl, hstep⟩
  ·obtain ⟨_, a', hgo, m₂, hk⟩ := hstop w (.refl w)
   exact bookM G J hA ha hcom hwb hgo (.refl φ.Wg w) hwg bk_dis (tag' := .c (.sp r 4)) (by rw [hq]; exact .sa1 hr hk) (Mode.reopen hmode trivial trivial rfl (by simp [MTag.ct])) ⟨rfl, rfl⟩ (by simp) (.inl (by simp only [mphi]; omega))
  ·obtain ⟨a', w', es, hgo, hD, hg'⟩ := hstep w (.refl w)
   exact idleM G J hA ha hcom hwb hwg hmode ⟨rfl, rfl⟩ (by simp) hgo hD (by rw [hq]; exact .skd hr hg') (by omega)
 | sa1 hr h =>
  rename_i r
  obtain ⟨rfl, rfl⟩ := hlink
  rcases Goes.cases h with hstop | ⟨m', rfl, hstep⟩
  ·obtain ⟨_, hall⟩ := hstop w (.refl w)
   obtain ⟨ho, rfl, rfl, _⟩ := Mode.open_inv hmode trivial
   obtain ⟨a', hgo, m₂, hk⟩ := hall (Vw j D) (by omega) (by simpa [pend, MTag.ct] using hwg)
   refine bookM G J hA ha hcom hwb hgo (aside_setCell w (stA φ.Wg) _) (hwg.setSt _) bk_rw (tag' := .c (.sp r 3)) (by rw [hq]; exact .ske hr hk) ?_ ⟨rfl, rfl⟩ (by simp) (.inl (by simp only [mphi]; omega))
   have e : (((Vw j D : Nat) : Int) + 1) * KK = ((Vc j (fun y => (D y).wd) + pend (.sp r 3) : Nat) : Int) * KK := by simp [pend]
   rw [e]
   exact .opn trivial ho (by simp [MTag.ct])
  ·obtain ⟨a', w', es, hgo, hD, hg'⟩ := hstep w (.refl w)
   exact idleM G J hA ha hcom hwb hwg hmode ⟨rfl, rfl⟩ (by simp) hgo hD (by rw [hq]; exact .sa1 hr hg') (by omega)
 | ske hr h =>
  rename_i r
  obtain ⟨rfl, rfl⟩ := hlink
  rcases Goes.cases h with hstop | ⟨m', rfl, hstep⟩
  ·obtain ⟨_, a', hgo, m₂, hk⟩ := hstop w (.refl w)
   exact bookM G J hA ha hcom hwb hgo (.refl φ.Wg w) hwg bk_en (tag' := .c (.sp r 2)) (by rw [hq]; exact .sgo hr hk) (Mode.reopen hmode trivial trivial rfl (by simp [MTag.ct])) ⟨rfl, rfl⟩ (by simp) (.inl (by simp only [mphi]; omega))
  ·obtain ⟨a', w', es, hgo, hD, hg'⟩ := hstep w (.refl w)
   exact idleM G J hA ha hcom hwb hwg hmode ⟨rfl, rfl⟩ (by simp) hgo hD (by rw [hq]; exact .ske hr hg') (by omega)
 | sgo hr h =>
  rename_i r
  obtain ⟨rfl, rfl⟩ := hlink
  rcases Goes.cases h with hstop | ⟨m', rfl, hstep⟩
  ·obtain ⟨_, a', child, hsp, _, ⟨m₂, hwk⟩, hnext⟩ := hstop w (.refl w)
   obtain ⟨ho, rfl, rfl, _⟩ := Mode.open_inv hmode trivial
   have hrun' := runT_crowd_spawn (P := P) (sl := sl) (i := 0) ha (by simpa using hsp)
   rw [hcom.size] at hrun'
   have hcom' := com_spawn hcom (a' := a') (x := { g := 0, fn := a.frame.fn, pos := a.frame.place, act := .go (j + 1) }) (y := { g := j + 1, fn := child.frame.fn, pos := a.frame.place, act := .start }) ⟨rfl, rfl⟩ ⟨rfl, rfl⟩ hwk
   have eV : Vw (j + 1) (upd D j ⟨.rcv, m₂, 0, .leaf⟩) = Vw j D + 1 := by
    have h1 : Vw j (upd D j ⟨.rcv, m₂, 0, .leaf⟩) = Vw j D := sumTo_congr fun i hi => by
     show cnt (upd D j _ i).wd = cnt (D i).wd
     rw [upd_ne D _ (by omega)]
    show Vw j (upd D j ⟨.rcv, m₂, 0, .leaf⟩) + cnt (upd D j ⟨.rcv, m₂, 0, .leaf⟩ j).wd = _
    rw [h1, upd_same]; rfl
   have eS : Wsum (j + 1) (upd D j ⟨.rcv, m₂, 0, .leaf⟩) = Wsum j D + 11 := by
    have h1 : Wsum j (upd D j ⟨.rcv, m₂, 0, .leaf⟩) = Wsum j D := sumTo_congr fun i hi => by rw [upd_ne D _ (by omega)]
    show Wsum j (upd D j ⟨.rcv, m₂, 0, .leaf⟩) + (upd D j ⟨.rcv, m₂, 0, .leaf⟩ j).tag.wt = _
    rw [h1, upd_same]; rfl
   have ho' : OpenSt (j + 1) (fun y => (upd D j ⟨.rcv, m₂, 0, .leaf⟩ y).wd) := fun i hi => by
    by_cases e : i = j
    ·subst e; simp only [upd_same]; exact .inl rfl
    ·simp only [upd_ne D _ e]; exact ho i (by omega)
   have ha' : ((gs.setIfInBounds 0 a').push child)[0]? = some a' := by
    rw [Array.getElem?_push_lt (by simp [hcom.size]), ← Array.getElem?_eq_getElem]
    simp [hcom.size]
   have ej : j + 1 - L = N - r := by omega
   have est : ∀ tag' : MTag, pend tag'.ct = 0 → ((Vc j (fun y => (D y).wd) + pend (MTag.c (.sp r 2)).ct : Nat) : Int) * KK = ((Vc (j + 1) (fun y => (upd D j ⟨.rcv, m₂, 0, .leaf⟩ y).wd) + pend tag'.ct : Nat) : Int) * KK := fun tag' hp => by
    have : Vc (j + 1) (fun y => (upd D j ⟨.rcv, m₂, 0, .leaf⟩ y).wd) = Vc j (fun y => (D y).wd) + 1 := eV
    rw [this, hp]; simp [pend, MTag.ct]
   have key : ∀ (tag' : MTag) (m₃ : Nat), MSit P φ n Pre Done An Nx AnW N tag' (j + 1 - L) m₃ 0 a' w → isOpen tag'.ct → pend tag'.ct = 0 → (∀ vs, tag'.ct ≠ .w2 vs) → Link φ n tag' false 0 → (∀ r, tag' ≠ .hpk r) → mphi n N L (Vw (j + 1) (upd D j ⟨.rcv, m₂, 0, .leaf⟩)) tag' + 11 < mphi n N L (Vw j D) (.c (.sp r 2)) →
     Goal P φ n Pre Done An Nx AnW N N0 L wb (mphi n N L (Vw j D) (.c (.sp r 2)) + Wsum j D, (j, fun y => (D y).tree), f0 + 2 * Fsm j D) (runT P (crowd gs w sl) 0) t := by
    intro tag' m₃ hms' hop hpe hw2 hlk hnp hlt
    refine ⟨_, _, hrun', .inr ⟨(mphi n N L (Vw (j + 1) (upd D j ⟨.rcv, m₂, 0, .leaf⟩)) tag' + Wsum (j + 1) (upd D j ⟨.rcv, m₂, 0, .leaf⟩), (j + 1, fun y => (upd D j ⟨.rcv, m₂, 0, .leaf⟩ y).tree), m₃ + 2 * Fsm (j + 1) (upd D j ⟨.rcv, m₂, 0, .leaf⟩)), Prod.Lex.left _ _ (by omega),
     _, w, sl, j + 1, 0, who, mkr, false, _, tag', m₃, 0, a', _, 0, rfl, ha', hms', ?_, hwg, ?_, hlk, fun r e => absurd e (hnp r), hwb, rfl⟩⟩
    ·have e1 : MemOp.ofEvents 0 a.frame.fn a.frame.place #[] = #[] := by rw [ofEvents_eq]; simp
     simp only [e1]
     exact hcom'
    ·rw [est tag' hpe]
     exact .opn hop ho' (fun vs e => absurd e (hw2 vs))
   cases r with
   | zero =>
    rw [Nat.sub_zero] at ej
    cases hn0 : n with
    | zero =>
     rw [hn0] at hnext
     obtain ⟨m₃, hk⟩ := hnext
     have := key .cls m₃ (by rw [ej]; rw [hn0]; exact .cls hk) trivial rfl (by simp [MTag.ct]) ⟨rfl, Nat.zero_le _, .inl hn0.symm⟩ (by simp) (by simp only [mphi]; omega)
     rw [hn0] at this
     exact this
    | succ n' =>
     rw [hn0] at hnext
     obtain ⟨m₃, hk⟩ := hnext
     have := key (.hand n) m₃ (by rw [ej, hn0]; exact .hand (by omega) hk) trivial rfl (by simp [MTag.ct]) ⟨rfl, by omega⟩ (by simp) (by simp only [mphi]; omega)
     rw [hn0] at this
     exact this
   | succ r' =>
    obtain ⟨m₃, hk⟩ := hnext
    exact key (.c (.sp r' 5)) m₃ (by rw [ej]; exact .skd (by omega) hk) trivial rfl (by simp [MTag.ct]) ⟨rfl, rfl⟩ (by simp) (by simp only [mphi]; omega)
  ·obtain ⟨a', w', es, hgo, hD, hg'⟩ := hstep w (.refl w)
   exact idleM G J hA ha hcom hwb hwg hmode ⟨rfl, rfl⟩ (by simp) hgo hD (by rw [hq]; exact .sgo hr hg') (by omega)
 | hand hr h =>
  obtain ⟨rfl, hH⟩ := hlink
  rcases Goes.cases h with hstop | ⟨m', rfl, hstep⟩
  ·exact selStop G J hA ha hcom hq hr ⟨rfl, hH⟩ hwb hwg hmode (hstop w (.refl w))
  ·obtain ⟨a', w', es, hgo, hD, hg'⟩ := hstep w (.refl w)
   exact idleM G J hA ha hcom hwb hwg hmode ⟨rfl, hH⟩ (by simp) hgo hD (by rw [hq]; exact .hand hr hg') (by omega)
 | hpk hr h => simp [parked] at hrun
 | cls h =>
  obtain ⟨rfl, hE⟩ := hlink
  rcases Goes.cases h with hstop | ⟨m', rfl, hstep⟩
  ·exact closeStep G J hA ha hcom hE hq hwb hwg hmode (hstop w (.refl w))
  ·obtain ⟨a', w', es, hgo, hD, hg'⟩ := hstep w (.refl w)
   exact idleM G J hA ha hcom hwb hwg hmode ⟨rfl, hE⟩ (by simp) hgo hD (by rw [hq]; exact .cls hg') (by omega)
 | kd h =>
  obtain ⟨rfl, hE⟩ := hlink
  rcases Goes.cases h with hstop | ⟨m', rfl, hstep⟩
  ·obtain ⟨_, a', hgo, m₂, hk⟩ := hstop w (.refl w)
   exact bookM G J hA ha hcom hwb hgo (.refl φ.Wg w) hwg bk_dis (tag' := .c .anch) (by rw [hq]; exact .anch hk) (Mode.reopen hmode trivial trivial rfl (by simp [MTag.ct])) ⟨rfl, hE⟩ (by simp) (.inl (by simp only [mphi, phi]; omega))
  ·obtain ⟨a', w', es, hgo, hD, hg'⟩ := hstep w (.refl w)
   exact idleM G J hA ha hcom hwb hwg hmode ⟨rfl, hE⟩ (by simp) hgo hD (by rw [hq]; exact .kd hg') (by omega)
 | anch h =>
  obtain ⟨rfl, hE⟩ := hlink
  rcases Goes.cases h with hstop | ⟨m', rfl, hstep⟩
  ·obtain ⟨m₂, hk⟩ := hAn a w (hstop w (.refl w))
   exact (w1Step (sl := sl) G J hA hN ha hcom hE hq hwb hwg (Mode.reopen hmode trivial trivial rfl (by simp [MTag.ct])) hk).mono (Prod.Lex.left _ _ (by simp only [mphi, phi]; omega))
  ·obtain ⟨a', w', es, hgo, hD, hg'⟩ := hstep w (.refl w)
   exact idleM G J hA ha hcom hwb hwg hmode ⟨rfl, hE⟩ (by simp) hgo hD (by rw [hq]; exact .anch hg') (by omega)
 | w1 h =>
  obtain ⟨rfl, hE⟩ := hlink
  exact w1Step G J hA hN ha hcom hE hq hwb hwg hmode h
 | w2 h =>
  rename_i vs
  obtain ⟨rfl, hE⟩ := hlink
  rcases Goes.cases h with hstop | ⟨m', rfl, hstep⟩
  ·obtain ⟨_, hall⟩ := hstop w (.refl w)
   obtain ⟨ho, rfl, rfl, hw2⟩ := Mode.open_inv hmode trivial
   obtain ⟨hle, h1⟩ := hw2 vs rfl
   have hle' : Vw j D ≤ vs := hle
   obtain ⟨hhit, hmiss⟩ := hall (Vw j D) (by omega) (by simpa [pend, MTag.ct] using hwg)
   by_cases e : Vw j D = vs
   ·obtain ⟨a', hgo, m₂, hk⟩ := hhit e
    exact bookM G J hA ha hcom hwb hgo (aside_setCell w (stA φ.Wg) _) (hwg.setSt _) bk_rw (tag' := .c .w3) (by rw [hq]; exact .w3 hk) (.reg trivial ho (by show 1 ≤ Vw j D; omega)) ⟨rfl, hE⟩ (by simp) (.inl (by simp only [mphi, phi]; omega))
   ·obtain ⟨a', hgo, m₂, hk⟩ := hmiss e
    exact bookM G J hA ha hcom hwb hgo (.refl φ.Wg w) hwg bk_rd (tag' := .c .anch) (by rw [hq]; exact .anch hk) (Mode.reopen hmode trivial trivial rfl (by simp [MTag.ct])) ⟨rfl, hE⟩ (by simp) (.inl (by simp only [mphi, phi]; omega))
  ·obtain ⟨a', w', es, hgo, hD, hg'⟩ := hstep w (.refl w)
   exact idleM G J hA ha hcom hwb hwg hmode ⟨rfl, hE⟩ (by simp) hgo hD (by rw [hq]; exact .w2 hg') (by omega)
 | w3 h =>
  obtain ⟨rfl, hE⟩ := hlink
  rcases Goes.cases h with hstop | ⟨m', rfl, hstep⟩
  ·obtain ⟨_, hoff, hblk, htake⟩ := hstop w (.refl w)
   generalize hct : (MTag.c .w3).ct = ct at hmode
   cases hmode with
   | opn h1 _ _ => subst hct; exact h1.elim
   | reg h1 h2 h3 => exact bookM G J hA ha hcom hwb (hblk ⟨_, hwg⟩) (.refl φ.Wg w) hwg (by simp) (tag' := .c .blk) (by rw [hq]; exact .blk hstop) (.reg trivial h2 h3) ⟨rfl, hE⟩ (by simp) (.inr ⟨rfl, by omega⟩)
   | last L' h1 h2 h3 h4 => exact bookM G J hA ha hcom hwb (hblk ⟨_, hwg⟩) (.refl φ.Wg w) hwg (by simp) (tag' := .c .blk) (by rw [hq]; exact .blk hstop) (.last L' trivial h2 h3 h4) ⟨rfl, hE⟩ (by simp) (.inr ⟨rfl, by omega⟩)
   | sema h2 =>
    obtain ⟨a', hgo, m₂, hk⟩ := htake hwg
    exact bookM G J hA ha hcom hwb hgo (aside_setCell w (smA φ.Wg) _) (hwg.setSm 0) bk_sem (tag' := .c .w4) (by rw [hq]; exact .w4 hk) (.fin trivial h2) ⟨rfl, hE⟩ (by simp) (.inl (by simp only [mphi, phi]; omega))
   | fin h1 _ => subst hct; exact h1.elim
  ·obtain ⟨a', w', es, hgo, hD, hg'⟩ := hstep w (.refl w)
   exact idleM G J hA ha hcom hwb hwg hmode ⟨rfl, hE⟩ (by simp) hgo hD (by rw [hq]; exact .w3 hg') (by omega)
 | blk h => simp at hrun
 | w4 h =>
  obtain ⟨rfl, hE⟩ := hlink
  rcases Goes.cases h with hstop | ⟨m', rfl, hstep⟩
  ·obtain ⟨_, hx⟩ := hstop w (.refl w)
   obtain ⟨hq1, rfl, rfl⟩ := Mode.fin_inv hmode trivial
   obtain ⟨a', hgo, m₂, hk⟩ := hx hwg
   exact bookM G J hA ha hcom hwb hgo (.refl φ.Wg w) hwg bk_rd (tag' := .c .ke) (by rw [hq]; exact .ke hk) (.fin trivial hq1) ⟨rfl, hE⟩ (by simp) (.inl (by simp only [mphi, phi]; omega))
  ·obtain ⟨a', w', es, hgo, hD, hg'⟩ := hstep w (.refl w)
   exact idleM G J hA ha hcom hwb hwg hmode ⟨rfl, hE⟩ (by simp) hgo hD (by rw [hq]; exact .w4 hg') (by omega)
 | ke h =>
  obtain ⟨rfl, hE⟩ := hlink
  rcases Goes.cases h with hstop | ⟨m', rfl, hstep⟩
  ·obtain ⟨_, a', hgo, m₂, hk⟩ := hstop w (.refl w)
   obtain ⟨hq1, rfl, rfl⟩ := Mode.fin_inv hmode trivial
   exact bookM G J hA ha hcom hwb hgo (.refl φ.Wg w) hwg bk_en (tag' := .c .acq) (by rw [hq]; exact .acq hk) (.fin trivial hq1) ⟨rfl, hE⟩ (by simp) (.inl (by simp only [mphi, phi]; omega))
  ·obtain ⟨a', w', es, hgo, hD, hg'⟩ := hstep w (.refl w)
   exact idleM G J hA ha hcom hwb hwg hmode ⟨rfl, hE⟩ (by simp) hgo hD (by rw [hq]; exact .ke hg') (by omega)
 | acq h =>
  obtain ⟨rfl, hE⟩ := hlink
  rcases Goes.cases h with hstop | ⟨m', rfl, hstep⟩
  ·obtain ⟨_, a', hgo, hk0⟩ := hstop w (.refl w)
   obtain ⟨hq1, rfl, rfl⟩ := Mode.fin_inv hmode trivial
   have hquit : ∀ i, i < j → (D i).tag = .quit := fun i hi => stage_quit (hq1 i hi)
   have hdone : ∀ k, k < H → Done k w := fun k hk => (hcom.done k hk).resolve_left fun ⟨i, hi, e⟩ => by rw [hquit i hi] at e; cases e
   have hnh : ∀ k, ¬ Held j D k := fun k ⟨i, hi, e⟩ => by rw [hquit i hi] at e; cases e
   have hfin : Fin φ n Done w := ⟨H, hE.1, hE.2, hdone, fun fd e => let ⟨l, s, r, h1, _, h3, h4⟩ := hcom.fnd fd e; ⟨l, s, r, h1, fun k hk => ⟨(h3 k hk).1, (h3 k hk).2.1⟩, fun k hk hp => (h4 k hk hp).resolve_left (hnh k)⟩⟩
   obtain ⟨m₂, hk⟩ := hk0 hfin
   have hrun' := runT_crowd_go (P := P) (sl := sl) (i := 0) ha (by simpa using hgo)
   have e1 : MemOp.ofEvents 0 a.frame.fn a.frame.place #[mk (.acquire (stA φ.Wg))] = #[{ g := 0, fn := a.frame.fn, pos := a.frame.place, act := .mark (.acquire (stA φ.Wg)) }] := by rw [ofEvents_eq]; simp [ofEvent_mk]
   have hlt0 : 0 < gs.size := by rw [hcom.size]; omega
   have htl : TL φ N0 L j who mkr (t ++ MemOp.ofEvents 0 a.frame.fn a.frame.place #[mk (.acquire (stA φ.Wg))]) := by
    refine hcom.tl.mute (fun op hop => ?_) (fun op hop => ?_) (fun op hop => ?_) <;> rw [e1] at hop <;> simp only [List.mem_toArray, List.mem_cons, List.not_mem_nil, or_false] at hop <;> subst hop
    ·rfl
    ·exact G.wgB
    ·simp
   have hst : ∀ op ∈ MemOp.ofEvents 0 a.frame.fn a.frame.place #[mk (.acquire (stA φ.Wg))], op.act ≠ .mark .disable ∧ op.act ≠ .mark .enable := by
    intro op hop
    rw [e1] at hop
    simp only [List.mem_toArray, List.mem_cons, List.not_mem_nil, or_false] at hop
    subst hop
    simp
   have hy : (t ++ #[({ g := 0, fn := a.frame.fn, pos := a.frame.place, act := .mark (.acquire (stA φ.Wg)) } : MemOp)])[t.size]? = some { g := 0, fn := a.frame.fn, pos := a.frame.place, act := .mark (.acquire (stA φ.Wg)) } := by simp
   have hpast := htl.past (q := t.size) (fun g hg1 hg2 => by
     obtain ⟨i, rfl⟩ : ∃ i, g = i + 1 := ⟨g - 1, by omega⟩
     obtain ⟨r, hr⟩ := hcom.rel i (by omega) (by omega) (by rw [hquit i (by omega)]; simp [WTag.stage])
     exact ⟨r, hr.appOther g_of_ofEvents (by omega), lt_of_act? hr.act⟩) (by rw [e1, act?_of hy]) (by rw [e1]; simp [Trace.g?]) (by rw [e1]; exact ⟨0, by simp [Trace.g?], by rw [deaf_old (Nat.le_refl _)]; exact hcom.deaf0⟩) (by rw [Deaf_still t 0 _ hst]; exact hcom.deaf0) hcom.base (fun b hb => (hcom.mkB b hb).2)
   refine ⟨_, _, hrun', .inl ⟨_, w, sl, a', fun y => (D (y - 1)).fuel, m₂, rfl, by simp [hcom.size]; omega, get_map_set_same _ _ _ hlt0, hk, ⟨fun y g hy0 hg => ?_, fun y hy => ?_⟩, hpast, hfin, hwb⟩⟩
   ·obtain ⟨i, rfl⟩ : ∃ i, y = i + 1 := ⟨y - 1, by omega⟩
    rw [get_map_set _ _ _ _ (by omega)] at hg
    obtain ⟨x, hx, rfl⟩ := Option.map_eq_some_iff.1 hg
    have hi : i < j := by have := (Array.getElem?_eq_some_iff.1 hx).1; rw [hcom.size] at this; omega
    obtain ⟨x', hx', hs⟩ := hcom.wk i hi
    rw [hx] at hx'; cases hx'
    rw [hquit i hi] at hs
    rw [Deaf_still t _ _ hst, hcom.deafW i hi, Nat.add_sub_cancel]
    generalize (D i).fuel = m1 at hs ⊢
    generalize (D i).deaf = d1 at hs ⊢
    cases hs with
    | quit h => rw [woken_quitsD h]; exact h
   ·rw [Deaf_still t _ _ hst]
    exact hcom.above y (by simp [hcom.size] at hy; exact hy)
  ·obtain ⟨a', w', es, hgo, hD, hg'⟩ := hstep w (.refl w)
   exact idleM G J hA ha hcom hwb hwg hmode ⟨rfl, hE⟩ (by simp) hgo hD (by rw [hq]; exact .acq hg') (by omega)
end
end Go.Pool
end
section
namespace Go.Pool
open Go.Conc Go.ConcN
open Go.ConcR (stA smA rd wr mk KK WgAt wgBlock)
section
variable {P : Program} {φ : Ph} {n : Nat} {Pre Done : Nat → World → Prop} {An Nx AnW : Goroutine → World → Prop} {N N0 L : Nat} {wb : World}
  {j H : Nat} {who mkr : Nat → Nat} {closed : Bool} {gs : Array Goroutine} {w : World} {sl : Option (Nat × Nat)} {t : Trace} {D : Nat → PD} {d0 f0 : Nat} {tag : MTag} {a : Goroutine} {st sm : Int}
theorem someone (hA : ∀ g w, An g w → g.status = .running) (hAr : ∀ g w, AnW g w → g.status = .running) (hN1 : 1 ≤ N) (ha : gs[0]? = some a) (hms : MSit P φ n Pre Done An Nx AnW N tag (j - L) f0 d0 a w) (hcom : Com P φ n Pre Done An N0 L j H who mkr closed gs w t D d0)
  (hlink : Link φ n tag closed H) (hpk : ∀ r, tag = .hpk r → ∀ i, i < j → (D i).tag ≠ .prk) (hmode : Go.ConcN.Mode j (fun y => (D y).wd) tag.ct st sm) : ∃ (i : Nat) (g : Goroutine), gs[i]? = some g ∧ g.status = .running := by
 have pick : ∀ i, i < j → (D i).tag ≠ .prk → (D i).tag ≠ .quit → ∃ (i : Nat) (g : Goroutine), gs[i]? = some g ∧ g.status = .running := fun i hi h1 h2 => by
  obtain ⟨g, hg, hs⟩ := hcom.wk i hi
  exact ⟨i + 1, g, hg, hs.running hA h1 h2⟩
 rcases hms.status hAr with ⟨hs, _⟩ | ⟨_, rfl | ⟨r, rfl⟩⟩
 ·exact ⟨0, a, ha, hs⟩
 ·obtain ⟨rfl, _⟩ := hlink
  have go : ∀ i, i < j → (D i).wd.stage ≠ 1 → ∃ (i : Nat) (g : Goroutine), gs[i]? = some g ∧ g.status = .running := fun i hi h => pick i hi (hcom.shut rfl i hi) fun e => h (by show (D i).tag.stage = 1; rw [e]; rfl)
  generalize hct : (MTag.c .blk).ct = ct at hmode
  cases hmode with
  | opn h1 _ _ => subst hct; exact h1.elim
  | reg _ _ h3 =>
   obtain ⟨i, hi, h5⟩ := exists_counted h3
   exact go i hi (by omega)
  | last L' _ h2 h3 _ => exact go L' h2 (by omega)
  | sema _ => cases hct
  | fin h1 _ => subst hct; exact h1.elim
 ·obtain ⟨r', gm, z, z', sh, rfl, hjN, _, _, _, _, _⟩ := hms.hpk_inv
  obtain ⟨rfl, _⟩ := hlink
  have hi : L < j := by omega
  have he := hcom.opn rfl L (Nat.le_refl _) hi
  exact pick L hi (hpk _ rfl L hi) fun e => by rw [e] at he; exact he
theorem allAwake (hA : ∀ g w, An g w → g.status = .running) (hAr : ∀ g w, AnW g w → g.status = .running) (ha : gs[0]? = some a) (hms : MSit P φ n Pre Done An Nx AnW N tag (j - L) f0 d0 a w) (hcom : Com P φ n Pre Done An N0 L j H who mkr closed gs w t D d0) : ∀ g ∈ gs, awake g := by
 intro g hg
 obtain ⟨i, hi⟩ := Array.mem_iff_getElem?.1 hg
 cases i with
 | zero =>
  rw [ha] at hi; cases hi
  exact awake_of ((hms.status hAr).elim (fun x => .inl x.1) fun x => .inr (.inl x.1))
 | succ i =>
  have hlt : i < j := by have := (Array.getElem?_eq_some_iff.1 hi).1; rw [hcom.size] at this; omega
  obtain ⟨g', hg', hs⟩ := hcom.wk i hlt
  rw [hi] at hg'; cases hg'
  exact awake_of (hs.status hA)
theorem phase_step (G : Geo φ) (J : Jobs φ n Pre Done) (hA : ∀ g w, An g w → g.status = .running) (hAr : ∀ g w, AnW g w → g.status = .running) (hN1 : 1 ≤ N) (hN : N < 2147483648)
  (hAn : ∀ g w, An g w → ∃ m, Goes P false (Frm φ own0) (DI φ own0 1) (RecvS P φ n Pre Done An) m g w)
  (hAnW : ∀ g w, AnW g w → ∃ m, Goes P true (Frm φ own0) (DI φ own0 0) (W1S P φ n Done Nx AnW) m g w)
  (μ : Mu) (m : Machine) (t : Trace) (h : Inv P φ n Pre Done An Nx AnW N N0 L wb μ m t) : Goal P φ n Pre Done An Nx AnW N N0 L wb μ (stepT P m) t := by
 obtain ⟨gs, w, sl, j, H, who, mkr, closed, D, tag, f0, d0, a, st, sm, rfl, ha, hms, hcom, hwg, hmode, hlink, hpk, hwb, rfl⟩ := h
 obtain ⟨i, g, d, sl', hg, hrun, hstep⟩ := crowd_pick (P := P) (w := w) (sl := sl) (allAwake hA hAr ha hms hcom) (someone hA hAr hN1 ha hms hcom hlink hpk hmode)
 rw [hstep]
 have hms' := hms.rely (Frm.at w d)
 have hcom' := hcom.at J d
 have hwb' := hwb.trans (Frm.at w d)
 have hwg' : WgAt φ.ty φ.Wg (w.at d) st sm := hwg
 cases i with
 | zero =>
  rw [ha] at hg; cases hg
  exact stepMain G J hA hN hAnW ha hms' hcom' hlink hwb' hwg' hmode hrun
 | succ i =>
  have hi : i < j := by have := (Array.getElem?_eq_some_iff.1 hg).1; rw [hcom.size] at this; omega
  exact stepWorker G J hA hAr hN hAn ha hms' hcom' hlink hpk hwb' hwg' hmode hi hg hrun
theorem phase_runs (G : Geo φ) (J : Jobs φ n Pre Done) (hA : ∀ g w, An g w → g.status = .running) (hAr : ∀ g w, AnW g w → g.status = .running) (hN1 : 1 ≤ N) (hN : N < 2147483648)
  (hAn : ∀ g w, An g w → ∃ m, Goes P false (Frm φ own0) (DI φ own0 1) (RecvS P φ n Pre Done An) m g w)
  (hAnW : ∀ g w, AnW g w → ∃ m, Goes P true (Frm φ own0) (DI φ own0 0) (W1S P φ n Done Nx AnW) m g w) :
  ∀ (μ : Mu) (m : Machine) (t : Trace), Inv P φ n Pre Done An Nx AnW N N0 L wb μ m t → ∃ k m' t', runNT P k m t = (.next m', t') ∧ Exit P φ n Done Nx N L wb m' t' := by
 intro μ
 induction μ using ltM_wf.induction with
 | _ μ ih =>
  intro m t h
  obtain ⟨m₁, ops, he, hx | ⟨μ', hl, hI⟩⟩ := phase_step G J hA hAr hN1 hN hAn hAnW μ m t h
  ·exact ⟨1, m₁, t ++ ops, by simp only [runNT, he], hx⟩
  ·obtain ⟨k, m', t', hr, hx⟩ := ih μ' hl m₁ _ hI
   exact ⟨k + 1, m', t', by simp only [runNT, he]; exact hr, hx⟩
theorem phase (G : Geo φ) (J : Jobs φ n Pre Done) (hA : ∀ g w, An g w → g.status = .running) (hAr : ∀ g w, AnW g w → g.status = .running) (hN1 : 1 ≤ N) (hN : N < 2147483648)
  (hAn : ∀ g w, An g w → ∃ m, Goes P false (Frm φ own0) (DI φ own0 1) (RecvS P φ n Pre Done An) m g w)
  (hAnW : ∀ g w, AnW g w → ∃ m, Goes P true (Frm φ own0) (DI φ own0 0) (W1S P φ n Done Nx AnW) m g w)
  {q : Nat → Nat} {B0 : Nat} (ha : gs[0]? = some a) (hL : Leavers P t gs q) (hP : Past φ.Shun B0 t) (hB : B0 ≤ φ.B) (hW : B0 ≤ φ.Wg) (hBs : φ.B ≤ w.heap.size)
  (hstart : Spawns P φ n Pre Done An (Hand P φ n AnW n) N a w) (hwg : WgAt φ.ty φ.Wg w 0 0) (hch : ∃ s r, w.heap[φ.Ch]? = some (.chan 0 #[] false s r false)) (hen : ∃ s r, w.heap[φ.En]? = some (.chan 1 #[] false s r false)) (hfd : ∀ fd, φ.Fd = some fd → ∃ s r, w.heap[fd]? = some (.chan n #[] false s r false)) (hpre : ∀ k, k < n → Pre k w) :
  ∃ k m' t', runNT P k (crowd gs w sl) t = (.next m', t') ∧ Exit P φ n Done Nx N (gs.size - 1) w m' t' := by
 have hlt0 : 0 < gs.size := (Array.getElem?_eq_some_iff.1 ha).1
 obtain ⟨r, rfl⟩ : ∃ r, N = r + 1 := ⟨N - 1, by omega⟩
 obtain ⟨m, hk⟩ := hstart
 have hvc : Vc (gs.size - 1) (fun y => (⟨.quit, q (y + 1), Deaf t (y + 1), .leaf⟩ : PD).wd) = 0 := by
  have := sumTo_tail (f := fun y => cnt (⟨.quit, q (y + 1), Deaf t (y + 1), .leaf⟩ : PD).wd) (L := gs.size - 1) (fun _ _ => rfl) (fun _ => Nat.zero_le _) (gs.size - 1)
  simp only [Nat.sub_self] at this
  simp only [Vc]
  omega
 have hcom : Com P φ n Pre Done An t.size (gs.size - 1) (gs.size - 1) 0 (fun _ => 0) (fun _ => 0) false gs w t (fun y => ⟨.quit, q (y + 1), Deaf t (y + 1), .leaf⟩) 0 := by
  refine ⟨by omega, Nat.le_refl _, fun i hi => ?_, fun _ _ => rfl, TL.init hP hB hW, (fun _ h => absurd rfl h), hBs, hP.hears, fun _ _ => rfl, fun x hx => hL.above x (by omega), fun i h1 h2 => by omega, Nat.zero_le _, fun _ _ => rfl, (fun i k _ e => by cases e), fun k hk => by omega, fun k _ hk => hpre k hk, hch, (let ⟨s, r, h⟩ := hen; ⟨#[], s, r, h, by simp, fun x => absurd rfl x⟩), fun fd e => ?_, fun i hi e => ?_, fun _ i h1 h2 => by omega, (fun h => by cases h)⟩
  rotate_left
  ·obtain ⟨s, r, h⟩ := hfd fd e
   exact ⟨[], s, r, h, List.nodup_nil, by simp, fun k hk => by omega⟩
  ·cases e
  have hi' : i + 1 < gs.size := by omega
  exact ⟨gs[i + 1], Array.getElem?_eq_getElem hi', .quit (hL.old (i + 1) _ (by omega) (Array.getElem?_eq_getElem hi'))⟩
 refine phase_runs G J hA hAr hN1 hN hAn hAnW _ _ t ⟨gs, w, sl, gs.size - 1, 0, fun _ => 0, fun _ => 0, false, _, .c (.sp r 5), m, 0, a, 0, 0, rfl, ha, ?_, hcom, hwg, ?_, ⟨rfl, rfl⟩, by simp, .refl w, rfl⟩
 ·rw [Nat.sub_self]
  have := MSit.skd (N := r + 1) (Nx := Nx) (Nat.lt_succ_self r) hk
  rwa [Nat.sub_self] at this
 ·have := Mode.opn (j := gs.size - 1) (D := fun y => (⟨.quit, q (y + 1), Deaf t (y + 1), .leaf⟩ : PD).wd) (tag := .sp r 5) trivial (fun i _ => .inr (.inr (.inr rfl))) (by simp)
  rw [hvc] at this
  simp [pend] at this
  exact this
end
#print axioms phase
end Go.Pool
end
section
namespace Go.Pool
open Go.Conc Go.ConcN
open Go.ConcR (stA smA rd wr mk KK WgAt wgBlock)
section
variable (P : Program) (Post : Value → World → Prop)
def Ends (m : Machine) (t : Trace) : Prop :=
 ∃ N last o w' t', runNT P (N + 1) m t = (.ended o w', t') ∧ runN P N m = .next last ∧ step P last = .ended o w' ∧ Good P Post last o w' t'
def EndsF (Shun : Loc → Prop) (B : Nat) (g : Goroutine) (w : World) : Prop :=
 ∀ w₁, AtRel w w₁ → ∀ (gs : Array Goroutine) (sl : Option (Nat × Nat)) (t : Trace) (q : Nat → Nat), gs[0]? = some g → Leavers P t gs q → Past Shun B t → Ends P Post (crowd gs w₁ sl) t
end
section
variable {P : Program} {Post : Value → World → Prop} {Shun : Loc → Prop} {B B' : Nat} {g : Goroutine} {w : World}
theorem Ends.of_run {k : Nat} {m m' : Machine} {t t' : Trace} (h : runNT P k m t = (.next m', t')) (h' : Ends P Post m' t') : Ends P Post m t := by
 obtain ⟨K2, last, o, w', t'', e1, e2, e3, e4⟩ := h'
 refine ⟨k + K2, last, o, w', t'', ?_, ?_, e3, e4⟩
 ·rw [Nat.add_assoc, runNT_add, h]; exact e1
 ·rw [runN_add, ← runNT_fst P _ _ t, h]; exact e2
theorem EndsF.mono (hB : B ≤ B') (h : EndsF P Post Shun B' g w) : EndsF P Post Shun B g w := fun w₁ h₁ gs sl t q h0 hL hP => h w₁ h₁ gs sl t q h0 hL (hP.mono hB)
theorem EndsF.rely {w₁ : World} (h : EndsF P Post Shun B g w) (r : AtRel w w₁) : EndsF P Post Shun B g w₁ := fun w₂ h₂ => h w₂ (atRel_trans _ _ _ r h₂)
theorem EndsF.of_goes {D : World → World → Array Event → Prop} {n : Nat} (hD : ∀ w w' es, D w w' es → ∀ e ∈ es, EvL Shun B e) (h : Goes P true AtRel D (EndsF P Post Shun B) n g w) : EndsF P Post Shun B g w := by
 intro w₁ h₁ gs sl t q h0 hL hP
 obtain ⟨N, gs', a', w', sl', t', q', hr, _, h0', hS, hL', hP'⟩ := walk_beside hD _ n gs g w₁ sl t q (Nat.le_refl _) h0 hL hP (Goes.rely atRel_trans h h₁)
 exact .of_run hr (hS w' (atRel_refl w') gs' sl' t' q' h0' hL' hP')
theorem EndsF.last (h : ∀ w₁, AtRel w w₁ → AtEnd P Shun B Post g w₁) : EndsF P Post Shun B g w := by
 intro w₁ h₁ gs sl t q h0 hL hP
 exact beside_ends (D := DE (EvL Shun B)) (n := 0) (fun _ _ _ h => h) h0 hL hP fun w₂ h₂ => h w₂ (atRel_trans _ _ _ h₁ h₂)
theorem EndsF.step (hs : g.status = .running) (h : ∀ w₁, AtRel w w₁ → (stepG P true g w₁).goes fun g' w' es => DE (EvL Shun B) w₁ w' es ∧ EndsF P Post Shun B g' w') : EndsF P Post Shun B g w := by
 refine EndsF.of_goes (D := DE (EvL Shun B)) (n := 1) (fun _ _ _ h => h) (Goes.step hs fun w₁ h₁ => ?_)
 have := h w₁ h₁
 revert this
 cases stepG P true g w₁ <;> simp only [GStep.goes, imp_self]
 exact fun ⟨d, x⟩ => ⟨d, fun w₂ h₂ => x.rely h₂⟩
theorem evL_of_evP {φ : Ph} {e : Event} (h : EvP φ own0 0 e) : EvL (fun l => φ.Shun l ∨ ShN φ.Wg l) φ.B e := by
 refine ⟨fun x hx hs hk => ?_, h.2.1, h.2.2.1, h.2.2.2.2⟩
 rcases h.1 x hx with ⟨_, h1, _⟩ | ⟨_, _, a, h3, h4, _, h6, _⟩ | ⟨_, _, h1, _⟩ | ⟨h1, _⟩ | ⟨_, _, _, _, h1⟩
 ·exact h1 hk
 ·rcases hs with hs | ⟨a', h7, h8⟩
  ·exact h6 hs
  ·rw [h3] at h7; cases h7; exact h4 h8
 ·exact h1
 ·rw [hk] at h1; cases h1
 ·exact h1
theorem goes_size {φ : Ph} {Nx : Goroutine → World → Prop} {s : Nat} : ∀ {n : Nat} {g : Goroutine} {w : World}, w.heap.size = s → Goes P true AtRel (DI φ own0 0) Nx n g w → Goes P true AtRel (DI φ own0 0) (fun g w => Nx g w ∧ w.heap.size = s) n g w
 | 0, g, w, hs, h => fun w₁ h₁ => ⟨h w₁ h₁, by obtain ⟨d, rfl⟩ := h₁; exact hs⟩
 | n + 1, g, w, hs, h => by
  rcases h with h | ⟨hr, h⟩
  ·exact .inl fun w₁ h₁ => ⟨h w₁ h₁, by obtain ⟨d, rfl⟩ := h₁; exact hs⟩
  ·refine .inr ⟨hr, fun w₁ h₁ => ?_⟩
   have := h w₁ h₁
   revert this
   cases stepG P true g w₁ <;> simp only [GStep.goes, imp_self]
   exact fun ⟨d, x⟩ => ⟨d, goes_size (by obtain ⟨d1, rfl⟩ := h₁; obtain ⟨⟨d2, rfl⟩, _⟩ := d; exact hs) x⟩
theorem EndsF.phase {φ : Ph} {n N : Nat} {Pre Done : Nat → World → Prop} {An Nx AnW : Goroutine → World → Prop} {B0 : Nat} (G : Geo φ) (J : Jobs φ n Pre Done) (hA : ∀ g w, An g w → g.status = .running) (hAr : ∀ g w, AnW g w → g.status = .running) (hN1 : 1 ≤ N) (hN : N < 2147483648)
  (hAn : ∀ g w, An g w → ∃ m, Goes P false (Frm φ own0) (DI φ own0 1) (RecvS P φ n Pre Done An) m g w)
  (hAnW : ∀ g w, AnW g w → ∃ m, Goes P true (Frm φ own0) (DI φ own0 0) (W1S P φ n Done Nx AnW) m g w)
  (hB : B0 ≤ φ.B) (hW : B0 ≤ φ.Wg) (hBs : φ.B ≤ w.heap.size)
  (hstart : ∀ w₁, AtRel w w₁ → Spawns P φ n Pre Done An (Hand P φ n AnW n) N g w₁) (hwg : WgAt φ.ty φ.Wg w 0 0) (hch : ∃ s r, w.heap[φ.Ch]? = some (.chan 0 #[] false s r false)) (hen : ∃ s r, w.heap[φ.En]? = some (.chan 1 #[] false s r false)) (hfd : ∀ fd, φ.Fd = some fd → ∃ s r, w.heap[fd]? = some (.chan n #[] false s r false)) (hpre : ∀ k, k < n → Pre k w)
  (hNx : ∀ a' w', Nx a' w' → (¬ φ.gr → w'.heap.size = w.heap.size) → EndsF P Post (fun l => φ.Shun l ∨ ShN φ.Wg l) w'.heap.size a' w') : EndsF P Post φ.Shun B0 g w := by
 rintro w₁ h₁ gs sl t q h0 hL hP
 have hs := hstart w₁ h₁
 obtain ⟨d, rfl⟩ := h₁
 obtain ⟨k, m', t', hr, gs', w', sl', a', q', f, rfl, _, h0', hg, hL', hP', _, hfr⟩ := Go.Pool.phase G J hA hAr hN1 hN hAn hAnW h0 hL hP hB hW (w := w.at d) hBs hs (sl := sl) hwg hch hen hfd (fun k hk => J.pre k w _ (fun _ _ => rfl) (hpre k hk))
 refine .of_run hr ?_
 have hle : φ.B ≤ w'.heap.size := Nat.le_trans hBs hfr.size
 refine EndsF.of_goes (D := DI φ own0 0) (n := f) (fun _ _ _ h e he => let h' := evL_of_evP (h.2 e he); ⟨h'.1, h'.2.1, h'.2.2.1, MemAct.low_mono hle h'.2.2.2⟩) (Goes.weak (fun _ _ h => h) (fun g w₂ ⟨x, y⟩ => ?_) (goes_size rfl hg)) w' (atRel_refl w') gs' sl' t' q' h0' hL' hP'
 rw [← y]
 exact hNx g w₂ x fun g => y.trans (hfr.still g)
end
end Go.Pool
end
