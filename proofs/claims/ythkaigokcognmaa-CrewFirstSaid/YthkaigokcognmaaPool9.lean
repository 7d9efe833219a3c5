/-
  POOL 9: ████ THE PHASE: from a frame to a frame with N leavers more, on whatever tape. ████
-/
import Derived.Test.YthkaigokcognmaaPool8
namespace Go.Pool
open Go.Conc Go.ConcN
open Go.ConcR (stA smA rd wr mk KK WgAt wgBlock)

section
variable {P : Program} {φ : Ph} {n : Nat} {Pre Done : Nat → World → Prop} {An Nx AnW : Goroutine → World → Prop} {N N0 L : Nat} {wb : World}
  {j H : Nat} {who : Nat → Nat} {closed : Bool} {gs : Array Goroutine} {w : World} {sl : Option (Nat × Nat)} {t : Trace} {D : Nat → PD} {d0 f0 : Nat} {tag : MTag} {a : Goroutine} {st sm : Int}

/-- NO DEADLOCK. -/
theorem someone (hA : ∀ g w, An g w → g.status = .running) (hAr : ∀ g w, AnW g w → g.status = .running) (hN1 : 1 ≤ N) (ha : gs[0]? = some a) (hms : MSit P φ n Pre Done An Nx AnW N tag (j - L) f0 d0 a w) (hcom : Com P φ n Pre Done An N0 L j H who closed gs w t D d0)
    (hlink : Link φ n tag closed H) (hpk : ∀ r, tag = .hpk r → ∀ i, i < j → (D i).tag ≠ .prk) (hmode : Go.ConcN.Mode j (fun y => (D y).wd) tag.ct st sm) : ∃ (i : Nat) (g : Goroutine), gs[i]? = some g ∧ g.status = .running := by
  have pick : ∀ i, i < j → (D i).tag ≠ .prk → (D i).tag ≠ .quit → ∃ (i : Nat) (g : Goroutine), gs[i]? = some g ∧ g.status = .running := fun i hi h1 h2 => by
    obtain ⟨g, hg, hs⟩ := hcom.wk i hi
    exact ⟨i + 1, g, hg, hs.running hA h1 h2⟩
  rcases hms.status hAr with ⟨hs, _⟩ | ⟨_, rfl | ⟨r, rfl⟩⟩
  · exact ⟨0, a, ha, hs⟩
  · obtain ⟨rfl, _⟩ := hlink
    have go : ∀ i, i < j → (D i).wd.stage ≠ 1 → ∃ (i : Nat) (g : Goroutine), gs[i]? = some g ∧ g.status = .running := fun i hi h => pick i hi (hcom.shut rfl i hi) fun e => h (by show (D i).tag.stage = 1; rw [e]; rfl)
    generalize hct : (MTag.c .blk).ct = ct at hmode
    cases hmode with
    | opn h1 _ _ => subst hct; exact h1.elim
    | reg _ _ h3 =>
      obtain ⟨i, hi, h5⟩ := exists_counted h3
      exact go i hi (by omega)
    | last L' _ h2 h3 _ => exact go L' h2 (by omega)
    | sema _ => cases hct
    | fin h1 _ => subst hct; exact h1.elim
  · obtain ⟨r', gm, z, z', sh, rfl, hjN, _, _, _, _, _⟩ := hms.hpk_inv
    obtain ⟨rfl, _⟩ := hlink
    have hi : L < j := by omega
    have he := hcom.opn rfl L (Nat.le_refl _) hi
    exact pick L hi (hpk _ rfl L hi) fun e => by rw [e] at he; exact he

theorem allAwake (hA : ∀ g w, An g w → g.status = .running) (hAr : ∀ g w, AnW g w → g.status = .running) (ha : gs[0]? = some a) (hms : MSit P φ n Pre Done An Nx AnW N tag (j - L) f0 d0 a w) (hcom : Com P φ n Pre Done An N0 L j H who closed gs w t D d0) : ∀ g ∈ gs, awake g := by
  intro g hg
  obtain ⟨i, hi⟩ := Array.mem_iff_getElem?.1 hg
  cases i with
  | zero =>
    rw [ha] at hi; cases hi
    exact awake_of ((hms.status hAr).elim (fun x => .inl x.1) fun x => .inr (.inl x.1))
  | succ i =>
    have hlt : i < j := by have := (Array.getElem?_eq_some_iff.1 hi).1; rw [hcom.size] at this; omega
    obtain ⟨g', hg', hs⟩ := hcom.wk i hlt
    rw [hi] at hg'; cases hg'
    exact awake_of (hs.status hA)

theorem phase_step (G : Geo φ) (J : Jobs φ n Pre Done) (hA : ∀ g w, An g w → g.status = .running) (hAr : ∀ g w, AnW g w → g.status = .running) (hN1 : 1 ≤ N) (hN : N < 2147483648)
    (hAn : ∀ g w, An g w → ∃ m, Goes P false (Frm φ own0) (DI φ own0 1) (RecvS P φ n Pre Done An) m g w)
    (hAnW : ∀ g w, AnW g w → ∃ m, Goes P true (Frm φ own0) (DI φ own0 0) (W1S P φ n Done Nx AnW) m g w)
    (μ : Nat × Nat) (m : Machine) (t : Trace) (h : Inv P φ n Pre Done An Nx AnW N N0 L wb μ m t) : Goal P φ n Pre Done An Nx AnW N N0 L wb μ (stepT P m) t := by
  obtain ⟨gs, w, sl, j, H, who, closed, D, tag, f0, d0, a, st, sm, rfl, ha, hms, hcom, hwg, hmode, hlink, hpk, hwb, rfl⟩ := h
  obtain ⟨i, g, d, sl', hg, hrun, hstep⟩ := crowd_pick (P := P) (w := w) (sl := sl) (allAwake hA hAr ha hms hcom) (someone hA hAr hN1 ha hms hcom hlink hpk hmode)
  rw [hstep]
  have hms' := hms.rely (Frm.at w d)
  have hcom' := hcom.at J d
  have hwb' := hwb.trans (Frm.at w d)
  have hwg' : WgAt φ.ty φ.Wg (w.at d) st sm := hwg
  cases i with
  | zero =>
    rw [ha] at hg; cases hg
    exact stepMain G J hA hN hAnW ha hms' hcom' hlink hwb' hwg' hmode hrun
  | succ i =>
    have hi : i < j := by have := (Array.getElem?_eq_some_iff.1 hg).1; rw [hcom.size] at this; omega
    exact stepWorker G J hA hAr hN hAn ha hms' hcom' hlink hpk hwb' hwg' hmode hi hg hrun

theorem phase_runs (G : Geo φ) (J : Jobs φ n Pre Done) (hA : ∀ g w, An g w → g.status = .running) (hAr : ∀ g w, AnW g w → g.status = .running) (hN1 : 1 ≤ N) (hN : N < 2147483648)
    (hAn : ∀ g w, An g w → ∃ m, Goes P false (Frm φ own0) (DI φ own0 1) (RecvS P φ n Pre Done An) m g w)
    (hAnW : ∀ g w, AnW g w → ∃ m, Goes P true (Frm φ own0) (DI φ own0 0) (W1S P φ n Done Nx AnW) m g w) :
    ∀ (μ : Nat × Nat) (m : Machine) (t : Trace), Inv P φ n Pre Done An Nx AnW N N0 L wb μ m t → ∃ k m' t', runNT P k m t = (.next m', t') ∧ Exit P φ n Done Nx N L wb m' t' := by
  intro μ
  induction μ using (Prod.lex Nat.lt_wfRel Nat.lt_wfRel).wf.induction with
  | _ μ ih =>
    intro m t h
    obtain ⟨m₁, ops, he, hx | ⟨μ', hl, hI⟩⟩ := phase_step G J hA hAr hN1 hN hAn hAnW μ m t h
    · exact ⟨1, m₁, t ++ ops, by simp only [runNT, he], hx⟩
    · obtain ⟨k, m', t', hr, hx⟩ := ih μ' hl m₁ _ hI
      exact ⟨k + 1, m', t', by simp only [runNT, he]; exact hr, hx⟩

/-- ████ THE PHASE ████ -/
theorem phase (G : Geo φ) (J : Jobs φ n Pre Done) (hA : ∀ g w, An g w → g.status = .running) (hAr : ∀ g w, AnW g w → g.status = .running) (hN1 : 1 ≤ N) (hN : N < 2147483648)
    (hAn : ∀ g w, An g w → ∃ m, Goes P false (Frm φ own0) (DI φ own0 1) (RecvS P φ n Pre Done An) m g w)
    (hAnW : ∀ g w, AnW g w → ∃ m, Goes P true (Frm φ own0) (DI φ own0 0) (W1S P φ n Done Nx AnW) m g w)
    {q : Nat → Nat} {B0 : Nat} (ha : gs[0]? = some a) (hL : Leavers P t gs q) (hP : Past φ.Shun B0 t) (hB : B0 ≤ φ.B) (hW : B0 ≤ φ.Wg)
    (hstart : Spawns P φ n Pre Done An (Hand P φ n AnW n) N a w) (hwg : WgAt φ.ty φ.Wg w 0 0) (hch : ∃ s r, w.heap[φ.Ch]? = some (.chan 0 #[] false s r false)) (hen : ∃ s r, w.heap[φ.En]? = some (.chan 1 #[] false s r false)) (hfd : ∀ fd, φ.Fd = some fd → ∃ s r, w.heap[fd]? = some (.chan n #[] false s r false)) (hpre : ∀ k, k < n → Pre k w) :
    ∃ k m' t', runNT P k (crowd gs w sl) t = (.next m', t') ∧ Exit P φ n Done Nx N (gs.size - 1) w m' t' := by
  have hlt0 : 0 < gs.size := (Array.getElem?_eq_some_iff.1 ha).1
  obtain ⟨r, rfl⟩ : ∃ r, N = r + 1 := ⟨N - 1, by omega⟩
  obtain ⟨m, hk⟩ := hstart
  have hvc : Vc (gs.size - 1) (fun y => (⟨.quit, q (y + 1), Deaf t (y + 1)⟩ : PD).wd) = 0 := by
    have := sumTo_tail (f := fun y => cnt (⟨.quit, q (y + 1), Deaf t (y + 1)⟩ : PD).wd) (L := gs.size - 1) (fun _ _ => rfl) (fun _ => Nat.zero_le _) (gs.size - 1)
    simp only [Nat.sub_self] at this
    simp only [Vc]
    omega
  have hcom : Com P φ n Pre Done An t.size (gs.size - 1) (gs.size - 1) 0 (fun _ => 0) false gs w t (fun y => ⟨.quit, q (y + 1), Deaf t (y + 1)⟩) 0 := by
    refine ⟨by omega, Nat.le_refl _, fun i hi => ?_, fun _ _ => rfl, TL.init hP hB hW, hP.hears, fun _ _ => rfl, fun x hx => hL.above x (by omega), fun i h1 h2 => by omega, Nat.zero_le _, fun _ _ => rfl, (fun i k _ e => by cases e), fun k hk => by omega, fun k _ hk => hpre k hk, hch, (let ⟨s, r, h⟩ := hen; ⟨#[], s, r, h, by simp, fun x => absurd rfl x⟩), fun fd e => ?_, fun i hi e => ?_, fun _ i h1 h2 => by omega, (fun h => by cases h)⟩
    rotate_left
    · obtain ⟨s, r, h⟩ := hfd fd e
      exact ⟨[], s, r, h, List.nodup_nil, by simp, fun k hk => by omega⟩
    · cases e
    have hi' : i + 1 < gs.size := by omega
    exact ⟨gs[i + 1], Array.getElem?_eq_getElem hi', .quit (hL.old (i + 1) _ (by omega) (Array.getElem?_eq_getElem hi'))⟩
  refine phase_runs G J hA hAr hN1 hN hAn hAnW _ _ t ⟨gs, w, sl, gs.size - 1, 0, fun _ => 0, false, _, .c (.sp r 5), m, 0, a, 0, 0, rfl, ha, ?_, hcom, hwg, ?_, ⟨rfl, rfl⟩, by simp, .refl w, rfl⟩
  · rw [Nat.sub_self]
    have := MSit.skd (N := r + 1) (Nx := Nx) (Nat.lt_succ_self r) hk
    rwa [Nat.sub_self] at this
  · have := Mode.opn (j := gs.size - 1) (D := fun y => (⟨.quit, q (y + 1), Deaf t (y + 1)⟩ : PD).wd) (tag := .sp r 5) trivial (fun i _ => .inr (.inr (.inr rfl))) (by simp)
    rw [hvc] at this
    simp [pend] at this
    exact this
end

#print axioms phase
end Go.Pool
