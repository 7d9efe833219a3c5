/-
  POOL 1: THE TRACE's LAW of a phase in which workers take jobs from one channel. Places: the group's cells (never touched plainly) · what is only read (plainly) · the cells of job k (touched plainly by the one who drew k). All that stands ahead of the phase is known to whoever acts in it.
-/
import Derived.Conc.CrowdRun
import Derived.Conc.CrowdSel
import Derived.Conc.Beside
namespace Go.Pool
open Go.Conc Go.ConcN
open Go.ConcR (stA smA rd wr mk KK WgAt wgBlock)

structure Ph where
  ty : TypeId
  Wg : Nat
  Ch : Nat
  En : Nat
  pb : Nat → Prop
  B : Nat
  Shun : Loc → Prop
  /-- The channel of the jobs of which something is so; of which jobs it is. -/
  Fd : Option Nat
  p : Nat → Prop

def OwnL (φ : Ph) (k : Nat) (l : Loc) : Prop := ∃ a : Addr, l = .cell a ∧ φ.pb a.block ∧ a.off = k
def RdL (φ : Ph) (l : Loc) : Prop := ∃ a : Addr, l = .cell a ∧ a.block ≠ φ.Wg ∧ ¬ φ.pb a.block ∧ ¬ φ.Shun l

def TouchOk (φ : Ph) (own : Nat → Prop) (g : Nat) (x : Touch) : Prop :=
  (ShN φ.Wg x.loc ∧ x.kind ≠ .plain ∧ (x.kind = .said → g = 0)) ∨ (x.kind = .plain ∧ x.write = false ∧ RdL φ x.loc) ∨ (x.kind = .plain ∧ ∃ k, own k ∧ OwnL φ k x.loc) ∨ (x.kind = .atomic ∧ (∃ r, x.loc = .obj r) ∧ g = 0)

structure Apt (φ : Ph) : Prop where
  wgpb : ¬ φ.pb φ.Wg
  wgShun : ∀ l, ShN φ.Wg l → ¬ φ.Shun l
  pbShun : ∀ a : Addr, φ.pb a.block → ¬ φ.Shun (.cell a)
  objShun : ∀ r, ¬ φ.Shun (.obj r)

structure TL (φ : Ph) (N0 L j : Nat) (who : Nat → Nat) (t : Trace) : Prop where
  nr : ∀ said, ¬ Race said t
  early : ∀ i a, i < N0 → touchAt t i = some a → a.loc.isMemory = true → (∀ g, (g = 0 ∨ (L < g ∧ g ≤ j)) → Knows t g i) ∨ (φ.Shun a.loc ∧ a.kind = .atomic)
  late : ∀ i op x, N0 ≤ i → t[i]? = some op → op.act.touch? = some x → (op.g = 0 ∨ (L < op.g ∧ op.g ≤ j)) ∧ TouchOk φ (fun k => who k = op.g ∧ op.g ≠ 0) op.g x
  low : ∀ op ∈ t, op.act.low φ.B
  norel : NoRelease (stA φ.Wg) t
  old : ∀ i g, i < N0 → t.g? i = some g → g ≠ 0 → t.counts i → ∃ q, t.g? q = some 0 ∧ HappensBefore t i q
  size : N0 ≤ t.size

theorem noRace_mute {said : Bool} {t u : Trace} (h : ¬ Race said t) (hu : ∀ op ∈ u, op.act.touch? = none) : ¬ Race said (t ++ u) := by
  rintro ⟨i, j, hij, ⟨a, b, ha, hb, hc⟩, n1, n2⟩
  obtain ⟨x, hx, hxa⟩ := touch_of ha
  obtain ⟨y, hy, hyb⟩ := touch_of hb
  rcases getElem?_append_cases hy with ⟨hj, hy'⟩ | ⟨_, hyu⟩
  · have hi : i < t.size := Nat.lt_trans hij hj
    have hx' : t[i]? = some x := by rw [← getElem?_append_old (u := u) hi]; exact hx
    exact h ⟨i, j, hij, ⟨a, b, by simp [Trace.act?, hx', hxa], by simp [Trace.act?, hy', hyb], hc⟩, fun e => n1 (hb_app u e), fun e => n2 (hb_app u e)⟩
  · rw [hu y hyu] at hyb; cases hyb

section
variable {φ : Ph} {N0 L j : Nat} {who : Nat → Nat} {t u : Trace}

theorem TL.old_app (h : TL φ N0 L j who t) (u : Trace) : ∀ i g, i < N0 → (t ++ u).g? i = some g → g ≠ 0 → (t ++ u).counts i → ∃ q, (t ++ u).g? q = some 0 ∧ HappensBefore (t ++ u) i q := by
  intro i g hi hg hne hc
  have hit : i < t.size := Nat.lt_of_lt_of_le hi h.size
  obtain ⟨q, hq, hb⟩ := h.old i g hi (by rw [← g?_old (u := u) hit]; exact hg) hne ((counts_old hit).1 hc)
  have hql : q < t.size := by
    unfold Trace.g? at hq
    obtain ⟨z, hz, _⟩ := Option.map_eq_some_iff.1 hq
    exact lt_size_of_getElem? hz
  exact ⟨q, by rw [g?_old hql]; exact hq, hb_app u hb⟩

theorem TL.early_app (h : TL φ N0 L j who t) (u : Trace) : ∀ i a, i < N0 → touchAt (t ++ u) i = some a → a.loc.isMemory = true → (∀ g, (g = 0 ∨ (L < g ∧ g ≤ j)) → Knows (t ++ u) g i) ∨ (φ.Shun a.loc ∧ a.kind = .atomic) := by
  intro i a hi ha hm
  rw [touchAt_old (Nat.lt_of_lt_of_le hi h.size)] at ha
  exact (h.early i a hi ha hm).imp (fun x g hg => (x g hg).app u) id

/-- Operations that touch nothing, whoever makes them. -/
theorem TL.mute (h : TL φ N0 L j who t) (hu : ∀ op ∈ u, op.act.touch? = none) (hl : ∀ op ∈ u, op.act.low φ.B) (hr : ∀ op ∈ u, op.act ≠ .mark (.release (stA φ.Wg))) : TL φ N0 L j who (t ++ u) := by
  refine ⟨fun said => noRace_mute (h.nr said) hu, h.early_app u, fun i op x hi ho hx => ?_, fun op hop => (Array.mem_append.1 hop).elim (h.low op) (hl op), h.norel.app hr, h.old_app u, by have := h.size; simp; omega⟩
  rcases getElem?_append_cases ho with ⟨_, ho'⟩ | ⟨_, hou⟩
  · exact h.late i op x hi ho' hx
  · rw [hu op hou] at hx; cases hx

/-- Operations of one goroutine that acts in the phase. -/
theorem TL.app (A : Apt φ) (h : TL φ N0 L j who t) {g : Nat} (hg : g = 0 ∨ (L < g ∧ g ≤ j)) (hug : ∀ op ∈ u, op.g = g)
    (hu : ∀ op ∈ u, ∀ x, op.act.touch? = some x → TouchOk φ (fun k => who k = g ∧ g ≠ 0) g x) (hl : ∀ op ∈ u, op.act.low φ.B) (hr : ∀ op ∈ u, op.act ≠ .mark (.release (stA φ.Wg))) : TL φ N0 L j who (t ++ u) := by
  refine ⟨fun said => noRace_append (h.nr said) hug fun i a ha op hop b hb hc => ?_, h.early_app u, fun i op x hi ho hx => ?_, fun op hop => (Array.mem_append.1 hop).elim (h.low op) (hl op), h.norel.app hr, h.old_app u, by have := h.size; simp; omega⟩
  · have hb' := hu op hop b hb
    have hmem : a.loc.isMemory = true := hc.2.1
    have hloc : a.loc = b.loc := hc.1
    rcases Nat.lt_or_ge i N0 with hlt | hge
    · rcases h.early i a hlt ha hmem with hk | ⟨hs, _⟩
      · exact hk g hg
      · exfalso
        rcases hb' with ⟨h1, _⟩ | ⟨_, _, x, hx, _, _, h3⟩ | ⟨_, k, _, x, hx, h2, _⟩ | ⟨_, ⟨r, hr⟩, _⟩
        · exact A.wgShun _ h1 (hloc ▸ hs)
        · exact h3 (hloc ▸ hs)
        · exact A.pbShun x h2 (hx ▸ hloc ▸ hs)
        · exact A.objShun r (hr ▸ hloc ▸ hs)
    · obtain ⟨x, hx, hxa⟩ := touch_of ha
      obtain ⟨_, ht⟩ := h.late i x a hge hx hxa
      have hko : x.g = g → Knows t g i := fun e => e ▸ knows_own hx
      obtain ⟨_, _, hwr, hkind⟩ := hc
      -- a channel's own block: touched atomically alone
      have hobj : (∃ r, a.loc = .obj r) → Knows t g i := fun ⟨r, hr⟩ => by
        have ka : a.kind = .atomic := by
          rcases ht with ⟨⟨y, hy, _⟩, _⟩ | ⟨_, _, y, hy, _⟩ | ⟨_, k, _, y, hy, _⟩ | ⟨h1, _⟩
          · rw [hy] at hr; cases hr
          · rw [hy] at hr; cases hr
          · rw [hy] at hr; cases hr
          · exact h1
        have kb : b.kind = .atomic := by
          rw [hloc] at hr
          rcases hb' with ⟨⟨y, hy, _⟩, _⟩ | ⟨_, _, y, hy, _⟩ | ⟨_, k, _, y, hy, _⟩ | ⟨h1, _⟩
          · rw [hy] at hr; cases hr
          · rw [hy] at hr; cases hr
          · rw [hy] at hr; cases hr
          · exact h1
        rcases hkind with e | e | ⟨_, e, _⟩
        · rw [ka] at e; cases e
        · rw [kb] at e; cases e
        · rw [ka] at e; cases e
      by_cases hob : ∃ r, a.loc = .obj r
      · exact hobj hob
      have hob' : ¬ ∃ r, b.loc = .obj r := by rw [← hloc]; exact hob
      have ht' : (ShN φ.Wg a.loc ∧ a.kind ≠ .plain ∧ (a.kind = .said → x.g = 0)) ∨ (a.kind = .plain ∧ a.write = false ∧ RdL φ a.loc) ∨ (a.kind = .plain ∧ ∃ k, (who k = x.g ∧ x.g ≠ 0) ∧ OwnL φ k a.loc) :=
        ht.imp_right (Or.imp_right fun e => e.resolve_right fun ⟨_, hr, _⟩ => hob hr)
      have hb'' : (ShN φ.Wg b.loc ∧ b.kind ≠ .plain ∧ (b.kind = .said → g = 0)) ∨ (b.kind = .plain ∧ b.write = false ∧ RdL φ b.loc) ∨ (b.kind = .plain ∧ ∃ k, (who k = g ∧ g ≠ 0) ∧ OwnL φ k b.loc) :=
        hb'.imp_right (Or.imp_right fun e => e.resolve_right fun ⟨_, hr, _⟩ => hob' hr)
      clear ht hb'
      rcases ht' with ⟨a1, a2, a3⟩ | ⟨a1, a2, y, hy, a3, a4, _⟩ | ⟨a1, k, ⟨a2, a2'⟩, y, hy, a3, a4⟩ <;> rcases hb'' with ⟨b1, b2, b3⟩ | ⟨b1, b2, z, hz, b3, b4, _⟩ | ⟨b1, k', ⟨b2, b2'⟩, z, hz, b3, b4⟩
      · rcases hkind with e | e | ⟨_, e1, e2⟩
        · exact absurd e a2
        · exact absurd e b2
        · exact hko ((a3 e1).trans (b3 e2).symm)
      · obtain ⟨y, hy, hyb⟩ := a1
        have : y = z := by have := hy.symm.trans (hloc.trans hz); cases this; rfl
        exact absurd (this ▸ hyb) b3
      · obtain ⟨y, hy, hyb⟩ := a1
        have : y = z := by have := hy.symm.trans (hloc.trans hz); cases this; rfl
        exact absurd (hyb ▸ this ▸ b3) A.wgpb
      · obtain ⟨z, hz, hzb⟩ := b1
        have : y = z := by have := hy.symm.trans (hloc.trans hz); cases this; rfl
        exact absurd (this ▸ hzb) a3
      · rw [a2, b2] at hwr; simp at hwr
      · have : y = z := by have := hy.symm.trans (hloc.trans hz); cases this; rfl
        exact absurd (this ▸ b3) a4
      · obtain ⟨z, hz, hzb⟩ := b1
        have : y = z := by have := hy.symm.trans (hloc.trans hz); cases this; rfl
        exact absurd (hzb ▸ this ▸ a3) A.wgpb
      · have : y = z := by have := hy.symm.trans (hloc.trans hz); cases this; rfl
        exact absurd (this ▸ a3) b4
      · have : y = z := by have := hy.symm.trans (hloc.trans hz); cases this; rfl
        subst this
        have : k = k' := a4.symm.trans b4
        subst this
        exact hko (a2.symm.trans b2)
  · rcases getElem?_append_cases ho with ⟨_, ho'⟩ | ⟨_, hou⟩
    · exact h.late i op x hi ho' hx
    · have e := hug op hou
      rw [e]
      exact ⟨hg, hu op hou x hx⟩

/-- A job is drawn. -/
theorem TL.draw (h : TL φ N0 L j who t) {who' : Nat → Nat} (hw : ∀ k, who k ≠ 0 → who' k = who k) : TL φ N0 L j who' t :=
  ⟨h.nr, h.early, fun i op x hi ho hx => by
    obtain ⟨h1, h2⟩ := h.late i op x hi ho hx
    refine ⟨h1, h2.imp_right (Or.imp_right (Or.imp_left fun ⟨e, k, ⟨ek, ne⟩, ho⟩ => ⟨e, k, ⟨?_, ne⟩, ho⟩))⟩
    rw [hw k (by rw [ek]; exact ne), ek], h.low, h.norel, h.old, h.size⟩

/-- A go statement: goroutine j + 1 begins. -/
theorem TL.fork (h : TL φ N0 L j who t) {x y : MemOp} (hx : x.g = 0 ∧ x.act = .go (j + 1)) (hy : y.g = j + 1 ∧ y.act = .start) (h0 : Deaf t 0 = 0) (hk : Deaf t (j + 1) = 0) : TL φ N0 L (j + 1) who (t ++ #[x, y]) := by
  have hm : ∀ op ∈ #[x, y], op = x ∨ op = y := by intro op hop; simpa using hop
  have m := h.mute (u := #[x, y]) (fun op hop => by rcases hm op hop with rfl | rfl; · rw [hx.2]; rfl
                                                    · rw [hy.2]; rfl)
    (fun op hop => by rcases hm op hop with rfl | rfl; · rw [hx.2]; trivial
                      · rw [hy.2]; trivial)
    (fun op hop => by rcases hm op hop with rfl | rfl; · rw [hx.2]; simp
                      · rw [hy.2]; simp)
  refine ⟨m.nr, fun i a hi ha hmem => ?_, fun i op z hi ho hz => ?_, m.low, m.norel, m.old, m.size⟩
  · rcases m.early i a hi ha hmem with hkn | hs
    · refine .inl fun g hg => ?_
      by_cases e : g = j + 1
      · subst e
        have ha' := ha
        rw [touchAt_old (Nat.lt_of_lt_of_le hi h.size)] at ha'
        rcases h.early i a hi ha' hmem with hk0 | hs
        · exact fork_knows hx hy h0 hk (hk0 0 (.inl rfl))
        · -- known all the same: main's knowledge in the longer trace leads to the child's start
          have h0' := hkn 0 (.inl rfl)
          obtain ⟨q, z, hq, hzg, hb⟩ := h0'
          have hxp : (t ++ #[x, y])[t.size]? = some x := by rw [Array.getElem?_append_right (Nat.le_refl _)]; simp
          have hyp : (t ++ #[x, y])[t.size + 1]? = some y := by rw [Array.getElem?_append_right (by omega)]; simp
          have e0 : (t ++ #[x, y]).heard t.size := ⟨0, by simp [Trace.g?, hx.1], by rw [deaf_old (Nat.le_refl _)]; exact h0⟩
          have e1 : (t ++ #[x, y]).heard (t.size + 1) := ⟨j + 1, by simp [Trace.g?, hy.1], by rw [deaf_succ hxp, deaf_old (Nat.le_refl _)]; simp only [deafStep, hx.2]; exact hk⟩
          have edge : HappensBefore (t ++ #[x, y]) t.size (t.size + 1) := .single (.inr ⟨.spawn (child := j + 1) (by rw [act?_of hxp, hx.2]) (by rw [act?_of hyp, hy.2]) (by simp [Trace.g?, hy.1]), e0, e1⟩)
          refine ⟨t.size + 1, y, hyp, hy.1, ?_⟩
          have hqs : q ≤ t.size := by
            have := lt_size_of_getElem? hq
            simp at this
            rcases Nat.lt_or_ge t.size q with hgt | hle
            · have : q = t.size + 1 := by omega
              subst this
              rw [hyp] at hq; cases hq; rw [hy.1] at hzg; cases hzg
            · exact hle
          rcases Nat.lt_or_ge q t.size with hlt | hge
          · exact .inr (hb.hb (.trans (hb_po hlt hq hxp (hzg.trans hx.1.symm)) edge))
          · have : q = t.size := by omega
            subst this
            exact .inr (hb.hb edge)
      · exact hkn g (hg.imp_right fun ⟨h1, h2⟩ => ⟨h1, by omega⟩)
    · exact .inr hs
  · obtain ⟨h1, h2⟩ := m.late i op z hi ho hz
    exact ⟨h1.imp_right fun ⟨h1, h2⟩ => ⟨h1, by omega⟩, h2⟩

/-- THE PHASE's BEGINNING. -/
theorem TL.init {B0 : Nat} (P : Past φ.Shun B0 t) (hB : B0 ≤ φ.B) (hW : B0 ≤ φ.Wg) : TL φ t.size L L (fun _ => 0) t := by
  refine ⟨P.clean, fun i a hi ha hm => (P.known i a ha hm).imp (fun x g hg => ?_) id, fun i op x hi ho _ => ?_, fun op hop => MemAct.low_mono hB (P.seen op hop), ?_, fun i g _ => P.over i g, Nat.le_refl _⟩
  · rcases hg with rfl | ⟨h1, h2⟩
    · exact x
    · omega
  · have := lt_size_of_getElem? ho; omega
  · intro i hi
    obtain ⟨op, ho, hoa⟩ := Option.map_eq_some_iff.1 hi
    have := P.seen op (mem_of_getElem? ho)
    rw [hoa] at this
    simp only [MemAct.low, stA] at this
    omega

/-- THE PHASE's END. -/
theorem TL.past (h : TL φ N0 L j who t) {q : Nat} (hrel : ∀ g, L < g → g ≤ j → ∃ r, RelBy (stA φ.Wg) t g r ∧ r < q) (hq : t.act? q = some (.mark (.acquire (stA φ.Wg)))) (hqg : t.g? q = some 0) (hqh : t.heard q) (h0 : Deaf t 0 = 0) :
    Past (fun l => φ.Shun l ∨ ShN φ.Wg l) φ.B t := by
  have key : ∀ i g, N0 ≤ i → t.g? i = some g → g ≠ 0 → t.counts i → HappensBefore t i q := by
    intro i g hi hg hne hc
    obtain ⟨x, hx, hm, hk⟩ := hc
    obtain ⟨op, hop, hox⟩ := touch_of hx
    have hgo : op.g = g := by simpa [Trace.g?, hop] using hg
    obtain ⟨h1, _⟩ := h.late i op x hi hop hox
    rw [hgo] at h1
    rcases h1 with e | ⟨e1, e2⟩
    · exact absurd e hne
    obtain ⟨r, hr, hrq⟩ := hrel g e1 e2
    have edge : HappensBefore t r q := .single (.inr ⟨.marked hrq (.inr hr.act) hq (fun k _ _ => h.norel k), hr.heard, hqh⟩)
    have hle : i ≤ r := Nat.le_of_not_lt fun hlt => hr.after i hlt hg ⟨x, hx, hm, hk⟩
    rcases Nat.lt_or_ge i r with hlt | hge
    · exact .trans (.single (.inl ⟨hlt, g, hg, hr.g⟩)) edge
    · obtain rfl : i = r := by omega
      exact edge
  obtain ⟨zq, hzq, hzqg⟩ := Option.map_eq_some_iff.1 hqg
  refine ⟨h.nr, fun i a ha hm => ?_, fun i g hg hne hc => ?_, h0, h.low⟩
  · rcases Nat.lt_or_ge i N0 with hlt | hge
    · exact (h.early i a hlt ha hm).imp (fun x => x 0 (.inl rfl)) fun ⟨x, y⟩ => ⟨.inl x, y⟩
    · obtain ⟨op, hop, hox⟩ := touch_of ha
      have hg : t.g? i = some op.g := by simp [Trace.g?, hop]
      by_cases e : op.g = 0
      · have := knows_own hop
        rw [e] at this
        exact .inl this
      · by_cases hc : t.counts i
        · exact .inl ⟨q, zq, hzq, hzqg, .inr (key i op.g hge hg e hc)⟩
        · have hat : a.kind = .atomic := Classical.byContradiction fun hn => hc ⟨a, by simpa [touchAt] using ha, hm, .inl hn⟩
          obtain ⟨_, ht⟩ := h.late i op a hge hop hox
          rcases ht with ⟨h1, _⟩ | ⟨h1, _⟩ | ⟨h1, _⟩ | ⟨_, _, h1⟩
          · exact .inr ⟨.inr h1, hat⟩
          · rw [hat] at h1; cases h1
          · rw [hat] at h1; cases h1
          · exact absurd h1 e
  · rcases Nat.lt_or_ge i N0 with hlt | hge
    · exact h.old i g hlt hg hne hc
    · exact ⟨q, hqg, key i g hge hg hne hc⟩
end
end Go.Pool
