/- A part of the proof of CrewDigestsUpto (no statement of its own): Pool1, Grow1. -/
import Derived.Conc.CrowdRun
import Derived.Conc.CrowdSel
import Derived.Conc.Beside
section
namespace Go.Pool
open Go.Conc Go.ConcN
open Go.ConcR (stA smA rd wr mk KK WgAt wgBlock)
structure Ph where
 ty : TypeId
 Wg : Nat
 Ch : Nat
 En : Nat
 pb : Nat → Prop
 B : Nat
 Shun : Loc → Prop
 Fd : Option Nat
 p : Nat → Prop
 gr : Prop
def OwnL (φ : Ph) (k : Nat) (l : Loc) : Prop := ∃ a : Addr, l = .cell a ∧ φ.pb a.block ∧ a.off = k
def RdL (φ : Ph) (l : Loc) : Prop := ∃ a : Addr, l = .cell a ∧ a.block ≠ φ.Wg ∧ ¬ φ.pb a.block ∧ ¬ φ.Shun l ∧ a.block < φ.B
def MyL (φ : Ph) (mine : Nat → Prop) (l : Loc) : Prop := ∃ a : Addr, l = .cell a ∧ φ.B ≤ a.block ∧ mine a.block
def TouchOk (φ : Ph) (own mine : Nat → Prop) (g : Nat) (x : Touch) : Prop :=
 (ShN φ.Wg x.loc ∧ x.kind ≠ .plain ∧ (x.kind = .said → g = 0)) ∨ (x.kind = .plain ∧ x.write = false ∧ RdL φ x.loc) ∨ (x.kind = .plain ∧ ∃ k, own k ∧ OwnL φ k x.loc) ∨ (x.kind = .atomic ∧ (∃ r, x.loc = .obj r) ∧ g = 0) ∨ (x.kind = .plain ∧ MyL φ mine x.loc)
structure Apt (φ : Ph) : Prop where
 wgpb : ¬ φ.pb φ.Wg
 wgShun : ∀ l, ShN φ.Wg l → ¬ φ.Shun l
 pbShun : ∀ a : Addr, φ.pb a.block → ¬ φ.Shun (.cell a)
 objShun : ∀ r, ¬ φ.Shun (.obj r)
 newShun : ∀ a : Addr, φ.B ≤ a.block → ¬ φ.Shun (.cell a)
 wgB : φ.Wg < φ.B
 pbB : ∀ b, φ.pb b → b < φ.B
structure TL (φ : Ph) (N0 L j : Nat) (who mk : Nat → Nat) (t : Trace) : Prop where
 nr : ∀ said, ¬ Race said t
 early : ∀ i a, i < N0 → touchAt t i = some a → a.loc.isMemory = true → (∀ g, (g = 0 ∨ (L < g ∧ g ≤ j)) → Knows t g i) ∨ (φ.Shun a.loc ∧ a.kind = .atomic)
 late : ∀ i op x, N0 ≤ i → t[i]? = some op → op.act.touch? = some x → (op.g = 0 ∨ (L < op.g ∧ op.g ≤ j)) ∧ TouchOk φ (fun k => who k = op.g ∧ op.g ≠ 0) (fun b => mk b = op.g ∧ op.g ≠ 0) op.g x
 low : ∀ op ∈ t, op.act.low φ.B ∨ ∃ b, mk b ≠ 0 ∧ op.act.low (b + 1)
 norel : NoRelease (stA φ.Wg) t
 old : ∀ i g, i < N0 → t.g? i = some g → g ≠ 0 → t.counts i → ∃ q, t.g? q = some 0 ∧ HappensBefore t i q
 size : N0 ≤ t.size
theorem noRace_mute {said : Bool} {t u : Trace} (h : ¬ Race said t) (hu : ∀ op ∈ u, op.act.touch? = none) : ¬ Race said (t ++ u) := by
 rintro ⟨i, j, hij, ⟨a, b, ha, hb, hc⟩, n1, n2⟩
 obtain ⟨x, hx, hxa⟩ := touch_of ha
 obtain ⟨y, hy, hyb⟩ := touch_of hb
 rcases getElem?_append_cases hy with ⟨hj, hy'⟩ | ⟨_, hyu⟩
 ·have hi : i < t.size := Nat.lt_trans hij hj
  have hx' : t[i]? = some x := by rw [← getElem?_append_old (u := u) hi]; exact hx
  exact h ⟨i, j, hij, ⟨a, b, by simp [Trace.act?, hx', hxa], by simp [Trace.act?, hy', hyb], hc⟩, fun e => n1 (hb_app u e), fun e => n2 (hb_app u e)⟩
 ·rw [hu y hyu] at hyb; cases hyb
section
variable {φ : Ph} {N0 L j : Nat} {who mk : Nat → Nat} {t u : Trace}
theorem TL.old_app (h : TL φ N0 L j who mk t) (u : Trace) : ∀ i g, i < N0 → (t ++ u).g? i = some g → g ≠ 0 → (t ++ u).counts i → ∃ q, (t ++ u).g? q = some 0 ∧ HappensBefore (t ++ u) i q := by
 intro i g hi hg hne hc
 have hit : i < t.size := Nat.lt_of_lt_of_le hi h.size
 obtain ⟨q, hq, hb⟩ := h.old i g hi (by rw [← g?_old (u := u) hit]; exact hg) hne ((counts_old hit).1 hc)
 have hql : q < t.size := by
  unfold Trace.g? at hq
  obtain ⟨z, hz, _⟩ := Option.map_eq_some_iff.1 hq
  exact lt_size_of_getElem? hz
 exact ⟨q, by rw [g?_old hql]; exact hq, hb_app u hb⟩
theorem TL.early_app (h : TL φ N0 L j who mk t) (u : Trace) : ∀ i a, i < N0 → touchAt (t ++ u) i = some a → a.loc.isMemory = true → (∀ g, (g = 0 ∨ (L < g ∧ g ≤ j)) → Knows (t ++ u) g i) ∨ (φ.Shun a.loc ∧ a.kind = .atomic) := by
 intro i a hi ha hm
 rw [touchAt_old (Nat.lt_of_lt_of_le hi h.size)] at ha
 exact (h.early i a hi ha hm).imp (fun x g hg => (x g hg).app u) id
theorem TL.mute (h : TL φ N0 L j who mk t) (hu : ∀ op ∈ u, op.act.touch? = none) (hl : ∀ op ∈ u, op.act.low φ.B) (hr : ∀ op ∈ u, op.act ≠ .mark (.release (stA φ.Wg))) : TL φ N0 L j who mk (t ++ u) := by
 refine ⟨fun said => noRace_mute (h.nr said) hu, h.early_app u, fun i op x hi ho hx => ?_, fun op hop => (Array.mem_append.1 hop).elim (h.low op) (fun x => .inl (hl op x)), h.norel.app hr, h.old_app u, by have := h.size; simp; omega⟩
 rcases getElem?_append_cases ho with ⟨_, ho'⟩ | ⟨_, hou⟩
 ·exact h.late i op x hi ho' hx
 ·rw [hu op hou] at hx; cases hx
theorem TL.app (A : Apt φ) (h : TL φ N0 L j who mk t) {g : Nat} (hg : g = 0 ∨ (L < g ∧ g ≤ j)) (hug : ∀ op ∈ u, op.g = g)
  (hu : ∀ op ∈ u, ∀ x, op.act.touch? = some x → TouchOk φ (fun k => who k = g ∧ g ≠ 0) (fun b => mk b = g ∧ g ≠ 0) g x) (hl : ∀ op ∈ u, op.act.low φ.B ∨ ∃ b, mk b ≠ 0 ∧ op.act.low (b + 1)) (hr : ∀ op ∈ u, op.act ≠ .mark (.release (stA φ.Wg))) : TL φ N0 L j who mk (t ++ u) := by
 refine ⟨fun said => noRace_append (h.nr said) hug fun i a ha op hop b hb hc => ?_, h.early_app u, fun i op x hi ho hx => ?_, fun op hop => (Array.mem_append.1 hop).elim (h.low op) (hl op), h.norel.app hr, h.old_app u, by have := h.size; simp; omega⟩
 ·have hb' := hu op hop b hb
  have hmem : a.loc.isMemory = true := hc.2.1
  have hloc : a.loc = b.loc := hc.1
  rcases Nat.lt_or_ge i N0 with hlt | hge
  ·rcases h.early i a hlt ha hmem with hk | ⟨hs, _⟩
   ·exact hk g hg
   ·exfalso
    rcases hb' with ⟨h1, _⟩ | ⟨_, _, x, hx, _, _, h3, _⟩ | ⟨_, k, _, x, hx, h2, _⟩ | ⟨_, ⟨r, hr⟩, _⟩ | ⟨_, x, hx, h2, _⟩
    ·exact A.wgShun _ h1 (hloc ▸ hs)
    ·exact h3 (hloc ▸ hs)
    ·exact A.pbShun x h2 (hx ▸ hloc ▸ hs)
    ·exact A.objShun r (hr ▸ hloc ▸ hs)
    ·exact A.newShun x h2 (hx ▸ hloc ▸ hs)
  ·obtain ⟨x, hx, hxa⟩ := touch_of ha
   obtain ⟨_, ht⟩ := h.late i x a hge hx hxa
   have hko : x.g = g → Knows t g i := fun e => e ▸ knows_own hx
   obtain ⟨_, _, hwr, hkind⟩ := hc
   have hobj : (∃ r, a.loc = .obj r) → Knows t g i := fun ⟨r, hr⟩ => by
    have ka : a.kind = .atomic := by
     rcases ht with ⟨⟨y, hy, _⟩, _⟩ | ⟨_, _, y, hy, _⟩ | ⟨_, k, _, y, hy, _⟩ | ⟨h1, _⟩ | ⟨_, y, hy, _⟩
     ·rw [hy] at hr; cases hr
     ·rw [hy] at hr; cases hr
     ·rw [hy] at hr; cases hr
     ·exact h1
     ·rw [hy] at hr; cases hr
    have kb : b.kind = .atomic := by
     rw [hloc] at hr
     rcases hb' with ⟨⟨y, hy, _⟩, _⟩ | ⟨_, _, y, hy, _⟩ | ⟨_, k, _, y, hy, _⟩ | ⟨h1, _⟩ | ⟨_, y, hy, _⟩
     ·rw [hy] at hr; cases hr
     ·rw [hy] at hr; cases hr
     ·rw [hy] at hr; cases hr
     ·exact h1
     ·rw [hy] at hr; cases hr
    rcases hkind with e | e | ⟨_, e, _⟩
    ·rw [ka] at e; cases e
    ·rw [kb] at e; cases e
    ·rw [ka] at e; cases e
   by_cases hob : ∃ r, a.loc = .obj r
   ·exact hobj hob
   have hob' : ¬ ∃ r, b.loc = .obj r := by rw [← hloc]; exact hob
   have same : ∀ {y z : Addr}, a.loc = .cell y → b.loc = .cell z → y = z := fun hy hz => by have := hy.symm.trans (hloc.trans hz); cases this; rfl
   rcases ht with ⟨⟨y, hy, a1⟩, a2, a3⟩ | ⟨a1, a2, y, hy, a3, a4, _, a5⟩ | ⟨a1, k, ⟨a2, a2'⟩, y, hy, a3, a4⟩ | ⟨_, hr, _⟩ | ⟨a1, y, hy, a2, a3, a3'⟩
   ·rcases hb' with ⟨_, b2, b3⟩ | ⟨_, _, z, hz, b3, _⟩ | ⟨_, k', _, z, hz, b3, _⟩ | ⟨_, hr, _⟩ | ⟨_, z, hz, b2, _⟩
    ·rcases hkind with e | e | ⟨_, e1, e2⟩
     ·exact absurd e a2
     ·exact absurd e b2
     ·exact hko ((a3 e1).trans (b3 e2).symm)
    ·exact absurd (same hy hz ▸ a1) b3
    ·exact absurd (a1 ▸ same hy hz ▸ b3) A.wgpb
    ·exact absurd hr hob'
    ·have := A.wgB; rw [← same hy hz, a1] at b2; omega
   ·rcases hb' with ⟨⟨z, hz, b1⟩, _⟩ | ⟨_, b2, _⟩ | ⟨_, k', _, z, hz, b3, _⟩ | ⟨_, hr, _⟩ | ⟨_, z, hz, b2, _⟩
    ·exact absurd (same hy hz ▸ b1) a3
    ·rw [a2, b2] at hwr; simp at hwr
    ·exact absurd (same hy hz ▸ b3) a4
    ·exact absurd hr hob'
    ·rw [← same hy hz] at b2; omega
   ·rcases hb' with ⟨⟨z, hz, b1⟩, _⟩ | ⟨_, _, z, hz, _, b4, _⟩ | ⟨_, k', ⟨b2, _⟩, z, hz, b3, b4⟩ | ⟨_, hr, _⟩ | ⟨_, z, hz, b2, _⟩
    ·exact absurd (b1 ▸ same hy hz ▸ a3) A.wgpb
    ·exact absurd (same hy hz ▸ a3) b4
    ·have e := same hy hz
     subst e
     have : k = k' := a4.symm.trans b4
     subst this
     exact hko (a2.symm.trans b2)
    ·exact absurd hr hob'
    ·have := A.pbB _ a3; rw [← same hy hz] at b2; omega
   ·exact absurd hr hob
   ·rcases hb' with ⟨⟨z, hz, b1⟩, _⟩ | ⟨_, _, z, hz, _, _, _, b5⟩ | ⟨_, k', _, z, hz, b3, _⟩ | ⟨_, hr, _⟩ | ⟨_, z, hz, _, b3, _⟩
    ·have := A.wgB; rw [same hy hz, b1] at a2; omega
    ·rw [same hy hz] at a2; omega
    ·have := A.pbB _ b3; rw [same hy hz] at a2; omega
    ·exact absurd hr hob'
    ·have e := same hy hz
     subst e
     exact hko (a3.symm.trans b3)
 ·rcases getElem?_append_cases ho with ⟨_, ho'⟩ | ⟨_, hou⟩
  ·exact h.late i op x hi ho' hx
  ·have e := hug op hou
   rw [e]
   exact ⟨hg, hu op hou x hx⟩
theorem TL.draw (h : TL φ N0 L j who mk t) {who' : Nat → Nat} (hw : ∀ k, who k ≠ 0 → who' k = who k) : TL φ N0 L j who' mk t :=
 ⟨h.nr, h.early, fun i op x hi ho hx => by
  obtain ⟨h1, h2⟩ := h.late i op x hi ho hx
  refine ⟨h1, h2.imp_right (Or.imp_right (Or.imp_left fun ⟨e, k, ⟨ek, ne⟩, ho⟩ => ⟨e, k, ⟨?_, ne⟩, ho⟩))⟩
  rw [hw k (by rw [ek]; exact ne), ek], h.low, h.norel, h.old, h.size⟩
theorem TL.made (h : TL φ N0 L j who mk t) {mk' : Nat → Nat} (hw : ∀ b, mk b ≠ 0 → mk' b = mk b) : TL φ N0 L j who mk' t :=
 ⟨h.nr, h.early, fun i op x hi ho hx => by
  obtain ⟨h1, h2⟩ := h.late i op x hi ho hx
  refine ⟨h1, h2.imp_right (Or.imp_right (Or.imp_right (Or.imp_right fun ⟨e, a, ha, hb, em, ne⟩ => ⟨e, a, ha, hb, ?_, ne⟩)))⟩
  rw [hw a.block (by rw [em]; exact ne), em], fun op hop => (h.low op hop).imp id (fun ⟨b, h1, h2⟩ => ⟨b, by rw [hw b h1]; exact h1, h2⟩), h.norel, h.old, h.size⟩
theorem TL.fork (h : TL φ N0 L j who mk t) {x y : MemOp} (hx : x.g = 0 ∧ x.act = .go (j + 1)) (hy : y.g = j + 1 ∧ y.act = .start) (h0 : Deaf t 0 = 0) (hk : Deaf t (j + 1) = 0) : TL φ N0 L (j + 1) who mk (t ++ #[x, y]) := by
  have hm : ∀ op ∈ #[x, y], op = x ∨ op = y := by intro op hop; simpa using hop
  have m := h.mute (u := #[x, y]) (fun op hop => by rcases hm op hop with rfl | rfl; · rw [hx.2]; rfl
                                                    · rw [hy.2]; rfl)
    (fun op hop => by rcases hm op hop with rfl | rfl; · rw [hx.2]; trivial
                      · rw [hy.2]; trivial)
    (fun op hop => by rcases hm op hop with rfl | rfl; · rw [hx.2]; simp
                      · rw [hy.2]; simp)
  refine ⟨m.nr, fun i a hi ha hmem => ?_, fun i op z hi ho hz => ?_, m.low, m.norel, m.old, m.size⟩
  · rcases m.early i a hi ha hmem with hkn | hs
    · refine .inl fun g hg => ?_
      by_cases e : g = j + 1
      · subst e
        have ha' := ha
        rw [touchAt_old (Nat.lt_of_lt_of_le hi h.size)] at ha'
        rcases h.early i a hi ha' hmem with hk0 | hs
        · exact fork_knows hx hy h0 hk (hk0 0 (.inl rfl))
        · have h0' := hkn 0 (.inl rfl)
          obtain ⟨q, z, hq, hzg, hb⟩ := h0'
          have hxp : (t ++ #[x, y])[t.size]? = some x := by rw [Array.getElem?_append_right (Nat.le_refl _)]; simp
          have hyp : (t ++ #[x, y])[t.size + 1]? = some y := by rw [Array.getElem?_append_right (by omega)]; simp
          have e0 : (t ++ #[x, y]).heard t.size := ⟨0, by simp [Trace.g?, hx.1], by rw [deaf_old (Nat.le_refl _)]; exact h0⟩
          have e1 : (t ++ #[x, y]).heard (t.size + 1) := ⟨j + 1, by simp [Trace.g?, hy.1], by rw [deaf_succ hxp, deaf_old (Nat.le_refl _)]; simp only [deafStep, hx.2]; exact hk⟩
          have edge : HappensBefore (t ++ #[x, y]) t.size (t.size + 1) := .single (.inr ⟨.spawn (child := j + 1) (by rw [act?_of hxp, hx.2]) (by rw [act?_of hyp, hy.2]) (by simp [Trace.g?, hy.1]), e0, e1⟩)
          refine ⟨t.size + 1, y, hyp, hy.1, ?_⟩
          have hqs : q ≤ t.size := by
            have := lt_size_of_getElem? hq
            simp at this
            rcases Nat.lt_or_ge t.size q with hgt | hle
            · have : q = t.size + 1 := by omega
              subst this
              rw [hyp] at hq; cases hq; rw [hy.1] at hzg; cases hzg
            · exact hle
          rcases Nat.lt_or_ge q t.size with hlt | hge
          · exact .inr (hb.hb (.trans (hb_po hlt hq hxp (hzg.trans hx.1.symm)) edge))
          · have : q = t.size := by omega
            subst this
            exact .inr (hb.hb edge)
      · exact hkn g (hg.imp_right fun ⟨h1, h2⟩ => ⟨h1, by omega⟩)
    · exact .inr hs
  · obtain ⟨h1, h2⟩ := m.late i op z hi ho hz
    exact ⟨h1.imp_right fun ⟨h1, h2⟩ => ⟨h1, by omega⟩, h2⟩
theorem TL.init {B0 : Nat} (P : Past φ.Shun B0 t) (hB : B0 ≤ φ.B) (hW : B0 ≤ φ.Wg) : TL φ t.size L L (fun _ => 0) (fun _ => 0) t := by
 refine ⟨P.clean, fun i a hi ha hm => (P.known i a ha hm).imp (fun x g hg => ?_) id, fun i op x hi ho _ => ?_, fun op hop => .inl (MemAct.low_mono hB (P.seen op hop)), ?_, fun i g _ => P.over i g, Nat.le_refl _⟩
 ·rcases hg with rfl | ⟨h1, h2⟩
  ·exact x
  ·omega
 ·have := lt_size_of_getElem? ho; omega
 ·intro i hi
  obtain ⟨op, ho, hoa⟩ := Option.map_eq_some_iff.1 hi
  have := P.seen op (mem_of_getElem? ho)
  rw [hoa] at this
  simp only [MemAct.low, stA] at this
  omega
theorem TL.past (h : TL φ N0 L j who mk t) {q : Nat} (hrel : ∀ g, L < g → g ≤ j → ∃ r, RelBy (stA φ.Wg) t g r ∧ r < q) (hq : t.act? q = some (.mark (.acquire (stA φ.Wg)))) (hqg : t.g? q = some 0) (hqh : t.heard q) (h0 : Deaf t 0 = 0) {B' : Nat} (hB : φ.B ≤ B') (hmk : ∀ b, mk b ≠ 0 → b < B') :
  Past (fun l => φ.Shun l ∨ ShN φ.Wg l) B' t := by
 have key : ∀ i g, N0 ≤ i → t.g? i = some g → g ≠ 0 → t.counts i → HappensBefore t i q := by
  intro i g hi hg hne hc
  obtain ⟨x, hx, hm, hk⟩ := hc
  obtain ⟨op, hop, hox⟩ := touch_of hx
  have hgo : op.g = g := by simpa [Trace.g?, hop] using hg
  obtain ⟨h1, _⟩ := h.late i op x hi hop hox
  rw [hgo] at h1
  rcases h1 with e | ⟨e1, e2⟩
  ·exact absurd e hne
  obtain ⟨r, hr, hrq⟩ := hrel g e1 e2
  have edge : HappensBefore t r q := .single (.inr ⟨.marked hrq (.inr hr.act) hq (fun k _ _ => h.norel k), hr.heard, hqh⟩)
  have hle : i ≤ r := Nat.le_of_not_lt fun hlt => hr.after i hlt hg ⟨x, hx, hm, hk⟩
  rcases Nat.lt_or_ge i r with hlt | hge
  ·exact .trans (.single (.inl ⟨hlt, g, hg, hr.g⟩)) edge
  ·obtain rfl : i = r := by omega
   exact edge
 obtain ⟨zq, hzq, hzqg⟩ := Option.map_eq_some_iff.1 hqg
 refine ⟨h.nr, fun i a ha hm => ?_, fun i g hg hne hc => ?_, h0, fun op hop => (h.low op hop).elim (MemAct.low_mono hB) fun ⟨b, h1, h2⟩ => MemAct.low_mono (hmk b h1) h2⟩
 ·rcases Nat.lt_or_ge i N0 with hlt | hge
  ·exact (h.early i a hlt ha hm).imp (fun x => x 0 (.inl rfl)) fun ⟨x, y⟩ => ⟨.inl x, y⟩
  ·obtain ⟨op, hop, hox⟩ := touch_of ha
   have hg : t.g? i = some op.g := by simp [Trace.g?, hop]
   by_cases e : op.g = 0
   ·have := knows_own hop
    rw [e] at this
    exact .inl this
   ·by_cases hc : t.counts i
    ·exact .inl ⟨q, zq, hzq, hzqg, .inr (key i op.g hge hg e hc)⟩
    ·have hat : a.kind = .atomic := Classical.byContradiction fun hn => hc ⟨a, by simpa [touchAt] using ha, hm, .inl hn⟩
     obtain ⟨_, ht⟩ := h.late i op a hge hop hox
     rcases ht with ⟨h1, _⟩ | ⟨h1, _⟩ | ⟨h1, _⟩ | ⟨_, _, h1⟩ | ⟨h1, _⟩
     ·exact .inr ⟨.inr h1, hat⟩
     ·rw [hat] at h1; cases h1
     ·rw [hat] at h1; cases h1
     ·exact absurd h1 e
     ·rw [hat] at h1; cases h1
 ·rcases Nat.lt_or_ge i N0 with hlt | hge
  ·exact h.old i g hlt hg hne hc
  ·exact ⟨q, hqg, key i g hge hg hne hc⟩
end
end Go.Pool
end
section
namespace Go.Pool
open Go.Conc
section
variable (P : Program) (R : List Nat → World → World → Prop) (D : List Nat → World → World → Array Event → Prop) (Stop : Goroutine → World → Prop)
def GoesO : Nat → List Nat → Goroutine → World → Prop
 | 0, L, g, w => ∀ w₁, R L w w₁ → Stop g w₁
 | n + 1, L, g, w => (∀ w₁, R L w w₁ → Stop g w₁) ∨ (g.status = .running ∧ ∀ w₁, R L w w₁ → (stepG P false g w₁).goes fun g' w' es => D L w₁ w' es ∧ ∃ L', (∀ b ∈ L', b ∈ L ∨ (w₁.heap.size ≤ b ∧ b < w'.heap.size)) ∧ GoesO n L' g' w')
end
structure TermsO (R : List Nat → World → World → Prop) (D : List Nat → World → World → Array Event → Prop) : Prop where
 trans : ∀ L a b c, R L a b → R L b c → R L a c
 less : ∀ L L' a b, (∀ x ∈ L', x ∈ L) → R L a b → R L' a b
section
variable {P : Program} {R : List Nat → World → World → Prop} {D : List Nat → World → World → Array Event → Prop} {Stop : Goroutine → World → Prop}
theorem GoesO.step {n : Nat} {L : List Nat} {g : Goroutine} {w : World} (hs : g.status = .running)
  (h : ∀ w₁, R L w w₁ → (stepG P false g w₁).goes fun g' w' es => D L w₁ w' es ∧ GoesO P R D Stop n L g' w') : GoesO P R D Stop (n + 1) L g w := by
 refine .inr ⟨hs, fun w₁ h₁ => ?_⟩
 have := h w₁ h₁
 revert this
 cases stepG P false g w₁ <;> simp only [GStep.goes, imp_self]
 exact fun ⟨d, x⟩ => ⟨d, L, fun b hb => .inl hb, x⟩
theorem GoesO.cases {n : Nat} {L : List Nat} {g : Goroutine} {w : World} (h : GoesO P R D Stop n L g w) : (∀ w₁, R L w w₁ → Stop g w₁) ∨ ∃ n', n = n' + 1 ∧ ∀ w₁, R L w w₁ → ∃ g' w' es, stepG P false g w₁ = .go g' w' es ∧ D L w₁ w' es ∧ ∃ L', (∀ b ∈ L', b ∈ L ∨ (w₁.heap.size ≤ b ∧ b < w'.heap.size)) ∧ GoesO P R D Stop n' L' g' w' := by
 cases n with
 | zero => exact .inl h
 | succ n =>
  refine h.imp id fun ⟨_, x⟩ => ⟨n, rfl, fun w₁ h₁ => ?_⟩
  have := x w₁ h₁
  revert this
  cases stepG P false g w₁ <;> simp only [GStep.goes, false_imp_iff]
  exact fun ⟨d, y⟩ => ⟨_, _, _, rfl, d, y⟩
end
inductive Tree where
 | leaf
 | node (f : World → Tree)
def Tree.Sub (t' t : Tree) : Prop := ∃ f w, t = .node f ∧ t' = f w
theorem Tree.sub_wf : WellFounded Tree.Sub := ⟨fun t => by
 induction t with
 | leaf => exact ⟨_, fun y ⟨f, w, e, _⟩ => by cases e⟩
 | node f ih => exact ⟨_, fun y ⟨g, w, e, e'⟩ => by cases e; subst e'; exact ih w⟩⟩
def TLt (a b : Nat × (Nat → Tree)) : Prop := a.1 = b.1 ∧ ∃ i, i < b.1 ∧ Tree.Sub (a.2 i) (b.2 i) ∧ ∀ y, y ≠ i → a.2 y = b.2 y
theorem tlt_acc (J : Nat) : ∀ j, j ≤ J → ∀ F : Nat → Tree, Acc (fun F' F : Nat → Tree => ∃ i, i < j ∧ Tree.Sub (F' i) (F i) ∧ ∀ y, y ≠ i → F' y = F y) F
 | 0, _, F => ⟨_, fun y ⟨i, h, _⟩ => absurd h (Nat.not_lt_zero i)⟩
 | j + 1, hj, F => by
  have outer : ∀ t : Tree, ∀ F : Nat → Tree, F j = t → Acc (fun F' F : Nat → Tree => ∃ i, i < j + 1 ∧ Tree.Sub (F' i) (F i) ∧ ∀ y, y ≠ i → F' y = F y) F := fun t => by
   induction t using Tree.sub_wf.induction with
   | _ t iht =>
   intro F
   induction tlt_acc J j (by omega) F with
   | intro F _ ih =>
   intro hF
   refine ⟨_, fun F' ⟨i, hi, hs, ho⟩ => ?_⟩
   by_cases e : i = j
   ·subst e
    exact iht (F' i) (by rw [← hF]; exact hs) F' rfl
   ·exact ih F' ⟨i, by omega, hs, ho⟩ (by rw [ho j fun x => e x.symm]; exact hF)
  exact outer (F j) F rfl
theorem tlt_wf : WellFounded TLt := ⟨fun ⟨j, F⟩ => by
 induction tlt_acc j j (Nat.le_refl j) F with
 | intro F _ ih => exact ⟨_, fun ⟨j', F'⟩ ⟨e, i, hi, hs, ho⟩ => by cases e; exact ih F' ⟨i, hi, hs, ho⟩⟩⟩
section
variable (P : Program) (R : List Nat → World → World → Prop) (D : List Nat → World → World → Array Event → Prop) (Stop : Goroutine → World → Prop)
def GoesT : Tree → List Nat → Goroutine → World → Prop
 | .leaf, L, g, w => ∀ w₁, R L w w₁ → Stop g w₁
 | .node f, L, g, w => (∀ w₁, R L w w₁ → Stop g w₁) ∨ (g.status = .running ∧ ∀ w₁, R L w w₁ → (stepG P false g w₁).goes fun g' w' es => D L w₁ w' es ∧ ∃ L', (∀ b ∈ L', b ∈ L ∨ (w₁.heap.size ≤ b ∧ b < w'.heap.size)) ∧ GoesT (f w₁) L' g' w')
def GoesX (L : List Nat) (g : Goroutine) (w : World) : Prop := ∃ t, GoesT P R D Stop t L g w
end
section
variable {P : Program} {R : List Nat → World → World → Prop} {D : List Nat → World → World → Array Event → Prop} {Stop : Goroutine → World → Prop}
theorem GoesT.rely (T : TermsO R D) {t : Tree} {L : List Nat} {g : Goroutine} {w w₁ : World} (h : GoesT P R D Stop t L g w) (hr : R L w w₁) : GoesT P R D Stop t L g w₁ := by
 cases t with
 | leaf => exact fun w₂ h₂ => h w₂ (T.trans _ _ _ _ hr h₂)
 | node f =>
  rcases h with h | ⟨hs, h⟩
  ·exact .inl fun w₂ h₂ => h w₂ (T.trans _ _ _ _ hr h₂)
  ·exact .inr ⟨hs, fun w₂ h₂ => h w₂ (T.trans _ _ _ _ hr h₂)⟩
theorem GoesX.rely (T : TermsO R D) {L : List Nat} {g : Goroutine} {w w₁ : World} (h : GoesX P R D Stop L g w) (hr : R L w w₁) : GoesX P R D Stop L g w₁ := let ⟨t, h⟩ := h; ⟨t, h.rely T hr⟩
theorem GoesT.cases {t : Tree} {L : List Nat} {g : Goroutine} {w : World} (h : GoesT P R D Stop t L g w) : (∀ w₁, R L w w₁ → Stop g w₁) ∨ ∃ f, t = .node f ∧ ∀ w₁, R L w w₁ → ∃ g' w' es, stepG P false g w₁ = .go g' w' es ∧ D L w₁ w' es ∧ ∃ L', (∀ b ∈ L', b ∈ L ∨ (w₁.heap.size ≤ b ∧ b < w'.heap.size)) ∧ GoesT P R D Stop (f w₁) L' g' w' := by
 cases t with
 | leaf => exact .inl h
 | node f =>
  refine h.imp id fun ⟨_, x⟩ => ⟨f, rfl, fun w₁ h₁ => ?_⟩
  have := x w₁ h₁
  revert this
  cases stepG P false g w₁ <;> simp only [GStep.goes, false_imp_iff]
  exact fun ⟨d, y⟩ => ⟨_, _, _, rfl, d, y⟩
theorem GoesT.running {t : Tree} {L : List Nat} {g : Goroutine} {w : World} (hS : ∀ g w, Stop g w → g.status = .running) (w₁ : World) (h₁ : R L w w₁) (h : GoesT P R D Stop t L g w) : g.status = .running := by
 cases t with
 | leaf => exact hS _ _ (h w₁ h₁)
 | node f => exact h.elim (fun x => hS _ _ (x w₁ h₁)) (·.1)
theorem GoesX.stop {L : List Nat} {g : Goroutine} {w : World} (h : ∀ w₁, R L w w₁ → Stop g w₁) : GoesX P R D Stop L g w := ⟨.leaf, h⟩
theorem GoesX.gen {L : List Nat} {g : Goroutine} {w : World} (hs : g.status = .running)
  (h : ∀ w₁, R L w w₁ → ∃ g' w' es, stepG P false g w₁ = .go g' w' es ∧ D L w₁ w' es ∧ ∃ L', (∀ b ∈ L', b ∈ L ∨ (w₁.heap.size ≤ b ∧ b < w'.heap.size)) ∧ GoesX P R D Stop L' g' w') : GoesX P R D Stop L g w := by
 have h2 : ∀ w₁, ∃ t : Tree, R L w w₁ → (stepG P false g w₁).goes fun g' w' es => D L w₁ w' es ∧ ∃ L', (∀ b ∈ L', b ∈ L ∨ (w₁.heap.size ≤ b ∧ b < w'.heap.size)) ∧ GoesT P R D Stop t L' g' w' := fun w₁ => by
  by_cases h₁ : R L w w₁
  ·obtain ⟨g', w', es, e, d, L', hL, t, ht⟩ := h w₁ h₁
   exact ⟨t, fun _ => by rw [e]; exact ⟨d, L', hL, ht⟩⟩
  ·exact ⟨.leaf, fun x => absurd x h₁⟩
 exact ⟨.node fun w₁ => Classical.choose (h2 w₁), .inr ⟨hs, fun w₁ h₁ => Classical.choose_spec (h2 w₁) h₁⟩⟩
theorem GoesX.step {L : List Nat} {g : Goroutine} {w : World} (hs : g.status = .running)
  (h : ∀ w₁, R L w w₁ → (stepG P false g w₁).goes fun g' w' es => D L w₁ w' es ∧ GoesX P R D Stop L g' w') : GoesX P R D Stop L g w := by
 refine GoesX.gen hs fun w₁ h₁ => ?_
 have := h w₁ h₁
 revert this
 cases stepG P false g w₁ <;> simp only [GStep.goes, false_imp_iff]
 exact fun ⟨d, x⟩ => ⟨_, _, _, rfl, d, L, fun b hb => .inl hb, x⟩
theorem GoesX.of_goes {D' : World → World → Array Event → Prop} {R' : World → World → Prop} {L : List Nat} (hR : ∀ w w', R L w w' → R' w w') (hrf : ∀ w, R' w w) (hD : ∀ w w' es, D' w w' es → D L w w' es) : ∀ {n : Nat} {g : Goroutine} {w : World}, Goes P false R' D' (fun g w => GoesX P R D Stop L g w) n g w → GoesX P R D Stop L g w
 | 0, g, w, h => h w (hrf w)
 | n + 1, g, w, h => by
  rcases h with h | ⟨hs, h⟩
  ·exact h w (hrf w)
  ·refine GoesX.step hs fun w₁ h₁ => ?_
   have := h w₁ (hR _ _ h₁)
   revert this
   cases stepG P false g w₁ <;> simp only [GStep.goes, imp_self]
   exact fun ⟨d, x⟩ => ⟨hD _ _ _ d, GoesX.of_goes hR hrf hD x⟩
theorem GoesX.wider (T : TermsO R D) (hD : ∀ L L' w w' es, (∀ x ∈ L', x ∈ L) → D L' w w' es → D L w w' es) {L L' : List Nat} {g : Goroutine} {w : World} (hs : ∀ x ∈ L', x ∈ L) (h : GoesX P R D Stop L' g w) : GoesX P R D Stop L g w := by
 obtain ⟨t, h⟩ := h
 induction t generalizing L L' g w with
 | leaf => exact .stop fun w₁ h₁ => h w₁ (T.less _ _ _ _ hs h₁)
 | node f ih =>
  rcases h with h | ⟨hr, h⟩
  ·exact .stop fun w₁ h₁ => h w₁ (T.less _ _ _ _ hs h₁)
  ·refine .gen hr fun w₁ h₁ => ?_
   have := h w₁ (T.less _ _ _ _ hs h₁)
   revert this
   cases stepG P false g w₁ <;> simp only [GStep.goes, false_imp_iff]
   exact fun ⟨d, L'', hL, x⟩ => ⟨_, _, _, rfl, hD _ _ _ _ _ hs d, L'', fun b hb => (hL b hb).imp (hs b) id, ih _ (fun _ y => y) x⟩
end
end Go.Pool
end
