/- A part of the proof of CrewDigestsUpto (no statement of its own): Pool3, Pool4. -/
import Derived.Test.YthkaigokcognmaaM07
section
namespace Go.Pool
open Go.Conc Go.ConcN
open Go.ConcR (stA smA rd wr mk KK WgAt wgBlock g_of_ofEvents)
theorem Deaf_not (t : Trace) {x : Nat} (u : Trace) (hu : ∀ op ∈ u, op.g ≠ x) : Deaf (t ++ u) x = Deaf t x := by
 have key : ∀ (l : List MemOp) (d : Nat), (∀ op ∈ l, op.g ≠ x) → l.foldl (deafStep x) d = d := by
  intro l
  induction l with
  | nil => intro _ _; rfl
  | cons y l ih =>
   intro d hl
   have hy : deafStep x d y = d := by
    unfold deafStep
    split <;> simp [hl y (by simp)]
   rw [List.foldl_cons, hy]
   exact ih d fun op hop => hl op (by simp [hop])
 have := Deaf_append t x u.toList
 simp only [Array.toArray_toList] at this
 rw [this]
 exact key _ _ fun op hop => hu op (by simpa using hop)
structure PD where
 tag : WTag
 fuel : Nat
 deaf : Nat
 tree : Tree
def PD.wd (x : PD) : WD := ⟨x.tag.stage, x.fuel, x.deaf⟩
def Held (j : Nat) (D : Nat → PD) (k : Nat) : Prop := ∃ i, i < j ∧ (D i).tag = .job k
def Fnd (φ : Ph) (n j H : Nat) (D : Nat → PD) (w : World) : Prop := ∀ fd, φ.Fd = some fd →
 ∃ (l : List Nat) (s r : Nat), w.heap[fd]? = some (.chan n (found l) false s r false) ∧ l.Nodup ∧ (∀ k ∈ l, k < H ∧ φ.p k ∧ ¬ Held j D k) ∧ ∀ k, k < H → φ.p k → Held j D k ∨ k ∈ l
def EnOk (φ : Ph) (H : Nat) (w : World) : Prop := ∃ (buf : Array Value) (s r : Nat), w.heap[φ.En]? = some (.chan 1 buf false s r false) ∧ buf.size ≤ 1 ∧ (buf ≠ #[] → ∃ k, k < H ∧ φ.p k)
def Enough (φ : Ph) (n H : Nat) : Prop := H ≤ n ∧ (H = n ∨ ∃ k, k < H ∧ φ.p k)
theorem Fnd.keep {φ : Ph} {n j H : Nat} {D D' : Nat → PD} {w w' : World} (h : Fnd φ n j H D w) (hw : ∀ fd, φ.Fd = some fd → w'.heap[fd]? = w.heap[fd]?) (hD : ∀ k, Held j D' k ↔ Held j D k) : Fnd φ n j H D' w' := fun fd e => by
 obtain ⟨l, s, r, h1, h2, h3, h4⟩ := h fd e
 exact ⟨l, s, r, (hw fd e).trans h1, h2, fun k hk => ⟨(h3 k hk).1, (h3 k hk).2.1, fun x => (h3 k hk).2.2 ((hD k).1 x)⟩, fun k hk hp => (h4 k hk hp).imp (hD k).2 id⟩
theorem EnOk.keep {φ : Ph} {H H' : Nat} {w w' : World} (h : EnOk φ H w) (hw : w'.heap[φ.En]? = w.heap[φ.En]?) (hH : H ≤ H') : EnOk φ H' w' := by
 obtain ⟨buf, s, r, h1, h2, h3⟩ := h
 exact ⟨buf, s, r, hw.trans h1, h2, fun x => let ⟨k, hk, hp⟩ := h3 x; ⟨k, by omega, hp⟩⟩
theorem held_upd {j i : Nat} {D : Nat → PD} {x : PD} (hi : i < j) (h : ∀ k, x.tag = .job k ↔ (D i).tag = .job k) (k : Nat) : Held j (upd D i x) k ↔ Held j D k := by
 constructor
 ·rintro ⟨i', h1, h2⟩
  by_cases e : i' = i
  ·subst e; rw [upd_same] at h2; exact ⟨i', h1, (h k).1 h2⟩
  ·rw [upd_ne D _ e] at h2; exact ⟨i', h1, h2⟩
 ·rintro ⟨i', h1, h2⟩
  by_cases e : i' = i
  ·subst e; exact ⟨i', hi, by rw [upd_same]; exact (h k).2 h2⟩
  ·exact ⟨i', h1, by rw [upd_ne D _ e]; exact h2⟩
section
variable (P : Program) (φ : Ph) (n : Nat) (Pre Done : Nat → World → Prop) (An : Goroutine → World → Prop) (N0 L : Nat)
structure Com (j H : Nat) (who mk : Nat → Nat) (closed : Bool) (gs : Array Goroutine) (w : World) (t : Trace) (D : Nat → PD) (d0 : Nat) : Prop where
 size : gs.size = j + 1
 Lj : L ≤ j
 wk : ∀ i, i < j → ∃ g, gs[i + 1]? = some g ∧ WSit P φ n Pre Done An (fun b => mk b = i + 1) (D i).tree (D i).tag (D i).fuel (D i).deaf g w
 old : ∀ i, i < L → (D i).tag = .quit
 tl : TL φ N0 L j who mk t
 mkB : ∀ b, mk b ≠ 0 → φ.B ≤ b ∧ b < w.heap.size
 base : φ.B ≤ w.heap.size
 deaf0 : Deaf t 0 = d0
 deafW : ∀ i, i < j → Deaf t (i + 1) = (D i).deaf
 above : ∀ x, j + 1 ≤ x → Deaf t x = 0
 rel : ∀ i, L ≤ i → i < j → (D i).tag.stage ≤ 6 → ∃ r, RelBy (stA φ.Wg) t (i + 1) r
 Hn : H ≤ n
 whoH : ∀ k, H ≤ k → who k = 0
 held : ∀ i k, i < j → (D i).tag = .job k → k < H ∧ who k = i + 1
 done : ∀ k, k < H → (∃ i, i < j ∧ (D i).tag = .job k) ∨ Done k w
 pre : ∀ k, H ≤ k → k < n → Pre k w
 ch : ∃ s r, w.heap[φ.Ch]? = some (.chan 0 #[] closed s r false)
 en : EnOk φ H w
 fnd : Fnd φ n j H D w
 eno : ∀ i, i < j → (D i).tag = .eno → ∃ k, k < H ∧ φ.p k
 opn : closed = false → ∀ i, L ≤ i → i < j → (D i).tag.early
 shut : closed = true → ∀ i, i < j → (D i).tag ≠ .prk
end
section
variable {P : Program} {φ : Ph} {n : Nat} {Pre Done : Nat → World → Prop} {An : Goroutine → World → Prop} {N0 L : Nat}
  {j H H' : Nat} {who who' mk mk' : Nat → Nat} {closed : Bool} {gs gs' : Array Goroutine} {w w' : World} {t u : Trace} {D : Nat → PD} {d0 d0' : Nat}
theorem Com.at (J : Jobs φ n Pre Done) (h : Com P φ n Pre Done An N0 L j H who mk closed gs w t D d0) (d : Nat) : Com P φ n Pre Done An N0 L j H who mk closed gs (w.at d) t D d0 :=
 ⟨h.size, h.Lj, fun i hi => let ⟨g, hg, hs⟩ := h.wk i hi; ⟨g, hg, hs.rely (Frm.at w d) fun _ _ => rfl⟩, h.old, h.tl, h.mkB, h.base, h.deaf0, h.deafW, h.above, h.rel, h.Hn, h.whoH, h.held, fun k hk => (h.done k hk).imp id (J.done k w _ fun _ _ => rfl), fun k h1 h2 => J.pre k w _ (fun _ _ => rfl) (h.pre k h1 h2), h.ch, h.en, h.fnd, h.eno, h.opn, h.shut⟩
theorem Com.upd (h : Com P φ n Pre Done An N0 L j H who mk closed gs w t D d0) {i : Nat} (hi : i < j) {g' : Goroutine} {x : PD}
  (hsz : gs'.size = j + 1) (hoth : ∀ i', i' < j → i' ≠ i → gs'[i' + 1]? = gs[i' + 1]?) (hme : gs'[i + 1]? = some g')
  (hsit : WSit P φ n Pre Done An (fun b => mk' b = i + 1) x.tree x.tag x.fuel x.deaf g' w') (hgr : w.heap.size ≤ w'.heap.size) (hst : ∀ b, φ.B ≤ b → b < w.heap.size → mk b ≠ i + 1 → w'.heap[b]? = w.heap[b]?) (hmk : ∀ b, mk b ≠ 0 → mk' b = mk b) (hmk0 : ∀ b, mk b = 0 → mk' b ≠ 0 → mk' b = i + 1 ∧ w.heap.size ≤ b ∧ b < w'.heap.size) (hF : ∀ i', i' < j → i' ≠ i → Frm φ (D i').tag.own w w')
  (tl' : TL φ N0 L j who' mk' (t ++ u)) (hug : ∀ op ∈ u, op.g = 0 ∨ op.g = i + 1) (hd0 : Deaf (t ++ u) 0 = d0') (hdw : Deaf (t ++ u) (i + 1) = x.deaf)
  (hold : i < L → x.tag = .quit) (hrel : L ≤ i → x.tag.stage ≤ 6 → ∃ r, RelBy (stA φ.Wg) (t ++ u) (i + 1) r)
  (hHn : H' ≤ n) (hwho : ∀ k, H' ≤ k → who' k = 0) (hwo : ∀ k, who k ≠ 0 → who' k = who k) (hHH : H ≤ H') (hheld : ∀ k, x.tag = .job k → k < H' ∧ who' k = i + 1)
  (hdone : ∀ k, k < H' → x.tag = .job k ∨ (∃ i', i' < j ∧ i' ≠ i ∧ (D i').tag = .job k) ∨ Done k w') (hpre : ∀ k, H' ≤ k → k < n → Pre k w')
  (hch : ∃ s r, w'.heap[φ.Ch]? = some (.chan 0 #[] closed s r false)) (hen : EnOk φ H' w') (hfnd : Fnd φ n j H' (upd D i x) w') (heno : x.tag = .eno → ∃ k, k < H' ∧ φ.p k)
  (hopn : closed = false → L ≤ i → x.tag.early) (hshut : closed = true → x.tag ≠ .prk) :
  Com P φ n Pre Done An N0 L j H' who' mk' closed gs' w' (t ++ u) (upd D i x) d0' := by
 have hne : ∀ y, y ≠ 0 → y ≠ i + 1 → ∀ op ∈ u, op.g ≠ y := fun y h0 h1 op hop e => by
  rcases hug op hop with h' | h' <;> omega
 refine ⟨hsz, h.Lj, fun i' hi' => ?_, fun i' hi' => ?_, tl', fun b hb => ?_, Nat.le_trans h.base hgr, hd0, fun i' hi' => ?_, fun y hy => ?_, fun i' hL hi' hst => ?_, hHn, hwho, fun i' k hi' hk => ?_, fun k hk => ?_, hpre, hch, hen, hfnd, fun i' hi' e' => ?_, fun hc i' hL hi' => ?_, fun hc i' hi' => ?_⟩
 ·by_cases e : i' = i
  ·subst e; rw [upd_same]; exact ⟨g', hme, hsit⟩
  ·rw [upd_ne D _ e]
   obtain ⟨g, hg, hs⟩ := h.wk i' hi'
   have eo : (fun b => mk' b = i' + 1) = fun b => mk b = i' + 1 := by
    funext b
    refine propext ⟨fun hb => ?_, fun hb => by rw [hmk b (by omega)]; exact hb⟩
    by_cases h0 : mk b = 0
    ·have := (hmk0 b h0 (by omega)).1; omega
    ·rw [← hmk b h0]; exact hb
   rw [eo]
   refine ⟨g, by rw [hoth i' hi' e]; exact hg, hs.rely (hF i' hi' e) fun b hb => ?_⟩
   obtain ⟨h1, h2⟩ := h.mkB b (by omega)
   exact hst b h1 h2 (by omega)
 ·by_cases e : i' = i
  ·subst e; rw [upd_same]; exact hold hi'
  ·rw [upd_ne D _ e]; exact h.old i' hi'
 ·by_cases h0 : mk b = 0
  ·obtain ⟨_, h1, h2⟩ := hmk0 b h0 hb
   have := h.base
   exact ⟨by omega, h2⟩
  ·have := h.mkB b h0
   exact ⟨this.1, by omega⟩
 ·by_cases e : i' = i
  ·subst e; rw [upd_same]; exact hdw
  ·rw [upd_ne D _ e, Deaf_not t u (hne _ (by omega) (by omega))]; exact h.deafW i' hi'
 ·rw [Deaf_not t u (hne _ (by omega) (by omega))]; exact h.above y hy
 ·by_cases e : i' = i
  ·subst e; rw [upd_same] at hst; exact hrel hL hst
  ·rw [upd_ne D _ e] at hst
   obtain ⟨r, hr⟩ := h.rel i' hL hi' hst
   exact ⟨r, hr.appNot (hne _ (by omega) (by omega))⟩
 ·by_cases e : i' = i
  ·subst e; rw [upd_same] at hk; exact hheld k hk
  ·rw [upd_ne D _ e] at hk
   obtain ⟨h1, h2⟩ := h.held i' k hi' hk
   exact ⟨by omega, by rw [hwo k (by omega), h2]⟩
 ·rcases hdone k hk with h1 | ⟨i', h1, h2, h3⟩ | h1
  ·exact .inl ⟨i, hi, by rw [upd_same]; exact h1⟩
  ·exact .inl ⟨i', h1, by rw [upd_ne D _ h2]; exact h3⟩
  ·exact .inr h1
 ·by_cases e : i' = i
  ·subst e; rw [upd_same] at e'; exact heno e'
  ·rw [upd_ne D _ e] at e'
   obtain ⟨k, hk, hp⟩ := h.eno i' hi' e'
   exact ⟨k, by omega, hp⟩
 ·by_cases e : i' = i
  ·subst e; rw [upd_same]; exact hopn hc hL
  ·rw [upd_ne D _ e]; exact h.opn hc i' hL hi'
 ·by_cases e : i' = i
  ·subst e; rw [upd_same]; exact hshut hc
  ·rw [upd_ne D _ e]; exact h.shut hc i' hi'
theorem Com.main (h : Com P φ n Pre Done An N0 L j H who mk closed gs w t D d0) (J : Jobs φ n Pre Done)
  (hsz : gs'.size = j + 1) (hoth : ∀ i', i' < j → gs'[i' + 1]? = gs[i' + 1]?) (hF : ∀ own, Frm φ own w w') (hst : ∀ b, φ.B ≤ b → b < w.heap.size → w'.heap[b]? = w.heap[b]?)
  (tl' : TL φ N0 L j who mk (t ++ u)) (hug : ∀ op ∈ u, op.g = 0) (hd0 : Deaf (t ++ u) 0 = d0')
  (hch : ∃ s r, w'.heap[φ.Ch]? = some (.chan 0 #[] closed s r false)) (hen : EnOk φ H w') (hfd : ∀ fd, φ.Fd = some fd → w'.heap[fd]? = w.heap[fd]?) :
  Com P φ n Pre Done An N0 L j H who mk closed gs' w' (t ++ u) D d0' := by
 have hne : ∀ y, y ≠ 0 → ∀ op ∈ u, op.g ≠ y := fun y h0 op hop e => h0 (e ▸ hug op hop)
 have hcell : ∀ k b, φ.pb b → w'.cell? ⟨b, k, none⟩ = w.cell? ⟨b, k, none⟩ := fun k b hb => (hF fun _ => True).own b k hb trivial
 exact ⟨hsz, h.Lj, fun i' hi' => let ⟨g, hg, hs⟩ := h.wk i' hi'; ⟨g, by rw [hoth i' hi']; exact hg, hs.rely (hF _) fun b hb => let ⟨h1, h2⟩ := h.mkB b (by omega); hst b h1 h2⟩, h.old, tl', fun b hb => let ⟨h1, h2⟩ := h.mkB b hb; ⟨h1, Nat.lt_of_lt_of_le h2 (hF own0).size⟩, Nat.le_trans h.base (hF own0).size, hd0, fun i' hi' => by rw [Deaf_not t u (hne _ (by omega))]; exact h.deafW i' hi',
  fun y hy => by rw [Deaf_not t u (hne _ (by omega))]; exact h.above y hy, fun i' hL hi' hst => let ⟨r, hr⟩ := h.rel i' hL hi' hst; ⟨r, hr.appNot (hne _ (by omega))⟩, h.Hn, h.whoH, h.held,
  fun k hk => (h.done k hk).imp id (J.done k w w' (hcell k)), fun k h1 h2 => J.pre k w w' (hcell k) (h.pre k h1 h2), hch, hen, h.fnd.keep hfd fun _ => Iff.rfl, h.eno, h.opn, h.shut⟩
end
section
variable {P : Program} {φ : Ph} {n N : Nat} {Pre Done : Nat → World → Prop} {An Nx AnW : Goroutine → World → Prop} {w w' : World} {g : Goroutine} {s : WTag} {m d : Nat} {ow : Nat → Prop} {tr : Tree}
theorem WSit.running (hA : ∀ g w, An g w → g.status = .running) (h : WSit P φ n Pre Done An ow tr s m d g w) (h1 : s ≠ .prk) (h2 : s ≠ .quit) : g.status = .running := by
 cases h with
 | rcv h => exact Goes.running (fun _ _ x => x.1) w (.refl w) h
 | prk h => exact absurd rfl h1
 | job _ h => exact GoesT.running (fun _ _ x => x.2.elim (fun y => hA _ _ y.2) fun y => y.2.1) w ⟨.refl w, fun _ _ => rfl⟩ h
 | eno h => exact Goes.running (fun _ _ x => x.1) w (.refl w) h
 | ret h => exact Goes.running hA w (.refl w) h
 | out h => exact Goes.running (fun _ _ x => x.1) w (.refl w) h
 | k1 h => exact Goes.running (fun _ _ x => x.1) w (.refl w) h
 | d1 h => exact Goes.running (fun _ _ x => x.1) w (.refl w) h
 | d2 h => exact Goes.running (fun _ _ x => x.1) w (.refl w) h
 | d3 h => exact Goes.running (fun _ _ x => x.1) w (.refl w) h
 | d4 h => exact Goes.running (fun _ _ x => x.1) w (.refl w) h
 | quit h => exact absurd rfl h2
theorem WSit.status (hA : ∀ g w, An g w → g.status = .running) (h : WSit P φ n Pre Done An ow tr s m d g w) : g.status = .running ∨ g.status = .blocked ∨ g.status = .finished := by
 by_cases h1 : s = .prk
 ·subst h1; cases h with | prk h => exact .inr (.inl rfl)
 ·by_cases h2 : s = .quit
  ·subst h2; cases h with | quit h => exact h.status.imp id .inr
  ·exact .inl (h.running hA h1 h2)
theorem WSit.woken (hA : ∀ g w, An g w → g.status = .running) (h : WSit P φ n Pre Done An ow tr s m d g w) (a a' : Goroutine) (w' : World) (hc : s = .prk → ∃ c b s r tm, w'.heap[φ.Ch]? = some (.chan c b false s r tm)) : woken P a a' w' g = g := by
 by_cases h1 : s = .prk
 ·obtain ⟨c, b, sn, r, tm, hcc⟩ := hc h1
  subst h1
  cases h with | prk h => exact woken_recv_open a a' hcc
 ·by_cases h2 : s = .quit
  ·subst h2; cases h with | quit h => exact woken_quitsD h
  ·exact woken_run (h.running hA h1 h2)
theorem again_sel_open {g : Goroutine} {c e : Nat} {v z z' : Value} {sh : CommShape} (h1 : ∃ cap b s r tm, w.heap[c]? = some (.chan cap b false s r tm)) (h2 : ∃ cap b s r tm, w.heap[e]? = some (.chan cap b false s r tm)) :
  (parked g #[scase c v z, rcase e z'] sh).again w = parked g #[scase c v z, rcase e z'] sh := by
 obtain ⟨_, _, _, _, _, h1⟩ := h1
 obtain ⟨_, _, _, _, _, h2⟩ := h2
 simp [Goroutine.again, parked, scase, rcase, h1, h2]
theorem MSit.status (hA : ∀ g w, AnW g w → g.status = .running) {t : MTag} {j : Nat} (h : MSit P φ n Pre Done An Nx AnW N t j m d g w) : (g.status = .running ∧ t ≠ .c .blk ∧ ∀ r, t ≠ .hpk r) ∨ (g.status = .blocked ∧ (t = .c .blk ∨ ∃ r, t = .hpk r)) := by
 cases h with
 | skd _ h => exact .inl ⟨Goes.running (fun _ _ x => x.1) w (.refl w) h, by simp⟩
 | sa1 _ h => exact .inl ⟨Goes.running (fun _ _ x => x.1) w (.refl w) h, by simp⟩
 | ske _ h => exact .inl ⟨Goes.running (fun _ _ x => x.1) w (.refl w) h, by simp⟩
 | sgo _ h => exact .inl ⟨Goes.running (fun _ _ x => x.1) w (.refl w) h, by simp⟩
 | hand _ h => exact .inl ⟨Goes.running (fun _ _ x => x.1) w (.refl w) h, by simp⟩
 | hpk _ h => exact .inr ⟨rfl, .inr ⟨_, rfl⟩⟩
 | cls h => exact .inl ⟨Goes.running (fun _ _ x => x.1) w (.refl w) h, by simp⟩
 | kd h => exact .inl ⟨Goes.running (fun _ _ x => x.1) w (.refl w) h, by simp⟩
 | anch h => exact .inl ⟨Goes.running hA w (.refl w) h, by simp⟩
 | w1 h => exact .inl ⟨Goes.running (fun _ _ x => x.1) w (.refl w) h, by simp⟩
 | w2 h => exact .inl ⟨Goes.running (fun _ _ x => x.1) w (.refl w) h, by simp⟩
 | w3 h => exact .inl ⟨Goes.running (fun _ _ x => x.1) w (.refl w) h, by simp⟩
 | blk h => exact .inr ⟨rfl, .inl rfl⟩
 | w4 h => exact .inl ⟨Goes.running (fun _ _ x => x.1) w (.refl w) h, by simp⟩
 | ke h => exact .inl ⟨Goes.running (fun _ _ x => x.1) w (.refl w) h, by simp⟩
 | acq h => exact .inl ⟨Goes.running (fun _ _ x => x.1) w (.refl w) h, by simp⟩
theorem MSit.wokenBy (hA : ∀ g w, AnW g w → g.status = .running) {t : MTag} {j f : Nat} {a : Goroutine} (h : MSit P φ n Pre Done An Nx AnW N t j f d a w) (hr : Frm φ own0 w w') (g g' : Goroutine)
  (hc : ∀ r, t = .hpk r → (∃ cap b s r tm, w'.heap[φ.Ch]? = some (.chan cap b false s r tm)) ∧ (∃ cap b s r tm, w'.heap[φ.En]? = some (.chan cap b false s r tm))) :
  ∃ t' f', MSit P φ n Pre Done An Nx AnW N t' j f' d (woken P g g' w' a) w' ∧ f' ≤ f + 1 ∧ (t' = t ∨ (t = .c .blk ∧ t' = .c .w3)) ∧ (mayWake P g = true → g'.status = .running → t' ≠ .c .blk) := by
 have h' := h.rely hr
 unfold Go.Conc.woken
 split
 ·rcases h'.status hA with ⟨hs, hne, _⟩ | ⟨_, rfl | ⟨r, rfl⟩⟩
  ·exact ⟨t, f, by rw [again_running _ (.inl hs)]; exact h', by omega, .inl rfl, fun _ _ => hne⟩
  ·cases h' with
   | blk hb =>
    have h3 := hb w' (.refl w')
    exact ⟨.c .w3, 0 + 1, by rw [Go.ConcR.again_blocked h3.1 h3.2.1]; exact .w3 (Goes.stop hb), by omega, .inr ⟨rfl, rfl⟩, fun _ _ => by simp⟩
  ·cases h' with
   | hpk hn hb => exact ⟨_, 0, by rw [again_sel_open (hc _ rfl).1 (hc _ rfl).2]; exact .hpk hn hb, by omega, .inl rfl, fun _ _ => by simp⟩
 ·rename_i hcn
  exact ⟨t, f, h', by omega, .inl rfl, fun h1 h2 => absurd (by simp [h1, h2]) hcn⟩
end
abbrev Mu := Nat × (Nat × (Nat → Tree)) × Nat
abbrev LtM : Mu → Mu → Prop := Prod.Lex (· < ·) (Prod.Lex TLt (· < ·))
theorem ltM_wf : WellFounded LtM := (Prod.lex Nat.lt_wfRel (Prod.lex ⟨TLt, tlt_wf⟩ Nat.lt_wfRel)).wf
def mphi (n N L v : Nat) : MTag → Nat
 | .c (.sp r s) => 10 * N + 20 + L + 10 * n + 50 * r + 50 + s
 | .hand r => 10 * N + 20 + L + 10 * r + 1
 | .hpk r => 10 * N + 20 + L + 10 * r
 | .cls => 10 * N + 20 + L
 | .c t => phi N v t
def Wsum (j : Nat) (D : Nat → PD) : Nat := sumTo j fun i => (D i).tag.wt
def Fsm (j : Nat) (D : Nat → PD) : Nat := sumTo j fun i => (D i).fuel
abbrev Vw (j : Nat) (D : Nat → PD) : Nat := Vc j fun i => (D i).wd
def Link (φ : Ph) (n : Nat) : MTag → Bool → Nat → Prop
 | .c (.sp _ _), c, H => c = false ∧ H = 0
 | .hand r, c, H => c = false ∧ H + r = n
 | .hpk r, c, H => c = false ∧ H + r = n
 | .cls, c, H => c = false ∧ Enough φ n H
 | .c _, c, H => c = true ∧ Enough φ n H
section
variable (P : Program) (φ : Ph) (n : Nat) (Pre Done : Nat → World → Prop) (An Nx AnW : Goroutine → World → Prop) (N N0 L : Nat) (wb : World)
def Inv (μ : Mu) (m : Machine) (t : Trace) : Prop :=
 ∃ (gs : Array Goroutine) (w : World) (sl : Option (Nat × Nat)) (j H : Nat) (who mk : Nat → Nat) (closed : Bool) (D : Nat → PD) (tag : MTag) (f0 d0 : Nat) (a : Goroutine) (st sm : Int),
  m = crowd gs w sl ∧ gs[0]? = some a ∧ MSit P φ n Pre Done An Nx AnW N tag (j - L) f0 d0 a w ∧ Com P φ n Pre Done An N0 L j H who mk closed gs w t D d0 ∧ WgAt φ.ty φ.Wg w st sm ∧ Go.ConcN.Mode j (fun i => (D i).wd) tag.ct st sm ∧
  Link φ n tag closed H ∧ (∀ r, tag = .hpk r → ∀ i, i < j → (D i).tag ≠ .prk) ∧ Frm φ own0 wb w ∧ μ = (mphi n N L (Vw j D) tag + Wsum j D, (j, fun y => (D y).tree), f0 + 2 * Fsm j D)
def Exit (m : Machine) (t : Trace) : Prop :=
 ∃ (gs : Array Goroutine) (w : World) (sl : Option (Nat × Nat)) (a : Goroutine) (q : Nat → Nat) (f : Nat), m = crowd gs w sl ∧ gs.size = L + N + 1 ∧ gs[0]? = some a ∧ Goes P true AtRel (DI φ own0 0) Nx f a w ∧ Leavers P t gs q ∧
  Past (fun l => φ.Shun l ∨ ShN φ.Wg l) w.heap.size t ∧ Fin φ n Done w ∧ Frm φ own0 wb w
def Goal (μ : Mu) (res : Stepped × Array MemOp) (t : Trace) : Prop :=
 ∃ m₁ ops, res = (.next m₁, ops) ∧ (Exit P φ n Done Nx N L wb m₁ (t ++ ops) ∨ ∃ μ', LtM μ' μ ∧ Inv P φ n Pre Done An Nx AnW N N0 L wb μ' m₁ (t ++ ops))
end
end Go.Pool
end
section
namespace Go.Pool
open Go.Conc Go.ConcN
open Go.ConcR (stA smA rd wr mk KK WgAt wgBlock g_of_ofEvents Bk bk_of_mute ofEvent_loc_mark ofEvent_cell loc_of_ofEvent)
theorem ep_ops {φ : Ph} {own own' mine : Nat → Prop} {g : Nat} {g' : Nat} {fn : FuncId} {pos : String} {es : Array Event} (h : ∀ e ∈ es, EvP φ own g e) (h0 : g = 0 ↔ g' = 0) (ho : ∀ k, own k → own' k) :
  (∀ op ∈ MemOp.ofEvents g' fn pos es, ∀ x, op.act.touch? = some x → TouchOk φ own' mine g' x) ∧ (∀ op ∈ MemOp.ofEvents g' fn pos es, op.act.low φ.B) ∧ (∀ op ∈ MemOp.ofEvents g' fn pos es, op.act ≠ .mark (.release (stA φ.Wg))) := by
 refine ⟨fun op hop x hx => ?_, fun op hop => ?_, fun op hop => ?_⟩ <;> obtain ⟨e, he, rfl⟩ := Go.Conc.mem_ofEvents hop
 ·rcases (h e he).1 x hx with ⟨a, b, c⟩ | a | ⟨a, k, b, c⟩ | ⟨a, b, c⟩ | ⟨_, _, _, _, c⟩
  ·exact .inl ⟨a, b, fun e => h0.1 (c e)⟩
  ·exact .inr (.inl a)
  ·exact .inr (.inr (.inl ⟨a, k, ho k b, c⟩))
  ·exact .inr (.inr (.inr (.inl ⟨a, b, h0.1 c⟩)))
  ·exact c.elim
 ·exact (h e he).2.2.2.2
 ·intro hm
  exact (h e he).2.2.2.1 (loc_of_ofEvent hm)
theorem ej_ops {φ : Ph} {k : Nat} {L : List Nat} {s s' : Nat} {own mine : Nat → Prop} {g' : Nat} {fn : FuncId} {pos : String} {es : Array Event} (h : ∀ e ∈ es, EvJ φ k L s s' e) (ho : own k) (hm : ∀ b, (b ∈ L ∨ (s ≤ b ∧ b < s')) → mine b) :
  (∀ op ∈ MemOp.ofEvents g' fn pos es, ∀ x, op.act.touch? = some x → TouchOk φ own mine g' x) ∧ (∀ op ∈ MemOp.ofEvents g' fn pos es, op.act.low φ.B ∨ ∃ b, mine b ∧ op.act.low (b + 1)) ∧ (∀ op ∈ MemOp.ofEvents g' fn pos es, op.act ≠ .mark (.release (stA φ.Wg))) := by
 refine ⟨fun op hop x hx => ?_, fun op hop => ?_, fun op hop => ?_⟩ <;> obtain ⟨e, he, rfl⟩ := Go.Conc.mem_ofEvents hop
 ·rcases (h e he).1 x hx with ⟨a, b, c⟩ | a | ⟨a, k', b, c⟩ | ⟨a, b, c⟩ | ⟨a, y, b, c, d⟩
  ·exact .inl ⟨a, b, fun e => absurd (c e) (by simp)⟩
  ·exact .inr (.inl a)
  ·exact .inr (.inr (.inl ⟨a, k, ho, b ▸ c⟩))
  ·exact absurd c (by simp)
  ·exact .inr (.inr (.inr (.inr ⟨a, y, b, c, hm _ d⟩)))
 ·exact (h e he).2.2.2.2.imp id fun ⟨b, h1, h2⟩ => ⟨b, hm b h1, h2⟩
 ·intro hm
  exact (h e he).2.2.2.1 (loc_of_ofEvent hm)
theorem bk_ops {φ : Ph} (G : Geo φ) {own mine : Nat → Prop} {g : Nat} {fn : FuncId} {pos : String} {es : Array Event} (h : ∀ e ∈ es, Bk φ.Wg e) :
  (∀ op ∈ MemOp.ofEvents g fn pos es, ∀ x, op.act.touch? = some x → TouchOk φ own mine g x) ∧ (∀ op ∈ MemOp.ofEvents g fn pos es, op.act.low φ.B) ∧ (∀ op ∈ MemOp.ofEvents g fn pos es, op.act ≠ .mark (.release (stA φ.Wg))) := by
 refine ⟨fun op hop x hx => ?_, fun op hop => ?_, fun op hop => ?_⟩ <;> obtain ⟨e, he, rfl⟩ := Go.Conc.mem_ofEvents hop
 ·rcases h e he with h1 | h1 | ⟨a, wr, rfl, ha⟩
  ·simp only [ofEvent_loc_mark h1] at hx; cases hx
  ·simp only [ofEvent_loc_mark h1] at hx; cases hx
  ·simp only [ofEvent_cell, MemAct.touch?, Option.some.injEq] at hx
   subst hx
   exact .inl ⟨⟨a, rfl, ha⟩, by simp, by simp⟩
 ·rcases h e he with h1 | h1 | ⟨a, wr, rfl, ha⟩
  ·simp only [ofEvent_loc_mark h1]; trivial
  ·simp only [ofEvent_loc_mark h1]; trivial
  ·simp only [ofEvent_cell]; have := G.wgB; rw [← ha] at this; exact this
 ·intro hm
  rcases h e he with h1 | h1 | ⟨a, wr, rfl, _⟩
  ·have := loc_of_ofEvent hm; rw [h1] at this; cases this
  ·have := loc_of_ofEvent hm; rw [h1] at this; cases this
  ·simp only [ofEvent_cell] at hm; cases hm
theorem mphi_mono (n N L : Nat) {v v' : Nat} (h : v' ≤ v) (tag : MTag) : mphi n N L v' tag ≤ mphi n N L v tag := by
 cases tag with
 | c t => cases t <;> simp only [mphi, phi] <;> omega
 | _ => exact Nat.le_refl _
theorem mphi_retag (n N L v : Nat) {tag tag' : MTag} (e : tag' = tag ∨ (tag = .c .blk ∧ tag' = .c .w3)) : mphi n N L v tag' = mphi n N L v tag := by
 rcases e with rfl | ⟨rfl, rfl⟩ <;> rfl
section
variable {P : Program} {φ : Ph} {n : Nat} {Pre Done : Nat → World → Prop} {An Nx AnW : Goroutine → World → Prop} {N N0 L : Nat} {wb : World}
  {j H : Nat} {who mk mk' : Nat → Nat} {closed : Bool} {gs : Array Goroutine} {w w' : World} {sl : Option (Nat × Nat)} {t : Trace} {D : Nat → PD} {d0 f0 : Nat} {tag : MTag} {a : Goroutine} {st sm : Int}
theorem wd_upd (D : Nat → PD) (i : Nat) (x : PD) : (fun y => (upd D i x y).wd) = upd (fun y => (D y).wd) i x.wd := by
 funext y
 by_cases e : y = i
 ·subst e; rw [upd_same, upd_same]
 ·rw [upd_ne D x e, upd_ne _ x.wd e]
theorem Link.retag {tag' : MTag} (h : Link φ n tag closed H) (e : tag' = tag ∨ (tag = .c .blk ∧ tag' = .c .w3)) : Link φ n tag' closed H := by
 rcases e with rfl | ⟨rfl, rfl⟩ <;> exact h
theorem ct_retag {tag tag' : MTag} (e : tag' = tag ∨ (tag = .c .blk ∧ tag' = .c .w3)) : tag'.ct = tag.ct ∨ (tag.ct = .blk ∧ tag'.ct = .w3) := by
 rcases e with rfl | ⟨rfl, rfl⟩
 ·exact .inl rfl
 ·exact .inr ⟨rfl, rfl⟩
theorem workerStep (J : Jobs φ n Pre Done) (hA : ∀ g w, An g w → g.status = .running) (hAr : ∀ g w, AnW g w → g.status = .running)
  (ha : gs[0]? = some a) (hms : MSit P φ n Pre Done An Nx AnW N tag (j - L) f0 d0 a w) (hcom : Com P φ n Pre Done An N0 L j H who mk closed gs w t D d0)
  (hlink : Link φ n tag closed H) (hpk : ∀ r, tag = .hpk r → ∀ i, i < j → (D i).tag ≠ .prk) (hwb : Frm φ own0 wb w)
  {i : Nat} (hi : i < j) {g g' : Goroutine} {es : Array Event} {x : PD} {st' sm' : Int} (hg : gs[i + 1]? = some g) (hgo : stepG P false g w = .go g' w' es)
  (hF : ∀ own, (∀ k, (D i).tag = .job k → ¬ own k) → Frm φ own w w')
  (hch : w'.heap[φ.Ch]? = w.heap[φ.Ch]?) (hen : w'.heap[φ.En]? = w.heap[φ.En]?) (hfd : ∀ fd, φ.Fd = some fd → w'.heap[fd]? = w.heap[fd]?)
  (hst : ∀ b, φ.B ≤ b → b < w.heap.size → mk b ≠ i + 1 → w'.heap[b]? = w.heap[b]?) (hmk : ∀ b, mk b ≠ 0 → mk' b = mk b) (hmk0 : ∀ b, mk b = 0 → mk' b ≠ 0 → mk' b = i + 1 ∧ w.heap.size ≤ b ∧ b < w'.heap.size)
  (hs' : WSit P φ n Pre Done An (fun b => mk' b = i + 1) x.tree x.tag x.fuel x.deaf g' w')
  (htl : TL φ N0 L j who mk' (t ++ MemOp.ofEvents (i + 1) g.frame.fn g.frame.place es))
  (hdeaf : deafBehind (D i).deaf es = x.deaf) (hold : i < L → x.tag = .quit) (hrel : L ≤ i → x.tag.stage ≤ 6 → ∃ r, RelBy (stA φ.Wg) (t ++ MemOp.ofEvents (i + 1) g.frame.fn g.frame.place es) (i + 1) r)
  (hjob : ∀ k, x.tag = .job k → (D i).tag = .job k) (hend : ∀ k, (D i).tag = .job k → x.tag = .job k) (heno : x.tag = .eno → (D i).tag = .eno)
  (hopn : closed = false → L ≤ i → x.tag.early) (hprk : x.tag ≠ .prk)
  (hwg : WgAt φ.ty φ.Wg w' st' sm')
  (hmode : ∀ tag', (tag' = tag ∨ (tag = .c .blk ∧ tag' = .c .w3)) → (mayWake P g = true → g'.status = .running → tag' ≠ .c .blk) → Go.ConcN.Mode j (upd (fun y => (D y).wd) i x.wd) tag'.ct st' sm')
  (hlt : (x.tag.wt < (D i).tag.wt ∧ cnt x.wd ≤ cnt (D i).wd) ∨ (x.tag = (D i).tag ∧ ((x.tree = (D i).tree ∧ x.fuel + 1 = (D i).fuel) ∨ Tree.Sub x.tree (D i).tree))) :
  Goal P φ n Pre Done An Nx AnW N N0 L wb (mphi n N L (Vw j D) tag + Wsum j D, (j, fun y => (D y).tree), f0 + 2 * Fsm j D) (runT P (crowd gs w sl) (i + 1)) t := by
 have hF0 : Frm φ own0 w w' := hF own0 fun _ _ => id
 obtain ⟨s1, r1, hc1⟩ := hcom.ch
 obtain ⟨b2, s2, r2, hc2, _, _⟩ := hcom.en
 obtain ⟨tag', f', hms', hf', htag, hwk⟩ := hms.wokenBy hAr hF0 g g' fun r e => by
  subst e
  obtain ⟨rfl, _⟩ := hlink
  exact ⟨⟨_, _, _, _, _, hch.trans hc1⟩, ⟨_, _, _, _, _, hen.trans hc2⟩⟩
 have hrun := runT_crowd_go (P := P) (sl := sl) (i := i + 1) hg (by simpa using hgo)
 have e2 := sumTo_upd D x (fun y => y.tag.wt) hi
 have e3 := sumTo_upd D x PD.fuel hi
 have hcells : ∀ k, (D i).tag ≠ .job k → ∀ b, φ.pb b → w'.cell? ⟨b, k, none⟩ = w.cell? ⟨b, k, none⟩ := fun k hk b hb =>
  (hF (· = k) fun k' e e' => by subst e'; exact hk e).own b k hb rfl
 have hcom' : Com P φ n Pre Done An N0 L j H who mk' closed ((gs.map (woken P g g' w')).setIfInBounds (i + 1) g') w' (t ++ MemOp.ofEvents (i + 1) g.frame.fn g.frame.place es) (upd D i x) d0 := by
  refine hcom.upd hi (by simp [hcom.size]) (fun i' hi' hne => ?_) (get_map_set_same _ _ _ (by rw [hcom.size]; omega)) hs' hF0.size hst hmk hmk0 (fun i' hi' hne => hF _ fun k hk hown => ?_) htl (fun op hop => .inr (g_of_ofEvents op hop))
   (by rw [Deaf_not t _ (fun op hop => by rw [g_of_ofEvents op hop]; omega)]; exact hcom.deaf0) (by rw [Deaf_own, hcom.deafW i hi]; exact hdeaf) hold hrel hcom.Hn hcom.whoH (fun _ _ => rfl) (Nat.le_refl _)
   (fun k hk => hcom.held i k hi (hjob k hk)) (fun k hk => ?_) (fun k h1 h2 => ?_) ⟨s1, r1, hch.trans hc1⟩ (hcom.en.keep hen (Nat.le_refl _)) (hcom.fnd.keep hfd (held_upd hi fun k => ⟨hjob k, hend k⟩)) (fun e => hcom.eno i hi (heno e)) hopn (fun _ => hprk)
  ·obtain ⟨y, hy, hsy⟩ := hcom.wk i' hi'
   rw [get_map_set _ _ _ _ (by omega), hy, Option.map_some, hsy.woken hA _ _ _ fun e => ?_]
   cases hcl : closed with
   | false => rw [hcl] at hc1; exact ⟨_, _, _, _, _, hch.trans hc1⟩
   | true => exact absurd e (hcom.shut hcl i' hi')
  ·cases hti : (D i').tag with
   | job k' =>
    rw [hti] at hown
    have e : k = k' := hown
    subst e
    have h1 := (hcom.held i k hi hk).2
    have h2 := (hcom.held i' k hi' hti).2
    omega
   | _ => rw [hti] at hown; exact hown
  ·rcases hcom.done k hk with ⟨i', hi', e⟩ | hd
   ·by_cases hne : i' = i
    ·subst hne
     exact .inl (hend k e)
    ·exact .inr (.inl ⟨i', hi', hne, e⟩)
   ·by_cases e : (D i).tag = .job k
    ·exact .inl (hend k e)
    ·exact .inr (.inr (J.done k w w' (hcells k e) hd))
  ·refine J.pre k w w' (hcells k fun e => ?_) (hcom.pre k h1 h2)
   have := (hcom.held i k hi e).1
   omega
 refine ⟨_, _, hrun, .inr ⟨(mphi n N L (Vw j (upd D i x)) tag' + Wsum j (upd D i x), (j, fun y => (upd D i x y).tree), f' + 2 * Fsm j (upd D i x)), ?_,
  _, w', sl, j, H, who, mk', closed, upd D i x, tag', f', d0, woken P g g' w' a, st', sm', rfl, by rw [get_map_set _ _ _ _ (by omega), ha]; rfl, hms', hcom', hwg, ?_, hlink.retag htag, fun r e i' hi' => ?_, hwb.trans hF0, rfl⟩⟩
 ·rw [mphi_retag n N L _ htag]
  simp only [Wsum, Fsm] at *
  rcases hlt with ⟨h1, h2⟩ | ⟨h1, h2⟩
  ·refine Prod.Lex.left _ _ ?_
   have hv : Vw j (upd D i x) ≤ Vw j D := by
    have := sumTo_upd D x (fun y => cnt y.wd) hi
    simp only [Vw, Vc]
    omega
   have := mphi_mono n N L hv tag
   omega
  ·have ev : Vw j (upd D i x) = Vw j D := by
    have := sumTo_upd D x (fun y => cnt y.wd) hi
    have ec : cnt x.wd = cnt (D i).wd := by
     show (if 5 ≤ x.tag.stage then 1 else 0) = (if 5 ≤ (D i).tag.stage then 1 else 0)
     rw [h1]
    simp only [Vw, Vc]
    omega
   have ew : (sumTo j fun y => (upd D i x y).tag.wt) = sumTo j fun y => (D y).tag.wt := by rw [h1] at e2; omega
   rw [ev, ew]
   refine Prod.Lex.right _ ?_
   rcases h2 with ⟨h3, h4⟩ | h3
   ·have et : (fun y => (upd D i x y).tree) = fun y => (D y).tree := funext fun y => by
     by_cases e : y = i
     ·subst e; rw [upd_same]; exact h3
     ·rw [upd_ne D _ e]
    rw [et]
    refine Prod.Lex.right _ ?_
    omega
   ·refine Prod.Lex.left _ _ ⟨rfl, i, hi, ?_, fun y hy => ?_⟩
    ·show Tree.Sub (upd D i x i).tree _; rw [upd_same]; exact h3
    ·show (upd D i x y).tree = _; rw [upd_ne D _ hy]
 ·rw [wd_upd]; exact hmode tag' htag hwk
 ·have e0 : tag = .hpk r := by
   rcases htag with rfl | ⟨_, h2⟩
   ·exact e
   ·rw [h2] at e; cases e
  by_cases hne : i' = i
  ·subst hne; rw [upd_same]; exact hprk
  ·rw [upd_ne D x hne]; exact hpk r e0 i' hi'
end
end Go.Pool
end
