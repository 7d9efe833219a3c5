/-
  POOL 3: what holds of the machine and the trace at every moment of the phase; how it is kept where one worker's record, or main's, turns.
-/
import Derived.Test.YthkaigokcognmaaPool2
namespace Go.Pool
open Go.Conc Go.ConcN
open Go.ConcR (stA smA rd wr mk KK WgAt wgBlock g_of_ofEvents)

theorem Deaf_not (t : Trace) {x : Nat} (u : Trace) (hu : ∀ op ∈ u, op.g ≠ x) : Deaf (t ++ u) x = Deaf t x := by
  have key : ∀ (l : List MemOp) (d : Nat), (∀ op ∈ l, op.g ≠ x) → l.foldl (deafStep x) d = d := by
    intro l
    induction l with
    | nil => intro _ _; rfl
    | cons y l ih =>
      intro d hl
      have hy : deafStep x d y = d := by
        unfold deafStep
        split <;> simp [hl y (by simp)]
      rw [List.foldl_cons, hy]
      exact ih d fun op hop => hl op (by simp [hop])
  have := Deaf_append t x u.toList
  simp only [Array.toArray_toList] at this
  rw [this]
  exact key _ _ fun op hop => hu op (by simpa using hop)

structure PD where
  tag : WTag
  fuel : Nat
  deaf : Nat
def PD.wd (x : PD) : WD := ⟨x.tag.stage, x.fuel, x.deaf⟩

/-- Somebody is at job k. -/
def Held (j : Nat) (D : Nat → PD) (k : Nat) : Prop := ∃ i, i < j ∧ (D i).tag = .job k
/-- What was found so far. -/
def Fnd (φ : Ph) (n j H : Nat) (D : Nat → PD) (w : World) : Prop := ∀ fd, φ.Fd = some fd →
  ∃ (l : List Nat) (s r : Nat), w.heap[fd]? = some (.chan n (found l) false s r false) ∧ l.Nodup ∧ (∀ k ∈ l, k < H ∧ φ.p k ∧ ¬ Held j D k) ∧ ∀ k, k < H → φ.p k → Held j D k ∨ k ∈ l
/-- Somebody has said 'enough' only if something is so of a job that was handed out. -/
def EnOk (φ : Ph) (H : Nat) (w : World) : Prop := ∃ (buf : Array Value) (s r : Nat), w.heap[φ.En]? = some (.chan 1 buf false s r false) ∧ buf.size ≤ 1 ∧ (buf ≠ #[] → ∃ k, k < H ∧ φ.p k)
def Enough (φ : Ph) (n H : Nat) : Prop := H ≤ n ∧ (H = n ∨ ∃ k, k < H ∧ φ.p k)

theorem Fnd.keep {φ : Ph} {n j H : Nat} {D D' : Nat → PD} {w w' : World} (h : Fnd φ n j H D w) (hw : ∀ fd, φ.Fd = some fd → w'.heap[fd]? = w.heap[fd]?) (hD : ∀ k, Held j D' k ↔ Held j D k) : Fnd φ n j H D' w' := fun fd e => by
  obtain ⟨l, s, r, h1, h2, h3, h4⟩ := h fd e
  exact ⟨l, s, r, (hw fd e).trans h1, h2, fun k hk => ⟨(h3 k hk).1, (h3 k hk).2.1, fun x => (h3 k hk).2.2 ((hD k).1 x)⟩, fun k hk hp => (h4 k hk hp).imp (hD k).2 id⟩
theorem EnOk.keep {φ : Ph} {H H' : Nat} {w w' : World} (h : EnOk φ H w) (hw : w'.heap[φ.En]? = w.heap[φ.En]?) (hH : H ≤ H') : EnOk φ H' w' := by
  obtain ⟨buf, s, r, h1, h2, h3⟩ := h
  exact ⟨buf, s, r, hw.trans h1, h2, fun x => let ⟨k, hk, hp⟩ := h3 x; ⟨k, by omega, hp⟩⟩
theorem held_upd {j i : Nat} {D : Nat → PD} {x : PD} (hi : i < j) (h : ∀ k, x.tag = .job k ↔ (D i).tag = .job k) (k : Nat) : Held j (upd D i x) k ↔ Held j D k := by
  constructor
  · rintro ⟨i', h1, h2⟩
    by_cases e : i' = i
    · subst e; rw [upd_same] at h2; exact ⟨i', h1, (h k).1 h2⟩
    · rw [upd_ne D _ e] at h2; exact ⟨i', h1, h2⟩
  · rintro ⟨i', h1, h2⟩
    by_cases e : i' = i
    · subst e; exact ⟨i', hi, by rw [upd_same]; exact (h k).2 h2⟩
    · exact ⟨i', h1, by rw [upd_ne D _ e]; exact h2⟩

section
variable (P : Program) (φ : Ph) (n : Nat) (Pre Done : Nat → World → Prop) (An : Goroutine → World → Prop) (N0 L : Nat)

structure Com (j H : Nat) (who : Nat → Nat) (closed : Bool) (gs : Array Goroutine) (w : World) (t : Trace) (D : Nat → PD) (d0 : Nat) : Prop where
  size : gs.size = j + 1
  Lj : L ≤ j
  wk : ∀ i, i < j → ∃ g, gs[i + 1]? = some g ∧ WSit P φ n Pre Done An (D i).tag (D i).fuel (D i).deaf g w
  old : ∀ i, i < L → (D i).tag = .quit
  tl : TL φ N0 L j who t
  deaf0 : Deaf t 0 = d0
  deafW : ∀ i, i < j → Deaf t (i + 1) = (D i).deaf
  above : ∀ x, j + 1 ≤ x → Deaf t x = 0
  rel : ∀ i, L ≤ i → i < j → (D i).tag.stage ≤ 6 → ∃ r, RelBy (stA φ.Wg) t (i + 1) r
  Hn : H ≤ n
  whoH : ∀ k, H ≤ k → who k = 0
  held : ∀ i k, i < j → (D i).tag = .job k → k < H ∧ who k = i + 1
  done : ∀ k, k < H → (∃ i, i < j ∧ (D i).tag = .job k) ∨ Done k w
  pre : ∀ k, H ≤ k → k < n → Pre k w
  ch : ∃ s r, w.heap[φ.Ch]? = some (.chan 0 #[] closed s r false)
  en : EnOk φ H w
  fnd : Fnd φ n j H D w
  eno : ∀ i, i < j → (D i).tag = .eno → ∃ k, k < H ∧ φ.p k
  opn : closed = false → ∀ i, L ≤ i → i < j → (D i).tag.early
  shut : closed = true → ∀ i, i < j → (D i).tag ≠ .prk
end

section
variable {P : Program} {φ : Ph} {n : Nat} {Pre Done : Nat → World → Prop} {An : Goroutine → World → Prop} {N0 L : Nat}
  {j H H' : Nat} {who who' : Nat → Nat} {closed : Bool} {gs gs' : Array Goroutine} {w w' : World} {t u : Trace} {D : Nat → PD} {d0 d0' : Nat}

theorem Com.at (J : Jobs φ n Pre Done) (h : Com P φ n Pre Done An N0 L j H who closed gs w t D d0) (d : Nat) : Com P φ n Pre Done An N0 L j H who closed gs (w.at d) t D d0 :=
  ⟨h.size, h.Lj, fun i hi => let ⟨g, hg, hs⟩ := h.wk i hi; ⟨g, hg, hs.rely (Frm.at w d)⟩, h.old, h.tl, h.deaf0, h.deafW, h.above, h.rel, h.Hn, h.whoH, h.held, fun k hk => (h.done k hk).imp id (J.done k w _ fun _ _ => rfl), fun k h1 h2 => J.pre k w _ (fun _ _ => rfl) (h.pre k h1 h2), h.ch, h.en, h.fnd, h.eno, h.opn, h.shut⟩

/-- ONE WORKER's RECORD TURNS. -/
theorem Com.upd (h : Com P φ n Pre Done An N0 L j H who closed gs w t D d0) {i : Nat} (hi : i < j) {g' : Goroutine} {x : PD}
    (hsz : gs'.size = j + 1) (hoth : ∀ i', i' < j → i' ≠ i → gs'[i' + 1]? = gs[i' + 1]?) (hme : gs'[i + 1]? = some g')
    (hsit : WSit P φ n Pre Done An x.tag x.fuel x.deaf g' w') (hF : ∀ i', i' < j → i' ≠ i → Frm φ (D i').tag.own w w')
    (tl' : TL φ N0 L j who' (t ++ u)) (hug : ∀ op ∈ u, op.g = 0 ∨ op.g = i + 1) (hd0 : Deaf (t ++ u) 0 = d0') (hdw : Deaf (t ++ u) (i + 1) = x.deaf)
    (hold : i < L → x.tag = .quit) (hrel : L ≤ i → x.tag.stage ≤ 6 → ∃ r, RelBy (stA φ.Wg) (t ++ u) (i + 1) r)
    (hHn : H' ≤ n) (hwho : ∀ k, H' ≤ k → who' k = 0) (hwo : ∀ k, who k ≠ 0 → who' k = who k) (hHH : H ≤ H') (hheld : ∀ k, x.tag = .job k → k < H' ∧ who' k = i + 1)
    (hdone : ∀ k, k < H' → x.tag = .job k ∨ (∃ i', i' < j ∧ i' ≠ i ∧ (D i').tag = .job k) ∨ Done k w') (hpre : ∀ k, H' ≤ k → k < n → Pre k w')
    (hch : ∃ s r, w'.heap[φ.Ch]? = some (.chan 0 #[] closed s r false)) (hen : EnOk φ H' w') (hfnd : Fnd φ n j H' (upd D i x) w') (heno : x.tag = .eno → ∃ k, k < H' ∧ φ.p k)
    (hopn : closed = false → L ≤ i → x.tag.early) (hshut : closed = true → x.tag ≠ .prk) :
    Com P φ n Pre Done An N0 L j H' who' closed gs' w' (t ++ u) (upd D i x) d0' := by
  have hne : ∀ y, y ≠ 0 → y ≠ i + 1 → ∀ op ∈ u, op.g ≠ y := fun y h0 h1 op hop e => by
    rcases hug op hop with h' | h' <;> omega
  refine ⟨hsz, h.Lj, fun i' hi' => ?_, fun i' hi' => ?_, tl', hd0, fun i' hi' => ?_, fun y hy => ?_, fun i' hL hi' hst => ?_, hHn, hwho, fun i' k hi' hk => ?_, fun k hk => ?_, hpre, hch, hen, hfnd, fun i' hi' e' => ?_, fun hc i' hL hi' => ?_, fun hc i' hi' => ?_⟩
  · by_cases e : i' = i
    · subst e; rw [upd_same]; exact ⟨g', hme, hsit⟩
    · rw [upd_ne D _ e]
      obtain ⟨g, hg, hs⟩ := h.wk i' hi'
      exact ⟨g, by rw [hoth i' hi' e]; exact hg, hs.rely (hF i' hi' e)⟩
  · by_cases e : i' = i
    · subst e; rw [upd_same]; exact hold hi'
    · rw [upd_ne D _ e]; exact h.old i' hi'
  · by_cases e : i' = i
    · subst e; rw [upd_same]; exact hdw
    · rw [upd_ne D _ e, Deaf_not t u (hne _ (by omega) (by omega))]; exact h.deafW i' hi'
  · rw [Deaf_not t u (hne _ (by omega) (by omega))]; exact h.above y hy
  · by_cases e : i' = i
    · subst e; rw [upd_same] at hst; exact hrel hL hst
    · rw [upd_ne D _ e] at hst
      obtain ⟨r, hr⟩ := h.rel i' hL hi' hst
      exact ⟨r, hr.appNot (hne _ (by omega) (by omega))⟩
  · by_cases e : i' = i
    · subst e; rw [upd_same] at hk; exact hheld k hk
    · rw [upd_ne D _ e] at hk
      obtain ⟨h1, h2⟩ := h.held i' k hi' hk
      exact ⟨by omega, by rw [hwo k (by omega), h2]⟩
  · rcases hdone k hk with h1 | ⟨i', h1, h2, h3⟩ | h1
    · exact .inl ⟨i, hi, by rw [upd_same]; exact h1⟩
    · exact .inl ⟨i', h1, by rw [upd_ne D _ h2]; exact h3⟩
    · exact .inr h1
  · by_cases e : i' = i
    · subst e; rw [upd_same] at e'; exact heno e'
    · rw [upd_ne D _ e] at e'
      obtain ⟨k, hk, hp⟩ := h.eno i' hi' e'
      exact ⟨k, by omega, hp⟩
  · by_cases e : i' = i
    · subst e; rw [upd_same]; exact hopn hc hL
    · rw [upd_ne D _ e]; exact h.opn hc i' hL hi'
  · by_cases e : i' = i
    · subst e; rw [upd_same]; exact hshut hc
    · rw [upd_ne D _ e]; exact h.shut hc i' hi'

/-- MAIN's RECORD ALONE TURNS. -/
theorem Com.main (h : Com P φ n Pre Done An N0 L j H who closed gs w t D d0) (J : Jobs φ n Pre Done)
    (hsz : gs'.size = j + 1) (hoth : ∀ i', i' < j → gs'[i' + 1]? = gs[i' + 1]?) (hF : ∀ own, Frm φ own w w')
    (tl' : TL φ N0 L j who (t ++ u)) (hug : ∀ op ∈ u, op.g = 0) (hd0 : Deaf (t ++ u) 0 = d0')
    (hch : ∃ s r, w'.heap[φ.Ch]? = some (.chan 0 #[] closed s r false)) (hen : EnOk φ H w') (hfd : ∀ fd, φ.Fd = some fd → w'.heap[fd]? = w.heap[fd]?) :
    Com P φ n Pre Done An N0 L j H who closed gs' w' (t ++ u) D d0' := by
  have hne : ∀ y, y ≠ 0 → ∀ op ∈ u, op.g ≠ y := fun y h0 op hop e => h0 (e ▸ hug op hop)
  have hcell : ∀ k b, φ.pb b → w'.cell? ⟨b, k, none⟩ = w.cell? ⟨b, k, none⟩ := fun k b hb => (hF fun _ => True).own b k hb trivial
  exact ⟨hsz, h.Lj, fun i' hi' => let ⟨g, hg, hs⟩ := h.wk i' hi'; ⟨g, by rw [hoth i' hi']; exact hg, hs.rely (hF _)⟩, h.old, tl', hd0, fun i' hi' => by rw [Deaf_not t u (hne _ (by omega))]; exact h.deafW i' hi',
    fun y hy => by rw [Deaf_not t u (hne _ (by omega))]; exact h.above y hy, fun i' hL hi' hst => let ⟨r, hr⟩ := h.rel i' hL hi' hst; ⟨r, hr.appNot (hne _ (by omega))⟩, h.Hn, h.whoH, h.held,
    fun k hk => (h.done k hk).imp id (J.done k w w' (hcell k)), fun k h1 h2 => J.pre k w w' (hcell k) (h.pre k h1 h2), hch, hen, h.fnd.keep hfd fun _ => Iff.rfl, h.eno, h.opn, h.shut⟩
end

/-! ### under another's step -/
section
variable {P : Program} {φ : Ph} {n N : Nat} {Pre Done : Nat → World → Prop} {An Nx AnW : Goroutine → World → Prop} {w w' : World} {g : Goroutine} {s : WTag} {m d : Nat}

theorem RecvS.run {g : Goroutine} {w : World} (h : RecvS P φ n Pre Done An g w) : g.status = .running := h.1

theorem WSit.running (hA : ∀ g w, An g w → g.status = .running) (h : WSit P φ n Pre Done An s m d g w) (h1 : s ≠ .prk) (h2 : s ≠ .quit) : g.status = .running := by
  cases h with
  | rcv h => exact Goes.running (fun _ _ x => x.1) w (.refl w) h
  | prk h => exact absurd rfl h1
  | job h => exact Goes.running (fun _ _ x => x.2.elim (fun y => hA _ _ y.2) fun y => y.2.1) w (.refl w) h
  | eno h => exact Goes.running (fun _ _ x => x.1) w (.refl w) h
  | ret h => exact Goes.running hA w (.refl w) h
  | out h => exact Goes.running (fun _ _ x => x.1) w (.refl w) h
  | k1 h => exact Goes.running (fun _ _ x => x.1) w (.refl w) h
  | d1 h => exact Goes.running (fun _ _ x => x.1) w (.refl w) h
  | d2 h => exact Goes.running (fun _ _ x => x.1) w (.refl w) h
  | d3 h => exact Goes.running (fun _ _ x => x.1) w (.refl w) h
  | d4 h => exact Goes.running (fun _ _ x => x.1) w (.refl w) h
  | quit h => exact absurd rfl h2

theorem WSit.status (hA : ∀ g w, An g w → g.status = .running) (h : WSit P φ n Pre Done An s m d g w) : g.status = .running ∨ g.status = .blocked ∨ g.status = .finished := by
  by_cases h1 : s = .prk
  · subst h1; cases h with | prk h => exact .inr (.inl rfl)
  · by_cases h2 : s = .quit
    · subst h2; cases h with | quit h => exact h.status.imp id .inr
    · exact .inl (h.running hA h1 h2)

theorem WSit.woken (hA : ∀ g w, An g w → g.status = .running) (h : WSit P φ n Pre Done An s m d g w) (a a' : Goroutine) (w' : World) (hc : s = .prk → ∃ c b s r tm, w'.heap[φ.Ch]? = some (.chan c b false s r tm)) : woken P a a' w' g = g := by
  by_cases h1 : s = .prk
  · obtain ⟨c, b, sn, r, tm, hcc⟩ := hc h1
    subst h1
    cases h with | prk h => exact woken_recv_open a a' hcc
  · by_cases h2 : s = .quit
    · subst h2; cases h with | quit h => exact woken_quitsD h
    · exact woken_run (h.running hA h1 h2)

/-- What a goroutine that is parked at receives offers at the channel. -/
theorem again_sel_open {g : Goroutine} {c e : Nat} {v z z' : Value} {sh : CommShape} (h1 : ∃ cap b s r tm, w.heap[c]? = some (.chan cap b false s r tm)) (h2 : ∃ cap b s r tm, w.heap[e]? = some (.chan cap b false s r tm)) :
    (parked g #[scase c v z, rcase e z'] sh).again w = parked g #[scase c v z, rcase e z'] sh := by
  obtain ⟨_, _, _, _, _, h1⟩ := h1
  obtain ⟨_, _, _, _, _, h2⟩ := h2
  simp [Goroutine.again, parked, scase, rcase, h1, h2]

theorem MSit.status (hA : ∀ g w, AnW g w → g.status = .running) {t : MTag} {j : Nat} (h : MSit P φ n Pre Done An Nx AnW N t j m d g w) : (g.status = .running ∧ t ≠ .c .blk ∧ ∀ r, t ≠ .hpk r) ∨ (g.status = .blocked ∧ (t = .c .blk ∨ ∃ r, t = .hpk r)) := by
  cases h with
  | skd _ h => exact .inl ⟨Goes.running (fun _ _ x => x.1) w (.refl w) h, by simp⟩
  | sa1 _ h => exact .inl ⟨Goes.running (fun _ _ x => x.1) w (.refl w) h, by simp⟩
  | ske _ h => exact .inl ⟨Goes.running (fun _ _ x => x.1) w (.refl w) h, by simp⟩
  | sgo _ h => exact .inl ⟨Goes.running (fun _ _ x => x.1) w (.refl w) h, by simp⟩
  | hand _ h => exact .inl ⟨Goes.running (fun _ _ x => x.1) w (.refl w) h, by simp⟩
  | hpk _ h => exact .inr ⟨rfl, .inr ⟨_, rfl⟩⟩
  | cls h => exact .inl ⟨Goes.running (fun _ _ x => x.1) w (.refl w) h, by simp⟩
  | kd h => exact .inl ⟨Goes.running (fun _ _ x => x.1) w (.refl w) h, by simp⟩
  | anch h => exact .inl ⟨Goes.running hA w (.refl w) h, by simp⟩
  | w1 h => exact .inl ⟨Goes.running (fun _ _ x => x.1) w (.refl w) h, by simp⟩
  | w2 h => exact .inl ⟨Goes.running (fun _ _ x => x.1) w (.refl w) h, by simp⟩
  | w3 h => exact .inl ⟨Goes.running (fun _ _ x => x.1) w (.refl w) h, by simp⟩
  | blk h => exact .inr ⟨rfl, .inl rfl⟩
  | w4 h => exact .inl ⟨Goes.running (fun _ _ x => x.1) w (.refl w) h, by simp⟩
  | ke h => exact .inl ⟨Goes.running (fun _ _ x => x.1) w (.refl w) h, by simp⟩
  | acq h => exact .inl ⟨Goes.running (fun _ _ x => x.1) w (.refl w) h, by simp⟩

/-- MAIN UNDER ANOTHER's STEP: as it stood; or, blocked at the semaphore, it is let try again. -/
theorem MSit.wokenBy (hA : ∀ g w, AnW g w → g.status = .running) {t : MTag} {j f : Nat} {a : Goroutine} (h : MSit P φ n Pre Done An Nx AnW N t j f d a w) (hr : Frm φ own0 w w') (g g' : Goroutine)
    (hc : ∀ r, t = .hpk r → (∃ cap b s r tm, w'.heap[φ.Ch]? = some (.chan cap b false s r tm)) ∧ (∃ cap b s r tm, w'.heap[φ.En]? = some (.chan cap b false s r tm))) :
    ∃ t' f', MSit P φ n Pre Done An Nx AnW N t' j f' d (woken P g g' w' a) w' ∧ f' ≤ f + 1 ∧ (t' = t ∨ (t = .c .blk ∧ t' = .c .w3)) ∧ (mayWake P g = true → g'.status = .running → t' ≠ .c .blk) := by
  have h' := h.rely hr
  unfold Go.Conc.woken
  split
  · rcases h'.status hA with ⟨hs, hne, _⟩ | ⟨_, rfl | ⟨r, rfl⟩⟩
    · exact ⟨t, f, by rw [again_running _ (.inl hs)]; exact h', by omega, .inl rfl, fun _ _ => hne⟩
    · cases h' with
      | blk hb =>
        have h3 := hb w' (.refl w')
        exact ⟨.c .w3, 0 + 1, by rw [Go.ConcR.again_blocked h3.1 h3.2.1]; exact .w3 (Goes.stop hb), by omega, .inr ⟨rfl, rfl⟩, fun _ _ => by simp⟩
    · cases h' with
      | hpk hn hb => exact ⟨_, 0, by rw [again_sel_open (hc _ rfl).1 (hc _ rfl).2]; exact .hpk hn hb, by omega, .inl rfl, fun _ _ => by simp⟩
  · rename_i hcn
    exact ⟨t, f, h', by omega, .inl rfl, fun h1 h2 => absurd (by simp [h1, h2]) hcn⟩
end

/-! ### the invariant -/
def mphi (n N L v : Nat) : MTag → Nat
  | .c (.sp r s) => 10 * N + 20 + L + 10 * n + 50 * r + 50 + s
  | .hand r => 10 * N + 20 + L + 10 * r + 1
  | .hpk r => 10 * N + 20 + L + 10 * r
  | .cls => 10 * N + 20 + L
  | .c t => phi N v t
def Wsum (j : Nat) (D : Nat → PD) : Nat := sumTo j fun i => (D i).tag.wt
def Fsm (j : Nat) (D : Nat → PD) : Nat := sumTo j fun i => (D i).fuel
abbrev Vw (j : Nat) (D : Nat → PD) : Nat := Vc j fun i => (D i).wd

/-- How main's place hangs together with the channel and the jobs handed out. -/
def Link (φ : Ph) (n : Nat) : MTag → Bool → Nat → Prop
  | .c (.sp _ _), c, H => c = false ∧ H = 0
  | .hand r, c, H => c = false ∧ H + r = n
  | .hpk r, c, H => c = false ∧ H + r = n
  | .cls, c, H => c = false ∧ Enough φ n H
  | .c _, c, H => c = true ∧ Enough φ n H

section
variable (P : Program) (φ : Ph) (n : Nat) (Pre Done : Nat → World → Prop) (An Nx AnW : Goroutine → World → Prop) (N N0 L : Nat) (wb : World)

def Inv (μ : Nat × Nat) (m : Machine) (t : Trace) : Prop :=
  ∃ (gs : Array Goroutine) (w : World) (sl : Option (Nat × Nat)) (j H : Nat) (who : Nat → Nat) (closed : Bool) (D : Nat → PD) (tag : MTag) (f0 d0 : Nat) (a : Goroutine) (st sm : Int),
    m = crowd gs w sl ∧ gs[0]? = some a ∧ MSit P φ n Pre Done An Nx AnW N tag (j - L) f0 d0 a w ∧ Com P φ n Pre Done An N0 L j H who closed gs w t D d0 ∧ WgAt φ.ty φ.Wg w st sm ∧ Go.ConcN.Mode j (fun i => (D i).wd) tag.ct st sm ∧
    Link φ n tag closed H ∧ (∀ r, tag = .hpk r → ∀ i, i < j → (D i).tag ≠ .prk) ∧ Frm φ own0 wb w ∧ μ = (mphi n N L (Vw j D) tag + Wsum j D, f0 + 2 * Fsm j D)

/-- The phase is over. -/
def Exit (m : Machine) (t : Trace) : Prop :=
  ∃ (gs : Array Goroutine) (w : World) (sl : Option (Nat × Nat)) (a : Goroutine) (q : Nat → Nat) (f : Nat), m = crowd gs w sl ∧ gs.size = L + N + 1 ∧ gs[0]? = some a ∧ Goes P true AtRel (DI φ own0 0) Nx f a w ∧ Leavers P t gs q ∧
    Past (fun l => φ.Shun l ∨ ShN φ.Wg l) φ.B t ∧ Fin φ n Done w ∧ Frm φ own0 wb w

/-- What is asked of a step. -/
def Goal (μ : Nat × Nat) (res : Stepped × Array MemOp) (t : Trace) : Prop :=
  ∃ m₁ ops, res = (.next m₁, ops) ∧ (Exit P φ n Done Nx N L wb m₁ (t ++ ops) ∨ ∃ μ', Lt2 μ' μ ∧ Inv P φ n Pre Done An Nx AnW N N0 L wb μ' m₁ (t ++ ops))
end
end Go.Pool
