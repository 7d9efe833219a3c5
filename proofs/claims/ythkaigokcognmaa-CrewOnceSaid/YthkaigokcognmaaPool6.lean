/-
  POOL 6: EVERY STEP OF A WORKER's keeps the invariant and lowers the measure.
-/
import Derived.Test.YthkaigokcognmaaPool5
namespace Go.Pool
open Go.Conc Go.ConcN
open Go.ConcR (stA smA rd wr mk KK WgAt wgBlock g_of_ofEvents loc_of_ofEvent Bk bk_of_mute ofEvent_loc_mark)

theorem sumTo_tail {f : Nat → Nat} {L : Nat} (h0 : ∀ i, i < L → f i = 0) (h1 : ∀ i, f i ≤ 1) : ∀ j, sumTo j f ≤ j - L
  | 0 => by simp [sumTo]
  | j + 1 => by
    have := sumTo_tail h0 h1 j
    simp only [sumTo]
    rcases Nat.lt_or_ge j L with h | h
    · rw [h0 j h]; omega
    · have := h1 j; omega

section
variable {P : Program} {φ : Ph} {n : Nat} {Pre Done : Nat → World → Prop} {An Nx AnW : Goroutine → World → Prop} {N N0 L : Nat} {wb : World}
  {j H : Nat} {who : Nat → Nat} {closed : Bool} {gs gs' : Array Goroutine} {w w' : World} {sl : Option (Nat × Nat)} {t u : Trace} {D : Nat → PD} {d0 f0 : Nat} {tag : MTag} {a : Goroutine} {st sm : Int}

theorem Com.Vle (h : Com P φ n Pre Done An N0 L j H who closed gs w t D d0) : Vw j D ≤ j - L :=
  sumTo_tail (fun i hi => by show cnt (D i).wd = 0; unfold PD.wd; rw [h.old i hi]; rfl) (fun i => by simp only [cnt]; split <;> omega) j

theorem MSit.bound {q m d : Nat} {g : Goroutine} (h : MSit P φ n Pre Done An Nx AnW N tag q m d g w) : q + pend tag.ct ≤ N := by
  cases h <;> simp [pend, MTag.ct] <;> omega

theorem isW3_tag (h : isW3 tag.ct) : tag = .c .w3 ∨ tag = .c .blk := by
  cases tag with
  | c t => cases t <;> first | exact .inl rfl | exact .inr rfl | exact h.elim
  | _ => exact h.elim

theorem mode_same (hm : Go.ConcN.Mode j (fun y => (D y).wd) tag.ct st sm) {i : Nat} (x : PD) (hx : x.tag.stage = (D i).tag.stage) {tag' : MTag} (e : tag' = tag ∨ (tag = .c .blk ∧ tag' = .c .w3)) : Go.ConcN.Mode j (upd (fun y => (D y).wd) i x.wd) tag'.ct st sm :=
  Mode.retag (hm.congr fun y _ => by
    by_cases h : y = i
    · subst h; rw [upd_same]; exact hx
    · rw [upd_ne _ _ h]) (ct_retag e)

/-- A WORKER ON ITS WAY TO THE RECEIVE. -/
theorem rcvStep (G : Geo φ) (J : Jobs φ n Pre Done) (hA : ∀ g w, An g w → g.status = .running) (hAr : ∀ g w, AnW g w → g.status = .running)
    (ha : gs[0]? = some a) (hms : MSit P φ n Pre Done An Nx AnW N tag (j - L) f0 d0 a w) (hcom : Com P φ n Pre Done An N0 L j H who closed gs w t D d0)
    (hlink : Link n tag closed H) (hpk : ∀ r, tag = .hpk r → ∀ i, i < j → (D i).tag ≠ .prk) (hwb : Frm φ own0 wb w) (hwg : WgAt φ.ty φ.Wg w st sm) (hmode : Go.ConcN.Mode j (fun y => (D y).wd) tag.ct st sm)
    {i : Nat} (hi : i < j) {g : Goroutine} (hg : gs[i + 1]? = some g) (hst : (D i).tag = .rcv) (hde : (D i).deaf = 0) (h : Goes P false (Frm φ own0) (DI φ own0 1) (RecvS P φ n Pre Done An) (D i).fuel g w) :
    Goal P φ n Pre Done An Nx AnW N N0 L wb (mphi n N L (Vw j D) tag + Wsum j D, f0 + 2 * Fsm j D) (runT P (crowd gs w sl) (i + 1)) t := by
  generalize hfu : (D i).fuel = m at h
  have hLi : L ≤ i := hcom.lt_of (by rw [hst]; simp)
  rcases Goes.cases h with hstop | ⟨m', rfl, hstep⟩
  · exact recvStop G J hA hAr ha hms hcom hlink hpk hwb hwg hmode hi hg hst hde (hstop w (.refl w))
  · obtain ⟨g', w', es, hgo, ⟨⟨d, hd⟩, hev⟩, hg'⟩ := hstep w (.refl w)
    subst hd
    exact workerStep (x := ⟨.rcv, m', 0⟩) J hA hAr ha hms hcom hlink hpk hwb hi hg hgo (fun own _ => Frm.at w d) rfl rfl (.rcv hg') (tl_ev G.apt hcom.tl (.inr ⟨by omega, by omega⟩) (g := 1) (by simp) hev)
      (by rw [hde]; exact ep_still hev 0) (fun h => by omega) (fun _ h => by simp [WTag.stage] at h) (fun k e => by cases e) (fun k e => by rw [hst] at e; cases e) (fun _ _ => trivial) (by simp) hwg
      (fun tag' ht _ => mode_same hmode _ (by rw [hst]) ht) (.inr ⟨hst.symm, by rw [hfu]⟩)

set_option maxHeartbeats 1600000 in
theorem stepWorker (G : Geo φ) (J : Jobs φ n Pre Done) (hA : ∀ g w, An g w → g.status = .running) (hAr : ∀ g w, AnW g w → g.status = .running) (hN : N < 2147483648)
    (hAn : ∀ g w, An g w → ∃ m, Goes P false (Frm φ own0) (DI φ own0 1) (RecvS P φ n Pre Done An) m g w)
    (ha : gs[0]? = some a) (hms : MSit P φ n Pre Done An Nx AnW N tag (j - L) f0 d0 a w) (hcom : Com P φ n Pre Done An N0 L j H who closed gs w t D d0)
    (hlink : Link n tag closed H) (hpk : ∀ r, tag = .hpk r → ∀ i, i < j → (D i).tag ≠ .prk) (hwb : Frm φ own0 wb w) (hwg : WgAt φ.ty φ.Wg w st sm) (hmode : Go.ConcN.Mode j (fun y => (D y).wd) tag.ct st sm)
    {i : Nat} (hi : i < j) {g : Goroutine} (hg : gs[i + 1]? = some g) (hrun : g.status = .running) :
    Goal P φ n Pre Done An Nx AnW N N0 L wb (mphi n N L (Vw j D) tag + Wsum j D, f0 + 2 * Fsm j D) (runT P (crowd gs w sl) (i + 1)) t := by
  obtain ⟨g₁, hg₁, hs⟩ := hcom.wk i hi
  obtain rfl : g = g₁ := by rw [hg] at hg₁; exact Option.some.inj hg₁
  generalize hst : (D i).tag = s at hs
  generalize hfu : (D i).fuel = m at hs
  generalize hde : (D i).deaf = dd at hs
  have hb := hms.bound
  have hV := hcom.Vle
  have hdk : Deaf t (i + 1) = dd := by rw [hcom.deafW i hi, hde]
  have hLi : s ≠ .quit → L ≤ i := fun h => hcom.lt_of (by rw [hst]; exact h)
  have notjob : (∀ k, s ≠ .job k) → ∀ k, (D i).tag ≠ .job k := fun h k e => h k (hst ▸ e)
  have noearly : ¬ s.early → closed = false → L ≤ i → ∀ x : WTag, x.early := fun h hc hL => absurd (hst ▸ hcom.opn hc i hL hi) h
  -- AN IDLE STEP AHEAD OF THE RELEASE
  have idle : ∀ {g' : Goroutine} {w' : World} {es : Array Event} {m' : Nat}, stepG P false g w = .go g' w' es → DI φ own0 1 w w' es → WSit P φ n Pre Done An s m' dd g' w' → m' + 1 = m → s.stage = 7 → (∀ k, s ≠ .job k) → s ≠ .prk →
      Goal P φ n Pre Done An Nx AnW N N0 L wb (mphi n N L (Vw j D) tag + Wsum j D, f0 + 2 * Fsm j D) (runT P (crowd gs w sl) (i + 1)) t := by
    intro g' w' es m' hgo ⟨⟨d, hd⟩, hev⟩ hs' hm h7 hnj hnp
    subst hd
    have hq : s ≠ .quit := fun e => by rw [e] at h7; cases h7
    exact workerStep (x := ⟨s, m', dd⟩) J hA hAr ha hms hcom hlink hpk hwb hi hg hgo (fun own _ => Frm.at w d) rfl rfl hs' (tl_ev G.apt hcom.tl (.inr ⟨by have := hLi hq; omega, by omega⟩) (g := 1) (by simp) hev)
      (by rw [hde]; exact ep_still hev dd) (fun h => absurd (hLi hq) (by omega)) (fun _ h => by simp only [h7] at h; omega) (fun k e => absurd e (hnj k)) (fun k e => absurd e (notjob hnj k)) (fun hc hL => by have := hcom.opn hc i hL hi; rwa [hst] at this) hnp hwg
      (fun tag' ht _ => mode_same hmode _ (by rw [hst]) ht) (.inr ⟨hst.symm, by rw [hfu]; exact hm⟩)
  -- A STEP OF THE LIBRARY's BOOKKEEPING: at most the group's block turns
  have bookG : ∀ {g' : Goroutine} {w' : World} {es : Array Event} {x : PD} {st' sm' : Int}, stepG P false g w = .go g' w' es → Aside φ.Wg w w' → WgAt φ.ty φ.Wg w' st' sm' → (∀ e ∈ es, Bk φ.Wg e) →
      (∀ jx e, es[jx]? = some e → (MemAct.ofEvent e).touch? = none ∨ 0 < deafBehind dd (es.extract 0 jx)) → WSit P φ n Pre Done An x.tag x.fuel x.deaf g' w' → deafBehind dd es = x.deaf → s.stage ≤ 6 → x.tag.stage ≤ 6 → (i < L → x.tag = .quit) →
      (∀ tag', (tag' = tag ∨ (tag = .c .blk ∧ tag' = .c .w3)) → (mayWake P g = true → g'.status = .running → tag' ≠ .c .blk) → Go.ConcN.Mode j (upd (fun y => (D y).wd) i x.wd) tag'.ct st' sm') → ((x.tag.wt < s.wt ∧ cnt x.wd ≤ cnt (D i).wd) ∨ (x.tag = s ∧ x.fuel + 1 = m)) →
      Goal P φ n Pre Done An Nx AnW N N0 L wb (mphi n N L (Vw j D) tag + Wsum j D, f0 + 2 * Fsm j D) (runT P (crowd gs w sl) (i + 1)) t := by
    intro g' w' es x st' sm' hgo hAs hwg' hbk hd hs' hdd h6 hx6 hold hmode' hlt
    have htl : TL φ N0 L j who (t ++ MemOp.ofEvents (i + 1) g.frame.fn g.frame.place es) := by
      obtain ⟨b1, b2, b3⟩ := bk_ops G (own := fun k => who k = i + 1 ∧ i + 1 ≠ 0) (g := i + 1) (fn := g.frame.fn) (pos := g.frame.place) hbk
      rcases Nat.lt_or_ge i L with hl | hl
      · -- an old leaver touches nothing
        refine hcom.tl.mute (fun op hop => ?_) b2 b3
        obtain ⟨e, he, rfl⟩ := Go.Conc.mem_ofEvents hop
        have hq := hcom.old i hl
        rw [hst] at hq
        subst hq
        rcases hs with h | h | h | h | h | h | h | h | h | h
        cases m with
        | zero => rw [h.1] at hrun; cases hrun
        | succ q =>
          rcases h with ⟨hf, _⟩ | ⟨_, g'', es', hmute, hstep, _⟩
          · rw [hf] at hrun; cases hrun
          · have := hstep w
            rw [hgo] at this
            cases this
            exact touch_mute (hmute e he)
      · exact hcom.tl.app G.apt (.inr ⟨by omega, by omega⟩) g_of_ofEvents b1 b2 b3
    have hx7 : ∀ k, x.tag ≠ .job k := fun k e => by rw [e] at hx6; simp [WTag.stage] at hx6
    have hs7 : ∀ k, s ≠ .job k := fun k e => by rw [e] at h6; simp [WTag.stage] at h6
    exact workerStep (x := x) J hA hAr ha hms hcom hlink hpk hwb hi hg hgo (fun own _ => Frm.of_wg G hAs ⟨_, _, hwg'⟩) (hAs.block _ G.wgCh.symm) (hAs.block _ G.wgEn.symm) hs' htl
      (by rw [hde]; exact hdd) hold (fun hL _ => let ⟨r, hr⟩ := hcom.rel i hL hi (by rw [hst]; exact h6); ⟨r, hr.book hdk _ _ hbk hd⟩) (fun k e => absurd e (hx7 k)) (fun k e => absurd e (notjob hs7 k))
      (fun hc hL => noearly (fun e => by cases s <;> first | exact e | (simp [WTag.stage] at h6)) hc hL _) (fun e => by rw [e] at hx6; simp [WTag.stage] at hx6) hwg' hmode' (by rw [hst, hfu]; exact hlt)
  have idle6 : ∀ {g' : Goroutine} {m' : Nat}, stepG P false g w = .go g' w #[] → WSit P φ n Pre Done An s m' dd g' w → m' + 1 = m → s.stage ≤ 6 → s ≠ .quit →
      Goal P φ n Pre Done An Nx AnW N N0 L wb (mphi n N L (Vw j D) tag + Wsum j D, f0 + 2 * Fsm j D) (runT P (crowd gs w sl) (i + 1)) t := by
    intro g' m' hgo hs' hm h6 hq
    exact bookG (x := ⟨s, m', dd⟩) hgo (.refl φ.Wg w) hwg (by simp) (by simp) hs' rfl h6 h6 (fun h => absurd (hLi hq) (by omega)) (fun tag' ht _ => mode_same hmode _ (by rw [hst]) ht) (.inr ⟨rfl, hm⟩)
  have ws : (D i).wd.stage = s.stage := by show (D i).tag.stage = _; rw [hst]
  have hn7 : ∀ x : PD, x.tag.stage ≤ 4 → cnt x.wd ≤ cnt (D i).wd := fun x hx => by
    show (if 5 ≤ x.tag.stage then 1 else 0) ≤ _
    rw [if_neg (by omega)]; exact Nat.zero_le _
  cases hs with
  | rcv h => exact rcvStep G J hA hAr ha hms hcom hlink hpk hwb hwg hmode hi hg hst hde (by rw [hfu]; exact h)
  | prk h => simp [parked] at hrun
  | job h =>
    rename_i k
    obtain ⟨hkH, hwk⟩ := hcom.held i k hi hst
    obtain ⟨s1, r1, hc1⟩ := hcom.ch
    obtain ⟨s2, r2, hc2⟩ := hcom.en
    have hLi' := hLi (by simp)
    rcases Goes.cases h with hstop | ⟨m', rfl, hstep⟩
    · obtain ⟨hdn, han⟩ := hstop w (.refl w)
      obtain ⟨m₂, hk⟩ := hAn g w han
      -- the job is done: it is on its way to the receive
      have hcom' : Com P φ n Pre Done An N0 L j H who closed gs w (t ++ #[]) (upd D i ⟨.rcv, m₂, 0⟩) d0 :=
        hcom.upd hi hcom.size (fun _ _ _ => rfl) hg (.rcv hk) (fun _ _ _ => .refl w) (by simpa using hcom.tl) (by simp) (by simpa using hcom.deaf0) (by simpa [hde] using hcom.deafW i hi) (fun h => by omega) (fun _ h => by simp [WTag.stage] at h) hcom.Hn hcom.whoH (fun _ _ => rfl) (Nat.le_refl _)
          (fun k e => by cases e) (fun k' hk' => by
            rcases hcom.done k' hk' with ⟨i', h1, h2⟩ | h1
            · by_cases e : i' = i
              · subst e
                rw [hst] at h2; cases h2
                exact .inr (.inr hdn)
              · exact .inr (.inl ⟨i', h1, e, h2⟩)
            · exact .inr (.inr h1)) hcom.pre ⟨s1, r1, hc1⟩ ⟨s2, r2, hc2⟩ (fun _ _ => trivial) (fun _ => by simp)
      have et : t ++ #[] = t := by simp
      rw [et] at hcom'
      have hx := rcvStep (sl := sl) G J hA hAr ha hms hcom' hlink (fun r e i' hi' => by
          by_cases e' : i' = i
          · subst e'; rw [upd_same]; simp
          · rw [upd_ne D _ e']; exact hpk r e i' hi') hwb hwg (by rw [wd_upd]; exact mode_same hmode _ (by rw [hst]; rfl) (.inl rfl)) hi hg (by rw [upd_same]) (by rw [upd_same]) (by rw [upd_same]; exact hk)
      refine hx.mono (Prod.Lex.left _ _ ?_)
      have e2 : Wsum j (upd D i ⟨.rcv, m₂, 0⟩) + (D i).tag.wt = Wsum j D + 11 := sumTo_upd D ⟨.rcv, m₂, 0⟩ (fun y => y.tag.wt) hi
      rw [Vw_same D i ⟨.rcv, m₂, 0⟩ (by rw [hst]; rfl)]
      have : (D i).tag.wt = 12 := by rw [hst]; rfl
      omega
    · obtain ⟨g', w', es, hgo, ⟨hjob, hev⟩, hg'⟩ := hstep w (.refl w)
      have htl : TL φ N0 L j who (t ++ MemOp.ofEvents (i + 1) g.frame.fn g.frame.place es) := by
        obtain ⟨b1, b2, b3⟩ := ep_ops (g' := i + 1) (fn := g.frame.fn) (pos := g.frame.place) (own' := fun k => who k = i + 1 ∧ i + 1 ≠ 0) hev (by simp) (fun k' e => by subst e; exact ⟨hwk, by omega⟩)
        exact hcom.tl.app G.apt (.inr ⟨by omega, by omega⟩) g_of_ofEvents b1 b2 b3
      exact workerStep (x := ⟨.job k, m', 0⟩) J hA hAr ha hms hcom hlink hpk hwb hi hg hgo (fun own ho => Frm.of_job G hjob fun k' hk' e => ho k hst (e ▸ hk')) (hjob.block _ G.chpb) (hjob.block _ G.enpb) (.job hg') htl
        (by rw [hde]; exact ep_still hev 0) (fun h => by omega) (fun _ h => by simp [WTag.stage] at h) (fun k' e => by cases e; exact hst) (fun k' e => by rw [hst] at e; cases e; exact .inl rfl) (fun _ _ => trivial) (by simp) (hwg.of_block (hjob.block _ G.wgpb))
        (fun tag' ht _ => mode_same hmode _ (by rw [hst]) ht) (.inr ⟨hst.symm, by rw [hfu]⟩)
  | out h =>
    have hLi' := hLi (by simp)
    rcases Goes.cases h with hstop | ⟨m', rfl, hstep⟩
    · obtain ⟨_, g', hgo, m₂, hk⟩ := hstop w (.refl w)
      have htl : TL φ N0 L j who (t ++ MemOp.ofEvents (i + 1) g.frame.fn g.frame.place #[mk (.releaseMerge (stA φ.Wg))]) := by
        refine hcom.tl.mute (fun op hop => ?_) (fun op hop => ?_) (fun op hop => ?_) <;> obtain ⟨e, he, rfl⟩ := Go.Conc.mem_ofEvents hop <;> simp only [List.mem_toArray, List.mem_cons, List.not_mem_nil, or_false] at he <;> subst he
        · rfl
        · exact G.wgB
        · simp [mk, MemAct.ofEvent]
      exact workerStep (x := ⟨.k1, m₂, 0⟩) J hA hAr ha hms hcom hlink hpk hwb hi hg hgo (fun own _ => .refl w) rfl rfl (.k1 hk) htl (by rw [hde]; rfl) (fun h => by omega) (fun _ _ => ⟨t.size, RelBy.new hdk _ _⟩) (fun k e => by cases e) (fun k e => by rw [hst] at e; cases e)
        (fun hc hL => noearly id hc hL _) (by simp) hwg (fun _ ht _ => Mode.retag (Mode.counted hmode hi (by rw [ws]; simp [WTag.stage]) (.inl rfl) _ _) (ct_retag ht)) (.inl ⟨by rw [hst]; simp [WTag.wt], by simp [cnt, PD.wd, hst, WTag.stage]⟩)
    · obtain ⟨g', w', es, hgo, hD, hg'⟩ := hstep w (.refl w)
      exact idle hgo hD (.out hg') rfl rfl (by simp) (by simp)
  | k1 h =>
    have hLi' := hLi (by simp)
    rcases Goes.cases h with hstop | ⟨m', rfl, hstep⟩
    · obtain ⟨_, g', hgo, m₂, hk⟩ := hstop w (.refl w)
      exact bookG (x := ⟨.d1, m₂, 1⟩) hgo (.refl φ.Wg w) hwg (by intro e he; simp at he; subst he; exact .inl rfl) (by intro jx e he; exact .inl (by have := Array.mem_of_getElem? he; simp at this; subst this; rfl)) (.d1 hk) rfl (by simp [WTag.stage]) (by simp [WTag.stage]) (fun h => by omega)
        (fun _ ht _ => Mode.retag (Mode.counted hmode hi (by rw [ws]; simp [WTag.stage]) (.inr rfl) _ _) (ct_retag ht)) (.inl ⟨by simp [WTag.wt], by simp [cnt, PD.wd, hst, WTag.stage]⟩)
    · obtain ⟨g', w', es, hgo, ⟨rfl, rfl⟩, hg'⟩ := hstep w (.refl w)
      exact idle6 hgo (.k1 hg') rfl (by simp [WTag.stage]) (by simp)
  | d1 h =>
    have hLi' := hLi (by simp)
    rcases Goes.cases h with hstop | ⟨m', rfl, hstep⟩
    · obtain ⟨_, hall⟩ := hstop w (.refl w)
      have hc1 : cnt (D i).wd = 1 := by simp [cnt, PD.wd, hst, WTag.stage]
      have hV1 : 1 ≤ Vw j D := by have := le_sumTo (f := fun x => cnt (D x).wd) hi; simp only [Vw, Vc]; omega
      have bk2 : ∀ e ∈ #[rd (stA φ.Wg), wr (stA φ.Wg)], Bk φ.Wg e := by intro e he; simp at he; rcases he with rfl | rfl <;> exact bk_cell _ _ rfl
      have df2 : ∀ jx e, (#[rd (stA φ.Wg), wr (stA φ.Wg)] : Array Event)[jx]? = some e → (MemAct.ofEvent e).touch? = none ∨ 0 < deafBehind 1 ((#[rd (stA φ.Wg), wr (stA φ.Wg)] : Array Event).extract 0 jx) := by
        intro jx e he
        match jx, he with
        | 0, _ => exact .inr (by simp [deafBehind])
        | 1, _ => exact .inr (by simp [deafBehind, rd])
        | jx + 2, he => simp at he
      have hq0 : ∀ q, cnt (⟨1, q, 1⟩ : WD) = 0 := fun _ => rfl
      have opq : ∀ q, OpenSt j (fun y => (D y).wd) → OpenSt j (upd (fun y => (D y).wd) i ⟨1, q, 1⟩) := fun q h a ha => by
        by_cases e : a = i
        · subst e; rw [upd_same]; simp
        · rw [upd_ne _ _ e]; exact h a ha
      have notfin : ¬ ((D i).wd.stage = 1) := by rw [ws]; simp [WTag.stage]
      generalize hct : tag.ct = ct at hmode
      cases hmode with
      | opn h1 h2 h3 =>
        obtain ⟨v, hv⟩ : ∃ v, Vw j D + pend ct = v + 1 := ⟨Vw j D + pend ct - 1, by omega⟩
        have hvb : v < 2147483647 := by rw [hct] at hb; omega
        have hv0 : Vc j (fun y => (D y).wd) + pend ct = v + 1 := hv
        rw [hv0] at hwg
        have hw1 : WgAt φ.ty φ.Wg w (((v : Nat) + 1) * KK + ((0 : Nat) : Int)) 0 := by simpa using hwg
        obtain ⟨g', hgo, _, hq⟩ := hall v 0 (by omega) hvb hw1
        obtain ⟨q, hq⟩ := hq (by omega)
        have hv' : Vc j (upd (fun y => (D y).wd) i ⟨1, q, 1⟩) + pend ct = v := by have := Vc_upd (fun y => (D y).wd) (⟨1, q, 1⟩ : WD) hi; have := hq0 q; omega
        refine bookG (x := ⟨.quit, q, 1⟩) hgo (aside_setCell w (stA φ.Wg) _) (hwg.setSt _) bk2 df2 (.quit hq) rfl (by simp [WTag.stage]) (by simp [WTag.stage]) (fun _ => rfl) (fun tag' ht _ => Mode.retag ?_ (ct_retag ht)) (.inl ⟨by simp [WTag.wt], hn7 _ (by simp [WTag.stage])⟩)
        have e : ((v : Nat) : Int) * KK + ((0 : Nat) : Int) = ((Vc j (upd (fun y => (D y).wd) i ⟨1, q, 1⟩) + pend ct : Nat) : Int) * KK := by rw [hv']; simp
        rw [e, hct]
        exact .opn h1 (opq q h2) (fun vs ev => by have := h3 vs ev; show Vc j (upd (fun y => (D y).wd) i ⟨1, q, 1⟩) ≤ vs ∧ 1 ≤ vs; omega)
      | reg h1 h2 h3 =>
        obtain ⟨v, hv⟩ : ∃ v, Vc j (fun y => (D y).wd) = v + 1 := ⟨Vw j D - 1, by simp only [Vw] at hV1 ⊢; omega⟩
        rw [hv] at hwg
        have hp : pend ct = 0 := by cases ct <;> first | rfl | exact h1.elim
        have hvb : v < 2147483647 := by rw [hct] at hb; have : Vw j D = v + 1 := hv; omega
        have hw1 : WgAt φ.ty φ.Wg w (((v : Nat) + 1) * KK + ((1 : Nat) : Int)) 0 := by simpa using hwg
        obtain ⟨g', hgo, hl, hq⟩ := hall v 1 (by omega) hvb hw1
        by_cases hv0 : v = 0
        · subst hv0
          obtain ⟨m₂, hk⟩ := hl ⟨rfl, rfl⟩
          refine bookG (x := ⟨.d2, m₂, 1⟩) hgo (aside_setCell w (stA φ.Wg) _) (hwg.setSt _) bk2 df2 (.d2 hk) rfl (by simp [WTag.stage]) (by simp [WTag.stage]) (fun h => by omega) (fun tag' ht _ => Mode.retag ?_ (ct_retag ht)) (.inl ⟨by simp [WTag.wt], hn7 _ (by simp [WTag.stage])⟩)
          have hoth : ∀ a, a < j → a ≠ i → (D a).wd.stage = 1 := fun a ha e => by
            have c0 := others_uncounted (D := fun y => (D y).wd) hi hv hc1 a ha e
            have := h2 a ha
            simp only [cnt] at c0 this
            split at c0 <;> omega
          have := Mode.last (j := j) (D := upd (fun y => (D y).wd) i ⟨4, m₂, 1⟩) (tag := ct) i h1 hi (by rw [upd_same]; simp) (fun a ha e => by rw [upd_ne _ _ e]; exact hoth a ha e)
          rw [upd_same] at this
          rw [hct]
          simp at this
          exact this
        · obtain ⟨q, hq⟩ := hq (by omega)
          have hv' : Vc j (upd (fun y => (D y).wd) i ⟨1, q, 1⟩) = v := by have := Vc_upd (fun y => (D y).wd) (⟨1, q, 1⟩ : WD) hi; have := hq0 q; omega
          refine bookG (x := ⟨.quit, q, 1⟩) hgo (aside_setCell w (stA φ.Wg) _) (hwg.setSt _) bk2 df2 (.quit hq) rfl (by simp [WTag.stage]) (by simp [WTag.stage]) (fun _ => rfl) (fun tag' ht _ => Mode.retag ?_ (ct_retag ht)) (.inl ⟨by simp [WTag.wt], hn7 _ (by simp [WTag.stage])⟩)
          have e : ((v : Nat) : Int) * KK + ((1 : Nat) : Int) = ((Vc j (upd (fun y => (D y).wd) i ⟨1, q, 1⟩) : Nat) : Int) * KK + 1 := by rw [hv']; simp
          rw [e, hct]
          exact .reg h1 (opq q h2) (by show 1 ≤ Vc j (upd (fun y => (D y).wd) i ⟨1, q, 1⟩); omega)
      | last L' _ h2 h3 h4 =>
        by_cases e : i = L'
        · subst e
          have : (D i).wd.stage = 5 := by rw [ws]; rfl
          omega
        · exact absurd (h4 i hi e) notfin
      | sema h2 => exact absurd (h2 i hi) notfin
      | fin _ h2 => exact absurd (h2 i hi) notfin
    · obtain ⟨g', w', es, hgo, ⟨rfl, rfl⟩, hg'⟩ := hstep w (.refl w)
      exact idle6 hgo (.d1 hg') rfl (by simp [WTag.stage]) (by simp)
  | d2 h =>
    have hLi' := hLi (by simp)
    rcases Goes.cases h with hstop | ⟨m', rfl, hstep⟩
    · obtain ⟨_, hx⟩ := hstop w (.refl w)
      obtain ⟨hW3, hoth, rfl, rfl⟩ := Mode.isLast hmode hi (by rw [ws]; simp [WTag.stage])
      simp only [ws, WTag.stage] at hwg
      obtain ⟨g', hgo, m₂, hk⟩ := hx (by simpa using hwg)
      refine bookG (x := ⟨.d3, m₂, 1⟩) hgo (.refl φ.Wg w) hwg (by intro e he; simp at he; subst he; exact bk_cell _ _ rfl) (by intro jx e he; match jx, he with | 0, _ => exact .inr (by simp [deafBehind]) | jx + 1, he => simp at he) (.d3 hk) rfl (by simp [WTag.stage]) (by simp [WTag.stage]) (fun h => by omega) (fun tag' ht _ => Mode.retag ?_ (ct_retag ht)) (.inl ⟨by simp [WTag.wt], hn7 _ (by simp [WTag.stage])⟩)
      have := Mode.last (j := j) (D := upd (fun y => (D y).wd) i ⟨3, m₂, 1⟩) (tag := tag.ct) i hW3 hi (by rw [upd_same]; simp) (fun a ha e => by rw [upd_ne _ _ e]; exact hoth a ha e)
      rw [upd_same] at this
      simp at this
      exact this
    · obtain ⟨g', w', es, hgo, ⟨rfl, rfl⟩, hg'⟩ := hstep w (.refl w)
      exact idle6 hgo (.d2 hg') rfl (by simp [WTag.stage]) (by simp)
  | d3 h =>
    have hLi' := hLi (by simp)
    rcases Goes.cases h with hstop | ⟨m', rfl, hstep⟩
    · obtain ⟨_, hx⟩ := hstop w (.refl w)
      obtain ⟨hW3, hoth, rfl, rfl⟩ := Mode.isLast hmode hi (by rw [ws]; simp [WTag.stage])
      simp only [ws, WTag.stage] at hwg
      obtain ⟨g', hgo, m₂, hk⟩ := hx (by simpa using hwg)
      refine bookG (x := ⟨.d4, m₂, 1⟩) hgo (aside_setCell w (stA φ.Wg) _) (hwg.setSt 0) (by intro e he; simp at he; subst he; exact bk_cell _ _ rfl) (by intro jx e he; match jx, he with | 0, _ => exact .inr (by simp [deafBehind]) | jx + 1, he => simp at he) (.d4 hk) rfl (by simp [WTag.stage]) (by simp [WTag.stage]) (fun h => by omega) (fun tag' ht _ => Mode.retag ?_ (ct_retag ht)) (.inl ⟨by simp [WTag.wt], hn7 _ (by simp [WTag.stage])⟩)
      have := Mode.last (j := j) (D := upd (fun y => (D y).wd) i ⟨2, m₂, 1⟩) (tag := tag.ct) i hW3 hi (by rw [upd_same]; simp) (fun a ha e => by rw [upd_ne _ _ e]; exact hoth a ha e)
      rw [upd_same] at this
      simp at this
      exact this
    · obtain ⟨g', w', es, hgo, ⟨rfl, rfl⟩, hg'⟩ := hstep w (.refl w)
      exact idle6 hgo (.d3 hg') rfl (by simp [WTag.stage]) (by simp)
  | d4 h =>
    have hLi' := hLi (by simp)
    rcases Goes.cases h with hstop | ⟨m', rfl, hstep⟩
    · obtain ⟨_, hmw, hx⟩ := hstop w (.refl w)
      obtain ⟨hW3, hoth, rfl, rfl⟩ := Mode.isLast hmode hi (by rw [ws]; simp [WTag.stage])
      simp only [ws, WTag.stage] at hwg
      obtain ⟨g', hgo, q, hq⟩ := hx (by simpa using hwg)
      have hrun' : g'.status = .running := by
        cases q with
        | zero => exact absurd hq.2 (by decide)
        | succ q => exact hq.elim (fun x => absurd x.2 (by decide)) (fun x => x.1)
      refine bookG (x := ⟨.quit, q, 1⟩) hgo (aside_setCell w (smA φ.Wg) _) (hwg.setSm 1) (es := semEvents (smA φ.Wg)) ?_ ?_ (.quit hq) (by simp [deafBehind, semEvents]) (by simp [WTag.stage]) (by simp [WTag.stage]) (fun _ => rfl) ?_ (.inl ⟨by simp [WTag.wt], hn7 _ (by simp [WTag.stage])⟩)
      · intro e he
        simp [semEvents] at he
        rcases he with rfl | rfl | rfl | rfl
        · exact .inl rfl
        · exact bk_cell _ _ rfl
        · exact bk_cell _ _ rfl
        · exact .inr (.inl rfl)
      · intro jx e he
        match jx, he with
        | 0, he => simp [semEvents] at he; subst he; exact .inl rfl
        | 1, _ => exact .inr (by simp [deafBehind, semEvents])
        | 2, _ => exact .inr (by simp [deafBehind, semEvents])
        | 3, he => simp [semEvents] at he; subst he; exact .inl rfl
        | jx + 4, he => simp [semEvents] at he
      · intro tag' ht hw
        have hnb := hw hmw hrun'
        have e3 : tag' = .c .w3 := by
          rcases ht with rfl | ⟨_, rfl⟩
          · exact (isW3_tag hW3).resolve_right hnb
          · rfl
        subst e3
        simp only [if_true]
        exact .sema fun a ha => by
          by_cases e : a = i
          · subst e; rw [upd_same]; rfl
          · rw [upd_ne _ _ e]; exact hoth a ha e
    · obtain ⟨g', w', es, hgo, ⟨rfl, rfl⟩, hg'⟩ := hstep w (.refl w)
      exact idle6 hgo (.d4 hg') rfl (by simp [WTag.stage]) (by simp)
  | quit h =>
    cases m with
    | zero => rw [h.1] at hrun; cases hrun
    | succ q =>
      rcases h with ⟨hf, _⟩ | ⟨_, g', es, hmute, hstep, hq⟩
      · rw [hf] at hrun; cases hrun
      · have hbk : ∀ e ∈ es, Bk φ.Wg e := fun e he => bk_of_mute (hmute e he)
        have hno : ∀ jx e, es[jx]? = some e → (MemAct.ofEvent e).touch? = none ∨ 0 < deafBehind dd (es.extract 0 jx) := fun jx e he => .inl (touch_mute (hmute e (Array.mem_of_getElem? he)))
        exact bookG (x := ⟨.quit, q, deafBehind dd es⟩) (hstep w) (.refl φ.Wg w) hwg hbk hno (.quit hq) rfl (by simp [WTag.stage]) (by simp [WTag.stage]) (fun _ => rfl) (fun tag' ht _ => mode_same hmode _ (by rw [hst]) ht) (.inr ⟨rfl, rfl⟩)
end
end Go.Pool
