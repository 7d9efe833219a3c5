/- A part of the proof of CrewDigestsUpto (no statement of its own): Pool7. -/
import Derived.Test.YthkaigokcognmaaM16
section
namespace Go.Pool
open Go.Conc Go.ConcN
open Go.ConcR (stA smA rd wr mk KK WgAt wgBlock g_of_ofEvents loc_of_ofEvent Bk bk_of_mute ofEvent_loc_mark ofEvent_mk)
theorem stage_quit {s : WTag} (h : s.stage = 1) : s = .quit := by cases s <;> first | rfl | (simp [WTag.stage] at h)
theorem Fnd.held {φ : Ph} {n j j' H : Nat} {D D' : Nat → PD} {w : World} (h : Fnd φ n j H D w) (hD : ∀ k, Held j' D' k ↔ Held j D k) : Fnd φ n j' H D' w := fun fd e => by
 obtain ⟨l, s, r, h1, h2, h3, h4⟩ := h fd e
 exact ⟨l, s, r, h1, h2, fun k hk => ⟨(h3 k hk).1, (h3 k hk).2.1, fun x => (h3 k hk).2.2 ((hD k).1 x)⟩, fun k hk hp => (h4 k hk hp).imp (hD k).2 id⟩
section
variable {P : Program} {φ : Ph} {n : Nat} {Pre Done : Nat → World → Prop} {An Nx AnW : Goroutine → World → Prop} {N N0 L : Nat} {wb : World}
  {j H : Nat} {who mkr : Nat → Nat} {closed : Bool} {gs gs' : Array Goroutine} {w w' : World} {sl : Option (Nat × Nat)} {t u : Trace} {D : Nat → PD} {d0 f0 f' : Nat} {tag tag' : MTag} {a a' : Goroutine} {st sm st' sm' : Int} {es : Array Event}
theorem mainStep (J : Jobs φ n Pre Done) (hA : ∀ g w, An g w → g.status = .running) (ha : gs[0]? = some a) (hcom : Com P φ n Pre Done An N0 L j H who mkr closed gs w t D d0) (hwb : Frm φ own0 wb w)
  (hgo : stepG P true a w = .go a' w' es) (hF : ∀ own, Frm φ own w w') (hch : w'.heap[φ.Ch]? = w.heap[φ.Ch]?) (hen : w'.heap[φ.En]? = w.heap[φ.En]?) (hfd : ∀ fd, φ.Fd = some fd → w'.heap[fd]? = w.heap[fd]?) (hst : ∀ b, φ.B ≤ b → b < w.heap.size → w'.heap[b]? = w.heap[b]?)
  (htl : TL φ N0 L j who mkr (t ++ MemOp.ofEvents 0 a.frame.fn a.frame.place es)) (hms' : MSit P φ n Pre Done An Nx AnW N tag' (j - L) f' (deafBehind d0 es) a' w') (hwg : WgAt φ.ty φ.Wg w' st' sm') (hmode : Go.ConcN.Mode j (fun y => (D y).wd) tag'.ct st' sm')
  (hlink : Link φ n tag' closed H) (hpk : ∀ r, tag' ≠ .hpk r)
  (hlt : mphi n N L (Vw j D) tag' < mphi n N L (Vw j D) tag ∨ (mphi n N L (Vw j D) tag' = mphi n N L (Vw j D) tag ∧ f' < f0)) :
  Goal P φ n Pre Done An Nx AnW N N0 L wb (mphi n N L (Vw j D) tag + Wsum j D, (j, fun y => (D y).tree), f0 + 2 * Fsm j D) (runT P (crowd gs w sl) 0) t := by
 have hrun := runT_crowd_go (P := P) (sl := sl) (i := 0) ha (by simpa using hgo)
 obtain ⟨s1, r1, hc1⟩ := hcom.ch
 have hcom' : Com P φ n Pre Done An N0 L j H who mkr closed ((gs.map (woken P a a' w')).setIfInBounds 0 a') w' (t ++ MemOp.ofEvents 0 a.frame.fn a.frame.place es) D (deafBehind d0 es) := by
  refine hcom.main J (by simp [hcom.size]) (fun i' hi' => ?_) hF hst htl g_of_ofEvents (by rw [Deaf_own, hcom.deaf0]) ⟨s1, r1, hch.trans hc1⟩ (hcom.en.keep hen (Nat.le_refl _)) hfd
  obtain ⟨y, hy, hsy⟩ := hcom.wk i' hi'
  rw [get_map_set _ _ _ _ (by omega), hy, Option.map_some, hsy.woken hA _ _ _ fun e => ?_]
  cases hcl : closed with
  | false => rw [hcl] at hc1; exact ⟨_, _, _, _, _, hch.trans hc1⟩
  | true => exact absurd e (hcom.shut hcl i' hi')
 refine ⟨_, _, hrun, .inr ⟨(mphi n N L (Vw j D) tag' + Wsum j D, (j, fun y => (D y).tree), f' + 2 * Fsm j D), ?_, _, w', sl, j, H, who, mkr, closed, D, tag', f', _, a', st', sm', rfl, get_map_set_same _ _ _ (by rw [hcom.size]; omega), hms', hcom', hwg, hmode, hlink, fun r e => absurd e (hpk r), hwb.trans (hF _), rfl⟩⟩
 rcases hlt with h | ⟨h1, h2⟩
 ·exact Prod.Lex.left _ _ (by omega)
 ·rw [h1]; exact Prod.Lex.right _ (Prod.Lex.right _ (by omega))
theorem idleM (G : Geo φ) (J : Jobs φ n Pre Done) (hA : ∀ g w, An g w → g.status = .running) (ha : gs[0]? = some a) (hcom : Com P φ n Pre Done An N0 L j H who mkr closed gs w t D d0) (hwb : Frm φ own0 wb w) (hwg : WgAt φ.ty φ.Wg w st sm) (hmode : Go.ConcN.Mode j (fun y => (D y).wd) tag.ct st sm)
  (hlink : Link φ n tag closed H) (hpk : ∀ r, tag ≠ .hpk r) (hgo : stepG P true a w = .go a' w' es) (hD : DI φ own0 0 w w' es) (hms' : MSit P φ n Pre Done An Nx AnW N tag (j - L) f' d0 a' w') (hf : f' < f0) :
  Goal P φ n Pre Done An Nx AnW N N0 L wb (mphi n N L (Vw j D) tag + Wsum j D, (j, fun y => (D y).tree), f0 + 2 * Fsm j D) (runT P (crowd gs w sl) 0) t := by
 obtain ⟨⟨d, rfl⟩, hev⟩ := hD
 exact mainStep J hA ha hcom hwb hgo (fun own => Frm.at w d) rfl rfl (fun _ _ => rfl) (fun _ _ _ => rfl) (tl_ev G.apt hcom.tl (.inl rfl) (g := 0) (by simp) hev) (by rw [ep_still hev]; exact hms') hwg hmode hlink hpk (.inr ⟨rfl, hf⟩)
theorem bookM (G : Geo φ) (J : Jobs φ n Pre Done) (hA : ∀ g w, An g w → g.status = .running) (ha : gs[0]? = some a) (hcom : Com P φ n Pre Done An N0 L j H who mkr closed gs w t D d0) (hwb : Frm φ own0 wb w)
  (hgo : stepG P true a w = .go a' w' es) (hAs : Aside φ.Wg w w') (hwg' : WgAt φ.ty φ.Wg w' st' sm') (hbk : ∀ e ∈ es, Bk φ.Wg e) (hms' : MSit P φ n Pre Done An Nx AnW N tag' (j - L) f' (deafBehind d0 es) a' w')
  (hmode' : Go.ConcN.Mode j (fun y => (D y).wd) tag'.ct st' sm') (hlink : Link φ n tag' closed H) (hpk : ∀ r, tag' ≠ .hpk r)
  (hlt : mphi n N L (Vw j D) tag' < mphi n N L (Vw j D) tag ∨ (mphi n N L (Vw j D) tag' = mphi n N L (Vw j D) tag ∧ f' < f0)) :
  Goal P φ n Pre Done An Nx AnW N N0 L wb (mphi n N L (Vw j D) tag + Wsum j D, (j, fun y => (D y).tree), f0 + 2 * Fsm j D) (runT P (crowd gs w sl) 0) t := by
 obtain ⟨b1, b2, b3⟩ := bk_ops G (own := fun k => who k = 0 ∧ (0 : Nat) ≠ 0) (mine := fun b => mkr b = 0 ∧ (0 : Nat) ≠ 0) (g := 0) (fn := a.frame.fn) (pos := a.frame.place) hbk
 exact mainStep J hA ha hcom hwb hgo (fun own => Frm.of_wg G hAs ⟨_, _, hwg'⟩) (hAs.block _ G.wgCh.symm) (hAs.block _ G.wgEn.symm) (fun fd e => hAs.block _ fun e' => G.wgFd (by rw [e, e'])) (fun b hb _ => hAs.block b (by have := G.wgB; omega)) (hcom.tl.app G.apt (.inl rfl) g_of_ofEvents b1 (fun op hop => .inl (b2 op hop)) b3) hms' hwg' hmode' hlink hpk hlt
theorem com_spawn (h : Com P φ n Pre Done An N0 L j H who mkr closed gs w t D 0) {x y : MemOp} {m : Nat} {child : Goroutine} (hx : x.g = 0 ∧ x.act = .go (j + 1)) (hy : y.g = j + 1 ∧ y.act = .start)
  (hc : Goes P false (Frm φ own0) (DI φ own0 1) (RecvS P φ n Pre Done An) m child w) : Com P φ n Pre Done An N0 L (j + 1) H who mkr closed ((gs.setIfInBounds 0 a').push child) w (t ++ #[x, y]) (upd D j ⟨.rcv, m, 0, .leaf⟩) 0 := by
 have hm : ∀ op ∈ #[x, y], op = x ∨ op = y := by intro op hop; simpa using hop
 have hst : ∀ op ∈ #[x, y], op.act ≠ .mark .disable ∧ op.act ≠ .mark .enable := by
  intro op hop
  rcases hm op hop with rfl | rfl
  ·rw [hx.2]; exact ⟨by simp, by simp⟩
  ·rw [hy.2]; exact ⟨by simp, by simp⟩
 have hLj := h.Lj
 refine ⟨by simp [h.size], by omega, fun i hi => ?_, fun i hi => by rw [upd_ne D _ (by omega)]; exact h.old i hi, h.tl.fork hx hy h.deaf0 (h.above (j + 1) (by omega)), h.mkB, h.base, by rw [Deaf_still t 0 _ hst, h.deaf0], fun i hi => ?_, fun z hz => by rw [Deaf_still t z _ hst]; exact h.above z (by omega), fun i hL hi hs => ?_, h.Hn, h.whoH, fun i k hi hk => ?_, fun k hk => ?_, h.pre, h.ch, h.en, h.fnd.held fun k => ?_, fun i hi e => ?_, fun hc i hL hi => ?_, fun hc i hi => ?_⟩
 ·rcases Nat.lt_or_ge i j with hlt | hge
  ·obtain ⟨g, hg, hsg⟩ := h.wk i hlt
   refine ⟨g, ?_, by rw [upd_ne D _ (by omega)]; exact hsg⟩
   rw [Array.getElem?_push_lt (by simp [h.size]; omega), ← Array.getElem?_eq_getElem, Array.getElem?_setIfInBounds_ne (by omega)]
   exact hg
  ·obtain rfl : i = j := by omega
   refine ⟨child, ?_, by rw [upd_same]; exact .rcv hc⟩
   rw [show i + 1 = (gs.setIfInBounds 0 a').size by simp [h.size], Array.getElem?_push_size]
 ·rw [Deaf_still t _ _ hst]
  rcases Nat.lt_or_ge i j with hlt | hge
  ·rw [h.deafW i hlt, upd_ne D _ (by omega)]
  ·obtain rfl : i = j := by omega
   rw [upd_same]; exact h.above _ (by omega)
 ·rcases Nat.lt_or_ge i j with hlt | hge
  ·rw [upd_ne D _ (by omega)] at hs
   obtain ⟨r, hr⟩ := h.rel i hL hlt hs
   refine ⟨r, hr.appNot fun op hop => ?_⟩
   rcases hm op hop with rfl | rfl
   ·rw [hx.1]; omega
   ·rw [hy.1]; omega
  ·obtain rfl : i = j := by omega
   rw [upd_same] at hs
   simp [WTag.stage] at hs
 ·rcases Nat.lt_or_ge i j with hlt | hge
  ·rw [upd_ne D _ (by omega)] at hk; exact h.held i k hlt hk
  ·obtain rfl : i = j := by omega
   rw [upd_same] at hk; cases hk
 ·exact (h.done k hk).imp (fun ⟨i, h1, h2⟩ => ⟨i, by omega, by rw [upd_ne D _ (by omega)]; exact h2⟩) id
 ·constructor
  ·rintro ⟨i, h1, h2⟩
   rcases Nat.lt_or_ge i j with hlt | hge
   ·exact ⟨i, hlt, by rw [upd_ne D _ (by omega)] at h2; exact h2⟩
   ·obtain rfl : i = j := by omega
    rw [upd_same] at h2; cases h2
  ·rintro ⟨i, h1, h2⟩
   exact ⟨i, by omega, by rw [upd_ne D _ (by omega)]; exact h2⟩
 ·rcases Nat.lt_or_ge i j with hlt | hge
  ·rw [upd_ne D _ (by omega)] at e; exact h.eno i hlt e
  ·obtain rfl : i = j := by omega
   rw [upd_same] at e; cases e
 ·rcases Nat.lt_or_ge i j with hlt | hge
  ·rw [upd_ne D _ (by omega)]; exact h.opn hc i hL hlt
  ·obtain rfl : i = j := by omega
   rw [upd_same]; trivial
 ·rcases Nat.lt_or_ge i j with hlt | hge
  ·rw [upd_ne D _ (by omega)]; exact h.shut hc i hlt
  ·obtain rfl : i = j := by omega
   rw [upd_same]; simp
def shutD (x : PD) : PD := match x.tag with
 | .prk => ⟨.rcv, 0, 0, .leaf⟩
 | _ => x
theorem shutD_ne {x : PD} (h : x.tag ≠ .prk) : shutD x = x := by
 unfold shutD
 split
 ·rename_i e; exact absurd e h
 ·rfl
theorem shutD_eq {x : PD} (h : x.tag = .prk) : shutD x = ⟨.rcv, 0, 0, .leaf⟩ := by unfold shutD; rw [h]
theorem shutD_stage (x : PD) : (shutD x).tag.stage = x.tag.stage := by
 by_cases h : x.tag = .prk
 ·rw [shutD_eq h, h]; rfl
 ·rw [shutD_ne h]
theorem shutD_wt (x : PD) : (shutD x).tag.wt ≤ x.tag.wt + 1 := by
 by_cases h : x.tag = .prk
 ·rw [shutD_eq h, h]; simp [WTag.wt]
 ·rw [shutD_ne h]; omega
theorem held_shut {j : Nat} {D : Nat → PD} {k : Nat} : Held j (fun i => shutD (D i)) k ↔ Held j D k := by
 have key : ∀ i, (shutD (D i)).tag = .job k ↔ (D i).tag = .job k := fun i => by
  by_cases e : (D i).tag = .prk
  ·rw [shutD_eq e, e]; simp
  ·rw [shutD_ne e]
 exact ⟨fun ⟨i, h1, h2⟩ => ⟨i, h1, (key i).1 h2⟩, fun ⟨i, h1, h2⟩ => ⟨i, h1, (key i).2 h2⟩⟩
theorem sum_shut (D : Nat → PD) : ∀ j, Wsum j (fun i => shutD (D i)) ≤ Wsum j D + j
 | 0 => by simp [Wsum, sumTo]
 | j + 1 => by
  have := sum_shut D j
  have h2 := shutD_wt (D j)
  simp only [Wsum, sumTo] at this ⊢
  omega
theorem closeStep (G : Geo φ) (J : Jobs φ n Pre Done) (hA : ∀ g w, An g w → g.status = .running) (ha : gs[0]? = some a) (hcom : Com P φ n Pre Done An N0 L j H who mkr false gs w t D 0) (hE : Enough φ n H) (hjN : j - L = N) (hwb : Frm φ own0 wb w) (hwg : WgAt φ.ty φ.Wg w st sm) (hmode : Go.ConcN.Mode j (fun y => (D y).wd) .kd st sm)
  (h : CloS P φ AnW a w) : Goal P φ n Pre Done An Nx AnW N N0 L wb (mphi n N L (Vw j D) .cls + Wsum j D, (j, fun y => (D y).tree), f0 + 2 * Fsm j D) (runT P (crowd gs w sl) 0) t := by
 obtain ⟨_, hmw, hcl⟩ := h
 obtain ⟨s1, r1, hc1⟩ := hcom.ch
 obtain ⟨a', hrun', hgo, m, hk⟩ := hcl s1 r1 false hc1
 have hAs := aside_setChan w φ.Ch 0 #[] true s1 r1 false
 generalize hw' : w.setChan φ.Ch 0 #[] true s1 r1 false = w' at *
 have hc' : w'.heap[φ.Ch]? = some (.chan 0 #[] true s1 r1 false) := by
  have hlt2 : φ.Ch < w.heap.size := (Array.getElem?_eq_some_iff.1 hc1).1
  rw [← hw']; simp [World.setChan, hlt2]
 have hF : ∀ own, Frm φ own w w' := fun own => Frm.of_ch G hAs
 have hrun := runT_crowd_go (P := P) (sl := sl) (i := 0) ha (by simpa using hgo)
 have hwk : ∀ o, woken P a a' w' o = o.again w' := fun o => by unfold Go.Conc.woken; simp [hmw, hrun']
 have hcell : ∀ k b, φ.pb b → w'.cell? ⟨b, k, none⟩ = w.cell? ⟨b, k, none⟩ := fun k b hb => (hF fun _ => True).own b k hb trivial
 have hst : ∀ op ∈ MemOp.ofEvents 0 a.frame.fn a.frame.place (clEv φ.Ch), op.act ≠ .mark .disable ∧ op.act ≠ .mark .enable := by
  intro op hop
  obtain ⟨e, he, rfl⟩ := Go.Conc.mem_ofEvents hop
  simp only [clEv, List.mem_toArray, List.mem_cons, List.not_mem_nil, or_false] at he
  rcases he with rfl | rfl <;> simp [MemAct.ofEvent]
 have hne : ∀ y, y ≠ 0 → ∀ op ∈ MemOp.ofEvents 0 a.frame.fn a.frame.place (clEv φ.Ch), op.g ≠ y := fun y h0 op hop e => h0 (by rw [← e]; exact g_of_ofEvents op hop)
 have htl : TL φ N0 L j who mkr (t ++ MemOp.ofEvents 0 a.frame.fn a.frame.place (clEv φ.Ch)) := by
  refine hcom.tl.app G.apt (g := 0) (.inl rfl) g_of_ofEvents (fun op hop x hx => ?_) (fun op hop => ?_) (fun op hop => ?_) <;> obtain ⟨e, he, rfl⟩ := Go.Conc.mem_ofEvents hop <;> simp only [clEv, List.mem_toArray, List.mem_cons, List.not_mem_nil, or_false] at he <;> rcases he with rfl | rfl
  ·simp only [MemAct.ofEvent, MemAct.touch?, Option.some.injEq] at hx
   subst hx
   exact .inr (.inr (.inr (.inl ⟨rfl, ⟨_, rfl⟩, rfl⟩)))
  ·simp only [MemAct.ofEvent, MemAct.touch?] at hx; cases hx
  ·exact .inl G.chB
  ·exact .inl G.chB
  ·simp [MemAct.ofEvent]
  ·simp [MemAct.ofEvent]
 have hcom' : Com P φ n Pre Done An N0 L j H who mkr true ((gs.map (woken P a a' w')).setIfInBounds 0 a') w' (t ++ MemOp.ofEvents 0 a.frame.fn a.frame.place (clEv φ.Ch)) (fun i => shutD (D i)) 0 := by
  refine ⟨by simp [hcom.size], hcom.Lj, fun i hi => ?_, fun i hi => by rw [shutD_ne (by rw [hcom.old i hi]; simp)]; exact hcom.old i hi, htl, (fun b hb => let ⟨h1, h2⟩ := hcom.mkB b hb; ⟨h1, by rw [hAs.size]; exact h2⟩), by rw [hAs.size]; exact hcom.base, by rw [Deaf_still t 0 _ hst, hcom.deaf0], fun i hi => ?_, fun y hy => by rw [Deaf_not t _ (hne _ (by omega))]; exact hcom.above y hy, fun i hL hi hs => ?_, hcom.Hn, hcom.whoH, fun i k hi hk => ?_, fun k hk => ?_, fun k h1 h2 => J.pre k w w' (hcell k) (hcom.pre k h1 h2), ⟨s1, r1, hc'⟩, hcom.en.keep (hAs.block _ G.chEn.symm) (Nat.le_refl _), hcom.fnd.keep (fun fd e => hAs.block _ fun e' => G.chFd (by rw [e, e'])) (fun k => held_shut), fun i hi e => ?_, (fun h => by cases h), fun _ i hi => ?_⟩
  ·obtain ⟨g, hg, hsg⟩ := hcom.wk i hi
   by_cases e : (D i).tag = .prk
   ·rw [shutD_eq e]
    rw [e] at hsg
    generalize (D i).fuel = m1 at hsg
    generalize (D i).deaf = d1 at hsg
    cases hsg with
    | prk hrec =>
     rename_i g₂ z sh
     refine ⟨{ parked g₂ #[rcase φ.Ch z] sh with status := .running }, ?_, .rcv (Goes.stop fun w₁ h₁ => ⟨rfl, g₂, z, sh, ⟨rfl, rfl, rfl⟩, hrec.rely ((hF own0).trans h₁)⟩)⟩
     rw [get_map_set _ _ _ _ (by omega), hg, Option.map_some, hwk, again_recv_closed hc']
   ·rw [shutD_ne e]
    refine ⟨g, ?_, hsg.rely (hF _) fun b hb => hAs.block b (by have := (hcom.mkB b (by omega)).1; have := G.chB; omega)⟩
    rw [get_map_set _ _ _ _ (by omega), hg, Option.map_some, hsg.woken hA _ _ _ fun e' => absurd e' e]
  ·rw [Deaf_not t _ (hne _ (by omega)), hcom.deafW i hi]
   by_cases e : (D i).tag = .prk
   ·rw [shutD_eq e]
    obtain ⟨g, hg, hsg⟩ := hcom.wk i hi
    rw [e] at hsg
    generalize (D i).fuel = m1 at hsg
    generalize hd : (D i).deaf = d1 at hsg
    cases hsg; rfl
   ·rw [shutD_ne e]
  ·rw [shutD_stage] at hs
   obtain ⟨r, hr⟩ := hcom.rel i hL hi hs
   exact ⟨r, hr.appNot (hne _ (by omega))⟩
  ·by_cases e : (D i).tag = .prk
   ·rw [shutD_eq e] at hk; cases hk
   ·rw [shutD_ne e] at hk; exact hcom.held i k hi hk
  ·refine (hcom.done k hk).imp (fun ⟨i, h1, h2⟩ => ⟨i, h1, ?_⟩) (J.done k w w' (hcell k))
   rw [shutD_ne (by rw [h2]; simp)]; exact h2
  ·by_cases e' : (D i).tag = .prk
   ·rw [shutD_eq e'] at e; cases e
   ·rw [shutD_ne e'] at e; exact hcom.eno i hi e
  ·by_cases e : (D i).tag = .prk
   ·rw [shutD_eq e]; simp
   ·rw [shutD_ne e]; exact e
 have hv : Vw j (fun i => shutD (D i)) = Vw j D := sumTo_congr fun i _ => by
  show (if 5 ≤ (shutD (D i)).tag.stage then 1 else 0) = (if 5 ≤ (D i).tag.stage then 1 else 0)
  rw [shutD_stage]
 have hs := sum_shut D j
 have hLj := hcom.Lj
 refine ⟨_, _, hrun, .inr ⟨_, ?_, _, w', sl, j, H, who, mkr, true, _, .c .kd, m, 0, a', st, sm, rfl, get_map_set_same _ _ _ (by rw [hcom.size]; omega), by rw [hjN]; exact .kd hk, hcom', hwg.of_block (hAs.block _ G.wgCh), Mode.congr (D := fun y => (D y).wd) (fun i _ => shutD_stage (D i)) hmode, ⟨rfl, hE⟩, by simp, hwb.trans (hF _), rfl⟩⟩
 refine Prod.Lex.left _ _ ?_
 simp only [mphi, phi]
 omega
theorem parked_fin {P : Program} {g g' : Goroutine} {cs cs' : Array CommCase} {sh sh' : CommShape} (h : parked g cs sh = parked g' cs' sh') : cs = cs' ∧ sh = sh' ∧ ∀ (c : Array CommCase) s k v ok, g.finishComm P c s k v ok = g'.finishComm P c s k v ok := by
 obtain ⟨f, c, s, d, o⟩ := g
 obtain ⟨f', c', s', d', o'⟩ := g'
 simp only [parked, Goroutine.mk.injEq, Option.some.injEq, Prod.mk.injEq, true_and] at h
 obtain ⟨rfl, rfl, rfl, rfl, rfl⟩ := h
 exact ⟨rfl, rfl, fun _ _ _ _ _ => rfl⟩
theorem selStop (G : Geo φ) (J : Jobs φ n Pre Done) (hA : ∀ g w, An g w → g.status = .running)
  (ha : gs[0]? = some a) (hcom : Com P φ n Pre Done An N0 L j H who mkr closed gs w t D 0) (hjN : j - L = N) {r : Nat} (hr : r < n) (hlink : Link φ n (.hand (r + 1)) closed H) (hwb : Frm φ own0 wb w) (hwg : WgAt φ.ty φ.Wg w st sm) (hmode : Go.ConcN.Mode j (fun y => (D y).wd) .kd st sm)
  (h : SelS P φ AnW (n - (r + 1)) (Hand P φ n AnW r) a w) : Goal P φ n Pre Done An Nx AnW N N0 L wb (mphi n N L (Vw j D) (.hand (r + 1)) + Wsum j D, (j, fun y => (D y).tree), f0 + 2 * Fsm j D) (runT P (crowd gs w sl) 0) t := by
 obtain ⟨_, g₂, z, z', sh, hsame, hsel⟩ := h
 obtain ⟨⟨es, hstep, hev⟩, _⟩ := hsel w (.refl w)
 have hstep' : stepG P (0 == 0) a w = .comm g₂ #[scase φ.Ch (.int .i64 ((n - (r + 1) : Nat) : Int)) z, rcase φ.En z'] true sh w es := by rw [hsame.step]; exact hstep
 obtain ⟨rfl, hH⟩ := hlink
 have e0 : n - (r + 1) = H := by omega
 obtain ⟨s1, r1, hc⟩ := hcom.ch
 obtain ⟨buf, s2, r2, hen, hbs, hbk⟩ := hcom.en
 have htl1 : TL φ N0 L j who mkr (t ++ MemOp.ofEvents 0 a.frame.fn a.frame.place es) := tl_ev G.apt hcom.tl (.inl rfl) (g := 0) (by simp) hev
 have hst1 := ev_still (φ := φ) (g' := 0) (fn := a.frame.fn) (pos := a.frame.place) hev
 have hoth : ∀ y x, (gs.setIfInBounds 0 ph)[y]? = some x → x = ph ∨ ∃ i, y = i + 1 ∧ i < j ∧ gs[i + 1]? = some x ∧ WSit P φ n Pre Done An (fun b => mkr b = i + 1) (D i).tree (D i).tag (D i).fuel (D i).deaf x w := by
  intro y x hx
  rcases getElem?_stand gs 0 y x hx with ⟨_, rfl⟩ | ⟨hne, hx'⟩
  ·exact .inl rfl
  ·obtain ⟨y', rfl⟩ : ∃ y', y = y' + 1 := ⟨y - 1, by omega⟩
   have hlt : y' < j := by have := (Array.getElem?_eq_some_iff.1 hx').1; rw [hcom.size] at this; omega
   obtain ⟨x', hx'', hs⟩ := hcom.wk y' hlt
   rw [hx'] at hx''; cases hx''
   exact .inr ⟨y', rfl, hlt, hx', hs⟩
 have hpe : partners (gs.setIfInBounds 0 ph) φ.En true = [] := partners_nil fun y x hx => by
  rcases hoth y x hx with rfl | ⟨i, _, _, _, hs⟩
  ·exact offersAt_ph _ _
  ·exact hs.noSend hA _
 have hEn : buf = #[] → NoWays w (gs.setIfInBounds 0 ph) (rcase φ.En z') := fun e => ways_recv_none (e ▸ hen) hpe
 have enough : 0 < buf.size → ∀ d (res : Stepped × Array MemOp), res = (.next (crowd (gs.setIfInBounds 0 (g₂.finishComm P #[scase φ.Ch (.int .i64 ((n - (r + 1) : Nat) : Int)) z, rcase φ.En z'] sh 1 (buf.getD 0 undef) true)) ((w.at d).setChan φ.En 1 (buf.extract 1 buf.size) false s2 (r2 + 1) false) sl),
    MemOp.ofEvents 0 a.frame.fn a.frame.place es ++ #[{ g := 0, fn := g₂.frame.fn, pos := g₂.frame.place, act := .recv φ.En r2 1 }, { g := 0, fn := g₂.frame.fn, pos := g₂.frame.place, act := .recvDone φ.En r2 }]) →
   Goal P φ n Pre Done An Nx AnW N N0 L wb (mphi n N L (Vw j D) (.hand (r + 1)) + Wsum j D, (j, fun y => (D y).tree), f0 + 2 * Fsm j D) res t := by
  intro hb d res hres
  have hex : ∃ k, k < H ∧ φ.p k := hbk (fun e => by subst e; simp at hb)
  have hAs := aside_setChan (w.at d) φ.En 1 (buf.extract 1 buf.size) false s2 (r2 + 1) false
  have hltE : φ.En < w.heap.size := (Array.getElem?_eq_some_iff.1 hen).1
  have hen' : ((w.at d).setChan φ.En 1 (buf.extract 1 buf.size) false s2 (r2 + 1) false).heap[φ.En]? = some (.chan 1 (buf.extract 1 buf.size) false s2 (r2 + 1) false) := by simp [World.setChan, World.at, hltE]
  generalize (w.at d).setChan φ.En 1 (buf.extract 1 buf.size) false s2 (r2 + 1) false = w' at hres hAs hen'
  have hF : ∀ own, Frm φ own w w' := fun own => (Frm.at w d).trans (Frm.of_en G hAs)
  obtain ⟨m₃, hk3⟩ := (hsel w' (hF own0)).2.2 (buf.getD 0 undef)
  have hug : ∀ op ∈ MemOp.ofEvents 0 a.frame.fn a.frame.place es ++ #[{ g := 0, fn := g₂.frame.fn, pos := g₂.frame.place, act := .recv φ.En r2 1 }, { g := 0, fn := g₂.frame.fn, pos := g₂.frame.place, act := .recvDone φ.En r2 }], op.g = 0 ∧ op.act ≠ .mark .disable ∧ op.act ≠ .mark .enable := by
   intro op hop
   rcases Array.mem_append.1 hop with h' | h'
   ·exact ⟨g_of_ofEvents op h', hst1 op h'⟩
   ·simp only [List.mem_toArray, List.mem_cons, List.not_mem_nil, or_false] at h'
    rcases h' with rfl | rfl <;> simp
  have htl2 : TL φ N0 L j who mkr (t ++ (MemOp.ofEvents 0 a.frame.fn a.frame.place es ++ #[{ g := 0, fn := g₂.frame.fn, pos := g₂.frame.place, act := .recv φ.En r2 1 }, { g := 0, fn := g₂.frame.fn, pos := g₂.frame.place, act := .recvDone φ.En r2 }])) := by
   rw [← Array.append_assoc]
   refine htl1.mute (fun op hop => ?_) (fun op hop => ?_) (fun op hop => ?_) <;> simp only [List.mem_toArray, List.mem_cons, List.not_mem_nil, or_false] at hop <;> rcases hop with rfl | rfl
   any_goals rfl
   any_goals exact G.enB
   all_goals simp
  have hcom' : Com P φ n Pre Done An N0 L j H who mkr false (gs.setIfInBounds 0 (g₂.finishComm P #[scase φ.Ch (.int .i64 ((n - (r + 1) : Nat) : Int)) z, rcase φ.En z'] sh 1 (buf.getD 0 undef) true)) w' (t ++ (MemOp.ofEvents 0 a.frame.fn a.frame.place es ++ #[{ g := 0, fn := g₂.frame.fn, pos := g₂.frame.place, act := .recv φ.En r2 1 }, { g := 0, fn := g₂.frame.fn, pos := g₂.frame.place, act := .recvDone φ.En r2 }])) D 0 :=
   hcom.main J (by simp [hcom.size]) (fun i' hi' => Array.getElem?_setIfInBounds_ne (by omega)) hF (fun b hb _ => hAs.block b (by have := G.enB; omega)) htl2 (fun op hop => (hug op hop).1) (by rw [Deaf_still t 0 _ fun op hop => (hug op hop).2, hcom.deaf0]) ⟨s1, r1, (hAs.block _ G.chEn).trans hc⟩ ⟨_, _, _, hen', by simp; omega, fun _ => hex⟩ (fun fd e => hAs.block _ fun e' => G.enFd (by rw [e, e']))
  refine ⟨_, _, hres, .inr ⟨_, ?_, _, w', sl, j, H, who, mkr, false, D, .cls, m₃, 0, _, st, sm, rfl, by rw [Array.getElem?_setIfInBounds_self_of_lt (by rw [hcom.size]; omega)], by rw [hjN]; exact .cls hk3, hcom', hwg.of_block (hAs.block _ G.wgEn), hmode, ⟨rfl, hcom.Hn, .inr hex⟩, by simp, hwb.trans (hF own0), rfl⟩⟩
  refine Prod.Lex.left _ _ ?_
  simp only [mphi]
  omega
 by_cases hp : partners (gs.setIfInBounds 0 ph) φ.Ch false = []
 ·by_cases hb : 0 < buf.size
  ·exact enough hb w.drawn _ (crowd_sel_recv_buf (sl := sl) ha hstep' (k := 1) rfl (fun m c' hm hc' => by
    match m, hc' with
    | 0, hc' => simp at hc'; subst hc'; exact ways_send_none hc (by simp) hp
    | 1, _ => exact absurd rfl hm
    | m + 2, hc' => simp at hc') hen hb hpe)
  have hb0 : buf = #[] := Array.eq_empty_of_size_eq_zero (by omega)
  have hrun := crowd_waits (sl := sl) ha hstep' (fun cc hcc => by
   simp only [List.mem_toArray, List.mem_cons, List.not_mem_nil, or_false] at hcc
   rcases hcc with rfl | rfl
   ·exact ways_send_none hc (by simp) hp
   ·exact hEn hb0)
  have hnp : ∀ i, i < j → (D i).tag ≠ .prk := by
   intro i hi e
   obtain ⟨x, hx, hs⟩ := hcom.wk i hi
   rw [e] at hs
   generalize (D i).fuel = m1 at hs
   generalize (D i).deaf = d1 at hs
   cases hs with
   | prk hrec =>
    rename_i g₂' z₂ sh₂
    have : (i + 1, 0) ∈ partners (gs.setIfInBounds 0 ph) φ.Ch false := mem_partners.2 ⟨_, by rw [Array.getElem?_setIfInBounds_ne (by omega)]; exact hx, by rw [offersAt_parked_recv]; simp⟩
    rw [hp] at this; cases this
  have hcom' : Com P φ n Pre Done An N0 L j H who mkr false (gs.setIfInBounds 0 (parked g₂ #[scase φ.Ch (.int .i64 ((n - (r + 1) : Nat) : Int)) z, rcase φ.En z'] sh)) w (t ++ MemOp.ofEvents 0 a.frame.fn a.frame.place es) D 0 :=
   hcom.main J (by simp [hcom.size]) (fun i' hi' => Array.getElem?_setIfInBounds_ne (by omega)) (fun _ => .refl w) (fun _ _ _ => rfl) htl1 g_of_ofEvents (by rw [Deaf_still t 0 _ hst1, hcom.deaf0]) ⟨s1, r1, hc⟩ ⟨buf, s2, r2, hen, hbs, hbk⟩ (fun _ _ => rfl)
  refine ⟨_, _, hrun, .inr ⟨_, ?_, _, w, sl, j, H, who, mkr, false, D, .hpk (r + 1), 0, 0, _, st, sm, rfl, by rw [Array.getElem?_setIfInBounds_self_of_lt (by rw [hcom.size]; omega)], by rw [hjN]; exact .hpk hr hsel, hcom', hwg, hmode, ⟨rfl, hH⟩, fun _ _ => hnp, hwb, rfl⟩⟩
  refine Prod.Lex.left _ _ ?_
  simp only [mphi]
  omega
 ·have hall : ∀ y k, (y, k) ∈ partners (gs.setIfInBounds 0 ph) φ.Ch false → k = 0 ∧ y ≠ 0 ∧ ∃ gj zj shj, gs[y]? = some (parked gj #[rcase φ.Ch zj] shj) := by
   intro y k hyk
   obtain ⟨x, hx, hk⟩ := mem_partners.1 hyk
   rcases hoth y x hx with rfl | ⟨i, rfl, hi, hgi, hs⟩
   ·rw [offersAt_ph] at hk; cases hk
   ·by_cases e : (D i).tag = .prk
    ·rw [e] at hs
     generalize (D i).fuel = m1 at hs
     generalize (D i).deaf = d1 at hs
     cases hs with
     | prk hrec =>
      rw [offersAt_parked_recv] at hk
      simp at hk
      exact ⟨hk, by omega, _, _, _, hgi⟩
    ·rw [hs.recvs hA e] at hk; cases hk
  have both : (∃ (y : Nat) (gj : Goroutine) (zj : Value) (shj : CommShape) (d : Nat), y ≠ 0 ∧ gs[y]? = some (parked gj #[rcase φ.Ch zj] shj) ∧
   runT P (crowd gs w sl) 0 = (.next (crowd ((gs.setIfInBounds y (gj.finishComm P #[rcase φ.Ch zj] shj 0 (.int .i64 ((n - (r + 1) : Nat) : Int)) true)).setIfInBounds 0 (g₂.finishComm P #[scase φ.Ch (.int .i64 ((n - (r + 1) : Nat) : Int)) z, rcase φ.En z'] sh 0 undef false)) ((w.at d).setChan φ.Ch 0 #[] false (s1 + 1) (r1 + 1) false) sl),
    MemOp.ofEvents 0 a.frame.fn a.frame.place es ++ #[{ g := 0, fn := g₂.frame.fn, pos := g₂.frame.place, act := .send φ.Ch s1 }, { g := y, fn := gj.frame.fn, pos := gj.frame.place, act := .recv φ.Ch r1 0 },
     { g := 0, fn := g₂.frame.fn, pos := g₂.frame.place, act := .sendDone φ.Ch s1 }, { g := y, fn := gj.frame.fn, pos := gj.frame.place, act := .recvDone φ.Ch r1 }])) ∨
   Goal P φ n Pre Done An Nx AnW N N0 L wb (mphi n N L (Vw j D) (.hand (r + 1)) + Wsum j D, (j, fun y => (D y).tree), f0 + 2 * Fsm j D) (runT P (crowd gs w sl) 0) t := by
   by_cases hb : 0 < buf.size
   ·rcases sel_both (sl := sl) ha hstep' hc hp hall hen hb hpe with hx | ⟨d, hx⟩
    ·exact .inl hx
    ·exact .inr (enough hb d _ hx)
   ·have hb0 : buf = #[] := Array.eq_empty_of_size_eq_zero (by omega)
    exact .inl (sel_send_meets_some (sl := sl) ha hstep' (k := 0) rfl (fun m c' hm hc' => by
     match m, hc' with
     | 0, _ => exact absurd rfl hm
     | 1, hc' => simp at hc'; subst hc'; exact hEn hb0
     | m + 2, hc' => simp at hc') hc hp hall)
  rcases both with ⟨y, gj, zj, shj, d, hy0, hgj, hrun⟩ | hx
  rotate_left
  ·exact hx
  obtain ⟨i, rfl⟩ : ∃ i, y = i + 1 := ⟨y - 1, by omega⟩
  have hi : i < j := by have := (Array.getElem?_eq_some_iff.1 hgj).1; rw [hcom.size] at this; omega
  obtain ⟨x, hx, hs⟩ := hcom.wk i hi
  rw [hgj] at hx
  obtain rfl := (Option.some.inj hx).symm
  have hpk : (D i).tag = .prk := by
   refine Classical.byContradiction fun e => ?_
   have h1 := hs.recvs hA e φ.Ch false
   rw [offersAt_parked_recv] at h1
   simp at h1
  have hrecX : (D i).deaf = 0 ∧ ∀ w₁, Frm φ own0 w w₁ → ∀ k : Nat, k < n → Pre k w₁ → GoesX P (RJ φ k) (DJO φ k) (JobS P φ Done An k) [] (gj.finishComm P #[rcase φ.Ch zj] shj 0 (.int .i64 k) true) w₁ := by
   generalize hX : parked gj #[rcase φ.Ch zj] shj = X at hs
   rw [hpk] at hs
   generalize (D i).fuel = m1 at hs
   generalize (D i).deaf = d1 at hs ⊢
   cases hs with
   | prk hrec =>
    rename_i g₂' z₂ sh₂
    obtain ⟨h1, h2, h3⟩ := parked_fin (P := P) hX
    refine ⟨rfl, fun w₁ hw₁ => ?_⟩
    rw [h1, h2]
    simp only [h3]
    exact (hrec w₁ hw₁).2.1
  have hFr := fun own => Frm.of_ch (own := own) G (aside_setChan (w.at d) φ.Ch 0 #[] false (s1 + 1) (r1 + 1) false)
  have hlt1 : i + 1 < gs.size := by rw [hcom.size]; omega
  have hlt2 : φ.Ch < w.heap.size := (Array.getElem?_eq_some_iff.1 hc).1
  refine handStep (AnW := AnW) (Nx := Nx) (f0 := f0) (gs' := _) G J (hcom.at J d) hjN rfl (r := r) (.inl rfl) ⟨rfl, hH⟩ (hwb.trans (Frm.at w d)) hwg hmode hi (.inr hpk) hrecX.1 (by simp [hcom.size]) (gm := g₂.finishComm P #[scase φ.Ch (.int .i64 ((n - (r + 1) : Nat) : Int)) z, rcase φ.En z'] sh 0 undef false) (gw := gj.finishComm P #[rcase φ.Ch zj] shj 0 (.int .i64 ((n - (r + 1) : Nat) : Int)) true) ?_ (fun i' hi' hne => ?_) ?_ (aside_setChan _ _ _ _ _ _ _ _) ⟨s1 + 1, r1 + 1, ?_⟩ (fun hpre => ?_) ?_ ?_ ?_ ?_ hrun
  ·rw [Array.getElem?_setIfInBounds_self_of_lt (by simp; omega)]
  ·rw [Array.getElem?_setIfInBounds_ne (by omega), Array.getElem?_setIfInBounds_ne (by omega)]
  ·rw [Array.getElem?_setIfInBounds_ne (by omega), Array.getElem?_setIfInBounds_self_of_lt hlt1]
  ·simp [World.setChan, World.at, hlt2]
  ·rw [e0]
   exact hrecX.2 _ ((Frm.at w d).trans (hFr own0)) H (by omega) hpre
  ·exact (hsel _ ((Frm.at w d).trans (hFr own0))).2.1
  ·have := meet_ops (s := s1) (r := r1) (cap := 0) (x := 0) (y := i + 1) (f1 := g₂.frame.fn) (f2 := gj.frame.fn) (p1 := g₂.frame.place) (p2 := gj.frame.place) htl1 G.chB
   rw [← Array.append_assoc]; exact this
  ·intro op hop
   rcases Array.mem_append.1 hop with h' | h'
   ·exact .inl (g_of_ofEvents op h')
   ·simp only [List.mem_toArray, List.mem_cons, List.not_mem_nil, or_false] at h'
    rcases h' with rfl | rfl | rfl | rfl
    ·exact .inl rfl
    ·exact .inr rfl
    ·exact .inl rfl
    ·exact .inr rfl
  ·intro op hop
   rcases Array.mem_append.1 hop with h' | h'
   ·exact hst1 op h'
   ·simp only [List.mem_toArray, List.mem_cons, List.not_mem_nil, or_false] at h'
    rcases h' with rfl | rfl | rfl | rfl <;> simp
end
end Go.Pool
end
