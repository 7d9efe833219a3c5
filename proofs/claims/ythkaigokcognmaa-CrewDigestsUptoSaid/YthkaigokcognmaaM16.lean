/- A part of the proof of CrewDigestsUpto (no statement of its own): Pool6. -/
import Derived.Test.YthkaigokcognmaaM15
section
namespace Go.Pool
open Go.Conc Go.ConcN
open Go.ConcR (stA smA rd wr mk KK WgAt wgBlock g_of_ofEvents loc_of_ofEvent Bk bk_of_mute ofEvent_loc_mark)
theorem sumTo_tail {f : Nat → Nat} {L : Nat} (h0 : ∀ i, i < L → f i = 0) (h1 : ∀ i, f i ≤ 1) : ∀ j, sumTo j f ≤ j - L
 | 0 => by simp [sumTo]
 | j + 1 => by
  have := sumTo_tail h0 h1 j
  simp only [sumTo]
  rcases Nat.lt_or_ge j L with h | h
  ·rw [h0 j h]; omega
  ·have := h1 j; omega
theorem nodup_le : ∀ (H : Nat) (l : List Nat), l.Nodup → (∀ x ∈ l, x < H) → l.length ≤ H
 | 0, l, _, hl => by
  cases l with
  | nil => simp
  | cons y l => have := hl y (by simp); omega
 | H + 1, l, hn, hl => by
  by_cases hH : H ∈ l
  ·have he := List.length_erase_of_mem hH
   have := nodup_le H (l.erase H) (hn.erase H) (fun x hx => by
    have h1 := hl x (List.mem_of_mem_erase hx)
    have h2 : x ≠ H := fun e => by subst e; exact (List.Nodup.not_mem_erase hn) hx
    omega)
   omega
  ·have := nodup_le H l hn (fun x hx => by
    have h1 := hl x hx
    have h2 : x ≠ H := fun e => hH (e ▸ hx)
    omega)
   omega
theorem nodup_lt {H : Nat} {l : List Nat} {k : Nat} (hn : l.Nodup) (hl : ∀ x ∈ l, x < H) (hk : k < H) (hkl : k ∉ l) : l.length < H := by
 have := nodup_le H (k :: l) (List.nodup_cons.2 ⟨hkl, hn⟩) (fun x hx => by
  rcases List.mem_cons.1 hx with rfl | hx
  ·exact hk
  ·exact hl x hx)
 simp only [List.length_cons] at this
 omega
section
variable {P : Program} {φ : Ph} {n : Nat} {Pre Done : Nat → World → Prop} {An Nx AnW : Goroutine → World → Prop} {N N0 L : Nat} {wb : World}
  {j H : Nat} {who mkr : Nat → Nat} {closed : Bool} {gs gs' : Array Goroutine} {w w' : World} {sl : Option (Nat × Nat)} {t u : Trace} {D : Nat → PD} {d0 f0 : Nat} {tag : MTag} {a : Goroutine} {st sm : Int}
theorem Com.Vle (h : Com P φ n Pre Done An N0 L j H who mkr closed gs w t D d0) : Vw j D ≤ j - L :=
 sumTo_tail (fun i hi => by show cnt (D i).wd = 0; unfold PD.wd; rw [h.old i hi]; rfl) (fun i => by simp only [cnt]; split <;> omega) j
theorem MSit.bound {q m d : Nat} {g : Goroutine} (h : MSit P φ n Pre Done An Nx AnW N tag q m d g w) : q + pend tag.ct ≤ N := by
 cases h <;> simp [pend, MTag.ct] <;> omega
theorem isW3_tag (h : isW3 tag.ct) : tag = .c .w3 ∨ tag = .c .blk := by
 cases tag with
 | c t => cases t <;> first | exact .inl rfl | exact .inr rfl | exact h.elim
 | _ => exact h.elim
theorem mode_same (hm : Go.ConcN.Mode j (fun y => (D y).wd) tag.ct st sm) {i : Nat} (x : PD) (hx : x.tag.stage = (D i).tag.stage) {tag' : MTag} (e : tag' = tag ∨ (tag = .c .blk ∧ tag' = .c .w3)) : Go.ConcN.Mode j (upd (fun y => (D y).wd) i x.wd) tag'.ct st sm :=
 Mode.retag (hm.congr fun y _ => by
  by_cases h : y = i
  ·subst h; rw [upd_same]; exact hx
  ·rw [upd_ne _ _ h]) (ct_retag e)
theorem rcvStep (G : Geo φ) (J : Jobs φ n Pre Done) (hA : ∀ g w, An g w → g.status = .running) (hAr : ∀ g w, AnW g w → g.status = .running)
  (ha : gs[0]? = some a) (hms : MSit P φ n Pre Done An Nx AnW N tag (j - L) f0 d0 a w) (hcom : Com P φ n Pre Done An N0 L j H who mkr closed gs w t D d0)
  (hlink : Link φ n tag closed H) (hpk : ∀ r, tag = .hpk r → ∀ i, i < j → (D i).tag ≠ .prk) (hwb : Frm φ own0 wb w) (hwg : WgAt φ.ty φ.Wg w st sm) (hmode : Go.ConcN.Mode j (fun y => (D y).wd) tag.ct st sm)
  {i : Nat} (hi : i < j) {g : Goroutine} (hg : gs[i + 1]? = some g) (hst : (D i).tag = .rcv) (hde : (D i).deaf = 0) (h : Goes P false (Frm φ own0) (DI φ own0 1) (RecvS P φ n Pre Done An) (D i).fuel g w) :
  Goal P φ n Pre Done An Nx AnW N N0 L wb (mphi n N L (Vw j D) tag + Wsum j D, (j, fun y => (D y).tree), f0 + 2 * Fsm j D) (runT P (crowd gs w sl) (i + 1)) t := by
 generalize hfu : (D i).fuel = m at h
 have hLi : L ≤ i := hcom.lt_of (by rw [hst]; simp)
 rcases Goes.cases h with hstop | ⟨m', rfl, hstep⟩
 ·exact recvStop G J hA hAr ha hms hcom hlink hpk hwb hwg hmode hi hg hst hde (hstop w (.refl w))
 ·obtain ⟨g', w', es, hgo, ⟨⟨d, hd⟩, hev⟩, hg'⟩ := hstep w (.refl w)
  subst hd
  exact workerStep (x := ⟨.rcv, m', 0, (D i).tree⟩) J hA hAr ha hms hcom hlink hpk hwb hi hg hgo (fun own _ => Frm.at w d) rfl rfl (fun _ _ => rfl) (fun _ _ _ _ => rfl) (fun _ _ => rfl) (fun _ h0 h1 => absurd h0 h1) (.rcv hg') (tl_ev G.apt hcom.tl (.inr ⟨by omega, by omega⟩) (g := 1) (by simp) hev)
   (by rw [hde]; exact ep_still hev 0) (fun h => by omega) (fun _ h => by simp [WTag.stage] at h) (fun k e => by cases e) (fun k e => by rw [hst] at e; cases e) (fun e => by cases e) (fun _ _ => trivial) (by simp) hwg
   (fun tag' ht _ => mode_same hmode _ (by rw [hst]) ht) (.inr ⟨hst.symm, .inl ⟨rfl, by rw [hfu]⟩⟩)
theorem WSit.noRecv (hA : ∀ g w, An g w → g.status = .running) {ow : Nat → Prop} {tr : Tree} {s : WTag} {m d : Nat} {g : Goroutine} (h : WSit P φ n Pre Done An ow tr s m d g w) {c : Nat} (hc : c ≠ φ.Ch) : offersAt g c false = [] := by
 by_cases h1 : s = .prk
 ·subst h1
  cases h with
  | prk h =>
   have : ¬ φ.Ch = c := fun e => hc e.symm
   simp [offersAt, parked, rcase, this]
 ·exact h.recvs hA h1 c false
theorem push_found (l : List Nat) (k : Nat) : (found l).push (.int .i64 k) = found (l ++ [k]) := by simp [found]
theorem size_found (l : List Nat) : (found l).size = l.length := by simp [found]
theorem two_ops {c s x : Nat} {f1 : FuncId} {p1 : String} (h : TL φ N0 L j who mkr t) (hc : c < φ.B) : TL φ N0 L j who mkr (t ++ #[{ g := x, fn := f1, pos := p1, act := .send c s }, { g := x, fn := f1, pos := p1, act := .sendDone c s }]) := by
 refine h.mute (fun op hop => ?_) (fun op hop => ?_) (fun op hop => ?_) <;> simp only [List.mem_toArray, List.mem_cons, List.not_mem_nil, or_false] at hop <;> rcases hop with rfl | rfl
 any_goals rfl
 any_goals exact hc
 all_goals simp
theorem fndStop (G : Geo φ) (J : Jobs φ n Pre Done) (hA : ∀ g w, An g w → g.status = .running) (hAr : ∀ g w, AnW g w → g.status = .running)
  (ha : gs[0]? = some a) (hms : MSit P φ n Pre Done An Nx AnW N tag (j - L) f0 d0 a w) (hcom : Com P φ n Pre Done An N0 L j H who mkr closed gs w t D d0)
  (hlink : Link φ n tag closed H) (hpk : ∀ r, tag = .hpk r → ∀ i, i < j → (D i).tag ≠ .prk) (hwb : Frm φ own0 wb w) (hwg : WgAt φ.ty φ.Wg w st sm) (hmode : Go.ConcN.Mode j (fun y => (D y).wd) tag.ct st sm)
  {i : Nat} (hi : i < j) {g : Goroutine} (hg : gs[i + 1]? = some g) {k : Nat} (hst : (D i).tag = .job k) (hdw : (D i).deaf = 0) (hp : φ.p k) (hdn : Done k w) (h : FndS P φ An k g w) :
  Goal P φ n Pre Done An Nx AnW N N0 L wb (mphi n N L (Vw j D) tag + Wsum j D, (j, fun y => (D y).tree), f0 + 2 * Fsm j D) (runT P (crowd gs w sl) (i + 1)) t := by
 obtain ⟨_, fd, g₂, z, sh, es, efd, hstep, hev, hnext⟩ := h
 obtain ⟨l, s, r, hfh, hnd, h3, h4⟩ := hcom.fnd fd efd
 obtain ⟨hkH, hwk⟩ := hcom.held i k hi hst
 have hLi : L ≤ i := hcom.lt_of (by rw [hst]; simp)
 have hkl : k ∉ l := fun hm => (h3 k hm).2.2 ⟨i, hi, hst⟩
 have hlen : l.length < H := nodup_lt hnd (fun x hx => (h3 x hx).1) hkH hkl
 have hHn := hcom.Hn
 have hfc : fd ≠ φ.Ch := fun e => G.chFd (by rw [efd, e])
 have hfe : fd ≠ φ.En := fun e => G.enFd (by rw [efd, e])
 have hfw : fd ≠ φ.Wg := fun e => G.wgFd (by rw [efd, e])
 have hstep' : stepG P (i + 1 == 0) g w = .comm g₂ #[scase fd (.int .i64 k) z] true sh w es := by rw [show (i + 1 == 0) = false by simp]; exact hstep
 have hpart : partners (gs.setIfInBounds (i + 1) ph) fd false = [] := partners_nil fun y x hx => by
  rcases getElem?_stand gs (i + 1) y x hx with ⟨_, rfl⟩ | ⟨_, hx'⟩
  ·exact offersAt_ph _ _
  ·cases y with
   | zero =>
    rw [ha] at hx'; cases hx'
    by_cases hhp : ∃ r, tag = .hpk r
    ·obtain ⟨r0, rfl⟩ := hhp
     obtain ⟨r, gm, z1, z2, shm, rfl, _, _, _, _, rfl, _⟩ := hms.hpk_inv
     have : ¬ φ.En = fd := fun e => hfe e.symm
     simp [offersAt, parked, scase, rcase, this]
    ·exact hms.noOffer hAr (fun r e => hhp ⟨r, e⟩) _ _
   | succ y' =>
    have hlt : y' < j := by have := (Array.getElem?_eq_some_iff.1 hx').1; rw [hcom.size] at this; omega
    obtain ⟨x', hx'', hs⟩ := hcom.wk y' hlt
    rw [hx'] at hx''; cases hx''
    exact hs.noRecv hA hfc
 have hrun := crowd_send_room (sl := sl) hg hstep' hfh (by rw [size_found]; omega) hpart
 have hAs := aside_setChan w fd n ((found l).push (.int .i64 k)) false (s + 1) r false
 have hlt2 : fd < w.heap.size := (Array.getElem?_eq_some_iff.1 hfh).1
 have hfh' : (w.setChan fd n ((found l).push (.int .i64 k)) false (s + 1) r false).heap[fd]? = some (.chan n (found (l ++ [k])) false (s + 1) r false) := by rw [← push_found]; simp [World.setChan, hlt2]
 generalize w.setChan fd n ((found l).push (.int .i64 k)) false (s + 1) r false = w' at hrun hAs hfh'
 have hF : ∀ own, Frm φ own w w' := fun own => Frm.of_fd G efd hAs
 obtain ⟨m, hk⟩ := hnext w' (hF own0)
 have hcell : ∀ k b, φ.pb b → w'.cell? ⟨b, k, none⟩ = w.cell? ⟨b, k, none⟩ := fun k b hb => (hF fun _ => True).own b k hb trivial
 obtain ⟨s1, r1, hc⟩ := hcom.ch
 have hst1 := ev_still (φ := φ) (g' := i + 1) (fn := g.frame.fn) (pos := g.frame.place) hev
 have htl1 : TL φ N0 L j who mkr (t ++ MemOp.ofEvents (i + 1) g.frame.fn g.frame.place es) := tl_ev G.apt hcom.tl (.inr ⟨by omega, by omega⟩) (g := 1) (by simp) hev
 have htl2 : TL φ N0 L j who mkr (t ++ (MemOp.ofEvents (i + 1) g.frame.fn g.frame.place es ++ #[{ g := i + 1, fn := g₂.frame.fn, pos := g₂.frame.place, act := .send fd s }, { g := i + 1, fn := g₂.frame.fn, pos := g₂.frame.place, act := .sendDone fd s }])) := by
  rw [← Array.append_assoc]; exact two_ops htl1 (G.fdB fd efd)
 have hug : ∀ op ∈ MemOp.ofEvents (i + 1) g.frame.fn g.frame.place es ++ #[{ g := i + 1, fn := g₂.frame.fn, pos := g₂.frame.place, act := .send fd s }, { g := i + 1, fn := g₂.frame.fn, pos := g₂.frame.place, act := .sendDone fd s }], op.g = i + 1 ∧ op.act ≠ .mark .disable ∧ op.act ≠ .mark .enable := by
  intro op hop
  rcases Array.mem_append.1 hop with h' | h'
  ·exact ⟨g_of_ofEvents op h', hst1 op h'⟩
  ·simp only [List.mem_toArray, List.mem_cons, List.not_mem_nil, or_false] at h'
   rcases h' with rfl | rfl <;> simp
 have hfnd' : Fnd φ n j H (upd D i ⟨.eno, m, 0, (D i).tree⟩) w' := fun fd' e => by
  rw [efd] at e
  cases e
  have hnotheld : ¬ Held j (upd D i ⟨.eno, m, 0, (D i).tree⟩) k := fun ⟨i', h5, h6⟩ => by
   by_cases e' : i' = i
   ·subst e'; rw [upd_same] at h6; cases h6
   ·rw [upd_ne D _ e'] at h6
    have := (hcom.held i' k h5 h6).2
    omega
  refine ⟨l ++ [k], s + 1, r, hfh', List.nodup_append.2 ⟨hnd, by simp, fun x hx y hy => by simp at hy; subst hy; exact fun e => hkl (e ▸ hx)⟩, fun k' hk' => ?_, fun k' hk' hp' => ?_⟩
  ·rcases List.mem_append.1 hk' with h5 | h5
   ·refine ⟨(h3 k' h5).1, (h3 k' h5).2.1, fun ⟨i', h6, h7⟩ => ?_⟩
    by_cases e' : i' = i
    ·subst e'; rw [upd_same] at h7; cases h7
    ·rw [upd_ne D _ e'] at h7; exact (h3 k' h5).2.2 ⟨i', h6, h7⟩
   ·simp at h5; subst h5; exact ⟨hkH, hp, hnotheld⟩
  ·by_cases ek : k' = k
   ·subst ek; exact .inr (by simp)
   ·refine (h4 k' hk' hp').imp (fun ⟨i', h5, h6⟩ => ⟨i', h5, ?_⟩) fun x => by simp [x]
    rw [upd_ne D _ fun e' => ?_]
    ·exact h6
    ·subst e'; rw [hst] at h6; cases h6; exact ek rfl
 have hcom' : Com P φ n Pre Done An N0 L j H who mkr closed (gs.setIfInBounds (i + 1) (g₂.finishComm P #[scase fd (.int .i64 k) z] sh 0 undef false)) w' (t ++ (MemOp.ofEvents (i + 1) g.frame.fn g.frame.place es ++ #[{ g := i + 1, fn := g₂.frame.fn, pos := g₂.frame.place, act := .send fd s }, { g := i + 1, fn := g₂.frame.fn, pos := g₂.frame.place, act := .sendDone fd s }])) (upd D i ⟨.eno, m, 0, (D i).tree⟩) d0 :=
  hcom.upd hi (by simp [hcom.size]) (fun i' _ hne => Array.getElem?_setIfInBounds_ne (by omega)) (by rw [Array.getElem?_setIfInBounds_self_of_lt (by rw [hcom.size]; omega)]) (.eno hk) (Nat.le_of_eq hAs.size.symm) (fun b hb _ _ => hAs.block b (by have := G.fdB fd efd; omega)) (fun _ _ => rfl) (fun _ h0 h1 => absurd h0 h1) (fun _ _ _ => hF _) htl2 (fun op hop => .inr (hug op hop).1) (by rw [Deaf_still t 0 _ fun op hop => (hug op hop).2]; exact hcom.deaf0) (by rw [Deaf_still t _ _ fun op hop => (hug op hop).2, hcom.deafW i hi, hdw]) (fun h => by omega) (fun _ h => by simp [WTag.stage] at h) hcom.Hn hcom.whoH (fun _ _ => rfl) (Nat.le_refl _)
   (fun k e => by cases e) (fun k' hk' => by
    rcases hcom.done k' hk' with ⟨i', h1, h2⟩ | h1
    ·by_cases e : i' = i
     ·subst e
      rw [hst] at h2; cases h2
      exact .inr (.inr (J.done k w w' (hcell k) hdn))
     ·exact .inr (.inl ⟨i', h1, e, h2⟩)
    ·exact .inr (.inr (J.done k' w w' (hcell k') h1))) (fun k' h1 h2 => J.pre k' w w' (hcell k') (hcom.pre k' h1 h2)) ⟨s1, r1, (hAs.block _ hfc.symm).trans hc⟩ (hcom.en.keep (hAs.block _ hfe.symm) (Nat.le_refl _)) hfnd' (fun _ => ⟨k, hkH, hp⟩) (fun _ _ => trivial) (fun _ => by simp)
 refine ⟨_, _, hrun, .inr ⟨_, ?_, _, w', sl, j, H, who, mkr, closed, _, tag, f0, d0, a, st, sm, rfl, by rw [Array.getElem?_setIfInBounds_ne (by omega)]; exact ha, hms.rely (hF own0), hcom', hwg.of_block (hAs.block _ hfw.symm), by rw [wd_upd]; exact mode_same hmode _ (by rw [hst]; rfl) (.inl rfl), hlink, fun r e i' hi' => ?_, hwb.trans (hF own0), rfl⟩⟩
 ·refine Prod.Lex.left _ _ ?_
  have e2 : Wsum j (upd D i ⟨.eno, m, 0, (D i).tree⟩) + (D i).tag.wt = Wsum j D + 13 := sumTo_upd D ⟨.eno, m, 0, (D i).tree⟩ (fun y => y.tag.wt) hi
  rw [Vw_same D i ⟨.eno, m, 0, (D i).tree⟩ (by rw [hst]; rfl)]
  have : (D i).tag.wt = 14 := by rw [hst]; rfl
  omega
 ·by_cases e' : i' = i
  ·subst e'; rw [upd_same]; simp
  ·rw [upd_ne D _ e']; exact hpk r e i' hi'
theorem enoStop (G : Geo φ) (J : Jobs φ n Pre Done) (hA : ∀ g w, An g w → g.status = .running) (hAr : ∀ g w, AnW g w → g.status = .running)
  (ha : gs[0]? = some a) (hms : MSit P φ n Pre Done An Nx AnW N tag (j - L) f0 d0 a w) (hcom : Com P φ n Pre Done An N0 L j H who mkr closed gs w t D d0)
  (hlink : Link φ n tag closed H) (hpk : ∀ r, tag = .hpk r → ∀ i, i < j → (D i).tag ≠ .prk) (hwb : Frm φ own0 wb w) (hwg : WgAt φ.ty φ.Wg w st sm) (hmode : Go.ConcN.Mode j (fun y => (D y).wd) tag.ct st sm)
  {i : Nat} (hi : i < j) {g : Goroutine} (hg : gs[i + 1]? = some g) (hst : (D i).tag = .eno) (hdw : (D i).deaf = 0) (h : EnoS P φ An g w) :
  Goal P φ n Pre Done An Nx AnW N N0 L wb (mphi n N L (Vw j D) tag + Wsum j D, (j, fun y => (D y).tree), f0 + 2 * Fsm j D) (runT P (crowd gs w sl) (i + 1)) t := by
 obtain ⟨_, g₂, v, z, sh, es, hstep, hev, hnext⟩ := h
 obtain ⟨buf, s, r, heh, hsz, hbk⟩ := hcom.en
 have hex := hcom.eno i hi hst
 have hLi : L ≤ i := hcom.lt_of (by rw [hst]; simp)
 have hstep' : stepG P (i + 1 == 0) g w = .comm g₂ #[scase φ.En v z] false sh w es := by rw [show (i + 1 == 0) = false by simp]; exact hstep
 obtain ⟨s1, r1, hc⟩ := hcom.ch
 have hst1 := ev_still (φ := φ) (g' := i + 1) (fn := g.frame.fn) (pos := g.frame.place) hev
 have htl1 : TL φ N0 L j who mkr (t ++ MemOp.ofEvents (i + 1) g.frame.fn g.frame.place es) := tl_ev G.apt hcom.tl (.inr ⟨by omega, by omega⟩) (g := 1) (by simp) hev
 have hlt2 : φ.En < w.heap.size := (Array.getElem?_eq_some_iff.1 heh).1
 have hlt1 : i + 1 < gs.size := by rw [hcom.size]; omega
 have hothers : ∀ y x, (gs.setIfInBounds (i + 1) ph)[y]? = some x → y ≠ 0 → offersAt x φ.En false = [] := fun y x hx hy0 => by
  rcases getElem?_stand gs (i + 1) y x hx with ⟨_, rfl⟩ | ⟨_, hx'⟩
  ·exact offersAt_ph _ _
  ·obtain ⟨y', rfl⟩ : ∃ y', y = y' + 1 := ⟨y - 1, by omega⟩
   have hlt : y' < j := by have := (Array.getElem?_eq_some_iff.1 hx').1; rw [hcom.size] at this; omega
   obtain ⟨x', hx'', hs⟩ := hcom.wk y' hlt
   rw [hx'] at hx''; cases hx''
   exact hs.noRecv hA G.chEn.symm
 have keep : ∀ (w' : World) (m : Nat) (gw : Goroutine) (gs' : Array Goroutine) (u : Trace), (∀ own, Frm φ own w w') → (∀ fd, φ.Fd = some fd → w'.heap[fd]? = w.heap[fd]?) → w'.heap[φ.Ch]? = w.heap[φ.Ch]? → EnOk φ H w' → (w.heap.size ≤ w'.heap.size ∧ ∀ b, φ.B ≤ b → b < w.heap.size → w'.heap[b]? = w.heap[b]?) → Goes P false (Frm φ own0) (DI φ own0 1) An m gw w' → gs'.size = j + 1 →
   (∀ i', i' < j → i' ≠ i → gs'[i' + 1]? = gs[i' + 1]?) → gs'[i + 1]? = some gw → TL φ N0 L j who mkr (t ++ u) → (∀ op ∈ u, (op.g = 0 ∨ op.g = i + 1) ∧ op.act ≠ .mark .disable ∧ op.act ≠ .mark .enable) →
   Com P φ n Pre Done An N0 L j H who mkr closed gs' w' (t ++ u) (upd D i ⟨.ret, m, 0, (D i).tree⟩) d0 := by
  intro w' m gw gs' u hF hfd hch hen ⟨hgr, hst0⟩ hk hsz' hoth hme htl hu
  have hcell : ∀ k b, φ.pb b → w'.cell? ⟨b, k, none⟩ = w.cell? ⟨b, k, none⟩ := fun k b hb => (hF fun _ => True).own b k hb trivial
  have hnj : ∀ k, (D i).tag ≠ .job k := fun k e => by rw [hst] at e; cases e
  exact hcom.upd hi hsz' hoth hme (.ret hk) hgr (fun b h1 h2 _ => hst0 b h1 h2) (fun _ _ => rfl) (fun _ h0 h1 => absurd h0 h1) (fun _ _ _ => hF _) htl (fun op hop => (hu op hop).1) (by rw [Deaf_still t 0 _ fun op hop => (hu op hop).2]; exact hcom.deaf0) (by rw [Deaf_still t _ _ fun op hop => (hu op hop).2, hcom.deafW i hi, hdw]) (fun h => by omega) (fun _ h => by simp [WTag.stage] at h) hcom.Hn hcom.whoH (fun _ _ => rfl) (Nat.le_refl _)
   (fun k e => by cases e) (fun k' hk' => by
    rcases hcom.done k' hk' with ⟨i', h1, h2⟩ | h1
    ·exact .inr (.inl ⟨i', h1, fun e => by subst e; exact hnj k' h2, h2⟩)
    ·exact .inr (.inr (J.done k' w w' (hcell k') h1))) (fun k' h1 h2 => J.pre k' w w' (hcell k') (hcom.pre k' h1 h2)) ⟨s1, r1, hch.trans hc⟩ hen (hcom.fnd.keep hfd (held_upd hi fun k => ⟨fun e => (by cases e), fun e => absurd e (hnj k)⟩)) (fun e => by cases e) (fun _ _ => trivial) (fun _ => by simp)
 have e2 : ∀ m, Wsum j (upd D i ⟨.ret, m, 0, (D i).tree⟩) + 1 = Wsum j D := fun m => by
  have := sumTo_upd D (⟨.ret, m, 0, (D i).tree⟩ : PD) (fun y => y.tag.wt) hi
  have h13 : (D i).tag.wt = 13 := by rw [hst]; rfl
  have h12 : (⟨.ret, m, 0, (D i).tree⟩ : PD).tag.wt = 12 := rfl
  simp only [Wsum]
  omega
 have ev : ∀ m, Vw j (upd D i ⟨.ret, m, 0, (D i).tree⟩) = Vw j D := fun m => Vw_same D i ⟨.ret, m, 0, (D i).tree⟩ (by rw [hst]; rfl)
 have hmode' : ∀ m (ct : CTag), ct = tag.ct → Go.ConcN.Mode j (fun y => (upd D i ⟨.ret, m, 0, (D i).tree⟩ y).wd) ct st sm := fun m ct e => by rw [wd_upd, e]; exact mode_same hmode _ (by rw [hst]; rfl) (.inl rfl)
 have hpk' : ∀ m r, tag = .hpk r → ∀ i', i' < j → (upd D i ⟨.ret, m, 0, (D i).tree⟩ i').tag ≠ .prk := fun m r e i' hi' => by
  by_cases e' : i' = i
  ·subst e'; rw [upd_same]; simp
  ·rw [upd_ne D _ e']; exact hpk r e i' hi'
 have hfdA : ∀ {w' : World}, Aside φ.En w w' → ∀ fd, φ.Fd = some fd → w'.heap[fd]? = w.heap[fd]? := fun hAs fd e => hAs.block _ fun e' => G.enFd (by rw [e, e'])
 by_cases hhp : ∃ r, tag = .hpk r
 ·obtain ⟨r0, rfl⟩ := hhp
  obtain ⟨rr, gm, z1, z2, shm, rfl, hNN, rfl, rfl, hr, rfl, hsel⟩ := hms.hpk_inv
  obtain ⟨rfl, hH⟩ := hlink
  have hce : ¬ φ.Ch = φ.En := G.chEn
  have hoff : offersAt (parked gm #[scase φ.Ch (.int .i64 ((n - (rr + 1) : Nat) : Int)) z1, rcase φ.En z2] shm) φ.En false = [1] := by simp [offersAt, parked, scase, rcase]
  have hz : (gs.setIfInBounds (i + 1) ph)[0]? = some (parked gm #[scase φ.Ch (.int .i64 ((n - (rr + 1) : Nat) : Int)) z1, rcase φ.En z2] shm) := stand_get (by omega) ha
  have hp : partners (gs.setIfInBounds (i + 1) ph) φ.En false = [(0, 1)] := by
   rw [partners_one hz (fun y x hy hx => hothers y x hx hy), hoff]; rfl
  have hrun := crowd_send_meets_sel (sl := sl) hg hstep' heh (by omega) ha (k := 1) rfl hp
  have hAs := aside_setChan w φ.En 1 buf false (s + 1) (r + 1) false
  have heh' : (w.setChan φ.En 1 buf false (s + 1) (r + 1) false).heap[φ.En]? = some (.chan 1 buf false (s + 1) (r + 1) false) := by simp [World.setChan, hlt2]
  generalize w.setChan φ.En 1 buf false (s + 1) (r + 1) false = w' at hrun hAs heh'
  have hF : ∀ own, Frm φ own w w' := fun own => Frm.of_en G hAs
  obtain ⟨⟨m, hk⟩, _⟩ := hnext w' (hF own0)
  obtain ⟨m₃, hk3⟩ := (hsel w' (hF own0)).2.2 v
  have htl2 := meet_ops (s := s) (r := r) (cap := 1) (x := i + 1) (y := 0) (f1 := g₂.frame.fn) (f2 := gm.frame.fn) (p1 := g₂.frame.place) (p2 := gm.frame.place) htl1 G.enB
  rw [Array.append_assoc] at htl2
  have hcom' := keep w' m _ _ hF (hfdA hAs) (hAs.block _ G.chEn) ⟨buf, s + 1, r + 1, heh', hsz, hbk⟩ ⟨Nat.le_of_eq hAs.size.symm, fun b hb _ => hAs.block b (by have := G.enB; omega)⟩ hk (gs' := (gs.setIfInBounds 0 (gm.finishComm P #[scase φ.Ch (.int .i64 ((n - (rr + 1) : Nat) : Int)) z1, rcase φ.En z2] shm 1 v true)).setIfInBounds (i + 1) (g₂.finishComm P #[scase φ.En v z] sh 0 undef false)) (by simp [hcom.size])
   (fun i' hi' hne => by rw [Array.getElem?_setIfInBounds_ne (by omega), Array.getElem?_setIfInBounds_ne (by omega)]) (by rw [Array.getElem?_setIfInBounds_self_of_lt (by simpa using hlt1)]) htl2 (fun op hop => by
    rcases Array.mem_append.1 hop with h' | h'
    ·exact ⟨.inr (g_of_ofEvents op h'), hst1 op h'⟩
    ·simp only [List.mem_toArray, List.mem_cons, List.not_mem_nil, or_false] at h'
     rcases h' with rfl | rfl | rfl | rfl <;> simp)
  refine ⟨_, _, hrun, .inr ⟨_, ?_, _, w', sl, j, H, who, mkr, false, _, .cls, m₃, 0, _, st, sm, rfl, ?_, by rw [hNN]; exact .cls hk3, hcom', hwg.of_block (hAs.block _ G.wgEn), hmode' m _ rfl, ⟨rfl, hcom.Hn, .inr hex⟩, (by simp), hwb.trans (hF own0), rfl⟩⟩
  ·refine Prod.Lex.left _ _ ?_
   have := e2 m
   rw [ev m]
   simp only [mphi]
   omega
  ·rw [Array.getElem?_setIfInBounds_ne (by omega), Array.getElem?_setIfInBounds_self_of_lt (by omega)]; rfl
 ·have hnm : ∀ r, tag ≠ .hpk r := fun r e => hhp ⟨r, e⟩
  have hp : partners (gs.setIfInBounds (i + 1) ph) φ.En false = [] := partners_nil fun y x hx => by
   by_cases hy : y = 0
   ·subst hy
    rcases getElem?_stand gs (i + 1) 0 x hx with ⟨h', _⟩ | ⟨_, hx'⟩
    ·omega
    ·rw [ha] at hx'; cases hx'
     exact hms.noOffer hAr hnm _ _
   ·exact hothers y x hx hy
  have h0' : ∀ y : Goroutine, (gs.setIfInBounds (i + 1) y)[0]? = some a := fun y => by rw [Array.getElem?_setIfInBounds_ne (by omega)]; exact ha
  by_cases hroom : buf.size < 1
  ·have hrun := crowd_send_room (sl := sl) hg hstep' heh hroom hp
   have hAs := aside_setChan w φ.En 1 (buf.push v) false (s + 1) r false
   have heh' : (w.setChan φ.En 1 (buf.push v) false (s + 1) r false).heap[φ.En]? = some (.chan 1 (buf.push v) false (s + 1) r false) := by simp [World.setChan, hlt2]
   generalize w.setChan φ.En 1 (buf.push v) false (s + 1) r false = w' at hrun hAs heh'
   have hF : ∀ own, Frm φ own w w' := fun own => Frm.of_en G hAs
   obtain ⟨⟨m, hk⟩, _⟩ := hnext w' (hF own0)
   have htl2 := two_ops (s := s) (x := i + 1) (f1 := g₂.frame.fn) (p1 := g₂.frame.place) htl1 G.enB
   rw [Array.append_assoc] at htl2
   have hcom' := keep w' m _ _ hF (hfdA hAs) (hAs.block _ G.chEn) ⟨buf.push v, s + 1, r, heh', by rw [Array.size_push]; omega, fun _ => hex⟩ ⟨Nat.le_of_eq hAs.size.symm, fun b hb _ => hAs.block b (by have := G.enB; omega)⟩ hk (gs' := gs.setIfInBounds (i + 1) (g₂.finishComm P #[scase φ.En v z] sh 0 undef false)) (by simp [hcom.size]) (fun i' hi' hne => Array.getElem?_setIfInBounds_ne (by omega)) (by rw [Array.getElem?_setIfInBounds_self_of_lt hlt1]) htl2 (fun op hop => by
     rcases Array.mem_append.1 hop with h' | h'
     ·exact ⟨.inr (g_of_ofEvents op h'), hst1 op h'⟩
     ·simp only [List.mem_toArray, List.mem_cons, List.not_mem_nil, or_false] at h'
      rcases h' with rfl | rfl <;> simp)
   refine ⟨_, _, hrun, .inr ⟨_, ?_, _, w', sl, j, H, who, mkr, closed, _, tag, f0, d0, a, st, sm, rfl, h0' _, hms.rely (hF own0), hcom', hwg.of_block (hAs.block _ G.wgEn), hmode' m _ rfl, hlink, hpk' m, hwb.trans (hF own0), rfl⟩⟩
   refine Prod.Lex.left _ _ ?_
   have := e2 m
   rw [ev m]
   omega
  ·have hrun := crowd_default (sl := sl) hg hstep' (fun cc hcc => by
    simp only [List.mem_toArray, List.mem_cons, List.not_mem_nil, or_false] at hcc
    subst hcc
    exact ways_send_none heh (by omega) hp)
   obtain ⟨_, ⟨m, hk⟩⟩ := hnext w (.refl w)
   have hcom' := keep w m _ _ (fun _ => .refl w) (fun _ _ => rfl) rfl ⟨buf, s, r, heh, hsz, hbk⟩ ⟨Nat.le_refl _, fun _ _ _ => rfl⟩ hk (gs' := gs.setIfInBounds (i + 1) (g₂.finishComm P #[scase φ.En v z] sh (-1) undef false)) (by simp [hcom.size]) (fun i' hi' hne => Array.getElem?_setIfInBounds_ne (by omega)) (by rw [Array.getElem?_setIfInBounds_self_of_lt hlt1]) htl1 (fun op hop => ⟨.inr (g_of_ofEvents op hop), hst1 op hop⟩)
   refine ⟨_, _, hrun, .inr ⟨_, ?_, _, w, sl, j, H, who, mkr, closed, _, tag, f0, d0, a, st, sm, rfl, h0' _, hms, hcom', hwg, hmode' m _ rfl, hlink, hpk' m, hwb, rfl⟩⟩
   refine Prod.Lex.left _ _ ?_
   have := e2 m
   rw [ev m]
   omega
set_option maxHeartbeats 1600000 in
theorem stepWorker (G : Geo φ) (J : Jobs φ n Pre Done) (hA : ∀ g w, An g w → g.status = .running) (hAr : ∀ g w, AnW g w → g.status = .running) (hN : N < 2147483648)
  (hAn : ∀ g w, An g w → ∃ m, Goes P false (Frm φ own0) (DI φ own0 1) (RecvS P φ n Pre Done An) m g w)
  (ha : gs[0]? = some a) (hms : MSit P φ n Pre Done An Nx AnW N tag (j - L) f0 d0 a w) (hcom : Com P φ n Pre Done An N0 L j H who mkr closed gs w t D d0)
  (hlink : Link φ n tag closed H) (hpk : ∀ r, tag = .hpk r → ∀ i, i < j → (D i).tag ≠ .prk) (hwb : Frm φ own0 wb w) (hwg : WgAt φ.ty φ.Wg w st sm) (hmode : Go.ConcN.Mode j (fun y => (D y).wd) tag.ct st sm)
  {i : Nat} (hi : i < j) {g : Goroutine} (hg : gs[i + 1]? = some g) (hrun : g.status = .running) :
  Goal P φ n Pre Done An Nx AnW N N0 L wb (mphi n N L (Vw j D) tag + Wsum j D, (j, fun y => (D y).tree), f0 + 2 * Fsm j D) (runT P (crowd gs w sl) (i + 1)) t := by
 obtain ⟨g₁, hg₁, hs⟩ := hcom.wk i hi
 obtain rfl : g = g₁ := by rw [hg] at hg₁; exact Option.some.inj hg₁
 generalize hst : (D i).tag = s at hs
 generalize hfu : (D i).fuel = m at hs
 generalize hde : (D i).deaf = dd at hs
 have hb := hms.bound
 have hV := hcom.Vle
 have hdk : Deaf t (i + 1) = dd := by rw [hcom.deafW i hi, hde]
 have hLi : s ≠ .quit → L ≤ i := fun h => hcom.lt_of (by rw [hst]; exact h)
 have notjob : (∀ k, s ≠ .job k) → ∀ k, (D i).tag ≠ .job k := fun h k e => h k (hst ▸ e)
 have noearly : ¬ s.early → closed = false → L ≤ i → ∀ x : WTag, x.early := fun h hc hL => absurd (hst ▸ hcom.opn hc i hL hi) h
 have idle : ∀ {g' : Goroutine} {w' : World} {es : Array Event} {m' : Nat}, stepG P false g w = .go g' w' es → DI φ own0 1 w w' es → WSit P φ n Pre Done An (fun b => mkr b = i + 1) (D i).tree s m' dd g' w' → m' + 1 = m → s.stage = 7 → (∀ k, s ≠ .job k) → s ≠ .prk →
   Goal P φ n Pre Done An Nx AnW N N0 L wb (mphi n N L (Vw j D) tag + Wsum j D, (j, fun y => (D y).tree), f0 + 2 * Fsm j D) (runT P (crowd gs w sl) (i + 1)) t := by
  intro g' w' es m' hgo ⟨⟨d, hd⟩, hev⟩ hs' hm h7 hnj hnp
  subst hd
  have hq : s ≠ .quit := fun e => by rw [e] at h7; cases h7
  exact workerStep (x := ⟨s, m', dd, (D i).tree⟩) J hA hAr ha hms hcom hlink hpk hwb hi hg hgo (fun own _ => Frm.at w d) rfl rfl (fun _ _ => rfl) (fun _ _ _ _ => rfl) (fun _ _ => rfl) (fun _ h0 h1 => absurd h0 h1) hs' (tl_ev G.apt hcom.tl (.inr ⟨by have := hLi hq; omega, by omega⟩) (g := 1) (by simp) hev)
   (by rw [hde]; exact ep_still hev dd) (fun h => absurd (hLi hq) (by omega)) (fun _ h => by simp only [h7] at h; omega) (fun k e => absurd e (hnj k)) (fun k e => absurd e (notjob hnj k)) (fun e => hst.trans e) (fun hc hL => by have := hcom.opn hc i hL hi; rwa [hst] at this) hnp hwg
   (fun tag' ht _ => mode_same hmode _ (by rw [hst]) ht) (.inr ⟨hst.symm, .inl ⟨rfl, by rw [hfu]; exact hm⟩⟩)
 have bookG : ∀ {g' : Goroutine} {w' : World} {es : Array Event} {x : PD} {st' sm' : Int}, stepG P false g w = .go g' w' es → Aside φ.Wg w w' → WgAt φ.ty φ.Wg w' st' sm' → (∀ e ∈ es, Bk φ.Wg e) →
   (∀ jx e, es[jx]? = some e → (MemAct.ofEvent e).touch? = none ∨ 0 < deafBehind dd (es.extract 0 jx)) → WSit P φ n Pre Done An (fun b => mkr b = i + 1) x.tree x.tag x.fuel x.deaf g' w' → deafBehind dd es = x.deaf → s.stage ≤ 6 → x.tag.stage ≤ 6 → (i < L → x.tag = .quit) →
   (∀ tag', (tag' = tag ∨ (tag = .c .blk ∧ tag' = .c .w3)) → (mayWake P g = true → g'.status = .running → tag' ≠ .c .blk) → Go.ConcN.Mode j (upd (fun y => (D y).wd) i x.wd) tag'.ct st' sm') → ((x.tag.wt < s.wt ∧ cnt x.wd ≤ cnt (D i).wd) ∨ (x.tag = s ∧ ((x.tree = (D i).tree ∧ x.fuel + 1 = m) ∨ Tree.Sub x.tree (D i).tree))) →
   Goal P φ n Pre Done An Nx AnW N N0 L wb (mphi n N L (Vw j D) tag + Wsum j D, (j, fun y => (D y).tree), f0 + 2 * Fsm j D) (runT P (crowd gs w sl) (i + 1)) t := by
  intro g' w' es x st' sm' hgo hAs hwg' hbk hd hs' hdd h6 hx6 hold hmode' hlt
  have htl : TL φ N0 L j who mkr (t ++ MemOp.ofEvents (i + 1) g.frame.fn g.frame.place es) := by
   obtain ⟨b1, b2, b3⟩ := bk_ops G (own := fun k => who k = i + 1 ∧ i + 1 ≠ 0) (mine := fun b => mkr b = i + 1 ∧ i + 1 ≠ 0) (g := i + 1) (fn := g.frame.fn) (pos := g.frame.place) hbk
   rcases Nat.lt_or_ge i L with hl | hl
   ·refine hcom.tl.mute (fun op hop => ?_) b2 b3
    obtain ⟨e, he, rfl⟩ := Go.Conc.mem_ofEvents hop
    have hq := hcom.old i hl
    rw [hst] at hq
    subst hq
    rcases hs with h | h | h | h | h | h | h | h | h | h | h | h
    cases m with
    | zero => rw [h.1] at hrun; cases hrun
    | succ q =>
     rcases h with ⟨hf, _⟩ | ⟨_, g'', es', hmute, hstep, _⟩
     ·rw [hf] at hrun; cases hrun
     ·have := hstep w
      rw [hgo] at this
      cases this
      exact touch_mute (hmute e he)
   ·exact hcom.tl.app G.apt (.inr ⟨by omega, by omega⟩) g_of_ofEvents b1 (fun op hop => .inl (b2 op hop)) b3
  have hx7 : ∀ k, x.tag ≠ .job k := fun k e => by rw [e] at hx6; simp [WTag.stage] at hx6
  have hs7 : ∀ k, s ≠ .job k := fun k e => by rw [e] at h6; simp [WTag.stage] at h6
  exact workerStep (x := x) J hA hAr ha hms hcom hlink hpk hwb hi hg hgo (fun own _ => Frm.of_wg G hAs ⟨_, _, hwg'⟩) (hAs.block _ G.wgCh.symm) (hAs.block _ G.wgEn.symm) (fun fd e => hAs.block _ fun e' => G.wgFd (by rw [e, e'])) (fun b hb _ _ => hAs.block b (by have := G.wgB; omega)) (fun _ _ => rfl) (fun _ h0 h1 => absurd h0 h1) hs' htl
   (by rw [hde]; exact hdd) hold (fun hL _ => let ⟨r, hr⟩ := hcom.rel i hL hi (by rw [hst]; exact h6); ⟨r, hr.book hdk _ _ hbk hd⟩) (fun k e => absurd e (hx7 k)) (fun k e => absurd e (notjob hs7 k)) (fun e => by rw [e] at hx6; simp [WTag.stage] at hx6)
   (fun hc hL => noearly (fun e => by cases s <;> first | exact e | (simp [WTag.stage] at h6)) hc hL _) (fun e => by rw [e] at hx6; simp [WTag.stage] at hx6) hwg' hmode' (by rw [hst, hfu]; exact hlt)
 have idle6 : ∀ {g' : Goroutine} {m' : Nat}, stepG P false g w = .go g' w #[] → WSit P φ n Pre Done An (fun b => mkr b = i + 1) (D i).tree s m' dd g' w → m' + 1 = m → s.stage ≤ 6 → s ≠ .quit →
   Goal P φ n Pre Done An Nx AnW N N0 L wb (mphi n N L (Vw j D) tag + Wsum j D, (j, fun y => (D y).tree), f0 + 2 * Fsm j D) (runT P (crowd gs w sl) (i + 1)) t := by
  intro g' m' hgo hs' hm h6 hq
  exact bookG (x := ⟨s, m', dd, (D i).tree⟩) hgo (.refl φ.Wg w) hwg (by simp) (by simp) hs' rfl h6 h6 (fun h => absurd (hLi hq) (by omega)) (fun tag' ht _ => mode_same hmode _ (by rw [hst]) ht) (.inr ⟨rfl, .inl ⟨rfl, hm⟩⟩)
 have ws : (D i).wd.stage = s.stage := by show (D i).tag.stage = _; rw [hst]
 have hn7 : ∀ x : PD, x.tag.stage ≤ 4 → cnt x.wd ≤ cnt (D i).wd := fun x hx => by
  show (if 5 ≤ x.tag.stage then 1 else 0) ≤ _
  rw [if_neg (by omega)]; exact Nat.zero_le _
 cases hs with
 | rcv h => exact rcvStep G J hA hAr ha hms hcom hlink hpk hwb hwg hmode hi hg hst hde (by rw [hfu]; exact h)
 | prk h => simp [parked] at hrun
 | job hL h =>
  rename_i k LL
  obtain ⟨hkH, hwk⟩ := hcom.held i k hi hst
  obtain ⟨s1, r1, hc1⟩ := hcom.ch
  have hLi' := hLi (by simp)
  rcases GoesT.cases h with hstop | ⟨ft, hft, hstep⟩
  ·obtain ⟨hdn, ⟨hnp, han⟩ | ⟨hp, hfs⟩⟩ := hstop w ⟨.refl w, fun _ _ => rfl⟩
   rotate_left
   ·exact fndStop G J hA hAr ha hms hcom hlink hpk hwb hwg hmode hi hg hst hde hp hdn hfs
   obtain ⟨m₂, hk⟩ := hAn g w han
   have hfnd' : Fnd φ n j H (upd D i ⟨.rcv, m₂, 0, (D i).tree⟩) w := fun fd e => by
    obtain ⟨l, s, r, h1, h2, h3, h4⟩ := hcom.fnd fd e
    refine ⟨l, s, r, h1, h2, fun k' hk' => ⟨(h3 k' hk').1, (h3 k' hk').2.1, fun ⟨i', h5, h6⟩ => ?_⟩, fun k' hk' hp' => (h4 k' hk' hp').imp (fun ⟨i', h5, h6⟩ => ⟨i', h5, ?_⟩) id⟩
    ·by_cases e' : i' = i
     ·subst e'; rw [upd_same] at h6; cases h6
     ·rw [upd_ne D _ e'] at h6; exact (h3 k' hk').2.2 ⟨i', h5, h6⟩
    ·rw [upd_ne D _ fun e' => ?_]
     ·exact h6
     ·subst e'; rw [hst] at h6; cases h6; exact hnp hp'
   have hcom' : Com P φ n Pre Done An N0 L j H who mkr closed gs w (t ++ #[]) (upd D i ⟨.rcv, m₂, 0, (D i).tree⟩) d0 :=
    hcom.upd hi hcom.size (fun _ _ _ => rfl) hg (.rcv hk) (Nat.le_refl _) (fun _ _ _ _ => rfl) (fun _ _ => rfl) (fun _ h0 h1 => absurd h0 h1) (fun _ _ _ => .refl w) (by simpa using hcom.tl) (by simp) (by simpa using hcom.deaf0) (by simpa [hde] using hcom.deafW i hi) (fun h => by omega) (fun _ h => by simp [WTag.stage] at h) hcom.Hn hcom.whoH (fun _ _ => rfl) (Nat.le_refl _)
     (fun k e => by cases e) (fun k' hk' => by
      rcases hcom.done k' hk' with ⟨i', h1, h2⟩ | h1
      ·by_cases e : i' = i
       ·subst e
        rw [hst] at h2; cases h2
        exact .inr (.inr hdn)
       ·exact .inr (.inl ⟨i', h1, e, h2⟩)
      ·exact .inr (.inr h1)) hcom.pre ⟨s1, r1, hc1⟩ hcom.en hfnd' (fun e => by cases e) (fun _ _ => trivial) (fun _ => by simp)
   have et : t ++ #[] = t := by simp
   rw [et] at hcom'
   have hx := rcvStep (sl := sl) G J hA hAr ha hms hcom' hlink (fun r e i' hi' => by
     by_cases e' : i' = i
     ·subst e'; rw [upd_same]; simp
     ·rw [upd_ne D _ e']; exact hpk r e i' hi') hwb hwg (by rw [wd_upd]; exact mode_same hmode _ (by rw [hst]; rfl) (.inl rfl)) hi hg (by rw [upd_same]) (by rw [upd_same]) (by rw [upd_same]; exact hk)
   refine hx.mono (Prod.Lex.left _ _ ?_)
   have e2 : Wsum j (upd D i ⟨.rcv, m₂, 0, (D i).tree⟩) + (D i).tag.wt = Wsum j D + 11 := sumTo_upd D ⟨.rcv, m₂, 0, (D i).tree⟩ (fun y => y.tag.wt) hi
   rw [Vw_same D i ⟨.rcv, m₂, 0, (D i).tree⟩ (by rw [hst]; rfl)]
   have : (D i).tag.wt = 14 := by rw [hst]; rfl
   omega
  ·obtain ⟨g', w', es, hgo, ⟨hjob, hev⟩, L', hL', hg'⟩ := hstep w ⟨.refl w, fun _ _ => rfl⟩
   have hbase := hcom.base
   have hLB : ∀ b ∈ LL, φ.B ≤ b := fun b hb => (hcom.mkB b (by rw [hL b hb]; omega)).1
   obtain ⟨mk', hmk'⟩ : ∃ mk' : Nat → Nat, ∀ b, mk' b = if w.heap.size ≤ b ∧ b < w'.heap.size then i + 1 else mkr b := ⟨_, fun _ => rfl⟩
   have hmk : ∀ b, mkr b ≠ 0 → mk' b = mkr b := fun b hb => by rw [hmk', if_neg (by have := hcom.mkB b hb; omega)]
   have hnew : ∀ b, (b ∈ LL ∨ (w.heap.size ≤ b ∧ b < w'.heap.size)) → mk' b = i + 1 := fun b hb => by
    rcases hb with hb | hb
    ·rw [hmk b (by rw [hL b hb]; omega)]; exact hL b hb
    ·rw [hmk', if_pos hb]
   have hmk0 : ∀ b, mkr b = 0 → mk' b ≠ 0 → mk' b = i + 1 ∧ w.heap.size ≤ b ∧ b < w'.heap.size := fun b h0 h1 => by
    rw [hmk'] at h1 ⊢
    by_cases e : w.heap.size ≤ b ∧ b < w'.heap.size
    ·rw [if_pos e]; exact ⟨rfl, e⟩
    ·rw [if_neg e] at h1; exact absurd h0 h1
   have low : ∀ b, b < φ.B → ¬ φ.pb b → w'.heap[b]? = w.heap[b]? := fun b hlt hp => hjob.block b (by omega) hp fun hm => by have := hLB b hm; omega
   have htl : TL φ N0 L j who mk' (t ++ MemOp.ofEvents (i + 1) g.frame.fn g.frame.place es) := by
    obtain ⟨b1, b2, b3⟩ := ej_ops (g' := i + 1) (fn := g.frame.fn) (pos := g.frame.place) (own := fun k => who k = i + 1 ∧ i + 1 ≠ 0) (mine := fun b => mk' b = i + 1 ∧ i + 1 ≠ 0) hev ⟨hwk, by omega⟩ (fun b hb => ⟨hnew b hb, by omega⟩)
    exact (hcom.tl.made hmk).app G.apt (.inr ⟨by omega, by omega⟩) g_of_ofEvents b1 (fun op hop => (b2 op hop).imp id fun ⟨b, ⟨e, _⟩, h2⟩ => ⟨b, by rw [e]; omega, h2⟩) b3
   exact workerStep (mk' := mk') (x := ⟨.job k, m, 0, ft w⟩) J hA hAr ha hms hcom hlink hpk hwb hi hg hgo (fun own ho => Frm.of_job G hjob hbase hLB fun k' hk' e => ho k hst (e ▸ hk')) (low _ G.chB G.chpb) (low _ G.enB G.enpb) (fun fd e => low _ (G.fdB fd e) (G.fdpb fd e))
    (fun b hb hlt hne => hjob.block b hlt (fun hp => by have := G.pbB b hp; omega) fun hm => hne (hL b hm)) hmk hmk0 (.job (fun b hb => hnew b (hL' b hb)) hg') htl
    (by rw [hde]; exact deafBehind_still (fun e he => ⟨(hev e he).2.1, (hev e he).2.2.1⟩) 0) (fun h => by omega) (fun _ h => by simp [WTag.stage] at h) (fun k' e => by cases e; exact hst) (fun k' e => by rw [hst] at e; cases e; rfl) (fun e => by cases e) (fun _ _ => trivial) (by simp) (hwg.of_block (low _ G.wgB G.wgpb))
    (fun tag' ht _ => mode_same hmode _ (by rw [hst]) ht) (.inr ⟨hst.symm, .inr ⟨ft, w, hft, rfl⟩⟩)
 | eno h =>
  rcases Goes.cases h with hstop | ⟨m', rfl, hstep⟩
  ·exact enoStop G J hA hAr ha hms hcom hlink hpk hwb hwg hmode hi hg hst hde (hstop w (.refl w))
  ·obtain ⟨g', w', es, hgo, hD, hg'⟩ := hstep w (.refl w)
   exact idle hgo hD (.eno hg') rfl rfl (by simp) (by simp)
 | ret h =>
  rcases Goes.cases h with hstop | ⟨m', rfl, hstep⟩
  ·obtain ⟨m₂, hk⟩ := hAn g w (hstop w (.refl w))
   obtain ⟨s1, r1, hc1⟩ := hcom.ch
   have hLi' := hLi (by simp)
   have hnj : ∀ k, (D i).tag ≠ .job k := fun k e => by rw [hst] at e; cases e
   have hcom' : Com P φ n Pre Done An N0 L j H who mkr closed gs w (t ++ #[]) (upd D i ⟨.rcv, m₂, 0, (D i).tree⟩) d0 :=
    hcom.upd hi hcom.size (fun _ _ _ => rfl) hg (.rcv hk) (Nat.le_refl _) (fun _ _ _ _ => rfl) (fun _ _ => rfl) (fun _ h0 h1 => absurd h0 h1) (fun _ _ _ => .refl w) (by simpa using hcom.tl) (by simp) (by simpa using hcom.deaf0) (by simpa [hde] using hcom.deafW i hi) (fun h => by omega) (fun _ h => by simp [WTag.stage] at h) hcom.Hn hcom.whoH (fun _ _ => rfl) (Nat.le_refl _)
     (fun k e => by cases e) (fun k' hk' => by
      rcases hcom.done k' hk' with ⟨i', h1, h2⟩ | h1
      ·exact .inr (.inl ⟨i', h1, fun e => by subst e; exact hnj k' h2, h2⟩)
      ·exact .inr (.inr h1)) hcom.pre ⟨s1, r1, hc1⟩ hcom.en (hcom.fnd.keep (fun _ _ => rfl) (held_upd hi fun k => ⟨fun e => (by cases e), fun e => absurd e (hnj k)⟩)) (fun e => by cases e) (fun _ _ => trivial) (fun _ => by simp)
   have et : t ++ #[] = t := by simp
   rw [et] at hcom'
   have hx := rcvStep (sl := sl) G J hA hAr ha hms hcom' hlink (fun r e i' hi' => by
     by_cases e' : i' = i
     ·subst e'; rw [upd_same]; simp
     ·rw [upd_ne D _ e']; exact hpk r e i' hi') hwb hwg (by rw [wd_upd]; exact mode_same hmode _ (by rw [hst]; rfl) (.inl rfl)) hi hg (by rw [upd_same]) (by rw [upd_same]) (by rw [upd_same]; exact hk)
   refine hx.mono (Prod.Lex.left _ _ ?_)
   have e2 : Wsum j (upd D i ⟨.rcv, m₂, 0, (D i).tree⟩) + (D i).tag.wt = Wsum j D + 11 := sumTo_upd D ⟨.rcv, m₂, 0, (D i).tree⟩ (fun y => y.tag.wt) hi
   rw [Vw_same D i ⟨.rcv, m₂, 0, (D i).tree⟩ (by rw [hst]; rfl)]
   have : (D i).tag.wt = 12 := by rw [hst]; rfl
   omega
  ·obtain ⟨g', w', es, hgo, hD, hg'⟩ := hstep w (.refl w)
   exact idle hgo hD (.ret hg') rfl rfl (by simp) (by simp)
 | out h =>
  have hLi' := hLi (by simp)
  rcases Goes.cases h with hstop | ⟨m', rfl, hstep⟩
  ·obtain ⟨_, g', hgo, m₂, hk⟩ := hstop w (.refl w)
   have htl : TL φ N0 L j who mkr (t ++ MemOp.ofEvents (i + 1) g.frame.fn g.frame.place #[mk (.releaseMerge (stA φ.Wg))]) := by
    refine hcom.tl.mute (fun op hop => ?_) (fun op hop => ?_) (fun op hop => ?_) <;> obtain ⟨e, he, rfl⟩ := Go.Conc.mem_ofEvents hop <;> simp only [List.mem_toArray, List.mem_cons, List.not_mem_nil, or_false] at he <;> subst he
    ·rfl
    ·exact G.wgB
    ·simp [mk, MemAct.ofEvent]
   exact workerStep (x := ⟨.k1, m₂, 0, (D i).tree⟩) J hA hAr ha hms hcom hlink hpk hwb hi hg hgo (fun own _ => .refl w) rfl rfl (fun _ _ => rfl) (fun _ _ _ _ => rfl) (fun _ _ => rfl) (fun _ h0 h1 => absurd h0 h1) (.k1 hk) htl (by rw [hde]; rfl) (fun h => by omega) (fun _ _ => ⟨t.size, RelBy.new hdk _ _⟩) (fun k e => by cases e) (fun k e => by rw [hst] at e; cases e) (fun e => by cases e)
    (fun hc hL => noearly id hc hL _) (by simp) hwg (fun _ ht _ => Mode.retag (Mode.counted hmode hi (by rw [ws]; simp [WTag.stage]) (.inl rfl) _ _) (ct_retag ht)) (.inl ⟨by rw [hst]; simp [WTag.wt], by simp [cnt, PD.wd, hst, WTag.stage]⟩)
  ·obtain ⟨g', w', es, hgo, hD, hg'⟩ := hstep w (.refl w)
   exact idle hgo hD (.out hg') rfl rfl (by simp) (by simp)
 | k1 h =>
  have hLi' := hLi (by simp)
  rcases Goes.cases h with hstop | ⟨m', rfl, hstep⟩
  ·obtain ⟨_, g', hgo, m₂, hk⟩ := hstop w (.refl w)
   exact bookG (x := ⟨.d1, m₂, 1, (D i).tree⟩) hgo (.refl φ.Wg w) hwg (by intro e he; simp at he; subst he; exact .inl rfl) (by intro jx e he; exact .inl (by have := Array.mem_of_getElem? he; simp at this; subst this; rfl)) (.d1 hk) rfl (by simp [WTag.stage]) (by simp [WTag.stage]) (fun h => by omega)
    (fun _ ht _ => Mode.retag (Mode.counted hmode hi (by rw [ws]; simp [WTag.stage]) (.inr rfl) _ _) (ct_retag ht)) (.inl ⟨by simp [WTag.wt], by simp [cnt, PD.wd, hst, WTag.stage]⟩)
  ·obtain ⟨g', w', es, hgo, ⟨rfl, rfl⟩, hg'⟩ := hstep w (.refl w)
   exact idle6 hgo (.k1 hg') rfl (by simp [WTag.stage]) (by simp)
 | d1 h =>
  have hLi' := hLi (by simp)
  rcases Goes.cases h with hstop | ⟨m', rfl, hstep⟩
  ·obtain ⟨_, hall⟩ := hstop w (.refl w)
   have hc1 : cnt (D i).wd = 1 := by simp [cnt, PD.wd, hst, WTag.stage]
   have hV1 : 1 ≤ Vw j D := by have := le_sumTo (f := fun x => cnt (D x).wd) hi; simp only [Vw, Vc]; omega
   have bk2 : ∀ e ∈ #[rd (stA φ.Wg), wr (stA φ.Wg)], Bk φ.Wg e := by intro e he; simp at he; rcases he with rfl | rfl <;> exact bk_cell _ _ rfl
   have df2 : ∀ jx e, (#[rd (stA φ.Wg), wr (stA φ.Wg)] : Array Event)[jx]? = some e → (MemAct.ofEvent e).touch? = none ∨ 0 < deafBehind 1 ((#[rd (stA φ.Wg), wr (stA φ.Wg)] : Array Event).extract 0 jx) := by
    intro jx e he
    match jx, he with
    | 0, _ => exact .inr (by simp [deafBehind])
    | 1, _ => exact .inr (by simp [deafBehind, rd])
    | jx + 2, he => simp at he
   have hq0 : ∀ q, cnt (⟨1, q, 1⟩ : WD) = 0 := fun _ => rfl
   have opq : ∀ q, OpenSt j (fun y => (D y).wd) → OpenSt j (upd (fun y => (D y).wd) i ⟨1, q, 1⟩) := fun q h a ha => by
    by_cases e : a = i
    ·subst e; rw [upd_same]; simp
    ·rw [upd_ne _ _ e]; exact h a ha
   have notfin : ¬ ((D i).wd.stage = 1) := by rw [ws]; simp [WTag.stage]
   generalize hct : tag.ct = ct at hmode
   cases hmode with
   | opn h1 h2 h3 =>
    obtain ⟨v, hv⟩ : ∃ v, Vw j D + pend ct = v + 1 := ⟨Vw j D + pend ct - 1, by omega⟩
    have hvb : v < 2147483647 := by rw [hct] at hb; omega
    have hv0 : Vc j (fun y => (D y).wd) + pend ct = v + 1 := hv
    rw [hv0] at hwg
    have hw1 : WgAt φ.ty φ.Wg w (((v : Nat) + 1) * KK + ((0 : Nat) : Int)) 0 := by simpa using hwg
    obtain ⟨g', hgo, _, hq⟩ := hall v 0 (by omega) hvb hw1
    obtain ⟨q, hq⟩ := hq (by omega)
    have hv' : Vc j (upd (fun y => (D y).wd) i ⟨1, q, 1⟩) + pend ct = v := by have := Vc_upd (fun y => (D y).wd) (⟨1, q, 1⟩ : WD) hi; have := hq0 q; omega
    refine bookG (x := ⟨.quit, q, 1, (D i).tree⟩) hgo (aside_setCell w (stA φ.Wg) _) (hwg.setSt _) bk2 df2 (.quit hq) rfl (by simp [WTag.stage]) (by simp [WTag.stage]) (fun _ => rfl) (fun tag' ht _ => Mode.retag ?_ (ct_retag ht)) (.inl ⟨by simp [WTag.wt], hn7 _ (by simp [WTag.stage])⟩)
    have e : ((v : Nat) : Int) * KK + ((0 : Nat) : Int) = ((Vc j (upd (fun y => (D y).wd) i ⟨1, q, 1⟩) + pend ct : Nat) : Int) * KK := by rw [hv']; simp
    rw [e, hct]
    exact .opn h1 (opq q h2) (fun vs ev => by have := h3 vs ev; show Vc j (upd (fun y => (D y).wd) i ⟨1, q, 1⟩) ≤ vs ∧ 1 ≤ vs; omega)
   | reg h1 h2 h3 =>
    obtain ⟨v, hv⟩ : ∃ v, Vc j (fun y => (D y).wd) = v + 1 := ⟨Vw j D - 1, by simp only [Vw] at hV1 ⊢; omega⟩
    rw [hv] at hwg
    have hp : pend ct = 0 := by cases ct <;> first | rfl | exact h1.elim
    have hvb : v < 2147483647 := by rw [hct] at hb; have : Vw j D = v + 1 := hv; omega
    have hw1 : WgAt φ.ty φ.Wg w (((v : Nat) + 1) * KK + ((1 : Nat) : Int)) 0 := by simpa using hwg
    obtain ⟨g', hgo, hl, hq⟩ := hall v 1 (by omega) hvb hw1
    by_cases hv0 : v = 0
    ·subst hv0
     obtain ⟨m₂, hk⟩ := hl ⟨rfl, rfl⟩
     refine bookG (x := ⟨.d2, m₂, 1, (D i).tree⟩) hgo (aside_setCell w (stA φ.Wg) _) (hwg.setSt _) bk2 df2 (.d2 hk) rfl (by simp [WTag.stage]) (by simp [WTag.stage]) (fun h => by omega) (fun tag' ht _ => Mode.retag ?_ (ct_retag ht)) (.inl ⟨by simp [WTag.wt], hn7 _ (by simp [WTag.stage])⟩)
     have hoth : ∀ a, a < j → a ≠ i → (D a).wd.stage = 1 := fun a ha e => by
      have c0 := others_uncounted (D := fun y => (D y).wd) hi hv hc1 a ha e
      have := h2 a ha
      simp only [cnt] at c0 this
      split at c0 <;> omega
     have := Mode.last (j := j) (D := upd (fun y => (D y).wd) i ⟨4, m₂, 1⟩) (tag := ct) i h1 hi (by rw [upd_same]; simp) (fun a ha e => by rw [upd_ne _ _ e]; exact hoth a ha e)
     rw [upd_same] at this
     rw [hct]
     simp at this
     exact this
    ·obtain ⟨q, hq⟩ := hq (by omega)
     have hv' : Vc j (upd (fun y => (D y).wd) i ⟨1, q, 1⟩) = v := by have := Vc_upd (fun y => (D y).wd) (⟨1, q, 1⟩ : WD) hi; have := hq0 q; omega
     refine bookG (x := ⟨.quit, q, 1, (D i).tree⟩) hgo (aside_setCell w (stA φ.Wg) _) (hwg.setSt _) bk2 df2 (.quit hq) rfl (by simp [WTag.stage]) (by simp [WTag.stage]) (fun _ => rfl) (fun tag' ht _ => Mode.retag ?_ (ct_retag ht)) (.inl ⟨by simp [WTag.wt], hn7 _ (by simp [WTag.stage])⟩)
     have e : ((v : Nat) : Int) * KK + ((1 : Nat) : Int) = ((Vc j (upd (fun y => (D y).wd) i ⟨1, q, 1⟩) : Nat) : Int) * KK + 1 := by rw [hv']; simp
     rw [e, hct]
     exact .reg h1 (opq q h2) (by show 1 ≤ Vc j (upd (fun y => (D y).wd) i ⟨1, q, 1⟩); omega)
   | last L' _ h2 h3 h4 =>
    by_cases e : i = L'
    ·subst e
     have : (D i).wd.stage = 5 := by rw [ws]; rfl
     omega
    ·exact absurd (h4 i hi e) notfin
   | sema h2 => exact absurd (h2 i hi) notfin
   | fin _ h2 => exact absurd (h2 i hi) notfin
  ·obtain ⟨g', w', es, hgo, ⟨rfl, rfl⟩, hg'⟩ := hstep w (.refl w)
   exact idle6 hgo (.d1 hg') rfl (by simp [WTag.stage]) (by simp)
 | d2 h =>
  have hLi' := hLi (by simp)
  rcases Goes.cases h with hstop | ⟨m', rfl, hstep⟩
  ·obtain ⟨_, hx⟩ := hstop w (.refl w)
   obtain ⟨hW3, hoth, rfl, rfl⟩ := Mode.isLast hmode hi (by rw [ws]; simp [WTag.stage])
   simp only [ws, WTag.stage] at hwg
   obtain ⟨g', hgo, m₂, hk⟩ := hx (by simpa using hwg)
   refine bookG (x := ⟨.d3, m₂, 1, (D i).tree⟩) hgo (.refl φ.Wg w) hwg (by intro e he; simp at he; subst he; exact bk_cell _ _ rfl) (by intro jx e he; match jx, he with | 0, _ => exact .inr (by simp [deafBehind]) | jx + 1, he => simp at he) (.d3 hk) rfl (by simp [WTag.stage]) (by simp [WTag.stage]) (fun h => by omega) (fun tag' ht _ => Mode.retag ?_ (ct_retag ht)) (.inl ⟨by simp [WTag.wt], hn7 _ (by simp [WTag.stage])⟩)
   have := Mode.last (j := j) (D := upd (fun y => (D y).wd) i ⟨3, m₂, 1⟩) (tag := tag.ct) i hW3 hi (by rw [upd_same]; simp) (fun a ha e => by rw [upd_ne _ _ e]; exact hoth a ha e)
   rw [upd_same] at this
   simp at this
   exact this
  ·obtain ⟨g', w', es, hgo, ⟨rfl, rfl⟩, hg'⟩ := hstep w (.refl w)
   exact idle6 hgo (.d2 hg') rfl (by simp [WTag.stage]) (by simp)
 | d3 h =>
  have hLi' := hLi (by simp)
  rcases Goes.cases h with hstop | ⟨m', rfl, hstep⟩
  ·obtain ⟨_, hx⟩ := hstop w (.refl w)
   obtain ⟨hW3, hoth, rfl, rfl⟩ := Mode.isLast hmode hi (by rw [ws]; simp [WTag.stage])
   simp only [ws, WTag.stage] at hwg
   obtain ⟨g', hgo, m₂, hk⟩ := hx (by simpa using hwg)
   refine bookG (x := ⟨.d4, m₂, 1, (D i).tree⟩) hgo (aside_setCell w (stA φ.Wg) _) (hwg.setSt 0) (by intro e he; simp at he; subst he; exact bk_cell _ _ rfl) (by intro jx e he; match jx, he with | 0, _ => exact .inr (by simp [deafBehind]) | jx + 1, he => simp at he) (.d4 hk) rfl (by simp [WTag.stage]) (by simp [WTag.stage]) (fun h => by omega) (fun tag' ht _ => Mode.retag ?_ (ct_retag ht)) (.inl ⟨by simp [WTag.wt], hn7 _ (by simp [WTag.stage])⟩)
   have := Mode.last (j := j) (D := upd (fun y => (D y).wd) i ⟨2, m₂, 1⟩) (tag := tag.ct) i hW3 hi (by rw [upd_same]; simp) (fun a ha e => by rw [upd_ne _ _ e]; exact hoth a ha e)
   rw [upd_same] at this
   simp at this
   exact this
  ·obtain ⟨g', w', es, hgo, ⟨rfl, rfl⟩, hg'⟩ := hstep w (.refl w)
   exact idle6 hgo (.d3 hg') rfl (by simp [WTag.stage]) (by simp)
 | d4 h =>
  have hLi' := hLi (by simp)
  rcases Goes.cases h with hstop | ⟨m', rfl, hstep⟩
  ·obtain ⟨_, hmw, hx⟩ := hstop w (.refl w)
   obtain ⟨hW3, hoth, rfl, rfl⟩ := Mode.isLast hmode hi (by rw [ws]; simp [WTag.stage])
   simp only [ws, WTag.stage] at hwg
   obtain ⟨g', hgo, q, hq⟩ := hx (by simpa using hwg)
   have hrun' : g'.status = .running := by
    cases q with
    | zero => exact absurd hq.2 (by decide)
    | succ q => exact hq.elim (fun x => absurd x.2 (by decide)) (fun x => x.1)
   refine bookG (x := ⟨.quit, q, 1, (D i).tree⟩) hgo (aside_setCell w (smA φ.Wg) _) (hwg.setSm 1) (es := semEvents (smA φ.Wg)) ?_ ?_ (.quit hq) (by simp [deafBehind, semEvents]) (by simp [WTag.stage]) (by simp [WTag.stage]) (fun _ => rfl) ?_ (.inl ⟨by simp [WTag.wt], hn7 _ (by simp [WTag.stage])⟩)
   ·intro e he
    simp [semEvents] at he
    rcases he with rfl | rfl | rfl | rfl
    ·exact .inl rfl
    ·exact bk_cell _ _ rfl
    ·exact bk_cell _ _ rfl
    ·exact .inr (.inl rfl)
   ·intro jx e he
    match jx, he with
    | 0, he => simp [semEvents] at he; subst he; exact .inl rfl
    | 1, _ => exact .inr (by simp [deafBehind, semEvents])
    | 2, _ => exact .inr (by simp [deafBehind, semEvents])
    | 3, he => simp [semEvents] at he; subst he; exact .inl rfl
    | jx + 4, he => simp [semEvents] at he
   ·intro tag' ht hw
    have hnb := hw hmw hrun'
    have e3 : tag' = .c .w3 := by
     rcases ht with rfl | ⟨_, rfl⟩
     ·exact (isW3_tag hW3).resolve_right hnb
     ·rfl
    subst e3
    simp only [if_true]
    exact .sema fun a ha => by
     by_cases e : a = i
     ·subst e; rw [upd_same]; rfl
     ·rw [upd_ne _ _ e]; exact hoth a ha e
  ·obtain ⟨g', w', es, hgo, ⟨rfl, rfl⟩, hg'⟩ := hstep w (.refl w)
   exact idle6 hgo (.d4 hg') rfl (by simp [WTag.stage]) (by simp)
 | quit h =>
  cases m with
  | zero => rw [h.1] at hrun; cases hrun
  | succ q =>
   rcases h with ⟨hf, _⟩ | ⟨_, g', es, hmute, hstep, hq⟩
   ·rw [hf] at hrun; cases hrun
   ·have hbk : ∀ e ∈ es, Bk φ.Wg e := fun e he => bk_of_mute (hmute e he)
    have hno : ∀ jx e, es[jx]? = some e → (MemAct.ofEvent e).touch? = none ∨ 0 < deafBehind dd (es.extract 0 jx) := fun jx e he => .inl (touch_mute (hmute e (Array.mem_of_getElem? he)))
    exact bookG (x := ⟨.quit, q, deafBehind dd es, (D i).tree⟩) (hstep w) (.refl φ.Wg w) hwg hbk hno (.quit hq) rfl (by simp [WTag.stage]) (by simp [WTag.stage]) (fun _ => rfl) (fun tag' ht _ => mode_same hmode _ (by rw [hst]) ht) (.inr ⟨rfl, .inl ⟨rfl, rfl⟩⟩)
end
end Go.Pool
end
