/-
  POOL 5: a job is handed over; a worker at the receive.
-/
import Derived.Test.YthkaigokcognmaaPool4
import Derived.Test.YthkaigokcognmaaPoolC
namespace Go.Pool
open Go.Conc Go.ConcN
open Go.ConcR (stA smA rd wr mk KK WgAt wgBlock g_of_ofEvents loc_of_ofEvent)

theorem ep_still {φ : Ph} {own : Nat → Prop} {g : Nat} {es : Array Event} (h : ∀ e ∈ es, EvP φ own g e) (d : Nat) : deafBehind d es = d := deafBehind_still (fun e he => ⟨(h e he).2.1, (h e he).2.2.1⟩) d

section
variable {P : Program} {φ : Ph} {n : Nat} {Pre Done : Nat → World → Prop} {An Nx AnW : Goroutine → World → Prop} {N N0 L : Nat} {wb : World}
  {j H : Nat} {who : Nat → Nat} {closed : Bool} {gs gs' : Array Goroutine} {w w' : World} {sl : Option (Nat × Nat)} {t u : Trace} {D : Nat → PD} {d0 f0 : Nat} {tag : MTag} {a : Goroutine} {st sm : Int}

theorem Goal.mono {μ μ' : Nat × Nat} {res : Stepped × Array MemOp} (h : Goal P φ n Pre Done An Nx AnW N N0 L wb μ' res t) (hl : Lt2 μ' μ) : Goal P φ n Pre Done An Nx AnW N N0 L wb μ res t := by
  obtain ⟨m₁, ops, e, h⟩ := h
  refine ⟨m₁, ops, e, h.imp id fun ⟨μ'', h1, h2⟩ => ⟨μ'', lt2_trans h1 hl, h2⟩⟩

theorem MSit.hpk_inv {r q m d : Nat} {g : Goroutine} (h : MSit P φ n Pre Done An Nx AnW N (.hpk r) q m d g w) : ∃ r' gm z z' sh, r = r' + 1 ∧ q = N ∧ m = 0 ∧ d = 0 ∧ r' < n ∧ g = parked gm #[scase φ.Ch (.int .i64 ((n - (r' + 1) : Nat) : Int)) z, rcase φ.En z'] sh ∧ SelA P φ AnW (n - (r' + 1)) (Hand P φ n AnW r') gm z z' sh w := by
  generalize ht : MTag.hpk r = tt at h
  cases h with
  | hpk hr hs => cases ht; exact ⟨_, _, _, _, _, rfl, rfl, rfl, rfl, hr, rfl, hs⟩
  | _ => cases ht

theorem Com.lt_of (h : Com P φ n Pre Done An N0 L j H who closed gs w t D d0) {i : Nat} (hq : (D i).tag ≠ .quit) : L ≤ i :=
  Nat.le_of_not_lt fun hlt => hq (h.old i hlt)

theorem Vw_same (D : Nat → PD) (i : Nat) (x : PD) (h : x.tag.stage = (D i).tag.stage) : Vw j (upd D i x) = Vw j D := by
  refine sumTo_congr fun y _ => ?_
  show cnt (upd D i x y).wd = cnt (D y).wd
  by_cases e : y = i
  · subst e
    rw [upd_same]
    show (if 5 ≤ x.tag.stage then 1 else 0) = (if 5 ≤ (D y).tag.stage then 1 else 0)
    rw [h]
  · rw [upd_ne D _ e]

/-- A JOB IS HANDED OVER: main's record and worker i's turn in one step. -/
theorem handStep (G : Geo φ) (J : Jobs φ n Pre Done) (hcom : Com P φ n Pre Done An N0 L j H who closed gs w t D d0) (hN : j - L = N) (hd0 : d0 = 0)
    {r : Nat} (htag : tag = .hand (r + 1) ∨ tag = .hpk (r + 1)) (hlink : Link φ n tag closed H) (hwb : Frm φ own0 wb w) (hwg : WgAt φ.ty φ.Wg w st sm) (hmode : Go.ConcN.Mode j (fun y => (D y).wd) tag.ct st sm)
    {i : Nat} (hi : i < j) (htw : (D i).tag = .rcv ∨ (D i).tag = .prk) (hdw : (D i).deaf = 0) {gm gw : Goroutine} {sl' : Option (Nat × Nat)}
    (hsz : gs'.size = j + 1) (h0 : gs'[0]? = some gm) (hoth : ∀ i', i' < j → i' ≠ i → gs'[i' + 1]? = gs[i' + 1]?) (hme : gs'[i + 1]? = some gw)
    (hAs : Aside φ.Ch w w') (hch : ∃ s r, w'.heap[φ.Ch]? = some (.chan 0 #[] false s r false))
    (hworker : Pre H w' → ∃ m, Goes P false (Frm φ (· = H)) (DJ φ H) (JobS P φ Done An H) m gw w') (hmain : Hand P φ n AnW r gm w')
    (htl : TL φ N0 L j who (t ++ u)) (hug : ∀ op ∈ u, op.g = 0 ∨ op.g = i + 1) (hust : ∀ op ∈ u, op.act ≠ .mark .disable ∧ op.act ≠ .mark .enable)
    {res : Stepped × Array MemOp} (hres : res = (.next (crowd gs' w' sl'), u)) :
    Goal P φ n Pre Done An Nx AnW N N0 L wb (mphi n N L (Vw j D) tag + Wsum j D, f0 + 2 * Fsm j D) res t := by
  have hF : ∀ own, Frm φ own w w' := fun own => Frm.of_ch G hAs
  have hcl : closed = false ∧ H + (r + 1) = n := by rcases htag with rfl | rfl <;> exact hlink
  obtain ⟨rfl, hH⟩ := hcl
  have hLi : L ≤ i := hcom.lt_of (by rcases htw with e | e <;> rw [e] <;> simp)
  have hcell : ∀ k b, φ.pb b → w'.cell? ⟨b, k, none⟩ = w.cell? ⟨b, k, none⟩ := fun k b hb => (hF fun _ => True).own b k hb trivial
  obtain ⟨m, hjob⟩ := hworker (J.pre H w w' (hcell H) (hcom.pre H (Nat.le_refl _) (by omega)))
  have hwho0 : who H = 0 := hcom.whoH H (Nat.le_refl _)
  have hfnd' : Fnd φ n j (H + 1) (upd D i ⟨.job H, m, 0⟩) w' := fun fd e => by
    obtain ⟨l, s, r, h1, h2, h3, h4⟩ := hcom.fnd fd e
    refine ⟨l, s, r, (hAs.block _ fun e' => G.chFd (by rw [e, e'])).trans h1, h2, fun k hk => ⟨by have := (h3 k hk).1; omega, (h3 k hk).2.1, ?_⟩, fun k hk hp => ?_⟩
    · rintro ⟨i', h5, h6⟩
      by_cases e' : i' = i
      · subst e'
        rw [upd_same] at h6
        cases h6
        have := (h3 _ hk).1
        omega
      · rw [upd_ne D _ e'] at h6
        exact (h3 k hk).2.2 ⟨i', h5, h6⟩
    · by_cases ek : k = H
      · exact .inl ⟨i, hi, by rw [upd_same, ek]⟩
      · refine (h4 k (by omega) hp).imp (fun ⟨i', h5, h6⟩ => ⟨i', h5, ?_⟩) id
        rw [upd_ne D _ fun e' => ?_]
        · exact h6
        · subst e'
          rcases htw with x | x <;> rw [x] at h6 <;> cases h6
  have hcom' : Com P φ n Pre Done An N0 L j (H + 1) (upd who H (i + 1)) false gs' w' (t ++ u) (upd D i ⟨.job H, m, 0⟩) 0 := by
    refine hcom.upd hi hsz hoth hme (.job hjob) (fun i' _ _ => hF _) (htl.draw fun k hk => ?_) hug (by rw [Deaf_still t 0 u hust, hcom.deaf0, hd0]) (by rw [Deaf_still t _ u hust, hcom.deafW i hi, hdw]) (fun h => by omega) (fun _ h => by simp [WTag.stage] at h) (by omega) (fun k hk => ?_) (fun k hk => ?_) (by omega) (fun k e => ?_) (fun k hk => ?_) (fun k h1 h2 => J.pre k w w' (hcell k) (hcom.pre k (by omega) h2)) hch
      (hcom.en.keep (hAs.block _ G.chEn.symm) (by omega)) hfnd' (fun e => by cases e) (fun _ _ => trivial) (fun h => by cases h)
    · rw [upd_ne who _ (fun e => hk (by rw [e, hwho0]))]
    · rw [upd_ne who _ (by omega)]; exact hcom.whoH k (by omega)
    · rw [upd_ne who _ (fun e => hk (by rw [e, hwho0]))]
    · cases e
      exact ⟨by omega, upd_same who H _⟩
    · by_cases e : k = H
      · subst e; exact .inl rfl
      · rcases hcom.done k (by omega) with ⟨i', h1, h2⟩ | h1
        · refine .inr (.inl ⟨i', h1, fun e' => ?_, h2⟩)
          subst e'
          rcases htw with x | x <;> rw [x] at h2 <;> cases h2
        · exact .inr (.inr (J.done k w w' (hcell k) h1))
  have hst7 : (D i).tag.stage = 7 := by rcases htw with e | e <;> rw [e] <;> rfl
  have hmode' : Go.ConcN.Mode j (fun y => (upd D i ⟨.job H, m, 0⟩ y).wd) .kd st sm := by
    have h1 : Go.ConcN.Mode j (fun y => (D y).wd) .kd st sm := by rcases htag with rfl | rfl <;> exact hmode
    refine h1.congr fun y _ => ?_
    by_cases e : y = i
    · subst e; rw [upd_same]; exact hst7.symm
    · rw [upd_ne D _ e]
  have ev : Vw j (upd D i ⟨.job H, m, 0⟩) = Vw j D := Vw_same D i _ hst7.symm
  have e2 := sumTo_upd D (⟨.job H, m, 0⟩ : PD) (fun y => y.tag.wt) hi
  have hwt : 10 ≤ (D i).tag.wt := by rcases htw with e | e <;> rw [e] <;> simp [WTag.wt]
  have hwb' : Frm φ own0 wb w' := hwb.trans (hF _)
  have hwg' : WgAt φ.ty φ.Wg w' st sm := hwg.of_block (hAs.block _ G.wgCh)
  have hm0 : 10 * N + 20 + L + 10 * r + 10 ≤ mphi n N L (Vw j D) tag := by rcases htag with rfl | rfl <;> simp only [mphi] <;> omega
  have hx12 : (⟨.job H, m, 0⟩ : PD).tag.wt = 14 := rfl
  rw [hx12] at e2
  cases r with
  | zero =>
    obtain ⟨m₃, hk⟩ := hmain
    refine ⟨_, _, hres, .inr ⟨_, ?_, gs', w', sl', j, H + 1, _, false, _, .cls, m₃, 0, gm, st, sm, rfl, h0, ?_, hcom', hwg', hmode', ⟨rfl, by omega, .inl (by omega)⟩, (by simp), hwb', rfl⟩⟩
    · refine Prod.Lex.left _ _ ?_
      simp only [mphi, Wsum] at e2 hm0 ⊢
      omega
    · rw [hN]; exact .cls hk
  | succ r' =>
    obtain ⟨m₃, hk⟩ := hmain
    refine ⟨_, _, hres, .inr ⟨_, ?_, gs', w', sl', j, H + 1, _, false, _, .hand (r' + 1), m₃, 0, gm, st, sm, rfl, h0, ?_, hcom', hwg', hmode', ⟨rfl, by omega⟩, (by simp), hwb', rfl⟩⟩
    · refine Prod.Lex.left _ _ ?_
      simp only [mphi, Wsum] at e2 hm0 ⊢
      omega
    · rw [hN]; exact .hand (by omega) hk

theorem tl_ev (A : Apt φ) (h : TL φ N0 L j who t) {g g' : Nat} (hg : g' = 0 ∨ (L < g' ∧ g' ≤ j)) (h0 : g = 0 ↔ g' = 0) {fn : FuncId} {pos : String} {es : Array Event} (he : ∀ e ∈ es, EvP φ own0 g e) : TL φ N0 L j who (t ++ MemOp.ofEvents g' fn pos es) := by
  obtain ⟨h1, h2, h3⟩ := ep_ops (fn := fn) (pos := pos) (own' := fun k => who k = g' ∧ g' ≠ 0) he h0 (fun _ => False.elim)
  exact h.app A hg (g_of_ofEvents) h1 h2 h3

theorem ev_still {g g' : Nat} {own : Nat → Prop} {fn : FuncId} {pos : String} {es : Array Event} (he : ∀ e ∈ es, EvP φ own g e) : ∀ op ∈ MemOp.ofEvents g' fn pos es, op.act ≠ .mark .disable ∧ op.act ≠ .mark .enable := by
  intro op hop
  obtain ⟨e, h1, rfl⟩ := Go.Conc.mem_ofEvents hop
  exact ⟨fun hm => (he e h1).2.1 (loc_of_ofEvent hm), fun hm => (he e h1).2.2.1 (loc_of_ofEvent hm)⟩

/-- The four operations of a meeting. -/
theorem meet_ops {c s r cap x y : Nat} {f1 f2 : FuncId} {p1 p2 : String} (h : TL φ N0 L j who t) (hc : c < φ.B) :
    TL φ N0 L j who (t ++ #[{ g := x, fn := f1, pos := p1, act := .send c s }, { g := y, fn := f2, pos := p2, act := .recv c r cap }, { g := x, fn := f1, pos := p1, act := .sendDone c s }, { g := y, fn := f2, pos := p2, act := .recvDone c r }]) := by
  refine h.mute (fun op hop => ?_) (fun op hop => ?_) (fun op hop => ?_) <;> simp only [List.mem_toArray, List.mem_cons, List.not_mem_nil, or_false] at hop <;> rcases hop with rfl | rfl | rfl | rfl
  any_goals rfl
  any_goals exact hc
  all_goals simp

/-- A WORKER STANDS AT THE RECEIVE. -/
theorem recvStop (G : Geo φ) (J : Jobs φ n Pre Done) (hA : ∀ g w, An g w → g.status = .running) (hAr : ∀ g w, AnW g w → g.status = .running)
    (ha : gs[0]? = some a) (hms : MSit P φ n Pre Done An Nx AnW N tag (j - L) f0 d0 a w) (hcom : Com P φ n Pre Done An N0 L j H who closed gs w t D d0)
    (hlink : Link φ n tag closed H) (hpk : ∀ r, tag = .hpk r → ∀ i, i < j → (D i).tag ≠ .prk) (hwb : Frm φ own0 wb w) (hwg : WgAt φ.ty φ.Wg w st sm) (hmode : Go.ConcN.Mode j (fun y => (D y).wd) tag.ct st sm)
    {i : Nat} (hi : i < j) {g : Goroutine} (hg : gs[i + 1]? = some g) (htw : (D i).tag = .rcv) (hdw : (D i).deaf = 0) (h : RecvS P φ n Pre Done An g w) :
    Goal P φ n Pre Done An Nx AnW N N0 L wb (mphi n N L (Vw j D) tag + Wsum j D, f0 + 2 * Fsm j D) (runT P (crowd gs w sl) (i + 1)) t := by
  obtain ⟨_, g₂, z, sh, hsame, hrec⟩ := h
  obtain ⟨⟨es, hstep, hev⟩, hjobs, hout⟩ := hrec w (.refl w)
  have hstep' : stepG P (i + 1 == 0) g w = .comm g₂ #[rcase φ.Ch z] true sh w es := by rw [show (i + 1 == 0) = false by simp, hsame.step]; exact hstep
  have hLi : L ≤ i := hcom.lt_of (by rw [htw]; simp)
  obtain ⟨s1, r1, hc⟩ := hcom.ch
  have htl1 : TL φ N0 L j who (t ++ MemOp.ofEvents (i + 1) g.frame.fn g.frame.place es) := tl_ev G.apt hcom.tl (.inr ⟨by omega, by omega⟩) (g := 1) (by simp) hev
  have hst1 := ev_still (φ := φ) (g' := i + 1) (fn := g.frame.fn) (pos := g.frame.place) hev
  have hcell : ∀ k, k < n → Pre k w → Pre k w := fun _ _ h => h
  -- who offers a send there
  have hsends : ∀ y x, (gs.setIfInBounds (i + 1) ph)[y]? = some x → y ≠ 0 → offersAt x φ.Ch true = [] := by
    intro y x hx hy0
    rcases getElem?_stand gs (i + 1) y x hx with ⟨_, rfl⟩ | ⟨hne, hx'⟩
    · exact offersAt_ph _ _
    · obtain ⟨y', rfl⟩ : ∃ y', y = y' + 1 := ⟨y - 1, by omega⟩
      have hlt : y' < j := by have := (Array.getElem?_eq_some_iff.1 hx').1; rw [hcom.size] at this; omega
      obtain ⟨x', hx'', hs⟩ := hcom.wk y' hlt
      rw [hx'] at hx''; cases hx''
      exact hs.noSend hA _
  by_cases hhp : ∃ r, tag = .hpk r
  · -- MAIN IS PARKED: it meets the worker
    obtain ⟨r0, rfl⟩ := hhp
    obtain ⟨r, gm, z1, z2, shm, rfl, hNN, rfl, rfl, hr, rfl, hsel⟩ := hms.hpk_inv
    · obtain ⟨rfl, hH⟩ := hlink
      have e0 : n - (r + 1) = H := by omega
      have hoff : offersAt (parked gm #[scase φ.Ch (.int .i64 ((n - (r + 1) : Nat) : Int)) z1, rcase φ.En z2] shm) φ.Ch true = [0] := offersAt_sel_send gm G.chEn _ _ _ _
      have hz : (gs.setIfInBounds (i + 1) ph)[0]? = some (parked gm #[scase φ.Ch (.int .i64 ((n - (r + 1) : Nat) : Int)) z1, rcase φ.En z2] shm) := stand_get (by omega) ha
      have hp : partners (gs.setIfInBounds (i + 1) ph) φ.Ch true = [(0, 0)] := by
        rw [partners_one hz (fun y x hy hx => hsends y x hx hy), hoff]; rfl
      have hrun := recv_meets_sel (sl := sl) hg hstep' hc (by omega) ha (k := 0) rfl hp
      have hlt1 : i + 1 < gs.size := by rw [hcom.size]; omega
      refine handStep (AnW := AnW) (Nx := Nx) (f0 := 0) (gs' := _) G J hcom hNN rfl (r := r) (.inr rfl) ⟨rfl, hH⟩ hwb hwg hmode hi (.inl htw) hdw (by simp [hcom.size]) (gm := gm.finishComm P #[scase φ.Ch (.int .i64 ((n - (r + 1) : Nat) : Int)) z1, rcase φ.En z2] shm 0 undef false) (gw := g₂.finishComm P #[rcase φ.Ch z] sh 0 (.int .i64 ((n - (r + 1) : Nat) : Int)) true) ?_ (fun i' hi' hne => ?_) ?_ (aside_setChan _ _ _ _ _ _ _ _) ⟨s1 + 1, r1 + 1, ?_⟩ (fun hpre => ?_) ?_ ?_ ?_ ?_ hrun
      · rw [Array.getElem?_setIfInBounds_ne (by omega), Array.getElem?_setIfInBounds_self_of_lt (by omega)]; rfl
      · rw [Array.getElem?_setIfInBounds_ne (by omega), Array.getElem?_setIfInBounds_ne (by omega)]
      · rw [Array.getElem?_setIfInBounds_self_of_lt (by simpa using hlt1)]
      · have hlt2 : φ.Ch < w.heap.size := (Array.getElem?_eq_some_iff.1 hc).1
        simp [World.setChan, hlt2]
      · obtain ⟨_, hj2, _⟩ := hrec _ (Frm.of_ch G (aside_setChan w φ.Ch 0 #[] false (s1 + 1) (r1 + 1) false))
        rw [e0]
        exact hj2 H (by omega) hpre
      · exact (hsel _ (Frm.of_ch G (aside_setChan w φ.Ch 0 #[] false (s1 + 1) (r1 + 1) false))).2.1
      · have := meet_ops (s := s1) (r := r1) (cap := 0) (x := 0) (y := i + 1) (f1 := gm.frame.fn) (f2 := g₂.frame.fn) (p1 := gm.frame.place) (p2 := g₂.frame.place) htl1 G.chB
        rw [← Array.append_assoc]; exact this
      · intro op hop
        rcases Array.mem_append.1 hop with h' | h'
        · exact .inr (g_of_ofEvents op h')
        · simp only [List.mem_toArray, List.mem_cons, List.not_mem_nil, or_false] at h'
          rcases h' with rfl | rfl | rfl | rfl
          · exact .inl rfl
          · exact .inr rfl
          · exact .inl rfl
          · exact .inr rfl
      · intro op hop
        rcases Array.mem_append.1 hop with h' | h'
        · exact hst1 op h'
        · simp only [List.mem_toArray, List.mem_cons, List.not_mem_nil, or_false] at h'
          rcases h' with rfl | rfl | rfl | rfl <;> simp
  · -- nobody offers a send
    have hnm : ∀ r, tag ≠ .hpk r := fun r e => hhp ⟨r, e⟩
    have hp : partners (gs.setIfInBounds (i + 1) ph) φ.Ch true = [] := by
      refine partners_nil fun y x hx => ?_
      by_cases hy : y = 0
      · subst hy
        rcases getElem?_stand gs (i + 1) 0 x hx with ⟨h', _⟩ | ⟨_, hx'⟩
        · omega
        · rw [ha] at hx'; cases hx'
          exact hms.noOffer hAr hnm _ _
      · exact hsends y x hx hy
    have hme : ∀ y : Goroutine, (gs.setIfInBounds (i + 1) y)[i + 1]? = some y := fun y => by
      rw [Array.getElem?_setIfInBounds_self_of_lt (by rw [hcom.size]; omega)]
    have ho : ∀ y : Goroutine, ∀ i', i' < j → i' ≠ i → (gs.setIfInBounds (i + 1) y)[i' + 1]? = gs[i' + 1]? := fun y i' _ hne => Array.getElem?_setIfInBounds_ne (by omega)
    have h0' : ∀ y : Goroutine, (gs.setIfInBounds (i + 1) y)[0]? = some a := fun y => by rw [Array.getElem?_setIfInBounds_ne (by omega)]; exact ha
    have hst7 : (D i).tag.stage = 7 := by rw [htw]; rfl
    have hmode' : ∀ x : PD, x.tag.stage = 7 → Go.ConcN.Mode j (fun y => (upd D i x y).wd) tag.ct st sm := fun x hx => hmode.congr fun y _ => by
      by_cases e : y = i
      · subst e; rw [upd_same]; exact hx.trans hst7.symm
      · rw [upd_ne D _ e]
    have ev : ∀ x : PD, x.tag.stage = 7 → Vw j (upd D i x) = Vw j D := fun x hx => Vw_same D i x (hx.trans hst7.symm)
    have e2 : ∀ x : PD, Wsum j (upd D i x) + (D i).tag.wt = Wsum j D + x.tag.wt := fun x => sumTo_upd D x (fun y => y.tag.wt) hi
    have hwt : (D i).tag.wt = 11 := by rw [htw]; rfl
    have hnotjob : ∀ k, (D i).tag ≠ .job k := fun k e => by rw [htw] at e; cases e
    have hdone : ∀ (x : PD) k, k < H → x.tag = .job k ∨ (∃ i', i' < j ∧ i' ≠ i ∧ (D i').tag = .job k) ∨ Done k w := fun x k hk => by
      rcases hcom.done k hk with ⟨i', h1, h2⟩ | h1
      · exact .inr (.inl ⟨i', h1, fun e => by subst e; exact hnotjob k h2, h2⟩)
      · exact .inr (.inr h1)
    cases hcl : closed with
    | true =>
      rw [hcl] at hc hlink hcom
      have hrun := crowd_recv_closed (sl := sl) hg hstep' hc hp
      obtain ⟨m, hk⟩ := hout
      have htl2 : TL φ N0 L j who (t ++ (MemOp.ofEvents (i + 1) g.frame.fn g.frame.place es ++ #[{ g := i + 1, fn := g₂.frame.fn, pos := g₂.frame.place, act := .recvClosed φ.Ch }])) := by
        rw [← Array.append_assoc]
        refine htl1.mute (fun op hop => ?_) (fun op hop => ?_) (fun op hop => ?_) <;> simp only [List.mem_toArray, List.mem_cons, List.not_mem_nil, or_false] at hop <;> subst hop
        · rfl
        · exact G.chB
        · simp
      have hug : ∀ op ∈ MemOp.ofEvents (i + 1) g.frame.fn g.frame.place es ++ #[{ g := i + 1, fn := g₂.frame.fn, pos := g₂.frame.place, act := .recvClosed φ.Ch }], op.g = i + 1 := by
        intro op hop
        rcases Array.mem_append.1 hop with h' | h'
        · exact g_of_ofEvents op h'
        · simp only [List.mem_toArray, List.mem_cons, List.not_mem_nil, or_false] at h'; subst h'; rfl
      have hus : ∀ op ∈ MemOp.ofEvents (i + 1) g.frame.fn g.frame.place es ++ #[{ g := i + 1, fn := g₂.frame.fn, pos := g₂.frame.place, act := .recvClosed φ.Ch }], op.act ≠ .mark .disable ∧ op.act ≠ .mark .enable := by
        intro op hop
        rcases Array.mem_append.1 hop with h' | h'
        · exact hst1 op h'
        · simp only [List.mem_toArray, List.mem_cons, List.not_mem_nil, or_false] at h'; subst h'; simp
      have hcom' : Com P φ n Pre Done An N0 L j H who true (gs.setIfInBounds (i + 1) (g₂.finishComm P #[rcase φ.Ch z] sh 0 z false)) w (t ++ (MemOp.ofEvents (i + 1) g.frame.fn g.frame.place es ++ #[{ g := i + 1, fn := g₂.frame.fn, pos := g₂.frame.place, act := .recvClosed φ.Ch }])) (upd D i ⟨.out, m, 0⟩) d0 :=
        hcom.upd hi (by simp [hcom.size]) (ho _) (hme _) (.out hk) (fun _ _ _ => .refl w) htl2 (fun op hop => .inr (hug op hop)) (by rw [Deaf_still t 0 _ hus]; exact hcom.deaf0) (by rw [Deaf_still t _ _ hus, hcom.deafW i hi, hdw]) (fun h => by omega) (fun _ h => by simp [WTag.stage] at h) hcom.Hn hcom.whoH (fun _ _ => rfl) (Nat.le_refl _)
          (fun k e => by cases e) (hdone _) hcom.pre ⟨s1, r1, hc⟩ hcom.en (hcom.fnd.keep (fun _ _ => rfl) (held_upd hi fun k => ⟨fun e => (by cases e), fun e => absurd e (hnotjob k)⟩)) (fun e => by cases e) (fun h => by cases h) (fun _ => by simp)
      refine ⟨_, _, hrun, .inr ⟨_, ?_, _, w, sl, j, H, who, true, _, tag, f0, d0, a, st, sm, rfl, h0' _, hms, hcom', hwg, hmode' _ rfl, hlink, fun r e => absurd e (hnm r), hwb, rfl⟩⟩
      refine Prod.Lex.left _ _ ?_
      have := e2 ⟨.out, m, 0⟩
      rw [ev _ rfl]
      rw [hwt] at this
      simp only [WTag.wt] at this
      omega
    | false =>
      rw [hcl] at hc hlink hcom
      have hrun := crowd_waits (sl := sl) hg hstep' (fun cc hcc => by
        simp only [List.mem_toArray, List.mem_cons, List.not_mem_nil, or_false] at hcc
        subst hcc
        exact ways_recv_none hc hp)
      have hcom' : Com P φ n Pre Done An N0 L j H who false (gs.setIfInBounds (i + 1) (parked g₂ #[rcase φ.Ch z] sh)) w (t ++ MemOp.ofEvents (i + 1) g.frame.fn g.frame.place es) (upd D i ⟨.prk, 0, 0⟩) d0 :=
        hcom.upd hi (by simp [hcom.size]) (ho _) (hme _) (.prk hrec) (fun _ _ _ => .refl w) htl1 (fun op hop => .inr (g_of_ofEvents op hop)) (by rw [Deaf_still t 0 _ hst1]; exact hcom.deaf0) (by rw [Deaf_still t _ _ hst1, hcom.deafW i hi, hdw]) (fun h => by omega) (fun _ h => by simp [WTag.stage] at h) hcom.Hn hcom.whoH (fun _ _ => rfl) (Nat.le_refl _)
          (fun k e => by cases e) (hdone _) hcom.pre ⟨s1, r1, hc⟩ hcom.en (hcom.fnd.keep (fun _ _ => rfl) (held_upd hi fun k => ⟨fun e => (by cases e), fun e => absurd e (hnotjob k)⟩)) (fun e => by cases e) (fun _ _ => trivial) (fun h => by cases h)
      refine ⟨_, _, hrun, .inr ⟨_, ?_, _, w, sl, j, H, who, false, _, tag, f0, d0, a, st, sm, rfl, h0' _, hms, hcom', hwg, hmode' _ rfl, hlink, fun r e => absurd e (hnm r), hwb, rfl⟩⟩
      refine Prod.Lex.left _ _ ?_
      have := e2 ⟨.prk, 0, 0⟩
      rw [ev _ rfl]
      rw [hwt] at this
      simp only [WTag.wt] at this
      omega
end
end Go.Pool
