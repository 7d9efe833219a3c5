/- A part of the proof of CrewDigestsUpto (no statement of its own): PoolC, Pool5. -/
import Derived.Test.YthkaigokcognmaaM14
section
set_option linter.unusedSimpArgs false
namespace Go.Pool
open Go.Conc Go.ConcN
section
variable {P : Program} {gs : Array Goroutine} {w w₁ : World} {sl : Option (Nat × Nat)} {i j k : Nat} {g g₂ gj : Goroutine} {es : Array Event} {c cap s r : Nat} {buf : Array Value} {tm closed : Bool} {v z zj : Value}
  {blocking : Bool} {shape shj : CommShape} {cs cases : Array CommCase}
theorem recv_meets_sel (hi : gs[i]? = some g) (h : stepG P (i == 0) g w = .comm g₂ #[rcase c z] blocking shape w₁ es) (hc : w₁.heap[c]? = some (.chan cap #[] closed s r tm))
  (hij : j ≠ i) (hj : gs[j]? = some (parked gj cs shj)) (hk : cs[k]? = some (scase c v zj)) (hp : partners (gs.setIfInBounds i ph) c true = [(j, k)]) :
  runT P (crowd gs w sl) i = (.next (crowd ((gs.setIfInBounds j (gj.finishComm P cs shj k undef false)).setIfInBounds i (g₂.finishComm P #[rcase c z] shape 0 v true)) (w₁.setChan c cap #[] closed (s + 1) (r + 1) tm) sl),
   MemOp.ofEvents i g.frame.fn g.frame.place es ++ #[{ g := j, fn := gj.frame.fn, pos := gj.frame.place, act := .send c s }, { g := i, fn := g₂.frame.fn, pos := g₂.frame.place, act := .recv c r cap },
    { g := j, fn := gj.frame.fn, pos := gj.frame.place, act := .sendDone c s }, { g := i, fn := g₂.frame.fn, pos := g₂.frame.place, act := .recvDone c r }]) := by
 rw [runT_crowd_comm hi h]
 have hj' := stand_get (i := i) hij hj
 have hfp := finishPartner_at P (gs.setIfInBounds i ph) hj' (cs := cs) (sh := shj) rfl k undef
 have hgd : (gs.setIfInBounds i ph).getD j default = parked gj cs shj := by rw [Array.getD_eq_getD_getElem?, hj']; rfl
 have hov : offeredValue (gs.setIfInBounds i ph) j k = v := by simp [offeredValue, hj', parked, hk, scase]
 simp [communicate, ways, rcase, hc, hp, choose, Sem.run, Question.forced, bind, Sem.bind, pure, World.setChan, crowd, hfp, hgd, hov, set_stand2, finishComm_parked, scase, parked, hk]
 rfl
theorem sel_send_meets_some (hi : gs[i]? = some g) (h : stepG P (i == 0) g w = .comm g₂ cases blocking shape w₁ es) (hk : cases[k]? = some (scase c v z))
  (ho : ∀ (m : Nat) (c' : CommCase), m ≠ k → cases[m]? = some c' → NoWays w₁ (gs.setIfInBounds i ph) c') (hc : w₁.heap[c]? = some (.chan cap buf false s r tm))
  (hne : partners (gs.setIfInBounds i ph) c false ≠ [])
  (hall : ∀ j k, (j, k) ∈ partners (gs.setIfInBounds i ph) c false → k = 0 ∧ j ≠ i ∧ ∃ gj zj shj, gs[j]? = some (parked gj #[rcase c zj] shj)) :
  ∃ (j : Nat) (gj : Goroutine) (zj : Value) (shj : CommShape) (d : Nat), j ≠ i ∧ gs[j]? = some (parked gj #[rcase c zj] shj) ∧
   runT P (crowd gs w sl) i = (.next (crowd ((gs.setIfInBounds j (gj.finishComm P #[rcase c zj] shj 0 v true)).setIfInBounds i (g₂.finishComm P cases shape k undef false)) ((w₁.at d).setChan c cap buf false (s + 1) (r + 1) tm) sl),
    MemOp.ofEvents i g.frame.fn g.frame.place es ++ #[{ g := i, fn := g₂.frame.fn, pos := g₂.frame.place, act := .send c s }, { g := j, fn := gj.frame.fn, pos := gj.frame.place, act := .recv c r cap },
     { g := i, fn := g₂.frame.fn, pos := g₂.frame.place, act := .sendDone c s }, { g := j, fn := gj.frame.fn, pos := gj.frame.place, act := .recvDone c r }]) := by
 generalize hps : partners (gs.setIfInBounds i ph) c false = ps at hne hall
 have hlen : 0 < ps.length := List.length_pos_iff.2 hne
 obtain ⟨b, d, hb, hpick⟩ : ∃ b d, b < ps.length ∧ (if (Question.extern "which waiting goroutine is the partner" ps.length).forced = true then (b = 0 ∧ d = w₁.drawn) else (b = (Question.extern "which waiting goroutine is the partner" ps.length).cut (w₁.tape w₁.drawn (.extern "which waiting goroutine is the partner" ps.length)) ∧ d = w₁.drawn + 1)) := by
  by_cases hf : (Question.extern "which waiting goroutine is the partner" ps.length).forced = true
  ·exact ⟨0, w₁.drawn, hlen, by rw [if_pos hf]; exact ⟨rfl, rfl⟩⟩
  ·refine ⟨_, w₁.drawn + 1, ?_, by rw [if_neg hf]; exact ⟨rfl, rfl⟩⟩
   simp only [Question.cut]
   rw [if_neg (by omega)]
   exact Nat.mod_lt _ hlen
 obtain ⟨⟨j, k'⟩, hjk⟩ : ∃ p, ps[b]? = some p := ⟨ps[b], List.getElem?_eq_getElem hb⟩
 obtain ⟨rfl, hij, gj, zj, shj, hj⟩ := hall j k' (List.mem_of_getElem? hjk)
 refine ⟨j, gj, zj, shj, d, hij, hj, ?_⟩
 rw [runT_crowd_comm hi h]
 have hj' := stand_get (i := i) hij hj
 have hfp := finishPartner_at P (gs.setIfInBounds i ph) hj' (cs := #[rcase c zj]) (sh := shj) rfl 0 v
 have hgd : (gs.setIfInBounds i ph).getD j default = parked gj #[rcase c zj] shj := by rw [Array.getD_eq_getD_getElem?, hj']; rfl
 have hw : ways w₁ (gs.setIfInBounds i ph) (scase c v z) = ps.map fun (h, k) => Way.partner h k := by
  simp only [ways, scase, hc, hps]
  cases ps with
  | nil => exact absurd rfl hne
  | cons p ps => simp
 have hgm := getD_map_partner ps b (j, 0) hjk
 have hmn : ps.map (fun (h, k) => Way.partner h k) ≠ [] := by simpa using hne
 have hne' : ways w₁ (gs.setIfInBounds i ph) (scase c v z) ≠ [] := by rw [hw]; exact hmn
 unfold communicate
 simp only [ready_one hk hne' ho, hw]
 rw [if_neg (by rw [Bool.not_eq_true]; exact any_ill (made_of_one hk (made_send v z hc) ho))]
 by_cases hf : (Question.extern "which waiting goroutine is the partner" ps.length).forced = true
 ·rw [if_pos hf] at hpick
  obtain ⟨rfl, rfl⟩ := hpick
  have hf' : ps.length = 1 := by simpa [Question.forced] using hf
  have e0 : ps[0]'hlen = (j, 0) := (List.getElem?_eq_some_iff.1 hjk).2
  simp [choose, Sem.run, Question.forced, bind, Sem.bind, pure, hf', hgm, hjk, e0, hj', scase, hc, World.setChan, crowd, hfp, hgd, set_stand2, rcase, parked, World.at]
  rfl
 ·rw [if_neg hf] at hpick
  obtain ⟨rfl, rfl⟩ := hpick
  have hf' : ¬ ps.length = 1 := by simpa [Question.forced] using hf
  have hcd : w₁.drew.heap[c]? = some (.chan cap buf false s r tm) := hc
  simp [hcd, choose, Sem.run, Question.forced, bind, Sem.bind, pure, hf', hgm, hjk, hj', scase, hc, World.setChan, crowd, hfp, hgd, set_stand2, rcase, parked, World.at]
  rfl
theorem sel_both {e cape se re : Nat} {bufe : Array Value} {tme : Bool} {z' : Value} (hi : gs[i]? = some g) (h : stepG P (i == 0) g w = .comm g₂ #[scase c v z, rcase e z'] blocking shape w₁ es) (hc : w₁.heap[c]? = some (.chan cap buf false s r tm))
  (hne : partners (gs.setIfInBounds i ph) c false ≠ [])
  (hall : ∀ j k, (j, k) ∈ partners (gs.setIfInBounds i ph) c false → k = 0 ∧ j ≠ i ∧ ∃ gj zj shj, gs[j]? = some (parked gj #[rcase c zj] shj))
  (he : w₁.heap[e]? = some (.chan cape bufe false se re tme)) (hse : 0 < bufe.size) (hpe : partners (gs.setIfInBounds i ph) e true = []) :
  (∃ (j : Nat) (gj : Goroutine) (zj : Value) (shj : CommShape) (d : Nat), j ≠ i ∧ gs[j]? = some (parked gj #[rcase c zj] shj) ∧
   runT P (crowd gs w sl) i = (.next (crowd ((gs.setIfInBounds j (gj.finishComm P #[rcase c zj] shj 0 v true)).setIfInBounds i (g₂.finishComm P #[scase c v z, rcase e z'] shape 0 undef false)) ((w₁.at d).setChan c cap buf false (s + 1) (r + 1) tm) sl),
    MemOp.ofEvents i g.frame.fn g.frame.place es ++ #[{ g := i, fn := g₂.frame.fn, pos := g₂.frame.place, act := .send c s }, { g := j, fn := gj.frame.fn, pos := gj.frame.place, act := .recv c r cap },
     { g := i, fn := g₂.frame.fn, pos := g₂.frame.place, act := .sendDone c s }, { g := j, fn := gj.frame.fn, pos := gj.frame.place, act := .recvDone c r }])) ∨
  (∃ d : Nat, runT P (crowd gs w sl) i = (.next (crowd (gs.setIfInBounds i (g₂.finishComm P #[scase c v z, rcase e z'] shape 1 (bufe.getD 0 undef) true)) ((w₁.at d).setChan e cape (bufe.extract 1 bufe.size) false se (re + 1) tme) sl),
    MemOp.ofEvents i g.frame.fn g.frame.place es ++ #[{ g := i, fn := g₂.frame.fn, pos := g₂.frame.place, act := .recv e re cape }, { g := i, fn := g₂.frame.fn, pos := g₂.frame.place, act := .recvDone e re }])) := by
 generalize hps : partners (gs.setIfInBounds i ph) c false = ps at hne hall
 have hlen : 0 < ps.length := List.length_pos_iff.2 hne
 have hw0 : ways w₁ (gs.setIfInBounds i ph) (scase c v z) = ps.map fun (h, k) => Way.partner h k := by
  simp only [ways, scase, hc, hps]
  cases ps with
  | nil => exact absurd rfl hne
  | cons p ps => simp
 have hw1 : ways w₁ (gs.setIfInBounds i ph) (rcase e z') = [.buffer] := by simp [ways, rcase, he, hse]
 have hmn : (ps.map fun (h, k) => Way.partner h k).isEmpty = false := by
  cases ps with
  | nil => exact absurd rfl hne
  | cons p ps => rfl
 have hready : ((#[scase c v z, rcase e z'].zipIdx.toList.map fun (cc, k) => (k, cc, ways w₁ (gs.setIfInBounds i ph) cc)).filter fun (_, _, ws) => !ws.isEmpty) = [(0, scase c v z, ps.map fun (h, k) => Way.partner h k), (1, rcase e z', [.buffer])] := by
  simp [hw0, hw1, hne]
 have hill : ∀ cc ∈ #[scase c v z, rcase e z'], illMade w₁ cc = false := by
  intro cc hcc
  simp only [List.mem_toArray, List.mem_cons, List.not_mem_nil, or_false] at hcc
  rcases hcc with rfl | rfl
  ·exact made_send v z hc
  ·exact made_recv z' he
 rw [runT_crowd_comm hi h]
 unfold communicate
 simp only [hready]
 rw [if_neg (by rw [Bool.not_eq_true]; exact any_ill hill)]
 obtain ⟨A, hA⟩ : ∃ A, (Question.select 2).cut (w₁.tape w₁.drawn (.select 2)) = A := ⟨_, rfl⟩
 have hA2 : A = 0 ∨ A = 1 := by
  have : A < 2 := by rw [← hA]; simp only [Question.cut]; exact Nat.mod_lt _ (by omega)
  omega
 have hcd : w₁.drew.heap[c]? = some (.chan cap buf false s r tm) := hc
 have hed : w₁.drew.heap[e]? = some (.chan cape bufe false se re tme) := he
 rcases hA2 with rfl | rfl
 ·refine .inl ?_
  obtain ⟨b, d, hb, hpick⟩ : ∃ b d, b < ps.length ∧ (if (Question.extern "which waiting goroutine is the partner" ps.length).forced = true then (b = 0 ∧ d = w₁.drawn + 1) else (b = (Question.extern "which waiting goroutine is the partner" ps.length).cut (w₁.drew.tape w₁.drew.drawn (.extern "which waiting goroutine is the partner" ps.length)) ∧ d = w₁.drew.drawn + 1)) := by
   by_cases hf : (Question.extern "which waiting goroutine is the partner" ps.length).forced = true
   ·exact ⟨0, w₁.drawn + 1, hlen, by rw [if_pos hf]; exact ⟨rfl, rfl⟩⟩
   ·refine ⟨_, w₁.drew.drawn + 1, ?_, by rw [if_neg hf]; exact ⟨rfl, rfl⟩⟩
    simp only [Question.cut]
    rw [if_neg (by omega)]
    exact Nat.mod_lt _ hlen
  obtain ⟨⟨j, k'⟩, hjk⟩ : ∃ p, ps[b]? = some p := ⟨ps[b], List.getElem?_eq_getElem hb⟩
  obtain ⟨rfl, hij, gj, zj, shj, hj⟩ := hall j k' (List.mem_of_getElem? hjk)
  refine ⟨j, gj, zj, shj, d, hij, hj, ?_⟩
  have hj' := stand_get (i := i) hij hj
  have hfp := finishPartner_at P (gs.setIfInBounds i ph) hj' (cs := #[rcase c zj]) (sh := shj) rfl 0 v
  have hgd : (gs.setIfInBounds i ph).getD j default = parked gj #[rcase c zj] shj := by rw [Array.getD_eq_getD_getElem?, hj']; rfl
  have hgm := getD_map_partner ps b (j, 0) hjk
  by_cases hf : (Question.extern "which waiting goroutine is the partner" ps.length).forced = true
  ·rw [if_pos hf] at hpick
   obtain ⟨rfl, rfl⟩ := hpick
   have hf' : ps.length = 1 := by simpa [Question.forced] using hf
   have e0 : ps[0]'hlen = (j, 0) := (List.getElem?_eq_some_iff.1 hjk).2
   simp [hcd, hA, choose, Sem.run, Question.forced, bind, Sem.bind, pure, hf', hgm, hjk, e0, hj', scase, hc, World.setChan, crowd, hfp, hgd, set_stand2, rcase, parked, World.at]
   rfl
  ·rw [if_neg hf] at hpick
   obtain ⟨hbq, rfl⟩ := hpick
   have hbq' : (Question.extern "which waiting goroutine is the partner" ps.length).cut (w₁.tape (w₁.drawn + 1) (.extern "which waiting goroutine is the partner" ps.length)) = b := hbq.symm
   have hf' : ¬ ps.length = 1 := by simpa [Question.forced] using hf
   have hcd2 : w₁.drew.drew.heap[c]? = some (.chan cap buf false s r tm) := hc
   simp [hcd2, hA, hbq', choose, Sem.run, Question.forced, bind, Sem.bind, pure, hf', hgm, hjk, hj', scase, hc, World.setChan, crowd, hfp, hgd, set_stand2, rcase, parked, World.at]
   rfl
 ·refine .inr ⟨w₁.drawn + 1, ?_⟩
  simp [hed, hA, choose, Sem.run, Question.forced, bind, Sem.bind, pure, hpe, scase, he, World.setChan, crowd, set_stand2, rcase, parked, World.at]
end
section
variable {P : Program} {φ : Ph} {n N : Nat} {Pre Done : Nat → World → Prop} {An Nx AnW : Goroutine → World → Prop} {w : World} {g : Goroutine} {s : WTag} {m d : Nat} {ow : Nat → Prop} {tr : Tree}
theorem WSit.noSend (hA : ∀ g w, An g w → g.status = .running) (h : WSit P φ n Pre Done An ow tr s m d g w) (c : Nat) : offersAt g c true = [] := by
 by_cases h1 : s = .prk
 ·subst h1; cases h with | prk h => exact offersAt_parked_recv' _ _ _ _ _
 ·refine offersAt_of_not_blocked ?_ _ _
  rcases h.status hA with e | e | e
  ·rw [e]; simp
  ·by_cases h2 : s = .quit
   ·subst h2; cases h with | quit h => rcases h.status with e' | e' <;> rw [e'] <;> simp
   ·rw [h.running hA h1 h2] at e; cases e
  ·rw [e]; simp
theorem WSit.recvs (hA : ∀ g w, An g w → g.status = .running) (h : WSit P φ n Pre Done An ow tr s m d g w) (hne : s ≠ .prk) (c : Nat) (b : Bool) : offersAt g c b = [] := by
 refine offersAt_of_not_blocked ?_ _ _
 by_cases h2 : s = .quit
 ·subst h2; cases h with | quit h => rcases h.status with e' | e' <;> rw [e'] <;> simp
 ·rw [h.running hA hne h2]; simp
theorem MSit.noOffer (hA : ∀ g w, AnW g w → g.status = .running) {t : MTag} {j : Nat} (h : MSit P φ n Pre Done An Nx AnW N t j m d g w) (hne : ∀ r, t ≠ .hpk r) (c : Nat) (b : Bool) : offersAt g c b = [] := by
 rcases h.status hA with ⟨hs, _⟩ | ⟨_, rfl | ⟨r, rfl⟩⟩
 ·exact offersAt_of_not_blocked (by rw [hs]; simp) _ _
 ·cases h with
  | blk hb =>
   have h3 := hb w (.refl w)
   simp [offersAt, h3.2.1]
 ·exact absurd rfl (hne r)
theorem offersAt_sel_send (g : Goroutine) {c e : Nat} (hce : c ≠ e) (v z z' : Value) (sh : CommShape) : offersAt (parked g #[scase c v z, rcase e z'] sh) c true = [0] := by
 have : ¬ e = c := fun h => hce h.symm
 simp [offersAt, parked, scase, rcase, this]
end
end Go.Pool
end
section
namespace Go.Pool
open Go.Conc Go.ConcN
open Go.ConcR (stA smA rd wr mk KK WgAt wgBlock g_of_ofEvents loc_of_ofEvent)
theorem ep_still {φ : Ph} {own : Nat → Prop} {g : Nat} {es : Array Event} (h : ∀ e ∈ es, EvP φ own g e) (d : Nat) : deafBehind d es = d := deafBehind_still (fun e he => ⟨(h e he).2.1, (h e he).2.2.1⟩) d
section
variable {P : Program} {φ : Ph} {n : Nat} {Pre Done : Nat → World → Prop} {An Nx AnW : Goroutine → World → Prop} {N N0 L : Nat} {wb : World}
  {j H : Nat} {who mk : Nat → Nat} {closed : Bool} {gs gs' : Array Goroutine} {w w' : World} {sl : Option (Nat × Nat)} {t u : Trace} {D : Nat → PD} {d0 f0 : Nat} {tag : MTag} {a : Goroutine} {st sm : Int}
theorem ltM_left {a b c : Mu} (h : LtM a b) (h' : Prod.Lex (· < ·) (fun _ _ => False) b c) : LtM a c := by
 obtain ⟨a1, a2⟩ := a
 obtain ⟨b1, b2⟩ := b
 obtain ⟨c1, c2⟩ := c
 cases h' with
 | left _ _ h2 =>
  cases h with
  | left _ _ h1 => exact Prod.Lex.left _ _ (Nat.lt_trans h1 h2)
  | right _ _ => exact Prod.Lex.left _ _ h2
 | right _ h2 => exact h2.elim
theorem Goal.mono {μ μ' : Mu} {res : Stepped × Array MemOp} (h : Goal P φ n Pre Done An Nx AnW N N0 L wb μ' res t) (hl : Prod.Lex (· < ·) (fun _ _ => False) μ' μ) : Goal P φ n Pre Done An Nx AnW N N0 L wb μ res t := by
 obtain ⟨m₁, ops, e, h⟩ := h
 refine ⟨m₁, ops, e, h.imp id fun ⟨μ'', h1, h2⟩ => ⟨μ'', ltM_left h1 hl, h2⟩⟩
theorem MSit.hpk_inv {r q m d : Nat} {g : Goroutine} (h : MSit P φ n Pre Done An Nx AnW N (.hpk r) q m d g w) : ∃ r' gm z z' sh, r = r' + 1 ∧ q = N ∧ m = 0 ∧ d = 0 ∧ r' < n ∧ g = parked gm #[scase φ.Ch (.int .i64 ((n - (r' + 1) : Nat) : Int)) z, rcase φ.En z'] sh ∧ SelA P φ AnW (n - (r' + 1)) (Hand P φ n AnW r') gm z z' sh w := by
 generalize ht : MTag.hpk r = tt at h
 cases h with
 | hpk hr hs => cases ht; exact ⟨_, _, _, _, _, rfl, rfl, rfl, rfl, hr, rfl, hs⟩
 | _ => cases ht
theorem Com.lt_of (h : Com P φ n Pre Done An N0 L j H who mk closed gs w t D d0) {i : Nat} (hq : (D i).tag ≠ .quit) : L ≤ i :=
 Nat.le_of_not_lt fun hlt => hq (h.old i hlt)
theorem Vw_same (D : Nat → PD) (i : Nat) (x : PD) (h : x.tag.stage = (D i).tag.stage) : Vw j (upd D i x) = Vw j D := by
 refine sumTo_congr fun y _ => ?_
 show cnt (upd D i x y).wd = cnt (D y).wd
 by_cases e : y = i
 ·subst e
  rw [upd_same]
  show (if 5 ≤ x.tag.stage then 1 else 0) = (if 5 ≤ (D y).tag.stage then 1 else 0)
  rw [h]
 ·rw [upd_ne D _ e]
theorem handStep (G : Geo φ) (J : Jobs φ n Pre Done) (hcom : Com P φ n Pre Done An N0 L j H who mk closed gs w t D d0) (hN : j - L = N) (hd0 : d0 = 0)
  {r : Nat} (htag : tag = .hand (r + 1) ∨ tag = .hpk (r + 1)) (hlink : Link φ n tag closed H) (hwb : Frm φ own0 wb w) (hwg : WgAt φ.ty φ.Wg w st sm) (hmode : Go.ConcN.Mode j (fun y => (D y).wd) tag.ct st sm)
  {i : Nat} (hi : i < j) (htw : (D i).tag = .rcv ∨ (D i).tag = .prk) (hdw : (D i).deaf = 0) {gm gw : Goroutine} {sl' : Option (Nat × Nat)}
  (hsz : gs'.size = j + 1) (h0 : gs'[0]? = some gm) (hoth : ∀ i', i' < j → i' ≠ i → gs'[i' + 1]? = gs[i' + 1]?) (hme : gs'[i + 1]? = some gw)
  (hAs : Aside φ.Ch w w') (hch : ∃ s r, w'.heap[φ.Ch]? = some (.chan 0 #[] false s r false))
  (hworker : Pre H w' → GoesX P (RJ φ H) (DJO φ H) (JobS P φ Done An H) [] gw w') (hmain : Hand P φ n AnW r gm w')
  (htl : TL φ N0 L j who mk (t ++ u)) (hug : ∀ op ∈ u, op.g = 0 ∨ op.g = i + 1) (hust : ∀ op ∈ u, op.act ≠ .mark .disable ∧ op.act ≠ .mark .enable)
  {res : Stepped × Array MemOp} (hres : res = (.next (crowd gs' w' sl'), u)) :
  Goal P φ n Pre Done An Nx AnW N N0 L wb (mphi n N L (Vw j D) tag + Wsum j D, (j, fun y => (D y).tree), f0 + 2 * Fsm j D) res t := by
 have hF : ∀ own, Frm φ own w w' := fun own => Frm.of_ch G hAs
 have hcl : closed = false ∧ H + (r + 1) = n := by rcases htag with rfl | rfl <;> exact hlink
 obtain ⟨rfl, hH⟩ := hcl
 have hLi : L ≤ i := hcom.lt_of (by rcases htw with e | e <;> rw [e] <;> simp)
 have hcell : ∀ k b, φ.pb b → w'.cell? ⟨b, k, none⟩ = w.cell? ⟨b, k, none⟩ := fun k b hb => (hF fun _ => True).own b k hb trivial
 obtain ⟨tr, hjob⟩ := hworker (J.pre H w w' (hcell H) (hcom.pre H (Nat.le_refl _) (by omega)))
 have hwho0 : who H = 0 := hcom.whoH H (Nat.le_refl _)
 have hfnd' : Fnd φ n j (H + 1) (upd D i ⟨.job H, 0, 0, tr⟩) w' := fun fd e => by
  obtain ⟨l, s, r, h1, h2, h3, h4⟩ := hcom.fnd fd e
  refine ⟨l, s, r, (hAs.block _ fun e' => G.chFd (by rw [e, e'])).trans h1, h2, fun k hk => ⟨by have := (h3 k hk).1; omega, (h3 k hk).2.1, ?_⟩, fun k hk hp => ?_⟩
  ·rintro ⟨i', h5, h6⟩
   by_cases e' : i' = i
   ·subst e'
    rw [upd_same] at h6
    cases h6
    have := (h3 _ hk).1
    omega
   ·rw [upd_ne D _ e'] at h6
    exact (h3 k hk).2.2 ⟨i', h5, h6⟩
  ·by_cases ek : k = H
   ·exact .inl ⟨i, hi, by rw [upd_same, ek]⟩
   ·refine (h4 k (by omega) hp).imp (fun ⟨i', h5, h6⟩ => ⟨i', h5, ?_⟩) id
    rw [upd_ne D _ fun e' => ?_]
    ·exact h6
    ·subst e'
     rcases htw with x | x <;> rw [x] at h6 <;> cases h6
 have hcom' : Com P φ n Pre Done An N0 L j (H + 1) (upd who H (i + 1)) mk false gs' w' (t ++ u) (upd D i ⟨.job H, 0, 0, tr⟩) 0 := by
  refine hcom.upd hi hsz hoth hme (.job (L := []) (by simp) hjob) (Nat.le_of_eq hAs.size.symm) (fun b hb _ _ => hAs.block b (by have := G.chB; omega)) (fun _ _ => rfl) (fun _ h0 h1 => absurd h0 h1) (fun i' _ _ => hF _) (htl.draw fun k hk => ?_) hug (by rw [Deaf_still t 0 u hust, hcom.deaf0, hd0]) (by rw [Deaf_still t _ u hust, hcom.deafW i hi, hdw]) (fun h => by omega) (fun _ h => by simp [WTag.stage] at h) (by omega) (fun k hk => ?_) (fun k hk => ?_) (by omega) (fun k e => ?_) (fun k hk => ?_) (fun k h1 h2 => J.pre k w w' (hcell k) (hcom.pre k (by omega) h2)) hch
   (hcom.en.keep (hAs.block _ G.chEn.symm) (by omega)) hfnd' (fun e => by cases e) (fun _ _ => trivial) (fun h => by cases h)
  ·rw [upd_ne who _ (fun e => hk (by rw [e, hwho0]))]
  ·rw [upd_ne who _ (by omega)]; exact hcom.whoH k (by omega)
  ·rw [upd_ne who _ (fun e => hk (by rw [e, hwho0]))]
  ·cases e
   exact ⟨by omega, upd_same who H _⟩
  ·by_cases e : k = H
   ·subst e; exact .inl rfl
   ·rcases hcom.done k (by omega) with ⟨i', h1, h2⟩ | h1
    ·refine .inr (.inl ⟨i', h1, fun e' => ?_, h2⟩)
     subst e'
     rcases htw with x | x <;> rw [x] at h2 <;> cases h2
    ·exact .inr (.inr (J.done k w w' (hcell k) h1))
 have hst7 : (D i).tag.stage = 7 := by rcases htw with e | e <;> rw [e] <;> rfl
 have hmode' : Go.ConcN.Mode j (fun y => (upd D i ⟨.job H, 0, 0, tr⟩ y).wd) .kd st sm := by
  have h1 : Go.ConcN.Mode j (fun y => (D y).wd) .kd st sm := by rcases htag with rfl | rfl <;> exact hmode
  refine h1.congr fun y _ => ?_
  by_cases e : y = i
  ·subst e; rw [upd_same]; exact hst7.symm
  ·rw [upd_ne D _ e]
 have ev : Vw j (upd D i ⟨.job H, 0, 0, tr⟩) = Vw j D := Vw_same D i _ hst7.symm
 have e2 := sumTo_upd D (⟨.job H, 0, 0, tr⟩ : PD) (fun y => y.tag.wt) hi
 have hwt : 10 ≤ (D i).tag.wt := by rcases htw with e | e <;> rw [e] <;> simp [WTag.wt]
 have hwb' : Frm φ own0 wb w' := hwb.trans (hF _)
 have hwg' : WgAt φ.ty φ.Wg w' st sm := hwg.of_block (hAs.block _ G.wgCh)
 have hm0 : 10 * N + 20 + L + 10 * r + 10 ≤ mphi n N L (Vw j D) tag := by rcases htag with rfl | rfl <;> simp only [mphi] <;> omega
 have hx12 : (⟨.job H, 0, 0, tr⟩ : PD).tag.wt = 14 := rfl
 rw [hx12] at e2
 cases r with
 | zero =>
  obtain ⟨m₃, hk⟩ := hmain
  refine ⟨_, _, hres, .inr ⟨_, ?_, gs', w', sl', j, H + 1, _, _, false, _, .cls, m₃, 0, gm, st, sm, rfl, h0, ?_, hcom', hwg', hmode', ⟨rfl, by omega, .inl (by omega)⟩, (by simp), hwb', rfl⟩⟩
  ·refine Prod.Lex.left _ _ ?_
   simp only [mphi, Wsum] at e2 hm0 ⊢
   omega
  ·rw [hN]; exact .cls hk
 | succ r' =>
  obtain ⟨m₃, hk⟩ := hmain
  refine ⟨_, _, hres, .inr ⟨_, ?_, gs', w', sl', j, H + 1, _, _, false, _, .hand (r' + 1), m₃, 0, gm, st, sm, rfl, h0, ?_, hcom', hwg', hmode', ⟨rfl, by omega⟩, (by simp), hwb', rfl⟩⟩
  ·refine Prod.Lex.left _ _ ?_
   simp only [mphi, Wsum] at e2 hm0 ⊢
   omega
  ·rw [hN]; exact .hand (by omega) hk
theorem tl_ev (A : Apt φ) (h : TL φ N0 L j who mk t) {g g' : Nat} (hg : g' = 0 ∨ (L < g' ∧ g' ≤ j)) (h0 : g = 0 ↔ g' = 0) {fn : FuncId} {pos : String} {es : Array Event} (he : ∀ e ∈ es, EvP φ own0 g e) : TL φ N0 L j who mk (t ++ MemOp.ofEvents g' fn pos es) := by
 obtain ⟨h1, h2, h3⟩ := ep_ops (fn := fn) (pos := pos) (own' := fun k => who k = g' ∧ g' ≠ 0) he h0 (fun _ => False.elim)
 exact h.app A hg (g_of_ofEvents) h1 (fun op hop => .inl (h2 op hop)) h3
theorem ev_still {g g' : Nat} {own : Nat → Prop} {fn : FuncId} {pos : String} {es : Array Event} (he : ∀ e ∈ es, EvP φ own g e) : ∀ op ∈ MemOp.ofEvents g' fn pos es, op.act ≠ .mark .disable ∧ op.act ≠ .mark .enable := by
 intro op hop
 obtain ⟨e, h1, rfl⟩ := Go.Conc.mem_ofEvents hop
 exact ⟨fun hm => (he e h1).2.1 (loc_of_ofEvent hm), fun hm => (he e h1).2.2.1 (loc_of_ofEvent hm)⟩
theorem meet_ops {c s r cap x y : Nat} {f1 f2 : FuncId} {p1 p2 : String} (h : TL φ N0 L j who mk t) (hc : c < φ.B) :
  TL φ N0 L j who mk (t ++ #[{ g := x, fn := f1, pos := p1, act := .send c s }, { g := y, fn := f2, pos := p2, act := .recv c r cap }, { g := x, fn := f1, pos := p1, act := .sendDone c s }, { g := y, fn := f2, pos := p2, act := .recvDone c r }]) := by
 refine h.mute (fun op hop => ?_) (fun op hop => ?_) (fun op hop => ?_) <;> simp only [List.mem_toArray, List.mem_cons, List.not_mem_nil, or_false] at hop <;> rcases hop with rfl | rfl | rfl | rfl
 any_goals rfl
 any_goals exact hc
 all_goals simp
theorem recvStop (G : Geo φ) (J : Jobs φ n Pre Done) (hA : ∀ g w, An g w → g.status = .running) (hAr : ∀ g w, AnW g w → g.status = .running)
  (ha : gs[0]? = some a) (hms : MSit P φ n Pre Done An Nx AnW N tag (j - L) f0 d0 a w) (hcom : Com P φ n Pre Done An N0 L j H who mk closed gs w t D d0)
  (hlink : Link φ n tag closed H) (hpk : ∀ r, tag = .hpk r → ∀ i, i < j → (D i).tag ≠ .prk) (hwb : Frm φ own0 wb w) (hwg : WgAt φ.ty φ.Wg w st sm) (hmode : Go.ConcN.Mode j (fun y => (D y).wd) tag.ct st sm)
  {i : Nat} (hi : i < j) {g : Goroutine} (hg : gs[i + 1]? = some g) (htw : (D i).tag = .rcv) (hdw : (D i).deaf = 0) (h : RecvS P φ n Pre Done An g w) :
  Goal P φ n Pre Done An Nx AnW N N0 L wb (mphi n N L (Vw j D) tag + Wsum j D, (j, fun y => (D y).tree), f0 + 2 * Fsm j D) (runT P (crowd gs w sl) (i + 1)) t := by
 obtain ⟨_, g₂, z, sh, hsame, hrec⟩ := h
 obtain ⟨⟨es, hstep, hev⟩, hjobs, hout⟩ := hrec w (.refl w)
 have hstep' : stepG P (i + 1 == 0) g w = .comm g₂ #[rcase φ.Ch z] true sh w es := by rw [show (i + 1 == 0) = false by simp, hsame.step]; exact hstep
 have hLi : L ≤ i := hcom.lt_of (by rw [htw]; simp)
 obtain ⟨s1, r1, hc⟩ := hcom.ch
 have htl1 : TL φ N0 L j who mk (t ++ MemOp.ofEvents (i + 1) g.frame.fn g.frame.place es) := tl_ev G.apt hcom.tl (.inr ⟨by omega, by omega⟩) (g := 1) (by simp) hev
 have hst1 := ev_still (φ := φ) (g' := i + 1) (fn := g.frame.fn) (pos := g.frame.place) hev
 have hcell : ∀ k, k < n → Pre k w → Pre k w := fun _ _ h => h
 have hsends : ∀ y x, (gs.setIfInBounds (i + 1) ph)[y]? = some x → y ≠ 0 → offersAt x φ.Ch true = [] := by
  intro y x hx hy0
  rcases getElem?_stand gs (i + 1) y x hx with ⟨_, rfl⟩ | ⟨hne, hx'⟩
  ·exact offersAt_ph _ _
  ·obtain ⟨y', rfl⟩ : ∃ y', y = y' + 1 := ⟨y - 1, by omega⟩
   have hlt : y' < j := by have := (Array.getElem?_eq_some_iff.1 hx').1; rw [hcom.size] at this; omega
   obtain ⟨x', hx'', hs⟩ := hcom.wk y' hlt
   rw [hx'] at hx''; cases hx''
   exact hs.noSend hA _
 by_cases hhp : ∃ r, tag = .hpk r
 ·obtain ⟨r0, rfl⟩ := hhp
  obtain ⟨r, gm, z1, z2, shm, rfl, hNN, rfl, rfl, hr, rfl, hsel⟩ := hms.hpk_inv
  ·obtain ⟨rfl, hH⟩ := hlink
   have e0 : n - (r + 1) = H := by omega
   have hoff : offersAt (parked gm #[scase φ.Ch (.int .i64 ((n - (r + 1) : Nat) : Int)) z1, rcase φ.En z2] shm) φ.Ch true = [0] := offersAt_sel_send gm G.chEn _ _ _ _
   have hz : (gs.setIfInBounds (i + 1) ph)[0]? = some (parked gm #[scase φ.Ch (.int .i64 ((n - (r + 1) : Nat) : Int)) z1, rcase φ.En z2] shm) := stand_get (by omega) ha
   have hp : partners (gs.setIfInBounds (i + 1) ph) φ.Ch true = [(0, 0)] := by
    rw [partners_one hz (fun y x hy hx => hsends y x hx hy), hoff]; rfl
   have hrun := recv_meets_sel (sl := sl) hg hstep' hc (by omega) ha (k := 0) rfl hp
   have hlt1 : i + 1 < gs.size := by rw [hcom.size]; omega
   refine handStep (AnW := AnW) (Nx := Nx) (f0 := 0) (gs' := _) G J hcom hNN rfl (r := r) (.inr rfl) ⟨rfl, hH⟩ hwb hwg hmode hi (.inl htw) hdw (by simp [hcom.size]) (gm := gm.finishComm P #[scase φ.Ch (.int .i64 ((n - (r + 1) : Nat) : Int)) z1, rcase φ.En z2] shm 0 undef false) (gw := g₂.finishComm P #[rcase φ.Ch z] sh 0 (.int .i64 ((n - (r + 1) : Nat) : Int)) true) ?_ (fun i' hi' hne => ?_) ?_ (aside_setChan _ _ _ _ _ _ _ _) ⟨s1 + 1, r1 + 1, ?_⟩ (fun hpre => ?_) ?_ ?_ ?_ ?_ hrun
   ·rw [Array.getElem?_setIfInBounds_ne (by omega), Array.getElem?_setIfInBounds_self_of_lt (by omega)]; rfl
   ·rw [Array.getElem?_setIfInBounds_ne (by omega), Array.getElem?_setIfInBounds_ne (by omega)]
   ·rw [Array.getElem?_setIfInBounds_self_of_lt (by simpa using hlt1)]
   ·have hlt2 : φ.Ch < w.heap.size := (Array.getElem?_eq_some_iff.1 hc).1
    simp [World.setChan, hlt2]
   ·obtain ⟨_, hj2, _⟩ := hrec _ (Frm.of_ch G (aside_setChan w φ.Ch 0 #[] false (s1 + 1) (r1 + 1) false))
    rw [e0]
    exact hj2 H (by omega) hpre
   ·exact (hsel _ (Frm.of_ch G (aside_setChan w φ.Ch 0 #[] false (s1 + 1) (r1 + 1) false))).2.1
   ·have := meet_ops (s := s1) (r := r1) (cap := 0) (x := 0) (y := i + 1) (f1 := gm.frame.fn) (f2 := g₂.frame.fn) (p1 := gm.frame.place) (p2 := g₂.frame.place) htl1 G.chB
    rw [← Array.append_assoc]; exact this
   ·intro op hop
    rcases Array.mem_append.1 hop with h' | h'
    ·exact .inr (g_of_ofEvents op h')
    ·simp only [List.mem_toArray, List.mem_cons, List.not_mem_nil, or_false] at h'
     rcases h' with rfl | rfl | rfl | rfl
     ·exact .inl rfl
     ·exact .inr rfl
     ·exact .inl rfl
     ·exact .inr rfl
   ·intro op hop
    rcases Array.mem_append.1 hop with h' | h'
    ·exact hst1 op h'
    ·simp only [List.mem_toArray, List.mem_cons, List.not_mem_nil, or_false] at h'
     rcases h' with rfl | rfl | rfl | rfl <;> simp
 ·have hnm : ∀ r, tag ≠ .hpk r := fun r e => hhp ⟨r, e⟩
  have hp : partners (gs.setIfInBounds (i + 1) ph) φ.Ch true = [] := by
   refine partners_nil fun y x hx => ?_
   by_cases hy : y = 0
   ·subst hy
    rcases getElem?_stand gs (i + 1) 0 x hx with ⟨h', _⟩ | ⟨_, hx'⟩
    ·omega
    ·rw [ha] at hx'; cases hx'
     exact hms.noOffer hAr hnm _ _
   ·exact hsends y x hx hy
  have hme : ∀ y : Goroutine, (gs.setIfInBounds (i + 1) y)[i + 1]? = some y := fun y => by
   rw [Array.getElem?_setIfInBounds_self_of_lt (by rw [hcom.size]; omega)]
  have ho : ∀ y : Goroutine, ∀ i', i' < j → i' ≠ i → (gs.setIfInBounds (i + 1) y)[i' + 1]? = gs[i' + 1]? := fun y i' _ hne => Array.getElem?_setIfInBounds_ne (by omega)
  have h0' : ∀ y : Goroutine, (gs.setIfInBounds (i + 1) y)[0]? = some a := fun y => by rw [Array.getElem?_setIfInBounds_ne (by omega)]; exact ha
  have hst7 : (D i).tag.stage = 7 := by rw [htw]; rfl
  have hmode' : ∀ x : PD, x.tag.stage = 7 → Go.ConcN.Mode j (fun y => (upd D i x y).wd) tag.ct st sm := fun x hx => hmode.congr fun y _ => by
   by_cases e : y = i
   ·subst e; rw [upd_same]; exact hx.trans hst7.symm
   ·rw [upd_ne D _ e]
  have ev : ∀ x : PD, x.tag.stage = 7 → Vw j (upd D i x) = Vw j D := fun x hx => Vw_same D i x (hx.trans hst7.symm)
  have e2 : ∀ x : PD, Wsum j (upd D i x) + (D i).tag.wt = Wsum j D + x.tag.wt := fun x => sumTo_upd D x (fun y => y.tag.wt) hi
  have hwt : (D i).tag.wt = 11 := by rw [htw]; rfl
  have hnotjob : ∀ k, (D i).tag ≠ .job k := fun k e => by rw [htw] at e; cases e
  have hdone : ∀ (x : PD) k, k < H → x.tag = .job k ∨ (∃ i', i' < j ∧ i' ≠ i ∧ (D i').tag = .job k) ∨ Done k w := fun x k hk => by
   rcases hcom.done k hk with ⟨i', h1, h2⟩ | h1
   ·exact .inr (.inl ⟨i', h1, fun e => by subst e; exact hnotjob k h2, h2⟩)
   ·exact .inr (.inr h1)
  cases hcl : closed with
  | true =>
   rw [hcl] at hc hlink hcom
   have hrun := crowd_recv_closed (sl := sl) hg hstep' hc hp
   obtain ⟨m, hk⟩ := hout
   have htl2 : TL φ N0 L j who mk (t ++ (MemOp.ofEvents (i + 1) g.frame.fn g.frame.place es ++ #[{ g := i + 1, fn := g₂.frame.fn, pos := g₂.frame.place, act := .recvClosed φ.Ch }])) := by
    rw [← Array.append_assoc]
    refine htl1.mute (fun op hop => ?_) (fun op hop => ?_) (fun op hop => ?_) <;> simp only [List.mem_toArray, List.mem_cons, List.not_mem_nil, or_false] at hop <;> subst hop
    ·rfl
    ·exact G.chB
    ·simp
   have hug : ∀ op ∈ MemOp.ofEvents (i + 1) g.frame.fn g.frame.place es ++ #[{ g := i + 1, fn := g₂.frame.fn, pos := g₂.frame.place, act := .recvClosed φ.Ch }], op.g = i + 1 := by
    intro op hop
    rcases Array.mem_append.1 hop with h' | h'
    ·exact g_of_ofEvents op h'
    ·simp only [List.mem_toArray, List.mem_cons, List.not_mem_nil, or_false] at h'; subst h'; rfl
   have hus : ∀ op ∈ MemOp.ofEvents (i + 1) g.frame.fn g.frame.place es ++ #[{ g := i + 1, fn := g₂.frame.fn, pos := g₂.frame.place, act := .recvClosed φ.Ch }], op.act ≠ .mark .disable ∧ op.act ≠ .mark .enable := by
    intro op hop
    rcases Array.mem_append.1 hop with h' | h'
    ·exact hst1 op h'
    ·simp only [List.mem_toArray, List.mem_cons, List.not_mem_nil, or_false] at h'; subst h'; simp
   have hcom' : Com P φ n Pre Done An N0 L j H who mk true (gs.setIfInBounds (i + 1) (g₂.finishComm P #[rcase φ.Ch z] sh 0 z false)) w (t ++ (MemOp.ofEvents (i + 1) g.frame.fn g.frame.place es ++ #[{ g := i + 1, fn := g₂.frame.fn, pos := g₂.frame.place, act := .recvClosed φ.Ch }])) (upd D i ⟨.out, m, 0, (D i).tree⟩) d0 :=
    hcom.upd hi (by simp [hcom.size]) (ho _) (hme _) (.out hk) (Nat.le_refl _) (fun _ _ _ _ => rfl) (fun _ _ => rfl) (fun _ h0 h1 => absurd h0 h1) (fun _ _ _ => .refl w) htl2 (fun op hop => .inr (hug op hop)) (by rw [Deaf_still t 0 _ hus]; exact hcom.deaf0) (by rw [Deaf_still t _ _ hus, hcom.deafW i hi, hdw]) (fun h => by omega) (fun _ h => by simp [WTag.stage] at h) hcom.Hn hcom.whoH (fun _ _ => rfl) (Nat.le_refl _)
     (fun k e => by cases e) (hdone _) hcom.pre ⟨s1, r1, hc⟩ hcom.en (hcom.fnd.keep (fun _ _ => rfl) (held_upd hi fun k => ⟨fun e => (by cases e), fun e => absurd e (hnotjob k)⟩)) (fun e => by cases e) (fun h => by cases h) (fun _ => by simp)
   refine ⟨_, _, hrun, .inr ⟨_, ?_, _, w, sl, j, H, who, mk, true, _, tag, f0, d0, a, st, sm, rfl, h0' _, hms, hcom', hwg, hmode' _ rfl, hlink, fun r e => absurd e (hnm r), hwb, rfl⟩⟩
   refine Prod.Lex.left _ _ ?_
   have := e2 ⟨.out, m, 0, (D i).tree⟩
   rw [ev _ rfl]
   rw [hwt] at this
   simp only [WTag.wt] at this
   omega
  | false =>
   rw [hcl] at hc hlink hcom
   have hrun := crowd_waits (sl := sl) hg hstep' (fun cc hcc => by
    simp only [List.mem_toArray, List.mem_cons, List.not_mem_nil, or_false] at hcc
    subst hcc
    exact ways_recv_none hc hp)
   have hcom' : Com P φ n Pre Done An N0 L j H who mk false (gs.setIfInBounds (i + 1) (parked g₂ #[rcase φ.Ch z] sh)) w (t ++ MemOp.ofEvents (i + 1) g.frame.fn g.frame.place es) (upd D i ⟨.prk, 0, 0, (D i).tree⟩) d0 :=
    hcom.upd hi (by simp [hcom.size]) (ho _) (hme _) (.prk hrec) (Nat.le_refl _) (fun _ _ _ _ => rfl) (fun _ _ => rfl) (fun _ h0 h1 => absurd h0 h1) (fun _ _ _ => .refl w) htl1 (fun op hop => .inr (g_of_ofEvents op hop)) (by rw [Deaf_still t 0 _ hst1]; exact hcom.deaf0) (by rw [Deaf_still t _ _ hst1, hcom.deafW i hi, hdw]) (fun h => by omega) (fun _ h => by simp [WTag.stage] at h) hcom.Hn hcom.whoH (fun _ _ => rfl) (Nat.le_refl _)
     (fun k e => by cases e) (hdone _) hcom.pre ⟨s1, r1, hc⟩ hcom.en (hcom.fnd.keep (fun _ _ => rfl) (held_upd hi fun k => ⟨fun e => (by cases e), fun e => absurd e (hnotjob k)⟩)) (fun e => by cases e) (fun _ _ => trivial) (fun h => by cases h)
   refine ⟨_, _, hrun, .inr ⟨_, ?_, _, w, sl, j, H, who, mk, false, _, tag, f0, d0, a, st, sm, rfl, h0' _, hms, hcom', hwg, hmode' _ rfl, hlink, fun r e => absurd e (hnm r), hwb, rfl⟩⟩
   refine Prod.Lex.left _ _ ?_
   have := e2 ⟨.prk, 0, 0, (D i).tree⟩
   rw [ev _ rfl]
   rw [hwt] at this
   simp only [WTag.wt] at this
   omega
end
end Go.Pool
end
