/-
  POOL C: communications of one-case receives with two-case selects, in the machine of many goroutines.
-/
import Derived.Test.YthkaigokcognmaaPool3
set_option linter.unusedSimpArgs false
namespace Go.Pool
open Go.Conc Go.ConcN

section
variable {P : Program} {gs : Array Goroutine} {w w₁ : World} {sl : Option (Nat × Nat)} {i j k : Nat} {g g₂ gj : Goroutine} {es : Array Event} {c cap s r : Nat} {buf : Array Value} {tm closed : Bool} {v z zj : Value}
  {blocking : Bool} {shape shj : CommShape} {cs cases : Array CommCase}

/-- A RECEIVE MEETS THE ONE GOROUTINE PARKED AT n CASES, its k-th a send there. -/
theorem recv_meets_sel (hi : gs[i]? = some g) (h : stepG P (i == 0) g w = .comm g₂ #[rcase c z] blocking shape w₁ es) (hc : w₁.heap[c]? = some (.chan cap #[] closed s r tm))
    (hij : j ≠ i) (hj : gs[j]? = some (parked gj cs shj)) (hk : cs[k]? = some (scase c v zj)) (hp : partners (gs.setIfInBounds i ph) c true = [(j, k)]) :
    runT P (crowd gs w sl) i = (.next (crowd ((gs.setIfInBounds j (gj.finishComm P cs shj k undef false)).setIfInBounds i (g₂.finishComm P #[rcase c z] shape 0 v true)) (w₁.setChan c cap #[] closed (s + 1) (r + 1) tm) sl),
      MemOp.ofEvents i g.frame.fn g.frame.place es ++ #[{ g := j, fn := gj.frame.fn, pos := gj.frame.place, act := .send c s }, { g := i, fn := g₂.frame.fn, pos := g₂.frame.place, act := .recv c r cap },
        { g := j, fn := gj.frame.fn, pos := gj.frame.place, act := .sendDone c s }, { g := i, fn := g₂.frame.fn, pos := g₂.frame.place, act := .recvDone c r }]) := by
  rw [runT_crowd_comm hi h]
  have hj' := stand_get (i := i) hij hj
  have hfp := finishPartner_at P (gs.setIfInBounds i ph) hj' (cs := cs) (sh := shj) rfl k undef
  have hgd : (gs.setIfInBounds i ph).getD j default = parked gj cs shj := by rw [Array.getD_eq_getD_getElem?, hj']; rfl
  have hov : offeredValue (gs.setIfInBounds i ph) j k = v := by simp [offeredValue, hj', parked, hk, scase]
  simp [communicate, ways, rcase, hc, hp, choose, Sem.run, Question.forced, bind, Sem.bind, pure, World.setChan, crowd, hfp, hgd, hov, set_stand2, finishComm_parked, scase, parked, hk]
  rfl

/-- A SELECT's CASE k, A SEND, WHERE ONE OR MORE RECEIVERS ARE PARKED, each with that one case; no other case has a way. -/
theorem sel_send_meets_some (hi : gs[i]? = some g) (h : stepG P (i == 0) g w = .comm g₂ cases blocking shape w₁ es) (hk : cases[k]? = some (scase c v z))
    (ho : ∀ (m : Nat) (c' : CommCase), m ≠ k → cases[m]? = some c' → NoWays w₁ (gs.setIfInBounds i ph) c') (hc : w₁.heap[c]? = some (.chan cap buf false s r tm))
    (hne : partners (gs.setIfInBounds i ph) c false ≠ [])
    (hall : ∀ j k, (j, k) ∈ partners (gs.setIfInBounds i ph) c false → k = 0 ∧ j ≠ i ∧ ∃ gj zj shj, gs[j]? = some (parked gj #[rcase c zj] shj)) :
    ∃ (j : Nat) (gj : Goroutine) (zj : Value) (shj : CommShape) (d : Nat), j ≠ i ∧ gs[j]? = some (parked gj #[rcase c zj] shj) ∧
      runT P (crowd gs w sl) i = (.next (crowd ((gs.setIfInBounds j (gj.finishComm P #[rcase c zj] shj 0 v true)).setIfInBounds i (g₂.finishComm P cases shape k undef false)) ((w₁.at d).setChan c cap buf false (s + 1) (r + 1) tm) sl),
        MemOp.ofEvents i g.frame.fn g.frame.place es ++ #[{ g := i, fn := g₂.frame.fn, pos := g₂.frame.place, act := .send c s }, { g := j, fn := gj.frame.fn, pos := gj.frame.place, act := .recv c r cap },
          { g := i, fn := g₂.frame.fn, pos := g₂.frame.place, act := .sendDone c s }, { g := j, fn := gj.frame.fn, pos := gj.frame.place, act := .recvDone c r }]) := by
  generalize hps : partners (gs.setIfInBounds i ph) c false = ps at hne hall
  have hlen : 0 < ps.length := List.length_pos_iff.2 hne
  obtain ⟨b, d, hb, hpick⟩ : ∃ b d, b < ps.length ∧ (if (Question.extern "which waiting goroutine is the partner" ps.length).forced = true then (b = 0 ∧ d = w₁.drawn) else (b = (Question.extern "which waiting goroutine is the partner" ps.length).cut (w₁.tape w₁.drawn (.extern "which waiting goroutine is the partner" ps.length)) ∧ d = w₁.drawn + 1)) := by
    by_cases hf : (Question.extern "which waiting goroutine is the partner" ps.length).forced = true
    · exact ⟨0, w₁.drawn, hlen, by rw [if_pos hf]; exact ⟨rfl, rfl⟩⟩
    · refine ⟨_, w₁.drawn + 1, ?_, by rw [if_neg hf]; exact ⟨rfl, rfl⟩⟩
      simp only [Question.cut]
      rw [if_neg (by omega)]
      exact Nat.mod_lt _ hlen
  obtain ⟨⟨j, k'⟩, hjk⟩ : ∃ p, ps[b]? = some p := ⟨ps[b], List.getElem?_eq_getElem hb⟩
  obtain ⟨rfl, hij, gj, zj, shj, hj⟩ := hall j k' (List.mem_of_getElem? hjk)
  refine ⟨j, gj, zj, shj, d, hij, hj, ?_⟩
  rw [runT_crowd_comm hi h]
  have hj' := stand_get (i := i) hij hj
  have hfp := finishPartner_at P (gs.setIfInBounds i ph) hj' (cs := #[rcase c zj]) (sh := shj) rfl 0 v
  have hgd : (gs.setIfInBounds i ph).getD j default = parked gj #[rcase c zj] shj := by rw [Array.getD_eq_getD_getElem?, hj']; rfl
  have hw : ways w₁ (gs.setIfInBounds i ph) (scase c v z) = ps.map fun (h, k) => Way.partner h k := by
    simp only [ways, scase, hc, hps]
    cases ps with
    | nil => exact absurd rfl hne
    | cons p ps => simp
  have hgm := getD_map_partner ps b (j, 0) hjk
  have hmn : ps.map (fun (h, k) => Way.partner h k) ≠ [] := by simpa using hne
  have hne' : ways w₁ (gs.setIfInBounds i ph) (scase c v z) ≠ [] := by rw [hw]; exact hmn
  unfold communicate
  simp only [ready_one hk hne' ho, hw]
  rw [if_neg (by rw [Bool.not_eq_true]; exact any_ill (made_of_one hk (made_send v z hc) ho))]
  by_cases hf : (Question.extern "which waiting goroutine is the partner" ps.length).forced = true
  · rw [if_pos hf] at hpick
    obtain ⟨rfl, rfl⟩ := hpick
    have hf' : ps.length = 1 := by simpa [Question.forced] using hf
    have e0 : ps[0]'hlen = (j, 0) := (List.getElem?_eq_some_iff.1 hjk).2
    simp [choose, Sem.run, Question.forced, bind, Sem.bind, pure, hf', hgm, hjk, e0, hj', scase, hc, World.setChan, crowd, hfp, hgd, set_stand2, rcase, parked, World.at]
    rfl
  · rw [if_neg hf] at hpick
    obtain ⟨rfl, rfl⟩ := hpick
    have hf' : ¬ ps.length = 1 := by simpa [Question.forced] using hf
    have hcd : w₁.drew.heap[c]? = some (.chan cap buf false s r tm) := hc
    simp [hcd, choose, Sem.run, Question.forced, bind, Sem.bind, pure, hf', hgm, hjk, hj', scase, hc, World.setChan, crowd, hfp, hgd, set_stand2, rcase, parked, World.at]
    rfl

/-- A SELECT OF A SEND THAT SOMEBODY WAITS FOR AND A RECEIVE THAT FINDS SOMETHING: the tape says which. -/
theorem sel_both {e cape se re : Nat} {bufe : Array Value} {tme : Bool} {z' : Value} (hi : gs[i]? = some g) (h : stepG P (i == 0) g w = .comm g₂ #[scase c v z, rcase e z'] blocking shape w₁ es) (hc : w₁.heap[c]? = some (.chan cap buf false s r tm))
    (hne : partners (gs.setIfInBounds i ph) c false ≠ [])
    (hall : ∀ j k, (j, k) ∈ partners (gs.setIfInBounds i ph) c false → k = 0 ∧ j ≠ i ∧ ∃ gj zj shj, gs[j]? = some (parked gj #[rcase c zj] shj))
    (he : w₁.heap[e]? = some (.chan cape bufe false se re tme)) (hse : 0 < bufe.size) (hpe : partners (gs.setIfInBounds i ph) e true = []) :
    (∃ (j : Nat) (gj : Goroutine) (zj : Value) (shj : CommShape) (d : Nat), j ≠ i ∧ gs[j]? = some (parked gj #[rcase c zj] shj) ∧
      runT P (crowd gs w sl) i = (.next (crowd ((gs.setIfInBounds j (gj.finishComm P #[rcase c zj] shj 0 v true)).setIfInBounds i (g₂.finishComm P #[scase c v z, rcase e z'] shape 0 undef false)) ((w₁.at d).setChan c cap buf false (s + 1) (r + 1) tm) sl),
        MemOp.ofEvents i g.frame.fn g.frame.place es ++ #[{ g := i, fn := g₂.frame.fn, pos := g₂.frame.place, act := .send c s }, { g := j, fn := gj.frame.fn, pos := gj.frame.place, act := .recv c r cap },
          { g := i, fn := g₂.frame.fn, pos := g₂.frame.place, act := .sendDone c s }, { g := j, fn := gj.frame.fn, pos := gj.frame.place, act := .recvDone c r }])) ∨
    (∃ d : Nat, runT P (crowd gs w sl) i = (.next (crowd (gs.setIfInBounds i (g₂.finishComm P #[scase c v z, rcase e z'] shape 1 (bufe.getD 0 undef) true)) ((w₁.at d).setChan e cape (bufe.extract 1 bufe.size) false se (re + 1) tme) sl),
        MemOp.ofEvents i g.frame.fn g.frame.place es ++ #[{ g := i, fn := g₂.frame.fn, pos := g₂.frame.place, act := .recv e re cape }, { g := i, fn := g₂.frame.fn, pos := g₂.frame.place, act := .recvDone e re }])) := by
  generalize hps : partners (gs.setIfInBounds i ph) c false = ps at hne hall
  have hlen : 0 < ps.length := List.length_pos_iff.2 hne
  have hw0 : ways w₁ (gs.setIfInBounds i ph) (scase c v z) = ps.map fun (h, k) => Way.partner h k := by
    simp only [ways, scase, hc, hps]
    cases ps with
    | nil => exact absurd rfl hne
    | cons p ps => simp
  have hw1 : ways w₁ (gs.setIfInBounds i ph) (rcase e z') = [.buffer] := by simp [ways, rcase, he, hse]
  have hmn : (ps.map fun (h, k) => Way.partner h k).isEmpty = false := by
    cases ps with
    | nil => exact absurd rfl hne
    | cons p ps => rfl
  have hready : ((#[scase c v z, rcase e z'].zipIdx.toList.map fun (cc, k) => (k, cc, ways w₁ (gs.setIfInBounds i ph) cc)).filter fun (_, _, ws) => !ws.isEmpty) = [(0, scase c v z, ps.map fun (h, k) => Way.partner h k), (1, rcase e z', [.buffer])] := by
    simp [hw0, hw1, hne]
  have hill : ∀ cc ∈ #[scase c v z, rcase e z'], illMade w₁ cc = false := by
    intro cc hcc
    simp only [List.mem_toArray, List.mem_cons, List.not_mem_nil, or_false] at hcc
    rcases hcc with rfl | rfl
    · exact made_send v z hc
    · exact made_recv z' he
  rw [runT_crowd_comm hi h]
  unfold communicate
  simp only [hready]
  rw [if_neg (by rw [Bool.not_eq_true]; exact any_ill hill)]
  obtain ⟨A, hA⟩ : ∃ A, (Question.select 2).cut (w₁.tape w₁.drawn (.select 2)) = A := ⟨_, rfl⟩
  have hA2 : A = 0 ∨ A = 1 := by
    have : A < 2 := by rw [← hA]; simp only [Question.cut]; exact Nat.mod_lt _ (by omega)
    omega
  have hcd : w₁.drew.heap[c]? = some (.chan cap buf false s r tm) := hc
  have hed : w₁.drew.heap[e]? = some (.chan cape bufe false se re tme) := he
  rcases hA2 with rfl | rfl
  · refine .inl ?_
    obtain ⟨b, d, hb, hpick⟩ : ∃ b d, b < ps.length ∧ (if (Question.extern "which waiting goroutine is the partner" ps.length).forced = true then (b = 0 ∧ d = w₁.drawn + 1) else (b = (Question.extern "which waiting goroutine is the partner" ps.length).cut (w₁.drew.tape w₁.drew.drawn (.extern "which waiting goroutine is the partner" ps.length)) ∧ d = w₁.drew.drawn + 1)) := by
      by_cases hf : (Question.extern "which waiting goroutine is the partner" ps.length).forced = true
      · exact ⟨0, w₁.drawn + 1, hlen, by rw [if_pos hf]; exact ⟨rfl, rfl⟩⟩
      · refine ⟨_, w₁.drew.drawn + 1, ?_, by rw [if_neg hf]; exact ⟨rfl, rfl⟩⟩
        simp only [Question.cut]
        rw [if_neg (by omega)]
        exact Nat.mod_lt _ hlen
    obtain ⟨⟨j, k'⟩, hjk⟩ : ∃ p, ps[b]? = some p := ⟨ps[b], List.getElem?_eq_getElem hb⟩
    obtain ⟨rfl, hij, gj, zj, shj, hj⟩ := hall j k' (List.mem_of_getElem? hjk)
    refine ⟨j, gj, zj, shj, d, hij, hj, ?_⟩
    have hj' := stand_get (i := i) hij hj
    have hfp := finishPartner_at P (gs.setIfInBounds i ph) hj' (cs := #[rcase c zj]) (sh := shj) rfl 0 v
    have hgd : (gs.setIfInBounds i ph).getD j default = parked gj #[rcase c zj] shj := by rw [Array.getD_eq_getD_getElem?, hj']; rfl
    have hgm := getD_map_partner ps b (j, 0) hjk
    by_cases hf : (Question.extern "which waiting goroutine is the partner" ps.length).forced = true
    · rw [if_pos hf] at hpick
      obtain ⟨rfl, rfl⟩ := hpick
      have hf' : ps.length = 1 := by simpa [Question.forced] using hf
      have e0 : ps[0]'hlen = (j, 0) := (List.getElem?_eq_some_iff.1 hjk).2
      simp [hcd, hA, choose, Sem.run, Question.forced, bind, Sem.bind, pure, hf', hgm, hjk, e0, hj', scase, hc, World.setChan, crowd, hfp, hgd, set_stand2, rcase, parked, World.at]
      rfl
    · rw [if_neg hf] at hpick
      obtain ⟨hbq, rfl⟩ := hpick
      have hbq' : (Question.extern "which waiting goroutine is the partner" ps.length).cut (w₁.tape (w₁.drawn + 1) (.extern "which waiting goroutine is the partner" ps.length)) = b := hbq.symm
      have hf' : ¬ ps.length = 1 := by simpa [Question.forced] using hf
      have hcd2 : w₁.drew.drew.heap[c]? = some (.chan cap buf false s r tm) := hc
      simp [hcd2, hA, hbq', choose, Sem.run, Question.forced, bind, Sem.bind, pure, hf', hgm, hjk, hj', scase, hc, World.setChan, crowd, hfp, hgd, set_stand2, rcase, parked, World.at]
      rfl
  · refine .inr ⟨w₁.drawn + 1, ?_⟩
    simp [hed, hA, choose, Sem.run, Question.forced, bind, Sem.bind, pure, hpe, scase, he, World.setChan, crowd, set_stand2, rcase, parked, World.at]
end

/-! ### who offers what -/
section
variable {P : Program} {φ : Ph} {n N : Nat} {Pre Done : Nat → World → Prop} {An Nx AnW : Goroutine → World → Prop} {w : World} {g : Goroutine} {s : WTag} {m d : Nat}

theorem WSit.noSend (hA : ∀ g w, An g w → g.status = .running) (h : WSit P φ n Pre Done An s m d g w) (c : Nat) : offersAt g c true = [] := by
  by_cases h1 : s = .prk
  · subst h1; cases h with | prk h => exact offersAt_parked_recv' _ _ _ _ _
  · refine offersAt_of_not_blocked ?_ _ _
    rcases h.status hA with e | e | e
    · rw [e]; simp
    · by_cases h2 : s = .quit
      · subst h2; cases h with | quit h => rcases h.status with e' | e' <;> rw [e'] <;> simp
      · rw [h.running hA h1 h2] at e; cases e
    · rw [e]; simp

theorem WSit.recvs (hA : ∀ g w, An g w → g.status = .running) (h : WSit P φ n Pre Done An s m d g w) (hne : s ≠ .prk) (c : Nat) (b : Bool) : offersAt g c b = [] := by
  refine offersAt_of_not_blocked ?_ _ _
  by_cases h2 : s = .quit
  · subst h2; cases h with | quit h => rcases h.status with e' | e' <;> rw [e'] <;> simp
  · rw [h.running hA hne h2]; simp

theorem MSit.noOffer (hA : ∀ g w, AnW g w → g.status = .running) {t : MTag} {j : Nat} (h : MSit P φ n Pre Done An Nx AnW N t j m d g w) (hne : ∀ r, t ≠ .hpk r) (c : Nat) (b : Bool) : offersAt g c b = [] := by
  rcases h.status hA with ⟨hs, _⟩ | ⟨_, rfl | ⟨r, rfl⟩⟩
  · exact offersAt_of_not_blocked (by rw [hs]; simp) _ _
  · cases h with
    | blk hb =>
      have h3 := hb w (.refl w)
      simp [offersAt, h3.2.1]
  · exact absurd rfl (hne r)

theorem offersAt_sel_send (g : Goroutine) {c e : Nat} (hce : c ≠ e) (v z z' : Value) (sh : CommShape) : offersAt (parked g #[scase c v z, rcase e z'] sh) c true = [0] := by
  have : ¬ e = c := fun h => hce h.symm
  simp [offersAt, parked, scase, rcase, this]
end
end Go.Pool
