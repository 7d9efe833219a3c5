/-
  END 3: main's own communications beside leavers: a receive that finds something, or the channel closed.
-/
import Derived.Test.YthkaigokcognmaaEnd1
namespace Go.Pool
open Go.Conc Go.ConcN
open Go.ConcR (stA smA rd wr mk KK WgAt wgBlock g_of_ofEvents)

section
variable {P : Program} {Post : Value → World → Prop} {Shun : Loc → Prop} {B : Nat} {g : Goroutine} {w : World}

/-- ONE STEP OF MAIN's, of whatever kind, beside leavers. -/
theorem EndsF.turn (hs : g.status = .running) (h : ∀ w₁, AtRel w w₁ → ∀ (gs : Array Goroutine) (sl : Option (Nat × Nat)) (t : Trace) (q : Nat → Nat), gs[0]? = some g → Leavers P t gs q → Past Shun B t → ∃ m' ops, runT P (crowd gs w₁ sl) 0 = (.next m', ops) ∧ Ends P Post m' (t ++ ops)) : EndsF P Post Shun B g w := by
  have key : ∀ (M : Nat) (w₁ : World), AtRel w w₁ → ∀ (gs : Array Goroutine) (sl : Option (Nat × Nat)) (t : Trace) (q : Nat → Nat), sumTo gs.size q ≤ M → gs[0]? = some g → Leavers P t gs q → Past Shun B t → Ends P Post (crowd gs w₁ sl) t := by
    intro M
    induction M with
    | zero =>
      intro w₁ h₁ gs sl t q hM h0 hL hP
      have haw : ∀ g ∈ gs, awake g := by
        intro x hx
        obtain ⟨i, hi, rfl⟩ := Array.mem_iff_getElem.1 hx
        rcases Nat.eq_zero_or_pos i with rfl | hpos
        · have : gs[0] = g := by simpa [Array.getElem?_eq_getElem hi] using h0
          rw [this]; exact awake_of (.inl hs)
        · exact awake_of ((hL.old i _ hpos (Array.getElem?_eq_getElem hi)).status.elim .inl fun x => .inr (.inr x))
      obtain ⟨i, x, d, sl', hi, hg, hst⟩ := crowd_pick (P := P) (w := w₁) (sl := sl) haw ⟨0, g, h0, hs⟩
      rcases Nat.eq_zero_or_pos i with rfl | hpos
      · obtain ⟨m', ops, hr, hE⟩ := h (w₁.at d) (atRel_trans _ _ _ h₁ ⟨d, rfl⟩) gs sl' t q h0 hL hP
        exact .of_run (k := 1) (m' := m') (t' := t ++ ops) (by simp only [runNT, hst, hr]) hE
      · have hq := hL.old i x hpos hi
        have hlt : i < gs.size := (Array.getElem?_eq_some_iff.1 hi).1
        have : q i ≤ sumTo gs.size q := le_sumTo hlt
        have hq0 : q i = 0 := by omega
        rw [hq0] at hq
        rw [hq.1] at hg; cases hg
    | succ M ih =>
      intro w₁ h₁ gs sl t q hM h0 hL hP
      have haw : ∀ g ∈ gs, awake g := by
        intro x hx
        obtain ⟨i, hi, rfl⟩ := Array.mem_iff_getElem.1 hx
        rcases Nat.eq_zero_or_pos i with rfl | hpos
        · have : gs[0] = g := by simpa [Array.getElem?_eq_getElem hi] using h0
          rw [this]; exact awake_of (.inl hs)
        · exact awake_of ((hL.old i _ hpos (Array.getElem?_eq_getElem hi)).status.elim .inl fun x => .inr (.inr x))
      obtain ⟨i, x, d, sl', hi, hg, hst⟩ := crowd_pick (P := P) (w := w₁) (sl := sl) haw ⟨0, g, h0, hs⟩
      rcases Nat.eq_zero_or_pos i with rfl | hpos
      · obtain ⟨m', ops, hr, hE⟩ := h (w₁.at d) (atRel_trans _ _ _ h₁ ⟨d, rfl⟩) gs sl' t q h0 hL hP
        exact .of_run (k := 1) (m' := m') (t' := t ++ ops) (by simp only [runNT, hst, hr]) hE
      · have hq := hL.old i x hpos hi
        have hi0 : (i == 0) = false := by simp; omega
        have hlt : i < gs.size := (Array.getElem?_eq_some_iff.1 hi).1
        cases hqi : q i with
        | zero => rw [hqi] at hq; rw [hq.1] at hg; cases hg
        | succ k =>
          rw [hqi] at hq
          rcases hq with ⟨hf, _⟩ | ⟨_, g', es, hm, hstp, hq'⟩
          · rw [hf] at hg; cases hg
          have hrunT := runT_crowd_go (P := P) (sl := sl') (i := i) hi (by rw [hi0]; exact hstp (w₁.at d))
          have hsz : ((gs.map (woken P x g' (w₁.at d))).setIfInBounds i g').size = gs.size := by simp
          have hsum : sumTo gs.size (upd q i k) + (k + 1) = sumTo gs.size q + k := by
            have := sumTo_upd q k id hlt
            simpa [hqi] using this
          have hE := ih (w₁.at d) (atRel_trans _ _ _ h₁ ⟨d, rfl⟩) ((gs.map (woken P x g' (w₁.at d))).setIfInBounds i g') sl' (t ++ MemOp.ofEvents i x.frame.fn x.frame.place es) (upd q i k) (by rw [hsz]; omega)
            (by
              have hne : i ≠ 0 := by omega
              rw [Array.getElem?_setIfInBounds_ne hne, Array.getElem?_map, h0]
              simp [woken_run hs])
            ⟨fun j y hj hy => by
              by_cases hji : i = j
              · subst hji
                rw [Array.getElem?_setIfInBounds_self_of_lt (by simpa using hlt)] at hy
                obtain rfl := Option.some.inj hy
                rw [upd_same, Deaf_own]
                exact hq'
              · rw [Array.getElem?_setIfInBounds_ne hji, Array.getElem?_map] at hy
                obtain ⟨z, hz, rfl⟩ := Option.map_eq_some_iff.1 hy
                have hqj := hL.old j z hj hz
                rw [woken_quitsD hqj, upd_ne q k (Ne.symm hji), Deaf_other t hji _ (fun op hop => by obtain ⟨e, _, rfl⟩ := Go.Conc.mem_ofEvents hop; rfl)]
                exact hqj, fun j hj => by
              rw [Deaf_other t (g' := i) (by simp at hj; omega) _ (fun op hop => by obtain ⟨e, _, rfl⟩ := Go.Conc.mem_ofEvents hop; rfl)]
              exact hL.above j (by simpa using hj)⟩
            (hP.mute (by omega) hm)
          exact .of_run (k := 1) (by simp only [runNT, hst, hrunT]) hE
  exact fun w₁ h₁ gs sl t q h0 hL hP => key _ w₁ h₁ gs sl t q (Nat.le_refl _) h0 hL hP

/-- What is behind a communication that main alone takes part in. -/
theorem comm_next {gs : Array Goroutine} {sl : Option (Nat × Nat)} {t u : Trace} {q : Nat → Nat} {g' : Goroutine} {w' : World} (h0 : gs[0]? = some g) (hL : Leavers P t gs q) (hP : Past Shun B t) (hu : ∀ op ∈ u, op.g = 0)
    (hs : ∀ op ∈ u, ∀ b, op.act.touch? = some b → Shun b.loc → b.kind ≠ .plain) (hd : Deaf (t ++ u) 0 = Deaf t 0) (hl : ∀ op ∈ u, op.act.low B) (hE : EndsF P Post Shun B g' w') : Ends P Post (crowd (gs.setIfInBounds 0 g') w' sl) (t ++ u) := by
  have hlt : 0 < gs.size := (Array.getElem?_eq_some_iff.1 h0).1
  refine hE w' (atRel_refl w') _ sl _ q (by rw [Array.getElem?_setIfInBounds_self_of_lt hlt]) ⟨fun j y hj hy => ?_, fun j hj => ?_⟩ (hP.app0 hu hs hd hl)
  · rw [Array.getElem?_setIfInBounds_ne (by omega)] at hy
    rw [Deaf_other t (g' := 0) (by omega) _ hu]
    exact hL.old j y hj hy
  · rw [Deaf_other t (g' := 0) (by simp at hj; omega) _ hu]
    exact hL.above j (by simpa using hj)

theorem leavers_partners {gs : Array Goroutine} {t : Trace} {q : Nat → Nat} (hL : Leavers P t gs q) (c : Nat) (b : Bool) : partners (gs.setIfInBounds 0 ph) c b = [] := partners_nil fun y x hx => by
  rcases getElem?_stand gs 0 y x hx with ⟨_, rfl⟩ | ⟨hne, hx'⟩
  · exact offersAt_ph _ _
  · refine offersAt_of_not_blocked ?_ _ _
    rcases (hL.old y x (by omega) hx').status with e | e <;> rw [e] <;> simp

section
variable {g₂ : Goroutine} {c cap s r : Nat} {buf : Array Value} {closed tm : Bool} {z : Value} {sh : CommShape} {es : World → Array Event}
/-- A RECEIVE FINDS SOMETHING IN THE BUFFER. -/
theorem EndsF.recv_buf (hs : g.status = .running) (hstep : ∀ w₁, AtRel w w₁ → stepG P true g w₁ = .comm g₂ #[rcase c z] true sh w₁ (es w₁) ∧ ∀ e ∈ es w₁, EvL Shun B e) (hc : w.heap[c]? = some (.chan cap buf closed s r tm)) (hb : 0 < buf.size) (hB : c < B)
    (hE : EndsF P Post Shun B (g₂.finishComm P #[rcase c z] sh 0 (buf.getD 0 undef) true) (w.setChan c cap (buf.extract 1 buf.size) closed s (r + 1) tm)) : EndsF P Post Shun B g w := by
  refine EndsF.turn hs fun w₁ h₁ gs sl t q h0 hL hP => ?_
  obtain ⟨hst, hev⟩ := hstep w₁ h₁
  obtain ⟨d, rfl⟩ := h₁
  have hc' : (w.at d).heap[c]? = some (.chan cap buf closed s r tm) := hc
  refine ⟨_, _, crowd_recv_buf (sl := sl) h0 (by simpa using hst) hc' hb (leavers_partners hL c true), ?_⟩
  have hst1 : ∀ op ∈ MemOp.ofEvents 0 g.frame.fn g.frame.place (es (w.at d)), op.act ≠ .mark .disable ∧ op.act ≠ .mark .enable := fun op hop => by
    obtain ⟨e, he, rfl⟩ := Go.Conc.mem_ofEvents hop
    exact ⟨fun x => (hev e he).2.1 (Go.ConcR.loc_of_ofEvent x), fun x => (hev e he).2.2.1 (Go.ConcR.loc_of_ofEvent x)⟩
  refine comm_next h0 hL hP (fun op hop => ?_) (fun op hop b hb => ?_) (Deaf_still t 0 _ fun op hop => ?_) (fun op hop => ?_) (hE.rely ⟨d, rfl⟩) <;> rcases Array.mem_append.1 hop with h' | h'
  · exact g_of_ofEvents op h'
  · simp only [List.mem_toArray, List.mem_cons, List.not_mem_nil, or_false] at h'
    rcases h' with rfl | rfl <;> rfl
  · obtain ⟨e, he, rfl⟩ := Go.Conc.mem_ofEvents h'
    exact (hev e he).1 b hb
  · simp only [List.mem_toArray, List.mem_cons, List.not_mem_nil, or_false] at h'
    rcases h' with rfl | rfl <;> simp [MemAct.touch?] at hb
  · exact hst1 op h'
  · simp only [List.mem_toArray, List.mem_cons, List.not_mem_nil, or_false] at h'
    rcases h' with rfl | rfl <;> simp
  · obtain ⟨e, he, rfl⟩ := Go.Conc.mem_ofEvents h'
    exact (hev e he).2.2.2
  · simp only [List.mem_toArray, List.mem_cons, List.not_mem_nil, or_false] at h'
    rcases h' with rfl | rfl <;> exact hB

/-- A RECEIVE FINDS ITS CHANNEL CLOSED AND EMPTY. -/
theorem EndsF.recv_closed (hs : g.status = .running) (hstep : ∀ w₁, AtRel w w₁ → stepG P true g w₁ = .comm g₂ #[rcase c z] true sh w₁ (es w₁) ∧ ∀ e ∈ es w₁, EvL Shun B e) (hc : w.heap[c]? = some (.chan cap #[] true s r tm)) (hB : c < B)
    (hE : EndsF P Post Shun B (g₂.finishComm P #[rcase c z] sh 0 z false) w) : EndsF P Post Shun B g w := by
  refine EndsF.turn hs fun w₁ h₁ gs sl t q h0 hL hP => ?_
  obtain ⟨hst, hev⟩ := hstep w₁ h₁
  obtain ⟨d, rfl⟩ := h₁
  have hc' : (w.at d).heap[c]? = some (.chan cap #[] true s r tm) := hc
  refine ⟨_, _, crowd_recv_closed (sl := sl) h0 (by simpa using hst) hc' (leavers_partners hL c true), ?_⟩
  have hst1 : ∀ op ∈ MemOp.ofEvents 0 g.frame.fn g.frame.place (es (w.at d)), op.act ≠ .mark .disable ∧ op.act ≠ .mark .enable := fun op hop => by
    obtain ⟨e, he, rfl⟩ := Go.Conc.mem_ofEvents hop
    exact ⟨fun x => (hev e he).2.1 (Go.ConcR.loc_of_ofEvent x), fun x => (hev e he).2.2.1 (Go.ConcR.loc_of_ofEvent x)⟩
  refine comm_next h0 hL hP (fun op hop => ?_) (fun op hop b hb => ?_) (Deaf_still t 0 _ fun op hop => ?_) (fun op hop => ?_) (hE.rely ⟨d, rfl⟩) <;> rcases Array.mem_append.1 hop with h' | h'
  · exact g_of_ofEvents op h'
  · simp only [List.mem_toArray, List.mem_cons, List.not_mem_nil, or_false] at h'
    subst h'; rfl
  · obtain ⟨e, he, rfl⟩ := Go.Conc.mem_ofEvents h'
    exact (hev e he).1 b hb
  · simp only [List.mem_toArray, List.mem_cons, List.not_mem_nil, or_false] at h'
    subst h'; simp [MemAct.touch?] at hb
  · exact hst1 op h'
  · simp only [List.mem_toArray, List.mem_cons, List.not_mem_nil, or_false] at h'
    subst h'; simp
  · obtain ⟨e, he, rfl⟩ := Go.Conc.mem_ofEvents h'
    exact (hev e he).2.2.2
  · simp only [List.mem_toArray, List.mem_cons, List.not_mem_nil, or_false] at h'
    subst h'; exact hB
end
end
end Go.Pool
