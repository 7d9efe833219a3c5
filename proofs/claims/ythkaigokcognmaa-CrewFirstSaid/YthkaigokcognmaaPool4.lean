/-
  POOL 4: a worker's own step (.go) keeps the invariant and lowers the measure.
-/
import Derived.Test.YthkaigokcognmaaPool3
namespace Go.Pool
open Go.Conc Go.ConcN
open Go.ConcR (stA smA rd wr mk KK WgAt wgBlock g_of_ofEvents Bk bk_of_mute ofEvent_loc_mark ofEvent_cell loc_of_ofEvent)

theorem ep_ops {φ : Ph} {own own' : Nat → Prop} {g : Nat} {g' : Nat} {fn : FuncId} {pos : String} {es : Array Event} (h : ∀ e ∈ es, EvP φ own g e) (h0 : g = 0 ↔ g' = 0) (ho : ∀ k, own k → own' k) :
    (∀ op ∈ MemOp.ofEvents g' fn pos es, ∀ x, op.act.touch? = some x → TouchOk φ own' g' x) ∧ (∀ op ∈ MemOp.ofEvents g' fn pos es, op.act.low φ.B) ∧ (∀ op ∈ MemOp.ofEvents g' fn pos es, op.act ≠ .mark (.release (stA φ.Wg))) := by
  refine ⟨fun op hop x hx => ?_, fun op hop => ?_, fun op hop => ?_⟩ <;> obtain ⟨e, he, rfl⟩ := Go.Conc.mem_ofEvents hop
  · rcases (h e he).1 x hx with ⟨a, b, c⟩ | a | ⟨a, k, b, c⟩ | ⟨a, b, c⟩
    · exact .inl ⟨a, b, fun e => h0.1 (c e)⟩
    · exact .inr (.inl a)
    · exact .inr (.inr (.inl ⟨a, k, ho k b, c⟩))
    · exact .inr (.inr (.inr ⟨a, b, h0.1 c⟩))
  · exact (h e he).2.2.2.2
  · intro hm
    exact (h e he).2.2.2.1 (loc_of_ofEvent hm)

/-- The library's bookkeeping on the group's cells. -/
theorem bk_ops {φ : Ph} (G : Geo φ) {own : Nat → Prop} {g : Nat} {fn : FuncId} {pos : String} {es : Array Event} (h : ∀ e ∈ es, Bk φ.Wg e) :
    (∀ op ∈ MemOp.ofEvents g fn pos es, ∀ x, op.act.touch? = some x → TouchOk φ own g x) ∧ (∀ op ∈ MemOp.ofEvents g fn pos es, op.act.low φ.B) ∧ (∀ op ∈ MemOp.ofEvents g fn pos es, op.act ≠ .mark (.release (stA φ.Wg))) := by
  refine ⟨fun op hop x hx => ?_, fun op hop => ?_, fun op hop => ?_⟩ <;> obtain ⟨e, he, rfl⟩ := Go.Conc.mem_ofEvents hop
  · rcases h e he with h1 | h1 | ⟨a, wr, rfl, ha⟩
    · simp only [ofEvent_loc_mark h1] at hx; cases hx
    · simp only [ofEvent_loc_mark h1] at hx; cases hx
    · simp only [ofEvent_cell, MemAct.touch?, Option.some.injEq] at hx
      subst hx
      exact .inl ⟨⟨a, rfl, ha⟩, by simp, by simp⟩
  · rcases h e he with h1 | h1 | ⟨a, wr, rfl, ha⟩
    · simp only [ofEvent_loc_mark h1]; trivial
    · simp only [ofEvent_loc_mark h1]; trivial
    · simp only [ofEvent_cell]; have := G.wgB; rw [← ha] at this; exact this
  · intro hm
    rcases h e he with h1 | h1 | ⟨a, wr, rfl, _⟩
    · have := loc_of_ofEvent hm; rw [h1] at this; cases this
    · have := loc_of_ofEvent hm; rw [h1] at this; cases this
    · simp only [ofEvent_cell] at hm; cases hm

theorem mphi_mono (n N L : Nat) {v v' : Nat} (h : v' ≤ v) (tag : MTag) : mphi n N L v' tag ≤ mphi n N L v tag := by
  cases tag with
  | c t => cases t <;> simp only [mphi, phi] <;> omega
  | _ => exact Nat.le_refl _
theorem mphi_retag (n N L v : Nat) {tag tag' : MTag} (e : tag' = tag ∨ (tag = .c .blk ∧ tag' = .c .w3)) : mphi n N L v tag' = mphi n N L v tag := by
  rcases e with rfl | ⟨rfl, rfl⟩ <;> rfl

section
variable {P : Program} {φ : Ph} {n : Nat} {Pre Done : Nat → World → Prop} {An Nx AnW : Goroutine → World → Prop} {N N0 L : Nat} {wb : World}
  {j H : Nat} {who : Nat → Nat} {closed : Bool} {gs : Array Goroutine} {w w' : World} {sl : Option (Nat × Nat)} {t : Trace} {D : Nat → PD} {d0 f0 : Nat} {tag : MTag} {a : Goroutine} {st sm : Int}

theorem wd_upd (D : Nat → PD) (i : Nat) (x : PD) : (fun y => (upd D i x y).wd) = upd (fun y => (D y).wd) i x.wd := by
  funext y
  by_cases e : y = i
  · subst e; rw [upd_same, upd_same]
  · rw [upd_ne D x e, upd_ne _ x.wd e]

theorem Link.retag {tag' : MTag} (h : Link φ n tag closed H) (e : tag' = tag ∨ (tag = .c .blk ∧ tag' = .c .w3)) : Link φ n tag' closed H := by
  rcases e with rfl | ⟨rfl, rfl⟩ <;> exact h

theorem ct_retag {tag tag' : MTag} (e : tag' = tag ∨ (tag = .c .blk ∧ tag' = .c .w3)) : tag'.ct = tag.ct ∨ (tag.ct = .blk ∧ tag'.ct = .w3) := by
  rcases e with rfl | ⟨rfl, rfl⟩
  · exact .inl rfl
  · exact .inr ⟨rfl, rfl⟩

/-- WHATEVER OWN STEP OF WORKER NUMBER i. -/
theorem workerStep (J : Jobs φ n Pre Done) (hA : ∀ g w, An g w → g.status = .running) (hAr : ∀ g w, AnW g w → g.status = .running)
    (ha : gs[0]? = some a) (hms : MSit P φ n Pre Done An Nx AnW N tag (j - L) f0 d0 a w) (hcom : Com P φ n Pre Done An N0 L j H who closed gs w t D d0)
    (hlink : Link φ n tag closed H) (hpk : ∀ r, tag = .hpk r → ∀ i, i < j → (D i).tag ≠ .prk) (hwb : Frm φ own0 wb w)
    {i : Nat} (hi : i < j) {g g' : Goroutine} {es : Array Event} {x : PD} {st' sm' : Int} (hg : gs[i + 1]? = some g) (hgo : stepG P false g w = .go g' w' es)
    (hF : ∀ own, (∀ k, (D i).tag = .job k → ¬ own k) → Frm φ own w w')
    (hch : w'.heap[φ.Ch]? = w.heap[φ.Ch]?) (hen : w'.heap[φ.En]? = w.heap[φ.En]?) (hfd : ∀ fd, φ.Fd = some fd → w'.heap[fd]? = w.heap[fd]?)
    (hs' : WSit P φ n Pre Done An x.tag x.fuel x.deaf g' w')
    (htl : TL φ N0 L j who (t ++ MemOp.ofEvents (i + 1) g.frame.fn g.frame.place es))
    (hdeaf : deafBehind (D i).deaf es = x.deaf) (hold : i < L → x.tag = .quit) (hrel : L ≤ i → x.tag.stage ≤ 6 → ∃ r, RelBy (stA φ.Wg) (t ++ MemOp.ofEvents (i + 1) g.frame.fn g.frame.place es) (i + 1) r)
    (hjob : ∀ k, x.tag = .job k → (D i).tag = .job k) (hend : ∀ k, (D i).tag = .job k → x.tag = .job k) (heno : x.tag = .eno → (D i).tag = .eno)
    (hopn : closed = false → L ≤ i → x.tag.early) (hprk : x.tag ≠ .prk)
    (hwg : WgAt φ.ty φ.Wg w' st' sm')
    (hmode : ∀ tag', (tag' = tag ∨ (tag = .c .blk ∧ tag' = .c .w3)) → (mayWake P g = true → g'.status = .running → tag' ≠ .c .blk) → Go.ConcN.Mode j (upd (fun y => (D y).wd) i x.wd) tag'.ct st' sm')
    (hlt : (x.tag.wt < (D i).tag.wt ∧ cnt x.wd ≤ cnt (D i).wd) ∨ (x.tag = (D i).tag ∧ x.fuel + 1 = (D i).fuel)) :
    Goal P φ n Pre Done An Nx AnW N N0 L wb (mphi n N L (Vw j D) tag + Wsum j D, f0 + 2 * Fsm j D) (runT P (crowd gs w sl) (i + 1)) t := by
  have hF0 : Frm φ own0 w w' := hF own0 fun _ _ => id
  obtain ⟨s1, r1, hc1⟩ := hcom.ch
  obtain ⟨b2, s2, r2, hc2, _, _⟩ := hcom.en
  obtain ⟨tag', f', hms', hf', htag, hwk⟩ := hms.wokenBy hAr hF0 g g' fun r e => by
    subst e
    obtain ⟨rfl, _⟩ := hlink
    exact ⟨⟨_, _, _, _, _, hch.trans hc1⟩, ⟨_, _, _, _, _, hen.trans hc2⟩⟩
  have hrun := runT_crowd_go (P := P) (sl := sl) (i := i + 1) hg (by simpa using hgo)
  have e2 := sumTo_upd D x (fun y => y.tag.wt) hi
  have e3 := sumTo_upd D x PD.fuel hi
  have hcells : ∀ k, (D i).tag ≠ .job k → ∀ b, φ.pb b → w'.cell? ⟨b, k, none⟩ = w.cell? ⟨b, k, none⟩ := fun k hk b hb =>
    (hF (· = k) fun k' e e' => by subst e'; exact hk e).own b k hb rfl
  have hcom' : Com P φ n Pre Done An N0 L j H who closed ((gs.map (woken P g g' w')).setIfInBounds (i + 1) g') w' (t ++ MemOp.ofEvents (i + 1) g.frame.fn g.frame.place es) (upd D i x) d0 := by
    refine hcom.upd hi (by simp [hcom.size]) (fun i' hi' hne => ?_) (get_map_set_same _ _ _ (by rw [hcom.size]; omega)) hs' (fun i' hi' hne => hF _ fun k hk hown => ?_) htl (fun op hop => .inr (g_of_ofEvents op hop))
      (by rw [Deaf_not t _ (fun op hop => by rw [g_of_ofEvents op hop]; omega)]; exact hcom.deaf0) (by rw [Deaf_own, hcom.deafW i hi]; exact hdeaf) hold hrel hcom.Hn hcom.whoH (fun _ _ => rfl) (Nat.le_refl _)
      (fun k hk => hcom.held i k hi (hjob k hk)) (fun k hk => ?_) (fun k h1 h2 => ?_) ⟨s1, r1, hch.trans hc1⟩ (hcom.en.keep hen (Nat.le_refl _)) (hcom.fnd.keep hfd (held_upd hi fun k => ⟨hjob k, hend k⟩)) (fun e => hcom.eno i hi (heno e)) hopn (fun _ => hprk)
    · obtain ⟨y, hy, hsy⟩ := hcom.wk i' hi'
      rw [get_map_set _ _ _ _ (by omega), hy, Option.map_some, hsy.woken hA _ _ _ fun e => ?_]
      cases hcl : closed with
      | false => rw [hcl] at hc1; exact ⟨_, _, _, _, _, hch.trans hc1⟩
      | true => exact absurd e (hcom.shut hcl i' hi')
    · cases hti : (D i').tag with
      | job k' =>
        rw [hti] at hown
        have e : k = k' := hown
        subst e
        have h1 := (hcom.held i k hi hk).2
        have h2 := (hcom.held i' k hi' hti).2
        omega
      | _ => rw [hti] at hown; exact hown
    · rcases hcom.done k hk with ⟨i', hi', e⟩ | hd
      · by_cases hne : i' = i
        · subst hne
          exact .inl (hend k e)
        · exact .inr (.inl ⟨i', hi', hne, e⟩)
      · by_cases e : (D i).tag = .job k
        · exact .inl (hend k e)
        · exact .inr (.inr (J.done k w w' (hcells k e) hd))
    · refine J.pre k w w' (hcells k fun e => ?_) (hcom.pre k h1 h2)
      have := (hcom.held i k hi e).1
      omega
  refine ⟨_, _, hrun, .inr ⟨(mphi n N L (Vw j (upd D i x)) tag' + Wsum j (upd D i x), f' + 2 * Fsm j (upd D i x)), ?_,
    _, w', sl, j, H, who, closed, upd D i x, tag', f', d0, woken P g g' w' a, st', sm', rfl, by rw [get_map_set _ _ _ _ (by omega), ha]; rfl, hms', hcom', hwg, ?_, hlink.retag htag, fun r e i' hi' => ?_, hwb.trans hF0, rfl⟩⟩
  · rw [mphi_retag n N L _ htag]
    simp only [Wsum, Fsm] at *
    rcases hlt with ⟨h1, h2⟩ | ⟨h1, h2⟩
    · refine Prod.Lex.left _ _ ?_
      have hv : Vw j (upd D i x) ≤ Vw j D := by
        have := sumTo_upd D x (fun y => cnt y.wd) hi
        simp only [Vw, Vc]
        omega
      have := mphi_mono n N L hv tag
      omega
    · have ev : Vw j (upd D i x) = Vw j D := by
        have := sumTo_upd D x (fun y => cnt y.wd) hi
        have ec : cnt x.wd = cnt (D i).wd := by
          show (if 5 ≤ x.tag.stage then 1 else 0) = (if 5 ≤ (D i).tag.stage then 1 else 0)
          rw [h1]
        simp only [Vw, Vc]
        omega
      have ew : (sumTo j fun y => (upd D i x y).tag.wt) = sumTo j fun y => (D y).tag.wt := by rw [h1] at e2; omega
      rw [ev, ew]
      refine Prod.Lex.right _ ?_
      omega
  · rw [wd_upd]; exact hmode tag' htag hwk
  · have e0 : tag = .hpk r := by
      rcases htag with rfl | ⟨_, h2⟩
      · exact e
      · rw [h2] at e; cases e
    by_cases hne : i' = i
    · subst hne; rw [upd_same]; exact hprk
    · rw [upd_ne D x hne]; exact hpk r e0 i' hi'
end
end Go.Pool
