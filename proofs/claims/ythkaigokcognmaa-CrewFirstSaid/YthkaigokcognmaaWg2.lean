/-
  WG 2: (*WaitGroup).Done as a worker's deferred call, to the phase's own stops: what the library's walk ('doneN') says of the very run, taken over step by step (a run is one).
-/
import Derived.Test.YthkaigokcognmaaPool2
import Derived.Conc.WgGenN3
set_option linter.unusedSimpArgs false
namespace Go.Pool
open Go.Conc Go.ConcN Go.RowKit Go.Conc.Lib Go.ConcR.Gen Go.ConcN.Gen
open Go.ConcR (KK wgBlock WgAt stA smA rd wr mk DC0 Payload)

section
variable {P : Program} {main : Bool} {R R' : World → World → Prop} {D D' : World → World → Array Event → Prop} {S S' : Goroutine → World → Prop}

theorem Goes.weak (hR : ∀ a b, R a b → R' a b) (hS : ∀ g w, S' g w → S g w) : ∀ {n : Nat} {g : Goroutine} {w : World}, Goes P main R' D S' n g w → Goes P main R D S n g w
  | 0, _, _, h => fun w₁ h₁ => hS _ _ (h w₁ (hR _ _ h₁))
  | n + 1, g, w, h => by
    rcases h with h | ⟨hs, h⟩
    · exact .inl fun w₁ h₁ => hS _ _ (h w₁ (hR _ _ h₁))
    · refine .inr ⟨hs, fun w₁ h₁ => ?_⟩
      have := h w₁ (hR _ _ h₁)
      revert this
      cases stepG P main g w₁ <;> simp only [GStep.goes, imp_self]
      exact fun ⟨d, x⟩ => ⟨d, Goes.weak hR hS x⟩

/-- The step lists just this. -/
def Lists (P : Program) (main : Bool) (e : Event) (g : Goroutine) (w : World) : Prop := ∃ g', stepG P main g w = .go g' w #[e]

theorem lock_out {e e' : Event} (hee : e ≠ e') (refl : ∀ w, R w w) (refl' : ∀ w, R' w w) (hS : ∀ g w, S' g w → Lists P main e g w) (hD : ∀ w w' es, D' w w' es → e' ∉ es) :
    ∀ (m k : Nat) (g : Goroutine) (w : World), Goes P main R DC0 (Lists P main e') m g w → Goes P main R' D' S' k g w → False := by
  have stop : ∀ (k : Nat) (g : Goroutine) (w : World), Lists P main e' g w → Goes P main R' D' S' k g w → False := by
    rintro k g w ⟨g', h1⟩ h
    have hs : ¬ S' g w := fun hs => by
      obtain ⟨g'', h2⟩ := hS g w hs
      rw [h1] at h2
      cases h2
      exact hee rfl
    cases k with
    | zero => exact hs (h w (refl' w))
    | succ k =>
      rcases h with h | ⟨_, h⟩
      · exact hs (h w (refl' w))
      · have := h w (refl' w)
        rw [h1, goes_go] at this
        exact hD _ _ _ this.1 (by simp)
  intro m
  induction m with
  | zero => exact fun k g w h h' => stop k g w (h w (refl w)) h'
  | succ m ih =>
    intro k g w h h'
    rcases h with h | ⟨_, h⟩
    · exact stop k g w (h w (refl w)) h'
    · have h1 := h w (refl w)
      cases hg : stepG P main g w with
      | go g' w' es =>
        rw [hg, goes_go] at h1
        obtain ⟨⟨rfl, rfl⟩, h2⟩ := h1
        have hs : ¬ S' g w' := fun hs => by
          obtain ⟨g'', h3⟩ := hS g w' hs
          rw [hg] at h3
          cases h3
        cases k with
        | zero => exact hs (h' _ (refl' _))
        | succ k =>
          rcases h' with h' | ⟨_, h'⟩
          · exact hs (h' _ (refl' _))
          · have h3 := h' _ (refl' _)
            rw [hg, goes_go] at h3
            exact ih k g' _ h2 h3.2
      | _ => rw [hg] at h1; exact h1.elim

/-- A RUN IS ONE: where my walk stands at the step that lists e, the library's stands at its stop. -/
theorem lock {e e' : Event} (hee : e ≠ e') (refl : ∀ w, R w w) (refl' : ∀ w, R' w w) (hR : ∀ a b, R a b → R' a b) (hS : ∀ g w, S' g w → Lists P main e g w) (hD : ∀ w w' es, D' w w' es → e' ∉ es) (trans' : ∀ a b c, R' a b → R' b c → R' a c) :
    ∀ (m k : Nat) (g : Goroutine) (w : World), Goes P main R DC0 (fun g w => ∃ g', stepG P main g w = .go g' w #[e] ∧ ∃ m, Goes P main R DC0 (Lists P main e') m g' w) m g w → Goes P main R' D' S' k g w → Goes P main R DC0 S' m g w := by
  have stop : ∀ (k : Nat) (g : Goroutine) (w : World), (∃ g', stepG P main g w = .go g' w #[e] ∧ ∃ m, Goes P main R DC0 (Lists P main e') m g' w) → Goes P main R' D' S' k g w → S' g w := by
    rintro k g w ⟨g', h1, m, h2⟩ h
    cases k with
    | zero => exact h w (refl' w)
    | succ k =>
      rcases h with h | ⟨_, h⟩
      · exact h w (refl' w)
      · have := h w (refl' w)
        rw [h1, goes_go] at this
        exact (lock_out hee refl refl' hS hD m k g' w h2 this.2).elim
  intro m
  induction m with
  | zero => exact fun k g w h h' w₁ h₁ => stop k g w₁ (h w₁ h₁) (h'.rely trans' (hR _ _ h₁))
  | succ m ih =>
    intro k g w h h'
    rcases h with h | ⟨hs, h⟩
    · exact .inl fun w₁ h₁ => stop k g w₁ (h w₁ h₁) (h'.rely trans' (hR _ _ h₁))
    · refine .inr ⟨hs, fun w₁ h₁ => ?_⟩
      have h1 := h w₁ h₁
      cases hg : stepG P main g w₁ with
      | go g' w' es =>
        rw [hg, goes_go] at h1
        obtain ⟨⟨rfl, rfl⟩, h2⟩ := h1
        have hl := h'.rely trans' (hR _ _ h₁)
        have hns : ¬ S' g w' := fun hs => by
          obtain ⟨g'', h3⟩ := hS g w' hs
          rw [hg] at h3
          cases h3
        rw [goes_go]
        refine ⟨⟨rfl, rfl⟩, ?_⟩
        cases k with
        | zero => exact absurd (hl _ (refl' _)) hns
        | succ k =>
          rcases hl with hl | ⟨_, hl⟩
          · exact absurd (hl _ (refl' _)) hns
          · have h3 := hl _ (refl' _)
            rw [hg, goes_go] at h3
            exact ih k g' _ h2 h3.2
      | _ => rw [hg] at h1; exact h1.elim
end

section
variable {L : WgLink} {φ : Ph} {P : Program}

theorem lv_rely {φ : Ph} {own : Nat → Prop} {w w₁ : World} (h : WgLive φ.ty φ.Wg w) (r : Frm φ own w w₁) : WgLive φ.ty φ.Wg w₁ := r.live h

set_option maxRecDepth 100000 in
set_option maxHeartbeats 8000000 in
theorem doneWalk (H : WgLib P L) (_hty : φ.ty = L.tWg) {c : Frame} {cs : List Frame} (w : World) (hK : WgLive φ.ty φ.Wg w) :
    Goes P false (Frm φ own0) DC0 (fun g w => ∃ g', stepG P false g w = .go g' w #[mk (.releaseMerge (stA φ.Wg))] ∧ ∃ m, Goes P false (Frm φ own0) DC0 (Lists P false (mk .disable)) m g' w) 40
      (Go.Conc.G ((baseD L.done).at ⟨#[.pointer (some ⟨φ.Wg, 0, none⟩), undef, undef, undef], []⟩ [.code (body_done L)]) (c :: cs)) w := by
  lib_facts
  simp only [body_done, doneFn, Option.getD_some]
  u_reg lv_rely hK
  u_op lv_rely hK
  u_in lv_rely hK
  refine goes_call rfl rfl (by k_ne) rfl H.f_add (nm_add L) rfl ⟨by u_nil, ?_⟩
  walk_nrmf addFn
  refine Goes.step rfl (fun _ h₁ => ?_)
  replace hK := lv_rely hK h₁
  clear h₁
  rw [stepG_seq]
  simp only [goes_go]
  refine ⟨(dc0_none (by simp)), ?_⟩
  refine Goes.step rfl (fun _ h₁ => ?_)
  replace hK := lv_rely hK h₁
  clear h₁
  rw [stepG_cond (t := true) rfl]
  simp only [goes_go, if_true, if_false, Bool.false_eq_true, ↓reduceIte]
  refine ⟨(dc0_none (by simp)), ?_⟩
  refine Goes.step rfl (fun _ h₁ => ?_)
  replace hK := lv_rely hK h₁
  clear h₁
  rw [stepG_seq]
  simp only [goes_go]
  refine ⟨(dc0_none (by simp)), ?_⟩
  refine Goes.step rfl (fun _ h₁ => ?_)
  replace hK := lv_rely hK h₁
  clear h₁
  rw [stepG_seq]
  simp only [goes_go]
  refine ⟨(dc0_none (by simp)), ?_⟩
  refine Goes.step rfl (fun _ h₁ => ?_)
  replace hK := lv_rely hK h₁
  clear h₁
  rw [stepG_region]
  simp only [goes_go, List.size_toArray, List.length_cons, List.length_nil, Nat.reduceAdd, Nat.zero_add, List.range, List.range.loop]
  refine ⟨(dc0_none (by simp)), ?_⟩
  refine Goes.step rfl (fun _ h₁ => ?_)
  replace hK := lv_rely hK h₁
  clear h₁
  refine goes_oper_k rfl rfl (by k_ne) (fun K hK => ?_)
  go_simp
  refine hK _ _ ⟨?_, ?_⟩
  · refine dc0_none ?_
    intro ex hex
    have hm := mem_listed hex
    simp [go_sem, *] at hm
  clear hK K
  try w_num
  refine Goes.step rfl (fun _ h₁ => ?_)
  replace hK := lv_rely hK h₁
  clear h₁
  refine goes_oper_k rfl rfl (by k_ne) (fun K hK => ?_)
  go_simp
  refine hK _ _ ⟨?_, ?_⟩
  · refine dc0_none ?_
    intro ex hex
    have hm := mem_listed hex
    simp [go_sem, *] at hm
  clear hK K
  try w_num
  refine Goes.step rfl (fun _ h₁ => ?_)
  replace hK := lv_rely hK h₁
  clear h₁
  rw [stepG_region_end]
  simp only [goes_go]
  refine ⟨(dc0_none (by simp)), ?_⟩
  refine Goes.step rfl (fun _ h₁ => ?_)
  replace hK := lv_rely hK h₁
  clear h₁
  rw [stepG_cond (t := true) rfl]
  simp only [goes_go, if_true, if_false, Bool.false_eq_true, ↓reduceIte]
  refine ⟨(dc0_none (by simp)), ?_⟩
  refine Goes.step rfl (fun _ h₁ => ?_)
  replace hK := lv_rely hK h₁
  clear h₁
  rw [stepG_region]
  simp only [goes_go, List.size_toArray, List.length_cons, List.length_nil, Nat.reduceAdd, Nat.zero_add, List.range, List.range.loop]
  refine ⟨(dc0_none (by simp)), ?_⟩
  refine Goes.step rfl (fun _ h₁ => ?_)
  replace hK := lv_rely hK h₁
  clear h₁
  refine goes_oper_k rfl rfl (by k_ne) (fun K hK => ?_)
  go_simp
  refine hK _ _ ⟨?_, ?_⟩
  · refine dc0_none ?_
    intro ex hex
    have hm := mem_listed hex
    simp [go_sem, *] at hm
  clear hK K
  try w_num
  u_conv H.underlying_tWgP H.room_tWg (WgLive.cell0 hK).choose_spec lv_rely hK
  refine Goes.stop (fun w₁ h₁ => ?_)
  replace hK := lv_rely hK h₁
  clear h₁
  refine ⟨_, stepG_markAt .releaseMerge (by simp) rfl rfl (by k_ne) rfl H.f_relMerge (x_relMerge_n L) (x_relMerge_b L) (x_relMerge_x L) (x_relMerge_f L) (by simp [Act.eval, stA]), 10, ?_⟩
  walk_nrm
  refine Goes.step rfl (fun _ h₁ => ?_)
  replace hK := lv_rely hK h₁
  clear h₁
  rw [stepG_region_end]
  simp only [goes_go]
  refine ⟨(dc0_none (by simp)), ?_⟩
  refine Goes.step rfl (fun _ h₁ => ?_)
  replace hK := lv_rely hK h₁
  clear h₁
  rw [stepG_seq]
  simp only [goes_go]
  refine ⟨(dc0_none (by simp)), ?_⟩
  refine Goes.step rfl (fun _ h₁ => ?_)
  replace hK := lv_rely hK h₁
  clear h₁
  rw [stepG_region]
  simp only [goes_go, List.size_toArray, List.length_cons, List.length_nil, Nat.reduceAdd, Nat.zero_add, List.range, List.range.loop]
  refine ⟨(dc0_none (by simp)), ?_⟩
  refine Goes.stop (fun w₁ h₁ => ?_)
  exact ⟨_, stepG_mark0 .disable (by simp) rfl rfl (by k_ne) rfl H.f_disable (x_disable_n L) (x_disable_b L) (x_disable_x L) (x_disable_f L)⟩

section
theorem rw_of_frm [Payload] {C n : Nat} (h1 : C ≠ φ.Wg) (h2 : C ≠ φ.Ch) (h3 : C ≠ φ.En) (hfd : φ.Fd ≠ some C) (h4 : ¬ φ.pb C) {w w₁ : World} (h : Frm φ own0 w w₁) : RW φ.ty φ.Wg C n 0 0 w w₁ :=
  ⟨fun b hb => absurd hb (by omega), h.live, fun ⟨cs, hc, hn⟩ => ⟨cs, (h.block C h1 h2 h3 hfd h4).trans hc, hn⟩, cell_block (h.block C h1 h2 h3 hfd h4) 0⟩

theorem r0_of_lib [Payload] {C n : Nat} {v : Value} (hR : ∀ a b, Frm φ own0 a b → RW φ.ty φ.Wg C n 0 0 a b) : ∀ g w, AtR0 P φ.ty φ.Wg C n 0 1 v g w → R0S P φ g w := by
  have h4 : ∀ g w, AtD4 P φ.ty φ.Wg g w → D4S P φ g w := fun _ _ h => h
  have h3 : ∀ g w, AtD3 P φ.ty φ.Wg C n 0 1 g w → D3S P φ g w := fun _ _ h => ⟨h.1, fun x => let ⟨g', a, m, b⟩ := h.2 x; ⟨g', a, m, Goes.weak hR h4 b⟩⟩
  have h2 : ∀ g w, AtD2 P φ.ty φ.Wg C n 0 1 g w → D2S P φ g w := fun _ _ h => ⟨h.1, fun x => let ⟨g', a, m, b⟩ := h.2 x; ⟨g', a, m, Goes.weak hR h3 b⟩⟩
  have h1 : ∀ g w, AtD1 P φ.ty φ.Wg C n 0 1 g w → D1S P φ g w := fun _ _ h => ⟨h.1, fun v wt a1 a2 a3 => let ⟨g', a, b, c⟩ := h.2 v wt a1 a2 a3; ⟨g', a, fun x => let ⟨m, y⟩ := b x; ⟨m, Goes.weak hR h2 y⟩, c⟩⟩
  have hk : ∀ g w, AtK1 P φ.ty φ.Wg C n 0 1 g w → K1S P φ g w := fun _ _ h => let ⟨a, g', b, m, c⟩ := h; ⟨a, g', b, m, Goes.weak hR h1 c⟩
  exact fun _ _ h => let ⟨a, _, g', b, m, c⟩ := h; ⟨a, g', b, m, Goes.weak hR hk c⟩

/-- (*WaitGroup).Done, AS A WORKER's DEFERRED CALL. -/
theorem doneP (H : WgLib P L) (hty : φ.ty = L.tWg) {C : Nat} (h1 : C ≠ φ.Wg) (h2 : C ≠ φ.Ch) (h3 : C ≠ φ.En) (hfd : φ.Fd ≠ some C) (h4 : ¬ φ.pb C) {c : Frame} {cs : List Frame} {qt : Nat} (hcm : c.mode = .returning) (hT : QuitsD P qt 0 (Go.Conc.G c cs)) (w : World) (hK : WgLive φ.ty φ.Wg w) (hv : ∃ v, w.cell? ⟨C, 0, none⟩ = some v) :
    Goes P false (Frm φ own0) DC0 (R0S P φ) 40 (Go.Conc.G ((baseD L.done).at ⟨#[.pointer (some ⟨φ.Wg, 0, none⟩), undef, undef, undef], []⟩ [.code (body_done L)]) (c :: cs)) w := by
  letI : Payload := ⟨0⟩
  obtain ⟨v, hv⟩ := hv
  have hR : ∀ a b, Frm φ own0 a b → RW φ.ty φ.Wg C 0 0 0 a b := fun _ _ => rw_of_frm h1 h2 h3 hfd h4
  have hlib := doneN (Own := fun _ _ => False) (Rd := fun _ _ => False) (C := C) (n := 0) (Low := 0) (k := 1) (val := v) H hcm hT w ⟨by rw [← hty]; exact hK, hv⟩
  rw [← hty] at hlib
  have := lock (R := Frm φ own0) (e := mk (.releaseMerge (stA φ.Wg))) (e' := mk .disable) (by simp [mk]) Frm.refl (fun w => RW.refl w) hR (fun g w h => let ⟨_, _, g', b, _⟩ := h; ⟨g', b⟩) (fun w w' es h he => (h.2 _ he).2.1 rfl) (fun _ _ _ a b => a.trans b) 40 _ _ w (doneWalk H hty w hK) hlib
  exact Goes.weak (fun _ _ h => h) (r0_of_lib hR) this
end
end
end Go.Pool
