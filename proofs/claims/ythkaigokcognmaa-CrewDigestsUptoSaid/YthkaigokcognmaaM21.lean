/- A part of the proof of CrewDigestsUpto (no statement of its own): Dg2, Dg4. -/
import Derived.Test.YthkaigokcognmaaM05
import Derived.Test.YthkaigokcognmaaM20
section
set_option linter.unusedSimpArgs false
namespace Go.Pool
open Go.Conc Go.Priv Go.RowKit
theorem chg_below {ρ ρ' : List Nat} {w w' : World} {es : Array Event} {B : Nat} (h : Chg ρ ρ' w w' es) (hB : B ≤ w.heap.size) (hρ : ∀ b ∈ ρ, B ≤ b) : Below B w w' := by
 obtain ⟨n, _, e⟩ := h.grow
 exact ⟨h.os, h.tape, h.output, by omega, fun b hb => h.block b (by omega) fun hm => by have := hρ b hm; omega⟩
theorem chg_mem {ρ ρ' : List Nat} {w w' : World} {es : Array Event} (h : Chg ρ ρ' w w' es) {b : Nat} (hb : b ∈ ρ') : b ∈ ρ ∨ (w.heap.size ≤ b ∧ b < w'.heap.size) := by
 obtain ⟨n, e1, e2⟩ := h.grow
 rw [e1] at hb
 refine (List.mem_append.1 hb).imp id fun x => ?_
 have := List.mem_range'_1.1 x
 omega
theorem lin_inv {ops : Array Oper} {md : Region.Mode} {K : Act → List Nat → World → Prop} (I : Nat → Array Bool → Act → World → Prop) (h0 : ∀ listed a w, I 0 listed a w → K a [] w) (hne : ∀ f listed a w, I (f + 1) listed a w → Region.ready md ops listed ≠ [])
  (hop : ∀ f listed a w i, I (f + 1) listed a w → i ∈ Region.ready md ops listed → ∀ rest, (∀ a' w', I f (listed.setIfInBounds i true) a' w' → K a' rest w') → K a (i :: rest) w) :
  ∀ (f t : Nat) (listed : Array Bool) (a : Act) (w : World), I f listed a w → K a (Region.linearise.go md ops f t listed []) w := by
 intro f
 induction f with
 | zero => intro t listed a w h; simpa [Region.linearise.go] using h0 _ _ _ h
 | succ f ih =>
  intro t listed a w h
  simp only [Region.linearise.go]
  change K a (match (Region.ready md ops listed)[t % (Region.ready md ops listed).length]? with
   | some i => Region.linearise.go md ops f (t / (Region.ready md ops listed).length) (listed.setIfInBounds i true) [i]
   | none => [].reverse) w
  cases hi : (Region.ready md ops listed)[t % (Region.ready md ops listed).length]? with
  | none =>
   exfalso
   have hlt : t % (Region.ready md ops listed).length < (Region.ready md ops listed).length := Nat.mod_lt _ (List.length_pos_iff.2 (hne f listed a w h))
   rw [List.getElem?_eq_getElem hlt] at hi
   cases hi
  | some i =>
   simp only []
   rw [linearise_go_acc, List.reverse_singleton, List.singleton_append]
   exact hop f listed a w i h (List.mem_of_getElem? hi) _ fun a' w' x => ih _ _ a' w' x
theorem draw_inv {ops : Array Oper} {K : Act → List Nat → World → Prop} (I : Nat → Array Bool → Act → World → Prop) (h0 : ∀ listed a w, I 0 listed a w → K a [] w) (hne : ∀ f listed a w, I (f + 1) listed a w → Region.ready .any ops listed ≠ [])
  (hop : ∀ f listed a w i, I (f + 1) listed a w → i ∈ Region.ready .any ops listed → ∀ rest, (∀ a' w', I f (listed.setIfInBounds i true) a' w' → K a' rest w') → K a (i :: rest) w) {b : Bool} (hb : b = true) (t : Nat) (a : Act) (w : World) (h : I ops.size (Array.replicate ops.size false) a w) : K a (Region.schedule b ops t) w := by
 subst hb
 simp only [Region.schedule, Bool.true_or, if_true]
 exact lin_inv I h0 hne hop ops.size t _ a w h
section
variable {P : Program} {Post : Value → World → Prop} {Shun : Loc → Prop} {B : Nat} {g : Goroutine} {w : World}
theorem EndsF.stepB (hs : g.status = .running) (h : ∀ w₁, AtRel w w₁ → ∃ g' w' es B', stepG P true g w₁ = .go g' w' es ∧ B ≤ B' ∧ (∀ e ∈ es, EvL Shun B' e) ∧ EndsF P Post Shun B' g' w') : EndsF P Post Shun B g w := by
 refine EndsF.turn hs fun w₁ h₁ gs sl t q h0 hL hP => ?_
 obtain ⟨g', w', es, B', hgo, hB, hev, hE⟩ := h w₁ h₁
 have hlt : 0 < gs.size := (Array.getElem?_eq_some_iff.1 h0).1
 refine ⟨_, _, runT_crowd_go (P := P) (sl := sl) (i := 0) h0 hgo, ?_⟩
 have hu : ∀ op ∈ MemOp.ofEvents 0 g.frame.fn g.frame.place es, op.g = 0 := fun op hop => by obtain ⟨e, _, rfl⟩ := Go.Conc.mem_ofEvents hop; rfl
 refine hE w' (atRel_refl w') _ sl _ q (by simp [hlt]) ⟨fun j x hj hx => ?_, fun j hj => ?_⟩ ((hP.mono hB).own hev)
 ·rw [Array.getElem?_setIfInBounds_ne (by omega), Array.getElem?_map] at hx
  obtain ⟨y, hy, rfl⟩ := Option.map_eq_some_iff.1 hx
  have hq := hL.old j y hj hy
  rw [woken_quitsD hq, Deaf_other t (by omega) _ hu]
  exact hq
 ·rw [Deaf_other t (g' := 0) (by simp at hj; omega) _ hu]
  exact hL.above j (by simpa using hj)
theorem touch_cell {e : Event} {a : Addr} (h : e.loc = .cell a) (hs : e.sync = false) {x : Touch} (hx : (MemAct.ofEvent e).touch? = some x) : x.loc = .cell a ∧ x.kind = .plain := by
 obtain ⟨loc, wr, sy⟩ := e
 simp only at h hs
 subst h hs
 simp only [MemAct.ofEvent, MemAct.touch?] at hx
 simp at hx
 subst hx
 exact ⟨rfl, rfl⟩
theorem low_cell {e : Event} {a : Addr} (h : e.loc = .cell a) {b : Nat} (hb : a.block < b) : (MemAct.ofEvent e).low b := by
 obtain ⟨loc, wr, sy⟩ := e
 simp only at h
 subst h
 simpa [MemAct.ofEvent, MemAct.low, Loc.low] using hb
theorem room_mute {e : Event} (h : e.loc = .mark .noRoom) : (MemAct.ofEvent e).touch? = none ∧ ∀ b, (MemAct.ofEvent e).low b := by
 obtain ⟨loc, wr, sy⟩ := e
 simp only at h
 subst h
 constructor
 ·simp [MemAct.ofEvent, MemAct.touch?]
 ·intro b; simp [MemAct.ofEvent, MemAct.low]
section
variable {FS : List FuncId} {RF : FuncId → Tmp → Bool} {RR : FuncId → Bool} {f : FuncId} {args : Array Value} {v0 : Value}
theorem EndsF.privately (hok : ∀ g ∈ FS, okFn P FS RF RR g = true) (hf : f ∈ FS) (hRR : RR f = false) (hargs : ∀ a ∈ args, Flat a) (hv0 : Flat v0) (hcall : ∀ w, Calls P f args w fun e _ => e = .returned v0)
  (hShun : ∀ a : Addr, w.heap.size ≤ a.block → ¬ Shun (.cell a)) {c₀ : Frame} {cs₀ : List Frame}
  (hend : ∀ w', Below w.heap.size w w' → EndsF P Post Shun w'.heap.size (G (c₀.finish v0) cs₀) w') : EndsF P Post Shun w.heap.size (G (Frame.enter P f args .normal) (c₀ :: cs₀)) w := by
 have key := priv (P := P) (main := true) (FS := FS) (RF := RF) (RR := RR) (f := f) (args := args) (v0 := v0) (c₀ := c₀) (cs₀ := cs₀)
  (K := fun ρ g w' => (∀ b ∈ ρ, w.heap.size ≤ b ∧ b < w'.heap.size) → Below w.heap.size w w' → EndsF P Post Shun w'.heap.size g w') (Rly := fun _ => AtRel) hok hf hRR hargs hv0 hcall
  (fun ρ w w₁ ⟨d, e⟩ b _ => by subst e; rfl) ?_ (fun ρ w' _ hb => hend w' hb) w
 ·exact key (by simp) (Below.refl _ _)
 ·intro ρ fr cs w2 hstep hρ hb
  refine EndsF.stepB rfl fun w₁ h₁ => ?_
  obtain ⟨fr', cs', w', es, ρ', hgo, hc, hk⟩ := hstep w₁ h₁
  obtain ⟨d, rfl⟩ := h₁
  obtain ⟨n, e1, e2⟩ := hc.grow
  have hsz : (w2.at d).heap.size = w2.heap.size := rfl
  have hb1 : Below w.heap.size w (w2.at d) := ⟨hb.os, hb.tape, hb.output, hb.size, hb.block⟩
  have hρ' : ∀ b ∈ ρ', w.heap.size ≤ b ∧ b < w'.heap.size := fun b hm => by
   rcases chg_mem hc hm with h | h
   ·have := hρ b h; omega
   ·have := hb.size; omega
  refine ⟨_, w', es, w'.heap.size, hgo, by omega, fun e he => ?_, hk hρ' (hb1.trans (chg_below hc hb1.size fun b hm => (hρ b hm).1))⟩
  rcases hc.ev e he with ⟨a, h1, h2, h3⟩ | h1
  ·refine ⟨fun x hx hsx => ?_, by rw [h1]; simp, by rw [h1]; simp, low_cell h1 (hρ' _ h3).2⟩
   rw [(touch_cell h1 h2 hx).1] at hsx
   exact absurd hsx (hShun a (hρ' _ h3).1)
  ·exact ⟨fun x hx => (by rw [(room_mute h1).1] at hx; cases hx), by rw [h1]; simp, by rw [h1]; simp, (room_mute h1).2 _⟩
end
end
section
variable {P : Program} {φ : Ph} {k : Nat} {S : Goroutine → World → Prop}
theorem djo_wider {L L' : List Nat} {w w' : World} {es : Array Event} (hs : ∀ x ∈ L', x ∈ L) (h : DJO φ k L' w w' es) : DJO φ k L w w' es := by
 obtain ⟨h1, h2⟩ := h
 refine ⟨⟨h1.tape, h1.os, h1.output, h1.size, h1.still, fun b hb hp hn => h1.block b hb hp fun hm => hn (hs b hm), h1.shape, h1.cells⟩, fun e he => ?_⟩
 obtain ⟨g1, g2, g3, g4, g5⟩ := h2 e he
 exact ⟨fun x hx => touch_more (g1 x hx) (fun _ => id) fun b hb => hb.imp (hs b) id, g2, g3, g4, g5.imp id fun ⟨b, hb, hl⟩ => ⟨b, hb.imp (hs b) id, hl⟩⟩
variable {FS : List FuncId} {RF : FuncId → Tmp → Bool} {RR : FuncId → Bool} {f : FuncId} {args : Array Value} {v0 : Value} {F : World → Prop}
theorem GoesX.privately (hpbB : ∀ b, φ.pb b → b < φ.B) (hgr : φ.gr) (hok : ∀ g ∈ FS, okFn P FS RF RR g = true) (hf : f ∈ FS) (hRR : RR f = false) (hargs : ∀ a ∈ args, Flat a) (hv0 : Flat v0) (hcall : ∀ w, Calls P f args w fun e _ => e = .returned v0)
  (hFr : ∀ w w₁, F w → Frm φ (· = k) w w₁ → F w₁) (hFb : ∀ w w', F w → Below φ.B w w' → F w') {c₀ : Frame} {cs₀ : List Frame}
  (hend : ∀ w, F w → φ.B ≤ w.heap.size → GoesX P (RJ φ k) (DJO φ k) S [] (G (c₀.finish v0) cs₀) w) (w : World) (hw : F w) (hB : φ.B ≤ w.heap.size) : GoesX P (RJ φ k) (DJO φ k) S [] (G (Frame.enter P f args .normal) (c₀ :: cs₀)) w := by
 have key := priv (P := P) (main := false) (FS := FS) (RF := RF) (RR := RR) (f := f) (args := args) (v0 := v0) (c₀ := c₀) (cs₀ := cs₀)
  (K := fun ρ g w' => (∀ b ∈ ρ, φ.B ≤ b) → φ.B ≤ w'.heap.size → F w' → GoesX P (RJ φ k) (DJO φ k) S ρ g w') (Rly := RJ φ k) hok hf hRR hargs hv0 hcall
  (fun ρ w w₁ h b hb => h.2 b hb) ?_ (fun ρ w' _ hB hF => (hend w' hF hB).wider (termsRJ φ k) (fun _ _ _ _ _ hs h => djo_wider hs h) (by simp)) w
 ·exact key (by simp) hB hw
 ·intro ρ fr cs w2 hstep hρ hB2 hF2
  refine GoesX.gen rfl fun w₁ h₁ => ?_
  obtain ⟨fr', cs', w', es, ρ', hgo, hc, hk⟩ := hstep w₁ h₁
  have hB1 : φ.B ≤ w₁.heap.size := Nat.le_trans hB2 h₁.1.size
  have hbel := chg_below hc hB1 hρ
  obtain ⟨n, e1, e2⟩ := hc.grow
  have hmem : ∀ b ∈ ρ', b ∈ ρ ∨ (w₁.heap.size ≤ b ∧ b < w'.heap.size) := fun b hb => chg_mem hc hb
  have hρ' : ∀ b ∈ ρ', φ.B ≤ b := fun b hb => (hmem b hb).elim (hρ b) fun x => by omega
  refine ⟨_, w', es, hgo, ⟨⟨hc.tape, hc.os, hc.output, by omega, fun h => absurd hgr h, fun b hb _ hn => hc.block b hb hn, fun b hb cs ty fz h => ⟨cs, (hbel.block b (hpbB b hb)).trans h, rfl⟩, fun b k' hb _ => cell_block (hbel.block b (hpbB b hb)) k'⟩, fun e he => ?_⟩, ρ', hmem, hk hρ' (by omega) (hFb w₁ w' (hFr w2 w₁ hF2 h₁.1) hbel)⟩
  rcases hc.ev e he with ⟨a, h1, h2, h3⟩ | h1
  ·refine ⟨fun x hx => ?_, by rw [h1]; simp, by rw [h1]; simp, by rw [h1]; simp, .inr ⟨a.block, hmem _ h3, low_cell h1 (by omega)⟩⟩
   obtain ⟨x1, x2⟩ := touch_cell h1 h2 hx
   exact .inr (.inr (.inr (.inr ⟨x2, a, x1, hρ' _ h3, hmem _ h3⟩)))
  ·exact ⟨fun x hx => (by rw [(room_mute h1).1] at hx; cases hx), by rw [h1]; simp, by rw [h1]; simp, by rw [h1]; simp, .inl ((room_mute h1).2 _)⟩
end
end Go.Pool
end
section
set_option linter.unusedSimpArgs false
namespace Go.Pool
open Go.Conc Go.RowKit Go.Proofs Go.ConcN Go.Conc.Lib Go.ConcR.Gen Go.ConcN.Gen
open Go.ConcR (KK wgBlock WgAt stA smA rd wr mk DC0)
theorem nm54 : (Try.f54.name == "runtime.NumGoroutine") = false := by kernel_rfl
theorem nm67 : (Try.f67.name == "runtime.NumGoroutine") = false := by kernel_rfl
theorem mixedOn : Try.prog.follows .mixedOrders = true := by kernel_rfl
noncomputable def ops67 : Array Oper := match Try.f67.body with
 | some (.seq _ (.seq (.region _ ops _) _)) => ops
 | _ => #[]
theorem ready67 : ∀ l0 l1 l2 l3 l4 l5 l6 l7 l8 l9 : Bool, Region.ready .any ops67 #[l0, l1, l2, l3, l4, l5, l6, l7, l8, l9] = [] → (l0 && l1 && l2 && l3 && l4 && l5 && l6 && l7 && l8 && l9) = true := by
 decide +kernel
theorem deps67b : ∀ l0 l1 l2 l3 l4 l5 l6 l7 l8 l9 : Bool, ((Region.ready .any ops67 #[l0, l1, l2, l3, l4, l5, l6, l7, l8, l9]).all fun i =>
  (i == 0 && !l0) || (i == 1 && !l1) || (i == 2 && !l2) || (i == 3 && !l3) || (i == 4 && !l4) || (i == 5 && !l5 && l3 && l4) || (i == 6 && !l6 && l5) || (i == 7 && !l7 && l2 && l6) || (i == 8 && !l8 && l0 && l1) || (i == 9 && !l9 && l7 && l8)) = true := by
 decide +kernel
theorem deps67 {l0 l1 l2 l3 l4 l5 l6 l7 l8 l9 : Bool} {i : Nat} (hi : i ∈ Region.ready .any ops67 #[l0, l1, l2, l3, l4, l5, l6, l7, l8, l9]) :
  (i = 0 ∧ l0 = false) ∨ (i = 1 ∧ l1 = false) ∨ (i = 2 ∧ l2 = false) ∨ (i = 3 ∧ l3 = false) ∨ (i = 4 ∧ l4 = false) ∨ (i = 5 ∧ l5 = false ∧ l3 = true ∧ l4 = true) ∨ (i = 6 ∧ l6 = false ∧ l5 = true) ∨
  (i = 7 ∧ l7 = false ∧ l2 = true ∧ l6 = true) ∨ (i = 8 ∧ l8 = false ∧ l0 = true ∧ l1 = true) ∨ (i = 9 ∧ l9 = false ∧ l7 = true ∧ l8 = true) := by
 have := List.all_eq_true.1 (deps67b l0 l1 l2 l3 l4 l5 l6 l7 l8 l9) i hi
 simp only [Bool.or_eq_true, Bool.and_eq_true, beq_iff_eq, Bool.not_eq_true'] at this
 simpa only [or_assoc, and_assoc] using this
theorem store_string_ev (P : Program) (w : World) (es : Array Event) (a : Addr) (m : Mode) (s : ByteArray) : (store a (.string s) m).events P w es = storedEv P w es a (.string s) m := events_store P w es a _ m rfl
structure V67 (k Bf Bi Bo Bin oin Out n ncap : Nat) (s t : ByteArray) (w : World) : Prop where
 cf : w.cell? ⟨Bf, 0, none⟩ = some (.func (.func 54) #[] #[])
 ci : w.cell? ⟨Bi, 0, none⟩ = some (.slice (some ⟨Bin, oin, none⟩) n ncap)
 co : w.cell? ⟨Bo, 0, none⟩ = some (.slice (some ⟨Out, 0, none⟩) n n)
 c0 : w.cell? ⟨Bin, oin + k * 2, none⟩ = some (.string s)
 c1 : w.cell? ⟨Bin, oin + k * 2 + 1, none⟩ = some (.string t)
 out : ∃ cs, w.heap[Out]? = some (.cells cs 9) ∧ cs.size = n
section
variable {φ : Ph} {k Bf Bi Bo Bin oin Out n ncap : Nat} {s t y : ByteArray} {X : World → Prop} {l9 : Bool}
theorem V67.rely (hf : Still φ Bf) (hi : Still φ Bi) (ho : Still φ Bo) (hin : Still φ Bin) (hpb : φ.pb Out) {w w₁ : World} (h : V67 k Bf Bi Bo Bin oin Out n ncap s t w) (r : Frm φ (· = k) w w₁) : V67 k Bf Bi Bo Bin oin Out n ncap s t w₁ := by
 obtain ⟨cs, hc, hs⟩ := h.out
 obtain ⟨cs', hc', hs'⟩ := r.shape Out hpb cs _ _ hc
 exact ⟨(hf.cell r 0).trans h.cf, (hi.cell r 0).trans h.ci, (ho.cell r 0).trans h.co, (hin.cell r _).trans h.c0, (hin.cell r _).trans h.c1, cs', hc', hs'.trans hs⟩
theorem V67.below (hf : Still φ Bf) (hi : Still φ Bi) (ho : Still φ Bo) (hin : Still φ Bin) (hO : Out < φ.B) {w w₁ : World} (h : V67 k Bf Bi Bo Bin oin Out n ncap s t w) (r : Below φ.B w w₁) : V67 k Bf Bi Bo Bin oin Out n ncap s t w₁ := by
 obtain ⟨cs, hc, hs⟩ := h.out
 have e : ∀ b o, b < φ.B → w₁.cell? ⟨b, o, none⟩ = w.cell? ⟨b, o, none⟩ := fun b o hb => cell_block (r.block b hb) o
 exact ⟨(e _ _ hf.low).trans h.cf, (e _ _ hi.low).trans h.ci, (e _ _ ho.low).trans h.co, (e _ _ hin.low).trans h.c0, (e _ _ hin.low).trans h.c1, cs, (r.block _ hO).trans hc, hs⟩
def W67 (φ : Ph) (k Bf Bi Bo Bin oin Out n ncap : Nat) (s t y : ByteArray) (X : World → Prop) (l9 : Bool) (w : World) : Prop :=
 V67 k Bf Bi Bo Bin oin Out n ncap s t w ∧ X w ∧ φ.B ≤ w.heap.size ∧ (l9 = true → w.cell? ⟨Out, k, none⟩ = some (.string y))
theorem W67.rely (hf : Still φ Bf) (hi : Still φ Bi) (ho : Still φ Bo) (hin : Still φ Bin) (hpb : φ.pb Out) (hX : ∀ w w₁, X w → Frm φ (· = k) w w₁ → X w₁) {w w₁ : World}
  (h : W67 φ k Bf Bi Bo Bin oin Out n ncap s t y X l9 w) (r : Frm φ (· = k) w w₁) : W67 φ k Bf Bi Bo Bin oin Out n ncap s t y X l9 w₁ :=
 ⟨h.1.rely hf hi ho hin hpb r, hX _ _ h.2.1 r, Nat.le_trans h.2.2.1 r.size, fun e => (r.own Out k hpb rfl).trans (h.2.2.2 e)⟩
theorem W67.below (hf : Still φ Bf) (hi : Still φ Bi) (ho : Still φ Bo) (hin : Still φ Bin) (hO : Out < φ.B) (hX : ∀ w w₁, X w → Below φ.B w w₁ → X w₁) {w w₁ : World}
  (h : W67 φ k Bf Bi Bo Bin oin Out n ncap s t y X l9 w) (r : Below φ.B w w₁) : W67 φ k Bf Bi Bo Bin oin Out n ncap s t y X l9 w₁ :=
 ⟨h.1.below hf hi ho hin hO r, hX _ _ h.2.1 r, Nat.le_trans h.2.2.1 r.size, fun e => (cell_block (r.block Out hO) k).trans (h.2.2.2 e)⟩
def T67 (k Bf Bi Bo Bin oin Out n ncap : Nat) (s t y : ByteArray) (l0 l1 l2 l3 l4 l5 l6 l7 l8 : Bool) : Act := ⟨#[.int .i64 k, .pointer (some ⟨Bf, 0, none⟩), .pointer (some ⟨Bi, 0, none⟩), .pointer (some ⟨Bo, 0, none⟩), undef, .bool false,
   gv l0 (.slice (some ⟨Out, 0, none⟩) n n), gv l1 (.int .i64 k), gv l2 (.func (.func 54) #[] #[]), gv l3 (.slice (some ⟨Bin, oin, none⟩) n ncap), gv l4 (.int .i64 k), gv l5 (.pointer (some ⟨Bin, oin + k * 2, none⟩)), gv l6 (.agg #[.string s, .string t]), gv l7 (.string y), gv l8 (.pointer (some ⟨Out, k, none⟩))], []⟩
def I67 (φ : Ph) (k Bf Bi Bo Bin oin Out n ncap : Nat) (s t y : ByteArray) (X : World → Prop) (f : Nat) (listed : Array Bool) (a : Act) (w : World) : Prop :=
 ∃ l0 l1 l2 l3 l4 l5 l6 l7 l8 l9 : Bool, listed = #[l0, l1, l2, l3, l4, l5, l6, l7, l8, l9] ∧
  f = cntF l0 + cntF l1 + cntF l2 + cntF l3 + cntF l4 + cntF l5 + cntF l6 + cntF l7 + cntF l8 + cntF l9 ∧
  a = T67 k Bf Bi Bo Bin oin Out n ncap s t y l0 l1 l2 l3 l4 l5 l6 l7 l8 ∧ W67 φ k Bf Bi Bo Bin oin Out n ncap s t y X l9 w
theorem I67.of {f : Nat} {l0 l1 l2 l3 l4 l5 l6 l7 l8 l9 : Bool} {w : World} (hf : f = cntF l0 + cntF l1 + cntF l2 + cntF l3 + cntF l4 + cntF l5 + cntF l6 + cntF l7 + cntF l8 + cntF l9)
  (h : W67 φ k Bf Bi Bo Bin oin Out n ncap s t y X l9 w) : I67 φ k Bf Bi Bo Bin oin Out n ncap s t y X f #[l0, l1, l2, l3, l4, l5, l6, l7, l8, l9] (T67 k Bf Bi Bo Bin oin Out n ncap s t y l0 l1 l2 l3 l4 l5 l6 l7 l8) w :=
 ⟨l0, l1, l2, l3, l4, l5, l6, l7, l8, l9, rfl, hf, rfl, h⟩
set_option maxRecDepth 100000 in
set_option maxHeartbeats 4000000 in
theorem region67 (hf : Still φ Bf) (hi : Still φ Bi) (ho : Still φ Bo) (hin : Still φ Bin) (hpb : φ.pb Out) (hO : Out < φ.B) (hk : k < n) (hpbB : ∀ b, φ.pb b → b < φ.B) (hgr : φ.gr) (hX : ∀ w w₁, X w → Frm φ (· = k) w w₁ → X w₁) (hXb : ∀ w w₁, X w → Below φ.B w w₁ → X w₁) (hXs : ∀ w v, X w → X (w.setCell ⟨Out, k, none⟩ v))
  (hcall : ∀ w, Calls Try.prog 54 #[.agg #[.string s, .string t]] w fun e _ => e = .returned (.string y)) {S : Goroutine → World → Prop} {kk : List Item} {cs : List Frame} {id : Nat}
  (hend : ∀ w, W67 φ k Bf Bi Bo Bin oin Out n ncap s t y X true w → GoesX Try.prog (RJ φ k) (DJO φ k) S [] (Go.Conc.G ((base 67).at (T67 k Bf Bi Bo Bin oin Out n ncap s t y true true true true true true true true true) kk) cs) w) :
  ∀ w, W67 φ k Bf Bi Bo Bin oin Out n ncap s t y X false w → GoesX Try.prog (RJ φ k) (DJO φ k) S [] (Go.Conc.G ((base 67).at (T67 k Bf Bi Bo Bin oin Out n ncap s t y false false false false false false false false false) (.code (.region id ops67 true) :: kk)) cs) w := by
 have rl : ∀ {l9 : Bool} {w w₁ : World}, W67 φ k Bf Bi Bo Bin oin Out n ncap s t y X l9 w → RJ φ k [] w w₁ → W67 φ k Bf Bi Bo Bin oin Out n ncap s t y X l9 w₁ := fun h r => h.rely hf hi ho hin hpb hX r.1
 intro w hF
 refine GoesX.step rfl fun w₁ h₁ => ?_
 replace hF := rl hF h₁
 clear h₁
 rw [stepG_region_draw]
 refine ⟨.of_dj (drawJ φ k w₁), ?_⟩
 replace hF : W67 φ k Bf Bi Bo Bin oin Out n ncap s t y X false { w₁ with drawn := w₁.drawn + 1 } := hF.rely hf hi ho hin hpb hX (Frm.at w₁ _)
 refine draw_inv (K := fun a rest w => GoesX Try.prog (RJ φ k) (DJO φ k) S [] (Go.Conc.G ((base 67).at a (.inRegion ops67 rest :: kk)) cs) w) (I67 φ k Bf Bi Bo Bin oin Out n ncap s t y X) ?_ ?_ ?_ mixedOn _ _ _ ?_
 ·rintro listed a w ⟨l0, l1, l2, l3, l4, l5, l6, l7, l8, l9, rfl, hc, rfl, hF⟩
  obtain rfl := cntF_eq (b := l0) (by omega)
  obtain rfl := cntF_eq (b := l1) (by omega)
  obtain rfl := cntF_eq (b := l2) (by omega)
  obtain rfl := cntF_eq (b := l3) (by omega)
  obtain rfl := cntF_eq (b := l4) (by omega)
  obtain rfl := cntF_eq (b := l5) (by omega)
  obtain rfl := cntF_eq (b := l6) (by omega)
  obtain rfl := cntF_eq (b := l7) (by omega)
  obtain rfl := cntF_eq (b := l8) (by omega)
  obtain rfl := cntF_eq (b := l9) (by omega)
  refine GoesX.step rfl (fun _ h₁ => ?_)
  replace hF := rl hF h₁
  clear h₁
  rw [stepG_region_end]
  simp only [goes_go]
  refine ⟨djo_nil, ?_⟩
  exact hend _ hF
 ·rintro f listed a w ⟨l0, l1, l2, l3, l4, l5, l6, l7, l8, l9, rfl, hc, rfl, hF⟩ hn
  have := ready67 l0 l1 l2 l3 l4 l5 l6 l7 l8 l9 hn
  simp only [Bool.and_eq_true] at this
  obtain ⟨⟨⟨⟨⟨⟨⟨⟨⟨rfl, rfl⟩, rfl⟩, rfl⟩, rfl⟩, rfl⟩, rfl⟩, rfl⟩, rfl⟩, rfl⟩ := this
  simp [cntF] at hc
 ·rintro f listed a w i ⟨l0, l1, l2, l3, l4, l5, l6, l7, l8, l9, rfl, hc, rfl, hF⟩ hmem rest hnext
  have hkn : (k : Int) < (n : Int) := by omega
  have hq : ∀ (l0 l1 l2 l3 l4 l5 l6 l7 l8 l9 : Bool) (w' : World), f = cntF l0 + cntF l1 + cntF l2 + cntF l3 + cntF l4 + cntF l5 + cntF l6 + cntF l7 + cntF l8 + cntF l9 → W67 φ k Bf Bi Bo Bin oin Out n ncap s t y X l9 w' → I67 φ k Bf Bi Bo Bin oin Out n ncap s t y X f #[l0, l1, l2, l3, l4, l5, l6, l7, l8, l9] (T67 k Bf Bi Bo Bin oin Out n ncap s t y l0 l1 l2 l3 l4 l5 l6 l7 l8) w' := fun l0 l1 l2 l3 l4 l5 l6 l7 l8 l9 w' h1 h2 => I67.of h1 h2
  simp only [ops67, Try.f67, T67] at hnext hq ⊢
  rcases deps67 hmem with ⟨rfl, rfl⟩ | ⟨rfl, rfl⟩ | ⟨rfl, rfl⟩ | ⟨rfl, rfl⟩ | ⟨rfl, rfl⟩ | ⟨rfl, rfl, rfl, rfl⟩ | ⟨rfl, rfl, rfl⟩ | ⟨rfl, rfl, rfl, rfl⟩ | ⟨rfl, rfl, rfl, rfl⟩ | ⟨rfl, rfl, rfl, rfl⟩
  ·skip
   refine GoesX.step rfl (fun _ h₁ => ?_)
   replace hF := rl hF h₁
   clear h₁
   refine goes_oper_k rfl rfl (by k_ne) (fun K hK => ?_)
   have hld := hF.1.co
   go_simp
   refine hK _ _ ⟨⟨.of_job (.refl k _), fun ex hex => ?_⟩, ?_⟩
   ·have hm := mem_listed hex
    simp [go_sem, *] at hm
    subst hm
    exact .of_evP (evp_read ho 0 _ _)
   clear hK K
   exact hnext _ _ (hq true l1 l2 l3 l4 l5 l6 l7 l8 l9 _ (by simp [cntF] at hc ⊢; omega) hF)
  ·skip
   refine GoesX.step rfl (fun _ h₁ => ?_)
   replace hF := rl hF h₁
   clear h₁
   refine goes_oper_k rfl rfl (by k_ne) (fun K hK => ?_)
   go_simp
   refine hK _ _ ⟨?_, ?_⟩
   ·refine djo_none ?_
    intro ex hex
    have hm := mem_listed hex
    simp [go_sem, *] at hm
   clear hK K
   exact hnext _ _ (hq l0 true l2 l3 l4 l5 l6 l7 l8 l9 _ (by simp [cntF] at hc ⊢; omega) hF)
  ·skip
   refine GoesX.step rfl (fun _ h₁ => ?_)
   replace hF := rl hF h₁
   clear h₁
   refine goes_oper_k rfl rfl (by k_ne) (fun K hK => ?_)
   have hld := hF.1.cf
   go_simp
   refine hK _ _ ⟨⟨.of_job (.refl k _), fun ex hex => ?_⟩, ?_⟩
   ·have hm := mem_listed hex
    simp [go_sem, *] at hm
    subst hm
    exact .of_evP (evp_read hf 0 _ _)
   clear hK K
   exact hnext _ _ (hq l0 l1 true l3 l4 l5 l6 l7 l8 l9 _ (by simp [cntF] at hc ⊢; omega) hF)
  ·skip
   refine GoesX.step rfl (fun _ h₁ => ?_)
   replace hF := rl hF h₁
   clear h₁
   refine goes_oper_k rfl rfl (by k_ne) (fun K hK => ?_)
   have hld := hF.1.ci
   go_simp
   refine hK _ _ ⟨⟨.of_job (.refl k _), fun ex hex => ?_⟩, ?_⟩
   ·have hm := mem_listed hex
    simp [go_sem, *] at hm
    subst hm
    exact .of_evP (evp_read hi 0 _ _)
   clear hK K
   exact hnext _ _ (hq l0 l1 l2 true l4 l5 l6 l7 l8 l9 _ (by simp [cntF] at hc ⊢; omega) hF)
  ·skip
   refine GoesX.step rfl (fun _ h₁ => ?_)
   replace hF := rl hF h₁
   clear h₁
   refine goes_oper_k rfl rfl (by k_ne) (fun K hK => ?_)
   go_simp
   refine hK _ _ ⟨?_, ?_⟩
   ·refine djo_none ?_
    intro ex hex
    have hm := mem_listed hex
    simp [go_sem, *] at hm
   clear hK K
   exact hnext _ _ (hq l0 l1 l2 l3 true l5 l6 l7 l8 l9 _ (by simp [cntF] at hc ⊢; omega) hF)
  ·simp only [gv_t]
   refine GoesX.step rfl (fun _ h₁ => ?_)
   replace hF := rl hF h₁
   clear h₁
   refine goes_oper_k rfl rfl (by k_ne) (fun K hK => ?_)
   go_simp
   refine hK _ _ ⟨?_, ?_⟩
   ·refine djo_none ?_
    intro ex hex
    have hm := mem_listed hex
    simp [go_sem, *] at hm
   clear hK K
   exact hnext _ _ (hq l0 l1 l2 true true true l6 l7 l8 l9 _ (by simp [cntF] at hc ⊢; omega) hF)
  ·simp only [gv_t]
   refine GoesX.step rfl (fun _ h₁ => ?_)
   replace hF := rl hF h₁
   clear h₁
   refine goes_oper_k rfl rfl (by k_ne) (fun K hK => ?_)
   have hld0 := hF.1.c0
   have hld1 := hF.1.c1
   go_simp
   refine hK _ _ ⟨⟨.of_job (.refl k _), fun ex hex => ?_⟩, ?_⟩
   ·have hm := mem_listed hex
    simp [go_sem, *] at hm
    rcases hm with rfl | rfl
    ·exact .of_evP (evp_read hin _ _ _)
    ·exact .of_evP (evp_read hin _ _ _)
   clear hK K
   exact hnext _ _ (hq l0 l1 l2 l3 l4 true true l7 l8 l9 _ (by simp [cntF] at hc ⊢; omega) hF)
  ·simp only [gv_t]
   refine GoesX.step rfl (fun _ h₁ => ?_)
   replace hF := rl hF h₁
   clear h₁
   refine goes_callv (first := #[]) (cap := #[]) rfl (by rfl) (by k_ne) rfl rfl Try.func54 nm54 rfl ⟨djo_nil, ?_⟩
   rw [← enter_at _ Try.func54 rfl]
   refine GoesX.privately (FS := Go.Dig.FS) (RF := Go.Dig.RF) (RR := Go.Dig.RR) hpbB hgr Go.Dig.okAll (by simp [Go.Dig.FS]) rfl (v0 := .string y) (F := W67 φ k Bf Bi Bo Bin oin Out n ncap s t y X l9) ?_ (.string y) (by simpa [Act.eval] using hcall) (fun w w₁ h r => h.rely hf hi ho hin hpb hX r) (fun w w₁ h r => h.below hf hi ho hin hO hXb r) (fun w' hF' hB' => ?_) _ hF hF.2.2.1
   ·intro a ha
    simp [Act.eval] at ha
    subst ha
    exact .agg fun c hc => by simp at hc; rcases hc with rfl | rfl <;> exact .string _
   rw [Frame.finish_at]
   exact hnext _ _ (hq l0 l1 true l3 l4 l5 true true l8 l9 _ (by simp [cntF] at hc ⊢; omega) hF')
  ·simp only [gv_t]
   refine GoesX.step rfl (fun _ h₁ => ?_)
   replace hF := rl hF h₁
   clear h₁
   refine goes_oper_k rfl rfl (by k_ne) (fun K hK => ?_)
   go_simp
   refine hK _ _ ⟨?_, ?_⟩
   ·refine djo_none ?_
    intro ex hex
    have hm := mem_listed hex
    simp [go_sem, *] at hm
   clear hK K
   exact hnext _ _ (hq true true l2 l3 l4 l5 l6 l7 true l9 _ (by simp [cntF] at hc ⊢; omega) hF)
  ·simp only [gv_t]
   refine GoesX.step rfl (fun w₃ h₁ => ?_)
   replace hF := rl hF h₁
   clear h₁
   refine goes_oper_k rfl rfl (by k_ne) (fun K hK => ?_)
   obtain ⟨cs, hcs, hcn⟩ := hF.1.out
   have hlt : k < cs.size := by omega
   have hcell : w₃.cell? ⟨Out, k, none⟩ = some cs[k] := by simp [World.cell?, hcs, hlt]
   have hfr : w₃.frozen? ⟨Out, k, none⟩ = false := by simp [World.frozen?, hcs]
   go_simp
   try (unfold stored; go_simp)
   refine hK _ _ ⟨⟨.of_job (job_set hpb w₃ _), fun ex hex => ?_⟩, ?_⟩
   ·have hm := mem_listed hex
    have hss := store_string_ev
    simp [go_sem, *] at hm
    subst hm
    exact .of_evP (evp_own hpb hO true _)
   clear hK K
   refine hnext _ _ (hq l0 l1 l2 l3 l4 l5 l6 true true true _ (by simp [cntF] at hc ⊢; omega) ⟨?_, hXs _ _ hF.2.1, by rw [(aside_setCell w₃ ⟨Out, k, none⟩ (.string y)).size]; exact hF.2.2.1, fun _ => World.cell?_setCell_same' _ _ _ (by rw [hcell]; rfl)⟩)
   have A := aside_setCell w₃ ⟨Out, k, none⟩ (.string y)
   have hb : ∀ b o, ¬ φ.pb b → (w₃.setCell ⟨Out, k, none⟩ (.string y)).cell? ⟨b, o, none⟩ = w₃.cell? ⟨b, o, none⟩ := fun b o hb => cell_block (A.block b fun e => hb (by rw [e]; exact hpb)) o
   exact ⟨(hb _ _ hf.pb).trans hF.1.cf, (hb _ _ hi.pb).trans hF.1.ci, (hb _ _ ho.pb).trans hF.1.co, (hb _ _ hin.pb).trans hF.1.c0, (hb _ _ hin.pb).trans hF.1.c1, _, heap_setCell_at hcs, by simp [hcn]⟩
 ·exact ⟨false, false, false, false, false, false, false, false, false, false, rfl, rfl, rfl, hF⟩
end
end Go.Pool
end
