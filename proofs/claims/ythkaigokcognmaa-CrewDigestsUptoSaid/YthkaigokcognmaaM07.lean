/- A part of the proof of CrewDigestsUpto (no statement of its own): Pool2, Cr0. -/
import Derived.Test.YthkaigokcognmaaM06
import Derived.Conc.TokenWalk
import Derived.Conc.DeferLaws
section
namespace Go.Pool
open Go.Conc Go.ConcN
open Go.ConcR (stA smA rd wr mk KK WgAt wgBlock)
abbrev own0 : Nat → Prop := fun _ => False
structure Frm (φ : Ph) (own : Nat → Prop) (w w₁ : World) : Prop where
 tape : w₁.tape = w.tape
 os : w₁.os = w.os
 output : w₁.output = w.output
 size : w.heap.size ≤ w₁.heap.size
 still : ¬ φ.gr → w₁.heap.size = w.heap.size
 block : ∀ b, b < φ.B → b ≠ φ.Wg → b ≠ φ.Ch → b ≠ φ.En → φ.Fd ≠ some b → ¬ φ.pb b → w₁.heap[b]? = w.heap[b]?
 live : WgLive φ.ty φ.Wg w → WgLive φ.ty φ.Wg w₁
 shape : ∀ b, φ.pb b → ∀ cs ty fz, w.heap[b]? = some (.cells cs ty fz) → ∃ cs', w₁.heap[b]? = some (.cells cs' ty fz) ∧ cs'.size = cs.size
 own : ∀ b k, φ.pb b → own k → w₁.cell? ⟨b, k, none⟩ = w.cell? ⟨b, k, none⟩
structure Job (φ : Ph) (k : Nat) (w w₁ : World) : Prop where
 tape : w₁.tape = w.tape
 os : w₁.os = w.os
 output : w₁.output = w.output
 size : w₁.heap.size = w.heap.size
 block : ∀ b, ¬ φ.pb b → w₁.heap[b]? = w.heap[b]?
 shape : ∀ b, φ.pb b → ∀ cs ty fz, w.heap[b]? = some (.cells cs ty fz) → ∃ cs', w₁.heap[b]? = some (.cells cs' ty fz) ∧ cs'.size = cs.size
 cells : ∀ b k', φ.pb b → k' ≠ k → w₁.cell? ⟨b, k', none⟩ = w.cell? ⟨b, k', none⟩
structure JobO (φ : Ph) (k : Nat) (L : List Nat) (w w₁ : World) : Prop where
 tape : w₁.tape = w.tape
 os : w₁.os = w.os
 output : w₁.output = w.output
 size : w.heap.size ≤ w₁.heap.size
 still : ¬ φ.gr → w₁.heap.size = w.heap.size
 block : ∀ b, b < w.heap.size → ¬ φ.pb b → b ∉ L → w₁.heap[b]? = w.heap[b]?
 shape : ∀ b, φ.pb b → ∀ cs ty fz, w.heap[b]? = some (.cells cs ty fz) → ∃ cs', w₁.heap[b]? = some (.cells cs' ty fz) ∧ cs'.size = cs.size
 cells : ∀ b k', φ.pb b → k' ≠ k → w₁.cell? ⟨b, k', none⟩ = w.cell? ⟨b, k', none⟩
structure Geo (φ : Ph) : Prop where
 wgCh : φ.Wg ≠ φ.Ch
 wgEn : φ.Wg ≠ φ.En
 chEn : φ.Ch ≠ φ.En
 wgpb : ¬ φ.pb φ.Wg
 chpb : ¬ φ.pb φ.Ch
 enpb : ¬ φ.pb φ.En
 wgB : φ.Wg < φ.B
 chB : φ.Ch < φ.B
 enB : φ.En < φ.B
 wgFd : φ.Fd ≠ some φ.Wg
 chFd : φ.Fd ≠ some φ.Ch
 enFd : φ.Fd ≠ some φ.En
 fdpb : ∀ b, φ.Fd = some b → ¬ φ.pb b
 fdB : ∀ b, φ.Fd = some b → b < φ.B
 wgShun : ∀ l, ShN φ.Wg l → ¬ φ.Shun l
 pbShun : ∀ a : Addr, φ.pb a.block → ¬ φ.Shun (.cell a)
 objShun : ∀ r, ¬ φ.Shun (.obj r)
 newShun : ∀ a : Addr, φ.B ≤ a.block → ¬ φ.Shun (.cell a)
 pbB : ∀ b, φ.pb b → b < φ.B
theorem Geo.apt {φ : Ph} (G : Geo φ) : Apt φ := ⟨G.wgpb, G.wgShun, G.pbShun, G.objShun, G.newShun, G.wgB, G.pbB⟩
section
variable {φ : Ph} {own own' : Nat → Prop} {w w₁ w₂ : World}
theorem Frm.refl (w : World) : Frm φ own w w := ⟨rfl, rfl, rfl, Nat.le_refl _, fun _ => rfl, fun _ _ _ _ _ _ _ => rfl, id, fun _ _ cs _ _ h => ⟨cs, h, rfl⟩, fun _ _ _ _ => rfl⟩
theorem Frm.trans (h : Frm φ own w w₁) (h' : Frm φ own w₁ w₂) : Frm φ own w w₂ :=
 ⟨h'.tape.trans h.tape, h'.os.trans h.os, h'.output.trans h.output, Nat.le_trans h.size h'.size, fun g => (h'.still g).trans (h.still g), fun b x a c d e f => (h'.block b x a c d e f).trans (h.block b x a c d e f), h'.live ∘ h.live,
  fun b hb cs ty fz hc => let ⟨c1, e1, s1⟩ := h.shape b hb cs ty fz hc; let ⟨c2, e2, s2⟩ := h'.shape b hb c1 ty fz e1; ⟨c2, e2, s2.trans s1⟩, fun b k hb hk => (h'.own b k hb hk).trans (h.own b k hb hk)⟩
theorem Frm.trans' : ∀ a b c, Frm φ own a b → Frm φ own b c → Frm φ own a c := fun _ _ _ h h' => h.trans h'
theorem Frm.at (w : World) (d : Nat) : Frm φ own w (w.at d) := ⟨rfl, rfl, rfl, Nat.le_refl _, fun _ => rfl, fun _ _ _ _ _ _ _ => rfl, id, fun _ _ cs _ _ h => ⟨cs, h, rfl⟩, fun _ _ _ _ => rfl⟩
theorem Frm.of_at (h : AtRel w w₁) : Frm φ own w w₁ := let ⟨d, e⟩ := h; e ▸ Frm.at w d
theorem cell_block {b : Nat} (e : w₁.heap[b]? = w.heap[b]?) (o : Nat) : w₁.cell? ⟨b, o, none⟩ = w.cell? ⟨b, o, none⟩ := by simp [World.cell?, e]
theorem Frm.of_wg (G : Geo φ) (h : Aside φ.Wg w w₁) (hl : WgLive φ.ty φ.Wg w₁) : Frm φ own w w₁ := by
 have hp : ∀ b, φ.pb b → w₁.heap[b]? = w.heap[b]? := fun b hb => h.block b fun e => G.wgpb (e ▸ hb)
 exact ⟨h.tape, h.os, h.output, Nat.le_of_eq h.size.symm, fun _ => h.size, fun b _ a _ _ _ _ => h.block b a, fun _ => hl, fun b hb cs _ _ hc => ⟨cs, (hp b hb).trans hc, rfl⟩, fun b k hb _ => cell_block (hp b hb) k⟩
theorem Frm.of_ch (G : Geo φ) (h : Aside φ.Ch w w₁) : Frm φ own w w₁ := by
 have hp : ∀ b, φ.pb b → w₁.heap[b]? = w.heap[b]? := fun b hb => h.block b fun e => G.chpb (e ▸ hb)
 exact ⟨h.tape, h.os, h.output, Nat.le_of_eq h.size.symm, fun _ => h.size, fun b _ _ a _ _ _ => h.block b a, fun ⟨st, sm, hl⟩ => ⟨st, sm, hl.of_block (h.block _ G.wgCh)⟩, fun b hb cs _ _ hc => ⟨cs, (hp b hb).trans hc, rfl⟩, fun b k hb _ => cell_block (hp b hb) k⟩
theorem Frm.of_en (G : Geo φ) (h : Aside φ.En w w₁) : Frm φ own w w₁ := by
 have hp : ∀ b, φ.pb b → w₁.heap[b]? = w.heap[b]? := fun b hb => h.block b fun e => G.enpb (e ▸ hb)
 exact ⟨h.tape, h.os, h.output, Nat.le_of_eq h.size.symm, fun _ => h.size, fun b _ _ _ a _ _ => h.block b a, fun ⟨st, sm, hl⟩ => ⟨st, sm, hl.of_block (h.block _ G.wgEn)⟩, fun b hb cs _ _ hc => ⟨cs, (hp b hb).trans hc, rfl⟩, fun b k hb _ => cell_block (hp b hb) k⟩
theorem Frm.of_fd (G : Geo φ) {fd : Nat} (e : φ.Fd = some fd) (h : Aside fd w w₁) : Frm φ own w w₁ := by
 have hp : ∀ b, φ.pb b → w₁.heap[b]? = w.heap[b]? := fun b hb => h.block b fun e' => G.fdpb fd e (e' ▸ hb)
 exact ⟨h.tape, h.os, h.output, Nat.le_of_eq h.size.symm, fun _ => h.size, fun b _ _ _ _ a _ => h.block b fun e' => a (by rw [e, e']), fun ⟨st, sm, hl⟩ => ⟨st, sm, hl.of_block (h.block _ fun e' => G.wgFd (by rw [e, e']))⟩, fun b hb cs _ _ hc => ⟨cs, (hp b hb).trans hc, rfl⟩, fun b k hb _ => cell_block (hp b hb) k⟩
theorem JobO.of_job {k : Nat} {L : List Nat} (h : Job φ k w w₁) : JobO φ k L w w₁ := ⟨h.tape, h.os, h.output, Nat.le_of_eq h.size.symm, fun _ => h.size, fun b _ hb _ => h.block b hb, h.shape, h.cells⟩
theorem Frm.of_job (G : Geo φ) {k : Nat} {L : List Nat} (h : JobO φ k L w w₁) (hB : φ.B ≤ w.heap.size) (hL : ∀ b ∈ L, φ.B ≤ b) (hk : ∀ k', own k' → k' ≠ k) : Frm φ own w w₁ :=
 ⟨h.tape, h.os, h.output, h.size, h.still, fun b hlt _ _ _ _ hb => h.block b (by omega) hb fun hm => by have := hL b hm; omega,
  fun ⟨st, sm, hl⟩ => ⟨st, sm, hl.of_block (h.block _ (by have := G.wgB; omega) G.wgpb fun hm => by have := hL _ hm; have := G.wgB; omega)⟩, h.shape, fun b k' hb hk' => h.cells b k' hb (hk k' hk')⟩
theorem Job.refl (k : Nat) (w : World) : Job φ k w w := ⟨rfl, rfl, rfl, rfl, fun _ _ => rfl, fun _ _ cs _ _ h => ⟨cs, h, rfl⟩, fun _ _ _ _ => rfl⟩
theorem Job.at (k : Nat) (w : World) (d : Nat) : Job φ k w (w.at d) := ⟨rfl, rfl, rfl, rfl, fun _ _ => rfl, fun _ _ cs _ _ h => ⟨cs, h, rfl⟩, fun _ _ _ _ => rfl⟩
theorem aside_setChan (w : World) (c cap : Nat) (buf : Array Value) (cl : Bool) (s r : Nat) (tm : Bool) : Aside c w (w.setChan c cap buf cl s r tm) :=
 ⟨rfl, rfl, rfl, by simp [World.setChan], fun k hk => by simp [World.setChan, Array.getElem?_setIfInBounds_ne (Ne.symm hk)]⟩
end
def EvP (φ : Ph) (own : Nat → Prop) (g : Nat) (e : Event) : Prop :=
 (∀ x, (MemAct.ofEvent e).touch? = some x → TouchOk φ own (fun _ => False) g x) ∧ e.loc ≠ .mark .disable ∧ e.loc ≠ .mark .enable ∧ e.loc ≠ .mark (.release (stA φ.Wg)) ∧ (MemAct.ofEvent e).low φ.B
def DI (φ : Ph) (own : Nat → Prop) (g : Nat) (w w' : World) (es : Array Event) : Prop := AtRel w w' ∧ ∀ e ∈ es, EvP φ own g e
def DJ (φ : Ph) (k : Nat) (w w' : World) (es : Array Event) : Prop := Job φ k w w' ∧ ∀ e ∈ es, EvP φ (· = k) 1 e
def EvJ (φ : Ph) (k : Nat) (L : List Nat) (s s' : Nat) (e : Event) : Prop :=
 (∀ x, (MemAct.ofEvent e).touch? = some x → TouchOk φ (· = k) (fun b => b ∈ L ∨ (s ≤ b ∧ b < s')) 1 x) ∧ e.loc ≠ .mark .disable ∧ e.loc ≠ .mark .enable ∧ e.loc ≠ .mark (.release (stA φ.Wg)) ∧ ((MemAct.ofEvent e).low φ.B ∨ ∃ b, (b ∈ L ∨ (s ≤ b ∧ b < s')) ∧ (MemAct.ofEvent e).low (b + 1))
def DJO (φ : Ph) (k : Nat) (L : List Nat) (w w' : World) (es : Array Event) : Prop := JobO φ k L w w' ∧ ∀ e ∈ es, EvJ φ k L w.heap.size w'.heap.size e
def RJ (φ : Ph) (k : Nat) (L : List Nat) (w w' : World) : Prop := Frm φ (· = k) w w' ∧ ∀ b ∈ L, w'.heap[b]? = w.heap[b]?
theorem touch_more {φ : Ph} {own own' mine mine' : Nat → Prop} {g : Nat} {x : Touch} (h : TouchOk φ own mine g x) (ho : ∀ k, own k → own' k) (hm : ∀ b, mine b → mine' b) : TouchOk φ own' mine' g x :=
 h.imp_right (Or.imp_right (Or.imp (fun ⟨a, k, b, c⟩ => ⟨a, k, ho k b, c⟩) (Or.imp_right fun ⟨a, y, b, c, d⟩ => ⟨a, y, b, c, hm _ d⟩)))
theorem EvJ.of_evP {φ : Ph} {k : Nat} {L : List Nat} {s s' : Nat} {e : Event} (h : EvP φ (· = k) 1 e) : EvJ φ k L s s' e := ⟨fun x hx => touch_more (h.1 x hx) (fun _ => id) fun _ => False.elim, h.2.1, h.2.2.1, h.2.2.2.1, .inl h.2.2.2.2⟩
theorem DJO.of_dj {φ : Ph} {k : Nat} {L : List Nat} {w w' : World} {es : Array Event} (h : DJ φ k w w' es) : DJO φ k L w w' es := ⟨.of_job h.1, fun e he => .of_evP (h.2 e he)⟩
theorem termsRJ (φ : Ph) (k : Nat) : TermsO (RJ φ k) (DJO φ k) := ⟨fun _ _ _ _ h h' => ⟨h.1.trans h'.1, fun b hb => (h'.2 b hb).trans (h.2 b hb)⟩, fun _ _ _ _ hs h => ⟨h.1, fun b hb => h.2 b (hs b hb)⟩⟩
theorem di_none {φ : Ph} {own : Nat → Prop} {g : Nat} {w : World} {es : Array Event} (h : ∀ e ∈ es, False) : DI φ own g w w es := ⟨⟨w.drawn, rfl⟩, fun e he => (h e he).elim⟩
theorem dj_none {φ : Ph} {k : Nat} {w : World} {es : Array Event} (h : ∀ e ∈ es, False) : DJ φ k w w es := ⟨.refl k w, fun e he => (h e he).elim⟩
structure Jobs (φ : Ph) (n : Nat) (Pre Done : Nat → World → Prop) : Prop where
 pre : ∀ k w w', (∀ b, φ.pb b → w'.cell? ⟨b, k, none⟩ = w.cell? ⟨b, k, none⟩) → Pre k w → Pre k w'
 done : ∀ k w w', (∀ b, φ.pb b → w'.cell? ⟨b, k, none⟩ = w.cell? ⟨b, k, none⟩) → Done k w → Done k w'
def SameF (g g₂ : Goroutine) : Prop := g.frame = g₂.frame ∧ g.callers = g₂.callers ∧ g.dying = g₂.dying
theorem SameF.step {P : Program} {main : Bool} {g g₂ : Goroutine} (h : SameF g g₂) (w : World) : stepG P main g w = stepG P main g₂ w := stepG_same h.1 h.2.1 h.2.2 w
def clEv (c : Nat) : Array Event := #[⟨.obj c, false, true⟩, ⟨.obj c, true, true⟩]
def found (l : List Nat) : Array Value := (l.map fun (k : Nat) => Value.int .i64 (k : Int)).toArray
def Fin (φ : Ph) (n : Nat) (Done : Nat → World → Prop) (w : World) : Prop :=
 ∃ H, H ≤ n ∧ (H = n ∨ ∃ k, k < H ∧ φ.p k) ∧ (∀ k, k < H → Done k w) ∧
  ∀ fd, φ.Fd = some fd → ∃ (l : List Nat) (s r : Nat), w.heap[fd]? = some (.chan n (found l) false s r false) ∧ (∀ k ∈ l, k < H ∧ φ.p k) ∧ ∀ k, k < H → φ.p k → k ∈ l
section
variable (P : Program) (φ : Ph) (n : Nat) (Pre Done : Nat → World → Prop)
def D4S (g : Goroutine) (w : World) : Prop :=
 g.status = .running ∧ mayWake P g = true ∧ (WgAt φ.ty φ.Wg w 0 0 → ∃ g', stepG P false g w = .go g' (w.setCell (smA φ.Wg) (.int .u32 1)) (semEvents (smA φ.Wg)) ∧ ∃ q, QuitsD P q 1 g')
def D3S (g : Goroutine) (w : World) : Prop :=
 g.status = .running ∧ (WgAt φ.ty φ.Wg w 1 0 → ∃ g', stepG P false g w = .go g' (w.setCell (stA φ.Wg) (.int .u64 0)) #[wr (stA φ.Wg)] ∧ ∃ m, Goes P false (Frm φ own0) Go.ConcR.DC0 (D4S P φ) m g' (w.setCell (stA φ.Wg) (.int .u64 0)))
def D2S (g : Goroutine) (w : World) : Prop :=
 g.status = .running ∧ (WgAt φ.ty φ.Wg w 1 0 → ∃ g', stepG P false g w = .go g' w #[rd (stA φ.Wg)] ∧ ∃ m, Goes P false (Frm φ own0) Go.ConcR.DC0 (D3S P φ) m g' w)
def D1S (g : Goroutine) (w : World) : Prop :=
 g.status = .running ∧ ∀ v wt : Nat, wt ≤ 1 → v < 2147483647 → WgAt φ.ty φ.Wg w ((v + 1) * KK + wt) 0 →
  ∃ g', stepG P false g w = .go g' (w.setCell (stA φ.Wg) (.int .u64 (v * KK + wt))) #[rd (stA φ.Wg), wr (stA φ.Wg)] ∧
   ((v = 0 ∧ wt = 1) → ∃ m, Goes P false (Frm φ own0) Go.ConcR.DC0 (D2S P φ) m g' (w.setCell (stA φ.Wg) (.int .u64 (v * KK + wt)))) ∧ (¬ (v = 0 ∧ wt = 1) → ∃ q, QuitsD P q 1 g')
def K1S (g : Goroutine) (w : World) : Prop :=
 g.status = .running ∧ ∃ g', stepG P false g w = .go g' w #[mk .disable] ∧ ∃ m, Goes P false (Frm φ own0) Go.ConcR.DC0 (D1S P φ) m g' w
def R0S (g : Goroutine) (w : World) : Prop :=
 g.status = .running ∧ ∃ g', stepG P false g w = .go g' w #[mk (.releaseMerge (stA φ.Wg))] ∧ ∃ m, Goes P false (Frm φ own0) Go.ConcR.DC0 (K1S P φ) m g' w
variable (An : Goroutine → World → Prop)
def EnoS (g : Goroutine) (w : World) : Prop :=
 g.status = .running ∧ ∃ g₂ v z sh es, stepG P false g w = .comm g₂ #[scase φ.En v z] false sh w es ∧ (∀ e ∈ es, EvP φ own0 1 e) ∧
  ∀ w₁, Frm φ own0 w w₁ → (∃ m, Goes P false (Frm φ own0) (DI φ own0 1) An m (g₂.finishComm P #[scase φ.En v z] sh 0 undef false) w₁) ∧ (∃ m, Goes P false (Frm φ own0) (DI φ own0 1) An m (g₂.finishComm P #[scase φ.En v z] sh (-1) undef false) w₁)
def FndS (k : Nat) (g : Goroutine) (w : World) : Prop :=
 g.status = .running ∧ ∃ fd g₂ z sh es, φ.Fd = some fd ∧ stepG P false g w = .comm g₂ #[scase fd (.int .i64 k) z] true sh w es ∧ (∀ e ∈ es, EvP φ own0 1 e) ∧
  ∀ w₁, Frm φ own0 w w₁ → ∃ m, Goes P false (Frm φ own0) (DI φ own0 1) (EnoS P φ An) m (g₂.finishComm P #[scase fd (.int .i64 k) z] sh 0 undef false) w₁
def JobS (k : Nat) (g : Goroutine) (w : World) : Prop := Done k w ∧ ((¬ φ.p k ∧ An g w) ∨ (φ.p k ∧ FndS P φ An k g w))
def RecvA (g₂ : Goroutine) (z : Value) (sh : CommShape) (w : World) : Prop := ∀ w₁, Frm φ own0 w w₁ →
 (∃ es, stepG P false g₂ w₁ = .comm g₂ #[rcase φ.Ch z] true sh w₁ es ∧ ∀ e ∈ es, EvP φ own0 1 e) ∧
 (∀ k : Nat, k < n → Pre k w₁ → GoesX P (RJ φ k) (DJO φ k) (JobS P φ Done An k) [] (g₂.finishComm P #[rcase φ.Ch z] sh 0 (.int .i64 k) true) w₁) ∧
 (∃ m, Goes P false (Frm φ own0) (DI φ own0 1) (R0S P φ) m (g₂.finishComm P #[rcase φ.Ch z] sh 0 z false) w₁)
def RecvS (g : Goroutine) (w : World) : Prop := g.status = .running ∧ ∃ g₂ z sh, SameF g g₂ ∧ RecvA P φ n Pre Done An g₂ z sh w
variable (Nx : Goroutine → World → Prop) (AnW : Goroutine → World → Prop)
def AcqS (g : Goroutine) (w : World) : Prop :=
 g.status = .running ∧ ∃ g', stepG P true g w = .go g' w #[mk (.acquire (stA φ.Wg))] ∧ (Fin φ n Done w → ∃ m, Goes P true AtRel (DI φ own0 0) Nx m g' w)
def KeS (g : Goroutine) (w : World) : Prop :=
 g.status = .running ∧ ∃ g', stepG P true g w = .go g' w #[mk .enable] ∧ ∃ m, Goes P true (Frm φ own0) (DI φ own0 0) (AcqS P φ n Done Nx) m g' w
def W4S (g : Goroutine) (w : World) : Prop :=
 g.status = .running ∧ (WgAt φ.ty φ.Wg w 0 0 → ∃ g', stepG P true g w = .go g' w #[rd (stA φ.Wg)] ∧ ∃ m, Goes P true (Frm φ own0) (DI φ own0 0) (KeS P φ n Done Nx) m g' w)
def W3S (g : Goroutine) (w : World) : Prop :=
 g.status = .running ∧ g.offers = none ∧
  ((∃ st, WgAt φ.ty φ.Wg w st 0) → stepG P true g w = .go { g with status := .blocked } w #[]) ∧
  (WgAt φ.ty φ.Wg w 0 1 → ∃ g', stepG P true g w = .go g' (w.setCell (smA φ.Wg) (.int .u32 0)) (semEvents (smA φ.Wg)) ∧ ∃ m, Goes P true (Frm φ own0) (DI φ own0 0) (W4S P φ n Done Nx) m g' (w.setCell (smA φ.Wg) (.int .u32 0)))
def W2S (vs : Nat) (g : Goroutine) (w : World) : Prop :=
 g.status = .running ∧ ∀ v : Nat, v < 2147483648 → WgAt φ.ty φ.Wg w (v * KK) 0 →
  (v = vs → ∃ g', stepG P true g w = .go g' (w.setCell (stA φ.Wg) (.int .u64 (v * KK + 1))) #[rd (stA φ.Wg), wr (stA φ.Wg)] ∧ ∃ m, Goes P true (Frm φ own0) (DI φ own0 0) (W3S P φ n Done Nx) m g' (w.setCell (stA φ.Wg) (.int .u64 (v * KK + 1)))) ∧
  (v ≠ vs → ∃ g', stepG P true g w = .go g' w #[rd (stA φ.Wg)] ∧ ∃ m, Goes P true (Frm φ own0) (DI φ own0 0) AnW m g' w)
def W1S (g : Goroutine) (w : World) : Prop :=
 g.status = .running ∧ ∀ v : Nat, v < 2147483648 → WgAt φ.ty φ.Wg w (v * KK) 0 → ∃ g', stepG P true g w = .go g' w #[rd (stA φ.Wg)] ∧
  (v = 0 → ∃ m, Goes P true (Frm φ own0) (DI φ own0 0) (KeS P φ n Done Nx) m g' w) ∧ (v ≠ 0 → ∃ m, Goes P true (Frm φ own0) (DI φ own0 0) (W2S P φ n Done Nx AnW v) m g' w)
def KdS (g : Goroutine) (w : World) : Prop :=
 g.status = .running ∧ ∃ g', stepG P true g w = .go g' w #[mk .disable] ∧ ∃ m, Goes P true (Frm φ own0) (DI φ own0 0) AnW m g' w
def CloS (g : Goroutine) (w : World) : Prop :=
 g.status = .running ∧ mayWake P g = true ∧ ∀ s r tm, w.heap[φ.Ch]? = some (.chan 0 #[] false s r tm) →
  ∃ g', g'.status = .running ∧ stepG P true g w = .go g' (w.setChan φ.Ch 0 #[] true s r tm) (clEv φ.Ch) ∧ ∃ m, Goes P true (Frm φ own0) (DI φ own0 0) (KdS P φ AnW) m g' (w.setChan φ.Ch 0 #[] true s r tm)
def SelA (k : Nat) (Next : Goroutine → World → Prop) (g₂ : Goroutine) (z z' : Value) (sh : CommShape) (w : World) : Prop := ∀ w₁, Frm φ own0 w w₁ →
 (∃ es, stepG P true g₂ w₁ = .comm g₂ #[scase φ.Ch (.int .i64 k) z, rcase φ.En z'] true sh w₁ es ∧ ∀ e ∈ es, EvP φ own0 0 e) ∧
 Next (g₂.finishComm P #[scase φ.Ch (.int .i64 k) z, rcase φ.En z'] sh 0 undef false) w₁ ∧
 ∀ v, ∃ m, Goes P true (Frm φ own0) (DI φ own0 0) (CloS P φ AnW) m (g₂.finishComm P #[scase φ.Ch (.int .i64 k) z, rcase φ.En z'] sh 1 v true) w₁
def SelS (k : Nat) (Next : Goroutine → World → Prop) (g : Goroutine) (w : World) : Prop := g.status = .running ∧ ∃ g₂ z z' sh, SameF g g₂ ∧ SelA P φ AnW k Next g₂ z z' sh w
def Hand : Nat → Goroutine → World → Prop
 | 0, g, w => ∃ m, Goes P true (Frm φ own0) (DI φ own0 0) (CloS P φ AnW) m g w
 | r + 1, g, w => ∃ m, Goes P true (Frm φ own0) (DI φ own0 0) (SelS P φ AnW (n - (r + 1)) (Hand r)) m g w
def GoS (Next : Goroutine → World → Prop) (g : Goroutine) (w : World) : Prop :=
 g.status = .running ∧ ∃ g' child, stepG P true g w = .spawn g' child w #[] ∧ child.status = .running ∧ (∃ m, Goes P false (Frm φ own0) (DI φ own0 1) (RecvS P φ n Pre Done An) m child w) ∧ Next g' w
def KeP (Next : Goroutine → World → Prop) (g : Goroutine) (w : World) : Prop :=
 g.status = .running ∧ ∃ g', stepG P true g w = .go g' w #[mk .enable] ∧ ∃ m, Goes P true (Frm φ own0) (DI φ own0 0) (GoS P φ n Pre Done An Next) m g' w
def A1P (Next : Goroutine → World → Prop) (g : Goroutine) (w : World) : Prop :=
 g.status = .running ∧ ∀ v : Nat, v < 2147483647 → WgAt φ.ty φ.Wg w (v * KK) 0 →
  ∃ g', stepG P true g w = .go g' (w.setCell (stA φ.Wg) (.int .u64 ((v + 1) * KK))) #[rd (stA φ.Wg), wr (stA φ.Wg)] ∧
   ∃ m, Goes P true (Frm φ own0) (DI φ own0 0) (KeP P φ n Pre Done An Next) m g' (w.setCell (stA φ.Wg) (.int .u64 ((v + 1) * KK)))
def KdP (Next : Goroutine → World → Prop) (g : Goroutine) (w : World) : Prop :=
 g.status = .running ∧ ∃ g', stepG P true g w = .go g' w #[mk .disable] ∧ ∃ m, Goes P true (Frm φ own0) (DI φ own0 0) (A1P P φ n Pre Done An Next) m g' w
def Spawns (Fin : Goroutine → World → Prop) : Nat → Goroutine → World → Prop
 | 0, g, w => Fin g w
 | r + 1, g, w => ∃ m, Goes P true (Frm φ own0) (DI φ own0 0) (KdP P φ n Pre Done An (Spawns Fin r)) m g w
inductive WTag where
 | rcv | prk | job (k : Nat) | eno | ret | out | k1 | d1 | d2 | d3 | d4 | quit
def WTag.stage : WTag → Nat
 | .rcv | .prk | .job _ | .eno | .ret | .out => 7
 | .k1 => 6 | .d1 => 5 | .d2 => 4 | .d3 => 3 | .d4 => 2 | .quit => 1
def WTag.wt : WTag → Nat
 | .job _ => 14 | .eno => 13 | .ret => 12 | .rcv => 11 | .prk => 10 | .out => 9
 | .k1 => 6 | .d1 => 5 | .d2 => 4 | .d3 => 3 | .d4 => 2 | .quit => 1
def WTag.own : WTag → Nat → Prop
 | .job k => (· = k)
 | _ => own0
def WTag.early : WTag → Prop
 | .rcv | .prk | .job _ | .eno | .ret => True
 | _ => False
inductive WSit (ow : Nat → Prop) (tr : Tree) : WTag → Nat → Nat → Goroutine → World → Prop
 | rcv {m : Nat} {g : Goroutine} {w : World} : Goes P false (Frm φ own0) (DI φ own0 1) (RecvS P φ n Pre Done An) m g w → WSit ow tr .rcv m 0 g w
 | prk {g₂ : Goroutine} {z : Value} {sh : CommShape} {w : World} : RecvA P φ n Pre Done An g₂ z sh w → WSit ow tr .prk 0 0 (parked g₂ #[rcase φ.Ch z] sh) w
 | job {k m : Nat} {L : List Nat} {g : Goroutine} {w : World} : (∀ b ∈ L, ow b) → GoesT P (RJ φ k) (DJO φ k) (JobS P φ Done An k) tr L g w → WSit ow tr (.job k) m 0 g w
 | eno {m : Nat} {g : Goroutine} {w : World} : Goes P false (Frm φ own0) (DI φ own0 1) (EnoS P φ An) m g w → WSit ow tr .eno m 0 g w
 | ret {m : Nat} {g : Goroutine} {w : World} : Goes P false (Frm φ own0) (DI φ own0 1) An m g w → WSit ow tr .ret m 0 g w
 | out {m : Nat} {g : Goroutine} {w : World} : Goes P false (Frm φ own0) (DI φ own0 1) (R0S P φ) m g w → WSit ow tr .out m 0 g w
 | k1 {m : Nat} {g : Goroutine} {w : World} : Goes P false (Frm φ own0) Go.ConcR.DC0 (K1S P φ) m g w → WSit ow tr .k1 m 0 g w
 | d1 {m : Nat} {g : Goroutine} {w : World} : Goes P false (Frm φ own0) Go.ConcR.DC0 (D1S P φ) m g w → WSit ow tr .d1 m 1 g w
 | d2 {m : Nat} {g : Goroutine} {w : World} : Goes P false (Frm φ own0) Go.ConcR.DC0 (D2S P φ) m g w → WSit ow tr .d2 m 1 g w
 | d3 {m : Nat} {g : Goroutine} {w : World} : Goes P false (Frm φ own0) Go.ConcR.DC0 (D3S P φ) m g w → WSit ow tr .d3 m 1 g w
 | d4 {m : Nat} {g : Goroutine} {w : World} : Goes P false (Frm φ own0) Go.ConcR.DC0 (D4S P φ) m g w → WSit ow tr .d4 m 1 g w
 | quit {q d : Nat} {g : Goroutine} {w : World} : QuitsD P q d g → WSit ow tr .quit q d g w
inductive MTag where
 | c (t : CTag) | hand (r : Nat) | hpk (r : Nat) | cls
def MTag.ct : MTag → CTag
 | .c t => t
 | _ => .kd
variable (N : Nat)
inductive MSit : MTag → Nat → Nat → Nat → Goroutine → World → Prop
 | skd {r m : Nat} {g : Goroutine} {w : World} : r < N → Goes P true (Frm φ own0) (DI φ own0 0) (KdP P φ n Pre Done An (Spawns P φ n Pre Done An (Hand P φ n AnW n) r)) m g w → MSit (.c (.sp r 5)) (N - (r + 1)) m 0 g w
 | sa1 {r m : Nat} {g : Goroutine} {w : World} : r < N → Goes P true (Frm φ own0) (DI φ own0 0) (A1P P φ n Pre Done An (Spawns P φ n Pre Done An (Hand P φ n AnW n) r)) m g w → MSit (.c (.sp r 4)) (N - (r + 1)) m 1 g w
 | ske {r m : Nat} {g : Goroutine} {w : World} : r < N → Goes P true (Frm φ own0) (DI φ own0 0) (KeP P φ n Pre Done An (Spawns P φ n Pre Done An (Hand P φ n AnW n) r)) m g w → MSit (.c (.sp r 3)) (N - (r + 1)) m 1 g w
 | sgo {r m : Nat} {g : Goroutine} {w : World} : r < N → Goes P true (Frm φ own0) (DI φ own0 0) (GoS P φ n Pre Done An (Spawns P φ n Pre Done An (Hand P φ n AnW n) r)) m g w → MSit (.c (.sp r 2)) (N - (r + 1)) m 0 g w
 | hand {r m : Nat} {g : Goroutine} {w : World} : r < n → Goes P true (Frm φ own0) (DI φ own0 0) (SelS P φ AnW (n - (r + 1)) (Hand P φ n AnW r)) m g w → MSit (.hand (r + 1)) N m 0 g w
 | hpk {r : Nat} {g₂ : Goroutine} {z z' : Value} {sh : CommShape} {w : World} : r < n → SelA P φ AnW (n - (r + 1)) (Hand P φ n AnW r) g₂ z z' sh w →
   MSit (.hpk (r + 1)) N 0 0 (parked g₂ #[scase φ.Ch (.int .i64 ((n - (r + 1) : Nat) : Int)) z, rcase φ.En z'] sh) w
 | cls {m : Nat} {g : Goroutine} {w : World} : Goes P true (Frm φ own0) (DI φ own0 0) (CloS P φ AnW) m g w → MSit .cls N m 0 g w
 | kd {m : Nat} {g : Goroutine} {w : World} : Goes P true (Frm φ own0) (DI φ own0 0) (KdS P φ AnW) m g w → MSit (.c .kd) N m 0 g w
 | anch {m : Nat} {g : Goroutine} {w : World} : Goes P true (Frm φ own0) (DI φ own0 0) AnW m g w → MSit (.c .anch) N m 1 g w
 | w1 {m : Nat} {g : Goroutine} {w : World} : Goes P true (Frm φ own0) (DI φ own0 0) (W1S P φ n Done Nx AnW) m g w → MSit (.c .w1) N m 1 g w
 | w2 {vs m : Nat} {g : Goroutine} {w : World} : Goes P true (Frm φ own0) (DI φ own0 0) (W2S P φ n Done Nx AnW vs) m g w → MSit (.c (.w2 vs)) N m 1 g w
 | w3 {m : Nat} {g : Goroutine} {w : World} : Goes P true (Frm φ own0) (DI φ own0 0) (W3S P φ n Done Nx) m g w → MSit (.c .w3) N (m + 1) 1 g w
 | blk {g : Goroutine} {w : World} : (∀ w₁, Frm φ own0 w w₁ → W3S P φ n Done Nx g w₁) → MSit (.c .blk) N 0 1 { g with status := .blocked } w
 | w4 {m : Nat} {g : Goroutine} {w : World} : Goes P true (Frm φ own0) (DI φ own0 0) (W4S P φ n Done Nx) m g w → MSit (.c .w4) N m 1 g w
 | ke {m : Nat} {g : Goroutine} {w : World} : Goes P true (Frm φ own0) (DI φ own0 0) (KeS P φ n Done Nx) m g w → MSit (.c .ke) N m 1 g w
 | acq {m : Nat} {g : Goroutine} {w : World} : Goes P true (Frm φ own0) (DI φ own0 0) (AcqS P φ n Done Nx) m g w → MSit (.c .acq) N m 0 g w
end
section
variable {P : Program} {φ : Ph} {n N : Nat} {Pre Done : Nat → World → Prop} {An Nx AnW : Goroutine → World → Prop} {w w₁ : World} {g : Goroutine}
theorem RecvA.rely {g₂ : Goroutine} {z : Value} {sh : CommShape} (h : RecvA P φ n Pre Done An g₂ z sh w) (hr : Frm φ own0 w w₁) : RecvA P φ n Pre Done An g₂ z sh w₁ := fun w₂ h₂ => h w₂ (hr.trans h₂)
theorem SelA.rely {k : Nat} {Next : Goroutine → World → Prop} {g₂ : Goroutine} {z z' : Value} {sh : CommShape} (h : SelA P φ AnW k Next g₂ z z' sh w) (hr : Frm φ own0 w w₁) : SelA P φ AnW k Next g₂ z z' sh w₁ := fun w₂ h₂ => h w₂ (hr.trans h₂)
theorem WSit.rely {ow : Nat → Prop} {tr : Tree} {s : WTag} {m d : Nat} (h : WSit P φ n Pre Done An ow tr s m d g w) (hr : Frm φ s.own w w₁) (ho : ∀ b, ow b → w₁.heap[b]? = w.heap[b]?) : WSit P φ n Pre Done An ow tr s m d g w₁ := by
 cases h with
 | rcv h => exact .rcv (Goes.rely Frm.trans' h hr)
 | prk h => exact .prk (h.rely hr)
 | job hL h => exact .job hL (GoesT.rely (termsRJ _ _) h ⟨hr, fun b hb => ho b (hL b hb)⟩)
 | eno h => exact .eno (Goes.rely Frm.trans' h hr)
 | ret h => exact .ret (Goes.rely Frm.trans' h hr)
 | out h => exact .out (Goes.rely Frm.trans' h hr)
 | k1 h => exact .k1 (Goes.rely Frm.trans' h hr)
 | d1 h => exact .d1 (Goes.rely Frm.trans' h hr)
 | d2 h => exact .d2 (Goes.rely Frm.trans' h hr)
 | d3 h => exact .d3 (Goes.rely Frm.trans' h hr)
 | d4 h => exact .d4 (Goes.rely Frm.trans' h hr)
 | quit h => exact .quit h
theorem MSit.rely {t : MTag} {j m d : Nat} (h : MSit P φ n Pre Done An Nx AnW N t j m d g w) (hr : Frm φ own0 w w₁) : MSit P φ n Pre Done An Nx AnW N t j m d g w₁ := by
 cases h with
 | skd hn h => exact .skd hn (Goes.rely Frm.trans' h hr)
 | sa1 hn h => exact .sa1 hn (Goes.rely Frm.trans' h hr)
 | ske hn h => exact .ske hn (Goes.rely Frm.trans' h hr)
 | sgo hn h => exact .sgo hn (Goes.rely Frm.trans' h hr)
 | hand hn h => exact .hand hn (Goes.rely Frm.trans' h hr)
 | hpk hn h => exact .hpk hn (h.rely hr)
 | cls h => exact .cls (Goes.rely Frm.trans' h hr)
 | kd h => exact .kd (Goes.rely Frm.trans' h hr)
 | anch h => exact .anch (Goes.rely Frm.trans' h hr)
 | w1 h => exact .w1 (Goes.rely Frm.trans' h hr)
 | w2 h => exact .w2 (Goes.rely Frm.trans' h hr)
 | w3 h => exact .w3 (Goes.rely Frm.trans' h hr)
 | blk h => exact .blk fun w₂ h₂ => h w₂ (hr.trans h₂)
 | w4 h => exact .w4 (Goes.rely Frm.trans' h hr)
 | ke h => exact .ke (Goes.rely Frm.trans' h hr)
 | acq h => exact .acq (Goes.rely Frm.trans' h hr)
end
end Go.Pool
end
section
set_option linter.unusedSimpArgs false
namespace Go.Pool
open Go.Conc
variable {P : Program} {main : Bool} {b : Frame} {a : Act} {k : List Item} {cs : List Frame} {w : World}
theorem run_callv {o : Oper} {x : Operand} {f : FuncId} {fn : Func} {args : Array Operand} {ats : Array TypeId} {first cap : Array Value} (hop : o.op = .call { callee := .value x, args, argTypes := ats }) (hx : a.eval x = .func (.func f) first cap)
  (hf : P.funcs[f]? = some fn) (hname : (fn.name == "runtime.NumGoroutine") = false) (hb : fn.body.isNone = false) : (execOp a.eval o).run P w = .ok (.enter f (first ++ args.map a.eval ++ cap)) w := by
 have h1 : ¬ fn.name = "runtime.NumGoroutine" := by simpa using hname
 have h2 : ¬ fn.body = none := by cases hx : fn.body <;> simp_all
 unfold execOp
 simp [hop, resolve, Deferred.ofValue, hx, invoke, callFunc, hf, h1, h2]
theorem events_callv {o : Oper} {x : Operand} {f : FuncId} {fn : Func} {args : Array Operand} {ats : Array TypeId} {first cap : Array Value} (hop : o.op = .call { callee := .value x, args, argTypes := ats }) (hx : a.eval x = .func (.func f) first cap)
  (hf : P.funcs[f]? = some fn) (hname : (fn.name == "runtime.NumGoroutine") = false) (hb : fn.body.isNone = false) (es : Array Event) : (execOp a.eval o).events P w es = es := by
 have h1 : ¬ fn.name = "runtime.NumGoroutine" := by simpa using hname
 have h2 : ¬ fn.body = none := by cases hx : fn.body <;> simp_all
 unfold execOp
 simp [hop, resolve, Deferred.ofValue, hx, invoke, callFunc, hf, h1, h2]
theorem goes_callv {ops : Array Oper} {i : Nat} {rest : List Nat} {o : Oper} {K : Goroutine → World → Array Event → Prop} {x : Operand} {f : FuncId} {fn : Func} {c : Code} {args : Array Operand} {ats : Array TypeId} {first cap : Array Value}
  (ho : ops[i]? = some o) (hw : Region.wanted o (yielded ops a.tmps) = true) (hk : b.kind ≠ .early) (hop : o.op = .call { callee := .value x, args, argTypes := ats }) (hx : a.eval x = .func (.func f) first cap)
  (hf : P.funcs[f]? = some fn) (hname : (fn.name == "runtime.NumGoroutine") = false) (hb : fn.body = some c)
  (h : K (Go.Conc.G ((base f).at { tmps := (first ++ args.map a.eval ++ cap) ++ Array.replicate (fn.ntmps - (first ++ args.map a.eval ++ cap).size) undef, defers := [] } [.code c]) (b.at a (.inRegion ops (i :: rest) :: k) :: cs)) w #[]) :
  (stepG P main (Go.Conc.G (b.at a (.inRegion ops (i :: rest) :: k)) cs) w).goes K := by
 have hb' : fn.body.isNone = false := by rw [hb]; rfl
 rw [stepG_enter ho hw hk (run_callv hop hx hf hname hb'), enter_at _ hf hb]
 have : listed P b.fn a o w = #[] := by unfold listed; rw [events_callv hop hx hf hname hb']; exact seen_none P _
 rw [this]
 exact h
def dclose (ats : Array TypeId) (ty : TypeId) (cst : Array Bool) (v : Value) : Deferred := { target := .builtin .close ats ty cst, args := #[v] }
theorem stepG_defer_close {ops : Array Oper} {i : Nat} {rest : List Nat} {o : Oper} {x : Operand} {ats : Array TypeId} (ho : ops[i]? = some o) (hw : Region.wanted o (yielded ops a.tmps) = true) (hk : b.kind ≠ .early)
  (hop : o.op = .defer { callee := .builtin .close, args := #[x], argTypes := ats }) :
  ∃ cst, stepG P main (Go.Conc.G (b.at a (.inRegion ops (i :: rest) :: k)) cs) w = .go (Go.Conc.G (b.at (Act.put ⟨a.tmps, dclose ats o.type cst (a.eval x) :: a.defers⟩ o.dst undef) (.inRegion ops rest :: k)) cs) w #[] := by
 have hr : ∃ cst, (execOp a.eval o).run P w = .ok (.defer (dclose ats o.type cst (a.eval x))) w := by
  unfold execOp
  simp [hop, resolve, dclose]
 obtain ⟨cst, hr⟩ := hr
 refine ⟨cst, ?_⟩
 have he : (execOp a.eval o).events P w #[] = #[] := by
  unfold execOp
  simp [hop, resolve]
 have hfin : (b.at ⟨a.tmps, dclose ats o.type cst (a.eval x) :: a.defers⟩ (.inRegion ops (i :: rest) :: k)).finish undef = b.at (Act.put ⟨a.tmps, dclose ats o.type cst (a.eval x) :: a.defers⟩ o.dst undef) (.inRegion ops rest :: k) := by rw [Frame.finish_at, ho]; rfl
 have hk' : (b.kind == CallKind.early) = false := by simpa using hk
 rw [stepG_oper ho hw, ← hfin]
 simp [stepG.apply, hr, he, Go.Conc.G, Frame.at, hk', GStep.after, seen_none]
theorem stepG_unwind_close {todo : List Item} {ds : List Deferred} {ats : Array TypeId} {ty : TypeId} {cst : Array Bool} {c cap s r : Nat} {buf : Array Value} {tm : Bool} (hd : a.defers = dclose ats ty cst (.chan (some c)) :: ds)
  (hc : w.heap[c]? = some (.chan cap buf false s r tm)) (hq : (P.funcs[b.fn]?).any (·.norace) = false) :
  stepG P main (Go.Conc.G { b.at a todo with mode := .returning } cs) w = .go (Go.Conc.G { b.at ⟨a.tmps, ds⟩ todo with mode := .returning } cs) (w.setChan c cap buf true s r tm) (clEv c) := by
 have hr : (invoke (.builtin .close ats ty cst) #[.chan (some c)]).run P w = .ok (.value (.tuple #[])) (w.setChan c cap buf true s r tm) := by
  unfold invoke
  simp [go_sem, run_close_open _ _ hc, World.setChan]
 have he : (invoke (.builtin .close ats ty cst) #[.chan (some c)]).events P w #[] = clEv c := by
  unfold invoke
  simp [go_sem, events_close_open _ _ hc, clEv]
 have hs : seen P b.fn (clEv c) = clEv c := seen_eq hq (by intro e he f; simp only [clEv, List.mem_toArray, List.mem_cons, List.not_mem_nil, or_false] at he; rcases he with rfl | rfl <;> simp)
 simp [Go.Conc.G, stepG, unwind, callDeferred, Frame.at, hd, dclose, hr, he, hs, GStep.after]
theorem mayWake_returning {g : Goroutine} (h : g.frame.mode = .returning) : mayWake P g = true := by
 unfold mayWake
 rw [h]
end Go.Pool
end
