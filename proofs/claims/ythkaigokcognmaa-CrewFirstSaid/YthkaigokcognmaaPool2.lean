/-
  POOL 2: what each goroutine of the phase suffers, what it does, where it stands.
-/
import Derived.Test.YthkaigokcognmaaPool1
namespace Go.Pool
open Go.Conc Go.ConcN
open Go.ConcR (stA smA rd wr mk KK WgAt wgBlock)

abbrev own0 : Nat → Prop := fun _ => False

/-- What one suffers, own cells apart. -/
structure Frm (φ : Ph) (own : Nat → Prop) (w w₁ : World) : Prop where
  tape : w₁.tape = w.tape
  os : w₁.os = w.os
  output : w₁.output = w.output
  size : w₁.heap.size = w.heap.size
  block : ∀ b, b ≠ φ.Wg → b ≠ φ.Ch → b ≠ φ.En → φ.Fd ≠ some b → ¬ φ.pb b → w₁.heap[b]? = w.heap[b]?
  live : WgLive φ.ty φ.Wg w → WgLive φ.ty φ.Wg w₁
  shape : ∀ b, φ.pb b → ∀ cs ty fz, w.heap[b]? = some (.cells cs ty fz) → ∃ cs', w₁.heap[b]? = some (.cells cs' ty fz) ∧ cs'.size = cs.size
  own : ∀ b k, φ.pb b → own k → w₁.cell? ⟨b, k, none⟩ = w.cell? ⟨b, k, none⟩

/-- What the holder of job k does. -/
structure Job (φ : Ph) (k : Nat) (w w₁ : World) : Prop where
  tape : w₁.tape = w.tape
  os : w₁.os = w.os
  output : w₁.output = w.output
  size : w₁.heap.size = w.heap.size
  block : ∀ b, ¬ φ.pb b → w₁.heap[b]? = w.heap[b]?
  shape : ∀ b, φ.pb b → ∀ cs ty fz, w.heap[b]? = some (.cells cs ty fz) → ∃ cs', w₁.heap[b]? = some (.cells cs' ty fz) ∧ cs'.size = cs.size
  cells : ∀ b k', φ.pb b → k' ≠ k → w₁.cell? ⟨b, k', none⟩ = w.cell? ⟨b, k', none⟩

/-- Where the blocks lie apart. -/
structure Geo (φ : Ph) : Prop where
  wgCh : φ.Wg ≠ φ.Ch
  wgEn : φ.Wg ≠ φ.En
  chEn : φ.Ch ≠ φ.En
  wgpb : ¬ φ.pb φ.Wg
  chpb : ¬ φ.pb φ.Ch
  enpb : ¬ φ.pb φ.En
  wgB : φ.Wg < φ.B
  chB : φ.Ch < φ.B
  enB : φ.En < φ.B
  wgFd : φ.Fd ≠ some φ.Wg
  chFd : φ.Fd ≠ some φ.Ch
  enFd : φ.Fd ≠ some φ.En
  fdpb : ∀ b, φ.Fd = some b → ¬ φ.pb b
  fdB : ∀ b, φ.Fd = some b → b < φ.B
  wgShun : ∀ l, ShN φ.Wg l → ¬ φ.Shun l
  pbShun : ∀ a : Addr, φ.pb a.block → ¬ φ.Shun (.cell a)
  objShun : ∀ r, ¬ φ.Shun (.obj r)

theorem Geo.apt {φ : Ph} (G : Geo φ) : Apt φ := ⟨G.wgpb, G.wgShun, G.pbShun, G.objShun⟩

section
variable {φ : Ph} {own own' : Nat → Prop} {w w₁ w₂ : World}

theorem Frm.refl (w : World) : Frm φ own w w := ⟨rfl, rfl, rfl, rfl, fun _ _ _ _ _ _ => rfl, id, fun _ _ cs _ _ h => ⟨cs, h, rfl⟩, fun _ _ _ _ => rfl⟩
theorem Frm.trans (h : Frm φ own w w₁) (h' : Frm φ own w₁ w₂) : Frm φ own w w₂ :=
  ⟨h'.tape.trans h.tape, h'.os.trans h.os, h'.output.trans h.output, h'.size.trans h.size, fun b a c d e f => (h'.block b a c d e f).trans (h.block b a c d e f), h'.live ∘ h.live,
    fun b hb cs ty fz hc => let ⟨c1, e1, s1⟩ := h.shape b hb cs ty fz hc; let ⟨c2, e2, s2⟩ := h'.shape b hb c1 ty fz e1; ⟨c2, e2, s2.trans s1⟩, fun b k hb hk => (h'.own b k hb hk).trans (h.own b k hb hk)⟩
theorem Frm.trans' : ∀ a b c, Frm φ own a b → Frm φ own b c → Frm φ own a c := fun _ _ _ h h' => h.trans h'
theorem Frm.at (w : World) (d : Nat) : Frm φ own w (w.at d) := ⟨rfl, rfl, rfl, rfl, fun _ _ _ _ _ _ => rfl, id, fun _ _ cs _ _ h => ⟨cs, h, rfl⟩, fun _ _ _ _ => rfl⟩
theorem Frm.of_at (h : AtRel w w₁) : Frm φ own w w₁ := let ⟨d, e⟩ := h; e ▸ Frm.at w d
theorem Frm.less (h : Frm φ own w w₁) (hs : ∀ k, own' k → own k) : Frm φ own' w w₁ := ⟨h.tape, h.os, h.output, h.size, h.block, h.live, h.shape, fun b k hb hk => h.own b k hb (hs k hk)⟩
theorem Frm.zero (h : Frm φ own w w₁) : Frm φ own0 w w₁ := h.less fun _ => False.elim

theorem cell_block {b : Nat} (e : w₁.heap[b]? = w.heap[b]?) (o : Nat) : w₁.cell? ⟨b, o, none⟩ = w.cell? ⟨b, o, none⟩ := by simp [World.cell?, e]

/-- A turn of the group's block. -/
theorem Frm.of_wg (G : Geo φ) (h : Aside φ.Wg w w₁) (hl : WgLive φ.ty φ.Wg w₁) : Frm φ own w w₁ := by
  have hp : ∀ b, φ.pb b → w₁.heap[b]? = w.heap[b]? := fun b hb => h.block b fun e => G.wgpb (e ▸ hb)
  exact ⟨h.tape, h.os, h.output, h.size, fun b a _ _ _ _ => h.block b a, fun _ => hl, fun b hb cs _ _ hc => ⟨cs, (hp b hb).trans hc, rfl⟩, fun b k hb _ => cell_block (hp b hb) k⟩

/-- A turn of the jobs channel's block. -/
theorem Frm.of_ch (G : Geo φ) (h : Aside φ.Ch w w₁) : Frm φ own w w₁ := by
  have hp : ∀ b, φ.pb b → w₁.heap[b]? = w.heap[b]? := fun b hb => h.block b fun e => G.chpb (e ▸ hb)
  exact ⟨h.tape, h.os, h.output, h.size, fun b _ a _ _ _ => h.block b a, fun ⟨st, sm, hl⟩ => ⟨st, sm, hl.of_block (h.block _ G.wgCh)⟩, fun b hb cs _ _ hc => ⟨cs, (hp b hb).trans hc, rfl⟩, fun b k hb _ => cell_block (hp b hb) k⟩

/-- A turn of the other channels' blocks. -/
theorem Frm.of_en (G : Geo φ) (h : Aside φ.En w w₁) : Frm φ own w w₁ := by
  have hp : ∀ b, φ.pb b → w₁.heap[b]? = w.heap[b]? := fun b hb => h.block b fun e => G.enpb (e ▸ hb)
  exact ⟨h.tape, h.os, h.output, h.size, fun b _ _ a _ _ => h.block b a, fun ⟨st, sm, hl⟩ => ⟨st, sm, hl.of_block (h.block _ G.wgEn)⟩, fun b hb cs _ _ hc => ⟨cs, (hp b hb).trans hc, rfl⟩, fun b k hb _ => cell_block (hp b hb) k⟩
theorem Frm.of_fd (G : Geo φ) {fd : Nat} (e : φ.Fd = some fd) (h : Aside fd w w₁) : Frm φ own w w₁ := by
  have hp : ∀ b, φ.pb b → w₁.heap[b]? = w.heap[b]? := fun b hb => h.block b fun e' => G.fdpb fd e (e' ▸ hb)
  exact ⟨h.tape, h.os, h.output, h.size, fun b _ _ _ a _ => h.block b fun e' => a (by rw [e, e']), fun ⟨st, sm, hl⟩ => ⟨st, sm, hl.of_block (h.block _ fun e' => G.wgFd (by rw [e, e']))⟩, fun b hb cs _ _ hc => ⟨cs, (hp b hb).trans hc, rfl⟩, fun b k hb _ => cell_block (hp b hb) k⟩

/-- Another's work on its own job. -/
theorem Frm.of_job (G : Geo φ) {k : Nat} (h : Job φ k w w₁) (hk : ∀ k', own k' → k' ≠ k) : Frm φ own w w₁ :=
  ⟨h.tape, h.os, h.output, h.size, fun b _ _ _ _ hb => h.block b hb, fun ⟨st, sm, hl⟩ => ⟨st, sm, hl.of_block (h.block _ G.wgpb)⟩, h.shape, fun b k' hb hk' => h.cells b k' hb (hk k' hk')⟩

theorem Job.refl (k : Nat) (w : World) : Job φ k w w := ⟨rfl, rfl, rfl, rfl, fun _ _ => rfl, fun _ _ cs _ _ h => ⟨cs, h, rfl⟩, fun _ _ _ _ => rfl⟩
theorem Job.at (k : Nat) (w : World) (d : Nat) : Job φ k w (w.at d) := ⟨rfl, rfl, rfl, rfl, fun _ _ => rfl, fun _ _ cs _ _ h => ⟨cs, h, rfl⟩, fun _ _ _ _ => rfl⟩

theorem aside_setChan (w : World) (c cap : Nat) (buf : Array Value) (cl : Bool) (s r : Nat) (tm : Bool) : Aside c w (w.setChan c cap buf cl s r tm) :=
  ⟨rfl, rfl, rfl, by simp [World.setChan], fun k hk => by simp [World.setChan, Array.getElem?_setIfInBounds_ne (Ne.symm hk)]⟩
end

/-! ### what is listed -/
def EvP (φ : Ph) (own : Nat → Prop) (g : Nat) (e : Event) : Prop :=
  (∀ x, (MemAct.ofEvent e).touch? = some x → TouchOk φ own g x) ∧ e.loc ≠ .mark .disable ∧ e.loc ≠ .mark .enable ∧ e.loc ≠ .mark (.release (stA φ.Wg)) ∧ (MemAct.ofEvent e).low φ.B
/-- An idle step: the count of draws alone. -/
def DI (φ : Ph) (own : Nat → Prop) (g : Nat) (w w' : World) (es : Array Event) : Prop := AtRel w w' ∧ ∀ e ∈ es, EvP φ own g e
def DJ (φ : Ph) (k : Nat) (w w' : World) (es : Array Event) : Prop := Job φ k w w' ∧ ∀ e ∈ es, EvP φ (· = k) 1 e

theorem di_none {φ : Ph} {own : Nat → Prop} {g : Nat} {w : World} {es : Array Event} (h : ∀ e ∈ es, False) : DI φ own g w w es := ⟨⟨w.drawn, rfl⟩, fun e he => (h e he).elim⟩
theorem dj_none {φ : Ph} {k : Nat} {w : World} {es : Array Event} (h : ∀ e ∈ es, False) : DJ φ k w w es := ⟨.refl k w, fun e he => (h e he).elim⟩

/-! ### the jobs -/
structure Jobs (φ : Ph) (n : Nat) (Pre Done : Nat → World → Prop) : Prop where
  pre : ∀ k w w', (∀ b, φ.pb b → w'.cell? ⟨b, k, none⟩ = w.cell? ⟨b, k, none⟩) → Pre k w → Pre k w'
  done : ∀ k w w', (∀ b, φ.pb b → w'.cell? ⟨b, k, none⟩ = w.cell? ⟨b, k, none⟩) → Done k w → Done k w'

def SameF (g g₂ : Goroutine) : Prop := g.frame = g₂.frame ∧ g.callers = g₂.callers ∧ g.dying = g₂.dying
theorem SameF.step {P : Program} {main : Bool} {g g₂ : Goroutine} (h : SameF g g₂) (w : World) : stepG P main g w = stepG P main g₂ w := stepG_same h.1 h.2.1 h.2.2 w

def clEv (c : Nat) : Array Event := #[⟨.obj c, false, true⟩, ⟨.obj c, true, true⟩]

/-- What the found channel holds. -/
def found (l : List Nat) : Array Value := (l.map fun (k : Nat) => Value.int .i64 (k : Int)).toArray
/-- What the phase leaves: the first H jobs were handed out and are done; all of them, or something is so of one; what was found. -/
def Fin (φ : Ph) (n : Nat) (Done : Nat → World → Prop) (w : World) : Prop :=
  ∃ H, H ≤ n ∧ (H = n ∨ ∃ k, k < H ∧ φ.p k) ∧ (∀ k, k < H → Done k w) ∧
    ∀ fd, φ.Fd = some fd → ∃ (l : List Nat) (s r : Nat), w.heap[fd]? = some (.chan n (found l) false s r false) ∧ (∀ k ∈ l, k < H ∧ φ.p k) ∧ ∀ k, k < H → φ.p k → k ∈ l

section
variable (P : Program) (φ : Ph) (n : Nat) (Pre Done : Nat → World → Prop)

/-! ### a worker, from its end backwards -/
def D4S (g : Goroutine) (w : World) : Prop :=
  g.status = .running ∧ mayWake P g = true ∧ (WgAt φ.ty φ.Wg w 0 0 → ∃ g', stepG P false g w = .go g' (w.setCell (smA φ.Wg) (.int .u32 1)) (semEvents (smA φ.Wg)) ∧ ∃ q, QuitsD P q 1 g')
def D3S (g : Goroutine) (w : World) : Prop :=
  g.status = .running ∧ (WgAt φ.ty φ.Wg w 1 0 → ∃ g', stepG P false g w = .go g' (w.setCell (stA φ.Wg) (.int .u64 0)) #[wr (stA φ.Wg)] ∧ ∃ m, Goes P false (Frm φ own0) Go.ConcR.DC0 (D4S P φ) m g' (w.setCell (stA φ.Wg) (.int .u64 0)))
def D2S (g : Goroutine) (w : World) : Prop :=
  g.status = .running ∧ (WgAt φ.ty φ.Wg w 1 0 → ∃ g', stepG P false g w = .go g' w #[rd (stA φ.Wg)] ∧ ∃ m, Goes P false (Frm φ own0) Go.ConcR.DC0 (D3S P φ) m g' w)
def D1S (g : Goroutine) (w : World) : Prop :=
  g.status = .running ∧ ∀ v wt : Nat, wt ≤ 1 → v < 2147483647 → WgAt φ.ty φ.Wg w ((v + 1) * KK + wt) 0 →
    ∃ g', stepG P false g w = .go g' (w.setCell (stA φ.Wg) (.int .u64 (v * KK + wt))) #[rd (stA φ.Wg), wr (stA φ.Wg)] ∧
      ((v = 0 ∧ wt = 1) → ∃ m, Goes P false (Frm φ own0) Go.ConcR.DC0 (D2S P φ) m g' (w.setCell (stA φ.Wg) (.int .u64 (v * KK + wt)))) ∧ (¬ (v = 0 ∧ wt = 1) → ∃ q, QuitsD P q 1 g')
def K1S (g : Goroutine) (w : World) : Prop :=
  g.status = .running ∧ ∃ g', stepG P false g w = .go g' w #[mk .disable] ∧ ∃ m, Goes P false (Frm φ own0) Go.ConcR.DC0 (D1S P φ) m g' w
def R0S (g : Goroutine) (w : World) : Prop :=
  g.status = .running ∧ ∃ g', stepG P false g w = .go g' w #[mk (.releaseMerge (stA φ.Wg))] ∧ ∃ m, Goes P false (Frm φ own0) Go.ConcR.DC0 (K1S P φ) m g' w

variable (An : Goroutine → World → Prop)
/-- At the word 'enough', behind a job of which something is so. -/
def EnoS (g : Goroutine) (w : World) : Prop :=
  g.status = .running ∧ ∃ g₂ v z sh es, stepG P false g w = .comm g₂ #[scase φ.En v z] false sh w es ∧ (∀ e ∈ es, EvP φ own0 1 e) ∧
    ∀ w₁, Frm φ own0 w w₁ → (∃ m, Goes P false (Frm φ own0) (DI φ own0 1) An m (g₂.finishComm P #[scase φ.En v z] sh 0 undef false) w₁) ∧ (∃ m, Goes P false (Frm φ own0) (DI φ own0 1) An m (g₂.finishComm P #[scase φ.En v z] sh (-1) undef false) w₁)
/-- Where it says which job that is. -/
def FndS (k : Nat) (g : Goroutine) (w : World) : Prop :=
  g.status = .running ∧ ∃ fd g₂ z sh es, φ.Fd = some fd ∧ stepG P false g w = .comm g₂ #[scase fd (.int .i64 k) z] true sh w es ∧ (∀ e ∈ es, EvP φ own0 1 e) ∧
    ∀ w₁, Frm φ own0 w w₁ → ∃ m, Goes P false (Frm φ own0) (DI φ own0 1) (EnoS P φ An) m (g₂.finishComm P #[scase fd (.int .i64 k) z] sh 0 undef false) w₁
/-- The end of job k. -/
def JobS (k : Nat) (g : Goroutine) (w : World) : Prop := Done k w ∧ ((¬ φ.p k ∧ An g w) ∨ (φ.p k ∧ FndS P φ An k g w))
/-- At the receive of a job, whatever the others do meanwhile. -/
def RecvA (g₂ : Goroutine) (z : Value) (sh : CommShape) (w : World) : Prop := ∀ w₁, Frm φ own0 w w₁ →
  (∃ es, stepG P false g₂ w₁ = .comm g₂ #[rcase φ.Ch z] true sh w₁ es ∧ ∀ e ∈ es, EvP φ own0 1 e) ∧
  (∀ k : Nat, k < n → Pre k w₁ → ∃ m, Goes P false (Frm φ (· = k)) (DJ φ k) (JobS P φ Done An k) m (g₂.finishComm P #[rcase φ.Ch z] sh 0 (.int .i64 k) true) w₁) ∧
  (∃ m, Goes P false (Frm φ own0) (DI φ own0 1) (R0S P φ) m (g₂.finishComm P #[rcase φ.Ch z] sh 0 z false) w₁)
def RecvS (g : Goroutine) (w : World) : Prop := g.status = .running ∧ ∃ g₂ z sh, SameF g g₂ ∧ RecvA P φ n Pre Done An g₂ z sh w

/-! ### main, from the phase's end backwards -/
variable (Nx : Goroutine → World → Prop) (AnW : Goroutine → World → Prop)
def AcqS (g : Goroutine) (w : World) : Prop :=
  g.status = .running ∧ ∃ g', stepG P true g w = .go g' w #[mk (.acquire (stA φ.Wg))] ∧ (Fin φ n Done w → ∃ m, Goes P true AtRel (DI φ own0 0) Nx m g' w)
def KeS (g : Goroutine) (w : World) : Prop :=
  g.status = .running ∧ ∃ g', stepG P true g w = .go g' w #[mk .enable] ∧ ∃ m, Goes P true (Frm φ own0) (DI φ own0 0) (AcqS P φ n Done Nx) m g' w
def W4S (g : Goroutine) (w : World) : Prop :=
  g.status = .running ∧ (WgAt φ.ty φ.Wg w 0 0 → ∃ g', stepG P true g w = .go g' w #[rd (stA φ.Wg)] ∧ ∃ m, Goes P true (Frm φ own0) (DI φ own0 0) (KeS P φ n Done Nx) m g' w)
def W3S (g : Goroutine) (w : World) : Prop :=
  g.status = .running ∧ g.offers = none ∧
    ((∃ st, WgAt φ.ty φ.Wg w st 0) → stepG P true g w = .go { g with status := .blocked } w #[]) ∧
    (WgAt φ.ty φ.Wg w 0 1 → ∃ g', stepG P true g w = .go g' (w.setCell (smA φ.Wg) (.int .u32 0)) (semEvents (smA φ.Wg)) ∧ ∃ m, Goes P true (Frm φ own0) (DI φ own0 0) (W4S P φ n Done Nx) m g' (w.setCell (smA φ.Wg) (.int .u32 0)))
def W2S (vs : Nat) (g : Goroutine) (w : World) : Prop :=
  g.status = .running ∧ ∀ v : Nat, v < 2147483648 → WgAt φ.ty φ.Wg w (v * KK) 0 →
    (v = vs → ∃ g', stepG P true g w = .go g' (w.setCell (stA φ.Wg) (.int .u64 (v * KK + 1))) #[rd (stA φ.Wg), wr (stA φ.Wg)] ∧ ∃ m, Goes P true (Frm φ own0) (DI φ own0 0) (W3S P φ n Done Nx) m g' (w.setCell (stA φ.Wg) (.int .u64 (v * KK + 1)))) ∧
    (v ≠ vs → ∃ g', stepG P true g w = .go g' w #[rd (stA φ.Wg)] ∧ ∃ m, Goes P true (Frm φ own0) (DI φ own0 0) AnW m g' w)
def W1S (g : Goroutine) (w : World) : Prop :=
  g.status = .running ∧ ∀ v : Nat, v < 2147483648 → WgAt φ.ty φ.Wg w (v * KK) 0 → ∃ g', stepG P true g w = .go g' w #[rd (stA φ.Wg)] ∧
    (v = 0 → ∃ m, Goes P true (Frm φ own0) (DI φ own0 0) (KeS P φ n Done Nx) m g' w) ∧ (v ≠ 0 → ∃ m, Goes P true (Frm φ own0) (DI φ own0 0) (W2S P φ n Done Nx AnW v) m g' w)
def KdS (g : Goroutine) (w : World) : Prop :=
  g.status = .running ∧ ∃ g', stepG P true g w = .go g' w #[mk .disable] ∧ ∃ m, Goes P true (Frm φ own0) (DI φ own0 0) AnW m g' w
/-- At the close of the jobs channel. -/
def CloS (g : Goroutine) (w : World) : Prop :=
  g.status = .running ∧ mayWake P g = true ∧ ∀ s r tm, w.heap[φ.Ch]? = some (.chan 0 #[] false s r tm) →
    ∃ g', g'.status = .running ∧ stepG P true g w = .go g' (w.setChan φ.Ch 0 #[] true s r tm) (clEv φ.Ch) ∧ ∃ m, Goes P true (Frm φ own0) (DI φ own0 0) (KdS P φ AnW) m g' (w.setChan φ.Ch 0 #[] true s r tm)
/-- At the select that hands job k out. -/
def SelA (k : Nat) (Next : Goroutine → World → Prop) (g₂ : Goroutine) (z z' : Value) (sh : CommShape) (w : World) : Prop := ∀ w₁, Frm φ own0 w w₁ →
  (∃ es, stepG P true g₂ w₁ = .comm g₂ #[scase φ.Ch (.int .i64 k) z, rcase φ.En z'] true sh w₁ es ∧ ∀ e ∈ es, EvP φ own0 0 e) ∧
  Next (g₂.finishComm P #[scase φ.Ch (.int .i64 k) z, rcase φ.En z'] sh 0 undef false) w₁ ∧
  ∀ v, ∃ m, Goes P true (Frm φ own0) (DI φ own0 0) (CloS P φ AnW) m (g₂.finishComm P #[scase φ.Ch (.int .i64 k) z, rcase φ.En z'] sh 1 v true) w₁
def SelS (k : Nat) (Next : Goroutine → World → Prop) (g : Goroutine) (w : World) : Prop := g.status = .running ∧ ∃ g₂ z z' sh, SameF g g₂ ∧ SelA P φ AnW k Next g₂ z z' sh w
/-- r jobs are still to be handed out. -/
def Hand : Nat → Goroutine → World → Prop
  | 0, g, w => ∃ m, Goes P true (Frm φ own0) (DI φ own0 0) (CloS P φ AnW) m g w
  | r + 1, g, w => ∃ m, Goes P true (Frm φ own0) (DI φ own0 0) (SelS P φ AnW (n - (r + 1)) (Hand r)) m g w
/-! .. while it starts the workers -/
def GoS (Next : Goroutine → World → Prop) (g : Goroutine) (w : World) : Prop :=
  g.status = .running ∧ ∃ g' child, stepG P true g w = .spawn g' child w #[] ∧ child.status = .running ∧ (∃ m, Goes P false (Frm φ own0) (DI φ own0 1) (RecvS P φ n Pre Done An) m child w) ∧ Next g' w
def KeP (Next : Goroutine → World → Prop) (g : Goroutine) (w : World) : Prop :=
  g.status = .running ∧ ∃ g', stepG P true g w = .go g' w #[mk .enable] ∧ ∃ m, Goes P true (Frm φ own0) (DI φ own0 0) (GoS P φ n Pre Done An Next) m g' w
def A1P (Next : Goroutine → World → Prop) (g : Goroutine) (w : World) : Prop :=
  g.status = .running ∧ ∀ v : Nat, v < 2147483647 → WgAt φ.ty φ.Wg w (v * KK) 0 →
    ∃ g', stepG P true g w = .go g' (w.setCell (stA φ.Wg) (.int .u64 ((v + 1) * KK))) #[rd (stA φ.Wg), wr (stA φ.Wg)] ∧
      ∃ m, Goes P true (Frm φ own0) (DI φ own0 0) (KeP P φ n Pre Done An Next) m g' (w.setCell (stA φ.Wg) (.int .u64 ((v + 1) * KK)))
def KdP (Next : Goroutine → World → Prop) (g : Goroutine) (w : World) : Prop :=
  g.status = .running ∧ ∃ g', stepG P true g w = .go g' w #[mk .disable] ∧ ∃ m, Goes P true (Frm φ own0) (DI φ own0 0) (A1P P φ n Pre Done An Next) m g' w
/-- r workers are still to be started. -/
def Spawns (Fin : Goroutine → World → Prop) : Nat → Goroutine → World → Prop
  | 0, g, w => Fin g w
  | r + 1, g, w => ∃ m, Goes P true (Frm φ own0) (DI φ own0 0) (KdP P φ n Pre Done An (Spawns Fin r)) m g w

/-! ### where each stands -/
inductive WTag where
  | rcv | prk | job (k : Nat) | eno | ret | out | k1 | d1 | d2 | d3 | d4 | quit

def WTag.stage : WTag → Nat
  | .rcv | .prk | .job _ | .eno | .ret | .out => 7
  | .k1 => 6 | .d1 => 5 | .d2 => 4 | .d3 => 3 | .d4 => 2 | .quit => 1
def WTag.wt : WTag → Nat
  | .job _ => 14 | .eno => 13 | .ret => 12 | .rcv => 11 | .prk => 10 | .out => 9
  | .k1 => 6 | .d1 => 5 | .d2 => 4 | .d3 => 3 | .d4 => 2 | .quit => 1
def WTag.own : WTag → Nat → Prop
  | .job k => (· = k)
  | _ => own0
/-- .. ahead of the release -/
def WTag.early : WTag → Prop
  | .rcv | .prk | .job _ | .eno | .ret => True
  | _ => False

inductive WSit : WTag → Nat → Nat → Goroutine → World → Prop
  | rcv {m : Nat} {g : Goroutine} {w : World} : Goes P false (Frm φ own0) (DI φ own0 1) (RecvS P φ n Pre Done An) m g w → WSit .rcv m 0 g w
  | prk {g₂ : Goroutine} {z : Value} {sh : CommShape} {w : World} : RecvA P φ n Pre Done An g₂ z sh w → WSit .prk 0 0 (parked g₂ #[rcase φ.Ch z] sh) w
  | job {k m : Nat} {g : Goroutine} {w : World} : Goes P false (Frm φ (· = k)) (DJ φ k) (JobS P φ Done An k) m g w → WSit (.job k) m 0 g w
  | eno {m : Nat} {g : Goroutine} {w : World} : Goes P false (Frm φ own0) (DI φ own0 1) (EnoS P φ An) m g w → WSit .eno m 0 g w
  | ret {m : Nat} {g : Goroutine} {w : World} : Goes P false (Frm φ own0) (DI φ own0 1) An m g w → WSit .ret m 0 g w
  | out {m : Nat} {g : Goroutine} {w : World} : Goes P false (Frm φ own0) (DI φ own0 1) (R0S P φ) m g w → WSit .out m 0 g w
  | k1 {m : Nat} {g : Goroutine} {w : World} : Goes P false (Frm φ own0) Go.ConcR.DC0 (K1S P φ) m g w → WSit .k1 m 0 g w
  | d1 {m : Nat} {g : Goroutine} {w : World} : Goes P false (Frm φ own0) Go.ConcR.DC0 (D1S P φ) m g w → WSit .d1 m 1 g w
  | d2 {m : Nat} {g : Goroutine} {w : World} : Goes P false (Frm φ own0) Go.ConcR.DC0 (D2S P φ) m g w → WSit .d2 m 1 g w
  | d3 {m : Nat} {g : Goroutine} {w : World} : Goes P false (Frm φ own0) Go.ConcR.DC0 (D3S P φ) m g w → WSit .d3 m 1 g w
  | d4 {m : Nat} {g : Goroutine} {w : World} : Goes P false (Frm φ own0) Go.ConcR.DC0 (D4S P φ) m g w → WSit .d4 m 1 g w
  | quit {q d : Nat} {g : Goroutine} {w : World} : QuitsD P q d g → WSit .quit q d g w

inductive MTag where
  | c (t : CTag) | hand (r : Nat) | hpk (r : Nat) | cls

/-- As the group's law sees it. -/
def MTag.ct : MTag → CTag
  | .c t => t
  | _ => .kd

variable (N : Nat)
/-- tag, how many are started, fuel, deafness -/
inductive MSit : MTag → Nat → Nat → Nat → Goroutine → World → Prop
  | skd {r m : Nat} {g : Goroutine} {w : World} : r < N → Goes P true (Frm φ own0) (DI φ own0 0) (KdP P φ n Pre Done An (Spawns P φ n Pre Done An (Hand P φ n AnW n) r)) m g w → MSit (.c (.sp r 5)) (N - (r + 1)) m 0 g w
  | sa1 {r m : Nat} {g : Goroutine} {w : World} : r < N → Goes P true (Frm φ own0) (DI φ own0 0) (A1P P φ n Pre Done An (Spawns P φ n Pre Done An (Hand P φ n AnW n) r)) m g w → MSit (.c (.sp r 4)) (N - (r + 1)) m 1 g w
  | ske {r m : Nat} {g : Goroutine} {w : World} : r < N → Goes P true (Frm φ own0) (DI φ own0 0) (KeP P φ n Pre Done An (Spawns P φ n Pre Done An (Hand P φ n AnW n) r)) m g w → MSit (.c (.sp r 3)) (N - (r + 1)) m 1 g w
  | sgo {r m : Nat} {g : Goroutine} {w : World} : r < N → Goes P true (Frm φ own0) (DI φ own0 0) (GoS P φ n Pre Done An (Spawns P φ n Pre Done An (Hand P φ n AnW n) r)) m g w → MSit (.c (.sp r 2)) (N - (r + 1)) m 0 g w
  | hand {r m : Nat} {g : Goroutine} {w : World} : r < n → Goes P true (Frm φ own0) (DI φ own0 0) (SelS P φ AnW (n - (r + 1)) (Hand P φ n AnW r)) m g w → MSit (.hand (r + 1)) N m 0 g w
  | hpk {r : Nat} {g₂ : Goroutine} {z z' : Value} {sh : CommShape} {w : World} : r < n → SelA P φ AnW (n - (r + 1)) (Hand P φ n AnW r) g₂ z z' sh w →
      MSit (.hpk (r + 1)) N 0 0 (parked g₂ #[scase φ.Ch (.int .i64 ((n - (r + 1) : Nat) : Int)) z, rcase φ.En z'] sh) w
  | cls {m : Nat} {g : Goroutine} {w : World} : Goes P true (Frm φ own0) (DI φ own0 0) (CloS P φ AnW) m g w → MSit .cls N m 0 g w
  | kd {m : Nat} {g : Goroutine} {w : World} : Goes P true (Frm φ own0) (DI φ own0 0) (KdS P φ AnW) m g w → MSit (.c .kd) N m 0 g w
  | anch {m : Nat} {g : Goroutine} {w : World} : Goes P true (Frm φ own0) (DI φ own0 0) AnW m g w → MSit (.c .anch) N m 1 g w
  | w1 {m : Nat} {g : Goroutine} {w : World} : Goes P true (Frm φ own0) (DI φ own0 0) (W1S P φ n Done Nx AnW) m g w → MSit (.c .w1) N m 1 g w
  | w2 {vs m : Nat} {g : Goroutine} {w : World} : Goes P true (Frm φ own0) (DI φ own0 0) (W2S P φ n Done Nx AnW vs) m g w → MSit (.c (.w2 vs)) N m 1 g w
  | w3 {m : Nat} {g : Goroutine} {w : World} : Goes P true (Frm φ own0) (DI φ own0 0) (W3S P φ n Done Nx) m g w → MSit (.c .w3) N (m + 1) 1 g w
  | blk {g : Goroutine} {w : World} : (∀ w₁, Frm φ own0 w w₁ → W3S P φ n Done Nx g w₁) → MSit (.c .blk) N 0 1 { g with status := .blocked } w
  | w4 {m : Nat} {g : Goroutine} {w : World} : Goes P true (Frm φ own0) (DI φ own0 0) (W4S P φ n Done Nx) m g w → MSit (.c .w4) N m 1 g w
  | ke {m : Nat} {g : Goroutine} {w : World} : Goes P true (Frm φ own0) (DI φ own0 0) (KeS P φ n Done Nx) m g w → MSit (.c .ke) N m 1 g w
  | acq {m : Nat} {g : Goroutine} {w : World} : Goes P true (Frm φ own0) (DI φ own0 0) (AcqS P φ n Done Nx) m g w → MSit (.c .acq) N m 0 g w
end

section
variable {P : Program} {φ : Ph} {n N : Nat} {Pre Done : Nat → World → Prop} {An Nx AnW : Goroutine → World → Prop} {w w₁ : World} {g : Goroutine}

theorem RecvA.rely {g₂ : Goroutine} {z : Value} {sh : CommShape} (h : RecvA P φ n Pre Done An g₂ z sh w) (hr : Frm φ own0 w w₁) : RecvA P φ n Pre Done An g₂ z sh w₁ := fun w₂ h₂ => h w₂ (hr.trans h₂)
theorem SelA.rely {k : Nat} {Next : Goroutine → World → Prop} {g₂ : Goroutine} {z z' : Value} {sh : CommShape} (h : SelA P φ AnW k Next g₂ z z' sh w) (hr : Frm φ own0 w w₁) : SelA P φ AnW k Next g₂ z z' sh w₁ := fun w₂ h₂ => h w₂ (hr.trans h₂)

theorem WSit.rely {s : WTag} {m d : Nat} (h : WSit P φ n Pre Done An s m d g w) (hr : Frm φ s.own w w₁) : WSit P φ n Pre Done An s m d g w₁ := by
  cases h with
  | rcv h => exact .rcv (Goes.rely Frm.trans' h hr)
  | prk h => exact .prk (h.rely hr)
  | job h => exact .job (Goes.rely Frm.trans' h hr)
  | eno h => exact .eno (Goes.rely Frm.trans' h hr)
  | ret h => exact .ret (Goes.rely Frm.trans' h hr)
  | out h => exact .out (Goes.rely Frm.trans' h hr)
  | k1 h => exact .k1 (Goes.rely Frm.trans' h hr)
  | d1 h => exact .d1 (Goes.rely Frm.trans' h hr)
  | d2 h => exact .d2 (Goes.rely Frm.trans' h hr)
  | d3 h => exact .d3 (Goes.rely Frm.trans' h hr)
  | d4 h => exact .d4 (Goes.rely Frm.trans' h hr)
  | quit h => exact .quit h

theorem MSit.rely {t : MTag} {j m d : Nat} (h : MSit P φ n Pre Done An Nx AnW N t j m d g w) (hr : Frm φ own0 w w₁) : MSit P φ n Pre Done An Nx AnW N t j m d g w₁ := by
  cases h with
  | skd hn h => exact .skd hn (Goes.rely Frm.trans' h hr)
  | sa1 hn h => exact .sa1 hn (Goes.rely Frm.trans' h hr)
  | ske hn h => exact .ske hn (Goes.rely Frm.trans' h hr)
  | sgo hn h => exact .sgo hn (Goes.rely Frm.trans' h hr)
  | hand hn h => exact .hand hn (Goes.rely Frm.trans' h hr)
  | hpk hn h => exact .hpk hn (h.rely hr)
  | cls h => exact .cls (Goes.rely Frm.trans' h hr)
  | kd h => exact .kd (Goes.rely Frm.trans' h hr)
  | anch h => exact .anch (Goes.rely Frm.trans' h hr)
  | w1 h => exact .w1 (Goes.rely Frm.trans' h hr)
  | w2 h => exact .w2 (Goes.rely Frm.trans' h hr)
  | w3 h => exact .w3 (Goes.rely Frm.trans' h hr)
  | blk h => exact .blk fun w₂ h₂ => h w₂ (hr.trans h₂)
  | w4 h => exact .w4 (Goes.rely Frm.trans' h hr)
  | ke h => exact .ke (Goes.rely Frm.trans' h hr)
  | acq h => exact .acq (Goes.rely Frm.trans' h hr)
end
end Go.Pool
