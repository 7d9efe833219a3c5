/- A part of the proof of CrewDigestsUpto (no statement of its own): Cr9, End3. -/
import Derived.Test.YthkaigokcognmaaM19
import Derived.Test.YthkaigokcognmaaM18
section
set_option linter.unusedSimpArgs false
namespace Go.Pool
open Go.Conc Go.RowKit Go.Proofs Go.ConcN Go.Conc.Lib Go.ConcR.Gen Go.ConcN.Gen
open Go.ConcR (KK wgBlock WgAt stA smA rd wr mk DC0)
structure Kept (H : Nat) (pb : Nat → Prop) (w w' : World) : Prop where
 os : w'.os = w.os
 tape : w'.tape = w.tape
 output : w'.output = w.output
 size : w.heap.size ≤ w'.heap.size
 block : ∀ b, b < H → ¬ pb b → w'.heap[b]? = w.heap[b]?
 shape : ∀ b, b < H → pb b → ∀ cs ty fz, w.heap[b]? = some (.cells cs ty fz) → ∃ cs', w'.heap[b]? = some (.cells cs' ty fz) ∧ cs'.size = cs.size
theorem Kept.of_below {H : Nat} {pb : Nat → Prop} {w w' : World} (h : Below H w w') : Kept H pb w w' :=
 ⟨h.os, h.tape, h.output, h.size, fun b hb _ => h.block b hb, fun b hb _ cs _ _ hc => ⟨cs, (h.block b hb).trans hc, rfl⟩⟩
theorem Kept.trans {H : Nat} {pb : Nat → Prop} {w w' w'' : World} (h : Kept H pb w w') (h' : Kept H pb w' w'') : Kept H pb w w'' :=
 ⟨h'.os.trans h.os, h'.tape.trans h.tape, h'.output.trans h.output, Nat.le_trans h.size h'.size, fun b hb hp => (h'.block b hb hp).trans (h.block b hb hp),
  fun b hb hp cs _ _ hc => let ⟨c1, e1, s1⟩ := h.shape b hb hp cs _ _ hc; let ⟨c2, e2, s2⟩ := h'.shape b hb hp c1 _ _ e1; ⟨c2, e2, s2.trans s1⟩⟩
structure FreshG (H : Nat) (pb : Nat → Prop) (Fd : Option Nat) (p : Nat → Prop) (Shun : Loc → Prop) (gr : Prop) (φ : Ph) : Prop where
 ty : φ.ty = 87
 wg : H ≤ φ.Wg
 ch : H ≤ φ.Ch
 en : H ≤ φ.En
 pb : φ.pb = pb
 shun : φ.Shun = Shun
 low : H < φ.B
 fd : φ.Fd = Fd
 p : φ.p = p
 gr : φ.gr = gr
 top : φ.B = H + 6
 wgB : φ.Wg < φ.B
abbrev FreshX (H : Nat) (pb : Nat → Prop) (Fd : Option Nat) (p : Nat → Prop) (Shun : Loc → Prop) (φ : Ph) : Prop := FreshG H pb Fd p Shun False φ
abbrev Fresh (H : Nat) (pb : Nat → Prop) (Shun : Loc → Prop) (φ : Ph) : Prop := FreshX H pb none (fun _ => False) Shun φ
def pbF (pb : Nat → Prop) (Fd : Option Nat) (b : Nat) : Prop := pb b ∨ Fd = some b
theorem pbF_none (pb : Nat → Prop) : pbF pb none = pb := by funext b; simp [pbF]
theorem Fresh.kept {H : Nat} {pb : Nat → Prop} {Shun : Loc → Prop} {φ : Ph} (h : Fresh H pb Shun φ) {own : Nat → Prop} {w w' : World} (r : Frm φ own w w') : Kept H pb w w' := by
 have e := h.pb
 subst e
 refine ⟨r.os, r.tape, r.output, r.size, fun b hb hp => r.block b (Nat.lt_trans hb h.low) ?_ ?_ ?_ ?_ hp, fun b _ hp => r.shape b hp⟩
 ·have := h.wg; omega
 ·have := h.ch; omega
 ·have := h.en; omega
 ·rw [h.fd]; simp
theorem FreshG.kept {H : Nat} {pb : Nat → Prop} {Fd : Option Nat} {p : Nat → Prop} {Shun : Loc → Prop} {gr : Prop} {φ : Ph} (h : FreshG H pb Fd p Shun gr φ) {own : Nat → Prop} {w0 w w' : World} (hfd : ∀ fd, Fd = some fd → ∃ c b cl s r tm, w0.heap[fd]? = some (.chan c b cl s r tm)) (k : Kept H (pbF pb Fd) w0 w) (r : Frm φ own w w') : Kept H (pbF pb Fd) w0 w' := by
 refine ⟨r.os.trans k.os, r.tape.trans k.tape, r.output.trans k.output, Nat.le_trans k.size r.size, fun b hb hp => (r.block b (Nat.lt_trans hb h.low) ?_ ?_ ?_ ?_ ?_).trans (k.block b hb hp), fun b hb hp cs ty fz hc => ?_⟩
 ·have := h.wg; omega
 ·have := h.ch; omega
 ·have := h.en; omega
 ·rw [h.fd]; exact fun e => hp (.inr e)
 ·rw [h.pb]; exact fun e => hp (.inl e)
 ·rcases hp with hp | hp
  ·obtain ⟨c1, e1, s1⟩ := k.shape b hb (.inl hp) cs _ _ hc
   obtain ⟨c2, e2, s2⟩ := r.shape b (by rw [h.pb]; exact hp) c1 _ _ e1
   exact ⟨c2, e2, s2.trans s1⟩
  ·obtain ⟨_, _, _, _, _, _, h1⟩ := hfd b hp
   rw [hc] at h1; cases h1
theorem FreshX.still_size {H : Nat} {pb : Nat → Prop} {Fd : Option Nat} {p : Nat → Prop} {Shun : Loc → Prop} {φ : Ph} (h : FreshX H pb Fd p Shun φ) {own : Nat → Prop} {w w' : World} (r : Frm φ own w w') : w'.heap.size = w.heap.size := r.still (by rw [h.gr]; exact id)
def SzF (gr : Prop) (s : Nat) (w : World) : Prop := s ≤ w.heap.size ∧ (¬ gr → w.heap.size = s)
theorem szF_false {s : Nat} {w : World} : SzF False s w ↔ w.heap.size = s := ⟨fun h => h.2 id, fun h => ⟨Nat.le_of_eq h.symm, fun _ => h⟩⟩
theorem SzF.frm {gr : Prop} {s : Nat} {φ : Ph} (hg : φ.gr = gr) {own : Nat → Prop} {w w' : World} (h : SzF gr s w) (r : Frm φ own w w') : SzF gr s w' := ⟨Nat.le_trans h.1 r.size, fun g => (r.still (by rw [hg]; exact g)).trans (h.2 g)⟩
theorem FreshG.still {H : Nat} {pb : Nat → Prop} {Fd : Option Nat} {p : Nat → Prop} {Shun : Loc → Prop} {gr : Prop} {φ : Ph} (h : FreshG H pb Fd p Shun gr φ) {b : Nat} (hb : b < H) (hp : ¬ pb b) (hf : Fd ≠ some b) (hs : ∀ a : Addr, a.block = b → ¬ Shun (.cell a)) : Still φ b := by
 have e := h.pb
 have e' := h.shun
 subst e e'
 refine ⟨?_, ?_, ?_, by rw [h.fd]; exact hf, hp, hs, ?_⟩
 ·have := h.wg; omega
 ·have := h.ch; omega
 ·have := h.en; omega
 ·have := h.low; omega
theorem FreshX.still {H : Nat} {pb : Nat → Prop} {Fd : Option Nat} {p : Nat → Prop} {Shun : Loc → Prop} {φ : Ph} (h : FreshX H pb Fd p Shun φ) {b : Nat} (hb : b < H) (hp : ¬ pb b) (hf : Fd ≠ some b) (hs : ∀ a : Addr, a.block = b → ¬ Shun (.cell a)) : Still φ b := FreshG.still h hb hp hf hs
theorem Fresh.still {H : Nat} {pb : Nat → Prop} {Shun : Loc → Prop} {φ : Ph} (h : Fresh H pb Shun φ) {b : Nat} (hb : b < H) (hp : ¬ pb b) (hs : ∀ a : Addr, a.block = b → ¬ Shun (.cell a)) : Still φ b := FreshX.still h hb hp (by simp) hs
section
variable {Post : Value → World → Prop} {Shun : Loc → Prop} {pb : Nat → Prop} {Fd : Option Nat} {p : Nat → Prop} {n N H : Nat} {Pre Done : Nat → World → Prop} {jf : FuncId} {jcap : Array Value} {gr : Prop} {w0 w₁ : World}
  {b₀ : Frame} {a₀ : Act} {ops₀ : Array Oper} {i₀ : Nat} {rest₀ : List Nat} {k₀ : List Item} {cs : List Frame}
def Shy2 (Shun Shun' : Loc → Prop) (H : Nat) : Prop := ∀ l, Shun' l → Shun l ∨ ∃ a : Addr, l = .cell a ∧ a.block = H
theorem alloc_facts (h : Below H w0 w₁ ∧ w₁.heap.size = H) (o : Obj) : Below H w0 (w₁.alloc o) ∧ (w₁.alloc o).heap.size = H + 1 ∧ (w₁.alloc o).heap[H]? = some o :=
 ⟨h.1.alloc (Nat.le_of_eq h.2.symm) o, by rw [World.size_alloc, h.2], by have := heap_alloc_new w₁ o; rwa [h.2] at this⟩
structure Set49 (H : Nat) (w0 : World) (fv : Value) (c e j x : Nat) (w : World) : Prop where
 below : Below H w0 w
 hb : w.heap[H]? = some (.cells #[fv] 47)
 hc : w.heap[c]? = some (.chan 0 #[] false 0 0 false)
 he : w.heap[e]? = some (.chan 1 #[] false 0 0 false)
 hj : w.heap[j]? = some (.cells #[.chan (some c)] 66)
 hx : w.heap[x]? = some (.cells #[.chan (some e)] 78)
theorem Set49.at {fv : Value} {c e j x : Nat} {w : World} (h : Set49 H w0 fv c e j x w) (d : Nat) : Set49 H w0 fv c e j x (w.at d) := ⟨⟨h.below.os, h.below.tape, h.below.output, h.below.size, h.below.block⟩, h.hb, h.hc, h.he, h.hj, h.hx⟩
theorem Set49.rely5 {fv : Value} {c e j x : Nat} {w w₁ : World} (h : Set49 H w0 fv c e j x w ∧ w.heap.size = H + 5) (r : AtRel w w₁) : Set49 H w0 fv c e j x w₁ ∧ w₁.heap.size = H + 5 := by
 obtain ⟨d, rfl⟩ := r
 exact ⟨h.1.at d, h.2⟩
theorem Set49.rely6 {fv : Value} {c e j x : Nat} {w w₁ : World} (h : Set49 H w0 fv c e j x w ∧ w.heap.size = H + 6 ∧ WgAt 87 (H + 5) w 0 0) (r : AtRel w w₁) : Set49 H w0 fv c e j x w₁ ∧ w₁.heap.size = H + 6 ∧ WgAt 87 (H + 5) w₁ 0 0 := by
 obtain ⟨d, rfl⟩ := r
 exact ⟨h.1.at d, h.2⟩
theorem Set49.alloc {fv : Value} {c e j x : Nat} {w : World} (h : Set49 H w0 fv c e j x w) (hs : w.heap.size = H + 5) (h1 : c < H + 5) (h2 : e < H + 5) (h3 : j < H + 5) (h4 : x < H + 5) (o : Obj) : Set49 H w0 fv c e j x (w.alloc o) :=
 ⟨h.below.alloc (by omega) o, (Below.heap_alloc _ _ _ (by omega)).trans h.hb, (Below.heap_alloc _ _ _ (by omega)).trans h.hc, (Below.heap_alloc _ _ _ (by omega)).trans h.he, (Below.heap_alloc _ _ _ (by omega)).trans h.hj, (Below.heap_alloc _ _ _ (by omega)).trans h.hx⟩
set_option maxRecDepth 100000 in
set_option maxHeartbeats 4000000 in
theorem spread_endsG (hH : w0.heap.size = H) (hn : n < 9223372036854775808) (hN1 : 1 ≤ N) (hN : N < 2147483648) (hSc : ∀ a : Addr, H ≤ a.block → ¬ Shun (.cell a)) (hSo : ∀ r, ¬ Shun (.obj r)) (hpS : ∀ a : Addr, pb a.block → ¬ Shun (.cell a)) (hpH : ∀ b, pb b → b < H)
  (J : ∀ φ, φ.pb = pb → Jobs φ n Pre Done) (hpre : ∀ k, k < n → Pre k w0)
  (hFd : ∀ fd, Fd = some fd → fd < H ∧ ¬ pb fd ∧ w0.heap[fd]? = some (.chan n #[] false 0 0 false))
  (hjob : ∀ φ Bj Bb Be, FreshG H pb Fd p Shun gr φ → H ≤ Bj → H ≤ Bb → H ≤ Be → Still φ Bj → Still φ Bb → Still φ Be → JobK φ n Pre Done Bj Bb Be jf jcap fun w => Kept H (pbF pb Fd) w0 w ∧ SzF gr (H + 6) w)
  (hnext : ∀ φ Shun' w', FreshG H pb Fd p Shun gr φ → Shy2 Shun Shun' (H + 5) → Kept H (pbF pb Fd) w0 w' → SzF gr (H + 6) w' → Fin φ n Done w' →
   EndsF Try.prog Post Shun' w'.heap.size (Go.Conc.G (b₀.at (a₀.put ((ops₀[i₀]?).bind (·.dst)) (.tuple #[])) (.inRegion ops₀ rest₀ :: k₀)) cs) w') :
  EndsF Try.prog Post Shun H (Go.Conc.G (b49.at ⟨#[.int .i64 n, .int .i64 N, .func (.func jf) #[] jcap, undef, undef, undef, undef, undef, undef, undef, undef, undef, undef, undef, undef, undef, undef, undef, undef, undef, undef, undef], []⟩ [.code body49]) (b₀.at a₀ (.inRegion ops₀ (i₀ :: rest₀) :: k₀) :: cs)) w0 := by
 refine EndsF.mono (B' := H + 5) (by omega) ?_
 simp only [body49, Try.f49, Option.getD_some]
 have rl0 : ∀ {w w₁ : World}, Below H w0 w ∧ w.heap.size = H → AtRel w w₁ → Below H w0 w₁ ∧ w₁.heap.size = H := fun h r => by
  obtain ⟨d, rfl⟩ := r
  exact ⟨⟨h.1.os, h.1.tape, h.1.output, h.1.size, h.1.block⟩, h.2⟩
 have rl1 : ∀ {w w₁ : World}, Below H w0 w ∧ w.heap.size = H + 1 ∧ w.heap[H]? = some (.cells #[.func (.func jf) #[] jcap] 47) → AtRel w w₁ → Below H w0 w₁ ∧ w₁.heap.size = H + 1 ∧ w₁.heap[H]? = some (.cells #[.func (.func jf) #[] jcap] 47) := fun h r => by
  obtain ⟨d, rfl⟩ := r
  exact ⟨⟨h.1.os, h.1.tape, h.1.output, h.1.size, h.1.block⟩, h.2⟩
 have hF : Below H w0 w0 ∧ w0.heap.size = H := ⟨Below.refl H w0, hH⟩
 refine EndsF.step rfl (fun _ h₁ => ?_)
 replace hF := rl0 hF h₁
 clear h₁
 rw [stepG_seq]
 simp only [goes_go]
 refine ⟨de_nil, ?_⟩
 refine EndsF.step rfl (fun _ h₁ => ?_)
 replace hF := rl0 hF h₁
 clear h₁
 rw [stepG_region]
 simp only [goes_go, List.size_toArray, List.length_cons, List.length_nil, Nat.reduceAdd, Nat.zero_add, List.range, List.range.loop]
 refine ⟨de_nil, ?_⟩
 refine EndsF.step rfl (fun wb h₁ => ?_)
 replace hF := rl0 hF h₁
 clear h₁
 refine goes_oper_k rfl rfl (by k_ne) (fun K hK => ?_)
 go_simp
 refine hK _ _ ⟨?_, ?_⟩
 ·intro ex hex
  have hm := mem_listed hex
  simp [go_sem, *] at hm
 clear hK K
 replace hF := alloc_facts hF (.cells #[.func (.func jf) #[] jcap] 47)
 refine EndsF.step rfl (fun _ h₁ => ?_)
 replace hF := rl1 hF h₁
 clear h₁
 rw [stepG_region_end]
 simp only [goes_go]
 refine ⟨de_nil, ?_⟩
 refine EndsF.step rfl (fun _ h₁ => ?_)
 replace hF := rl1 hF h₁
 clear h₁
 rw [stepG_seq]
 simp only [goes_go]
 refine ⟨de_nil, ?_⟩
 rename_i wb'
 refine EndsF.of_goes (D := DE (EvL Shun (H + 5))) (n := 0 + (6 * 1 + 1 + 1)) (fun _ _ _ h => h) (wpC_goes (makes (n := n) (N := N) (fv := .func (.func jf) #[] jcap) (H := H + 1) (Bb := H) (w0 := wb') (B := H + 5) (fun b hb => hSc _ (by show H ≤ b; omega)) (by omega) hF.2.1) rfl (by k_ne) ?_)
 rintro ex a w ⟨rfl, c, e, j, x, rfl, hM⟩
 have hcH := hM.hc rfl
 have heH := hM.he rfl
 have hjH := hM.hj rfl
 have hxH := hM.hx rfl
 have hsz : w.heap.size = H + 5 := by have := hM.size; simpa [cntF] using this
 have hj1 : j ≠ H := by omega
 have hx1 : x ≠ H := by omega
 have hcj := hM.cj rfl rfl
 have hcx := hM.cx rfl rfl
 have hce := hM.ce rfl rfl
 have hej := hM.ej rfl rfl
 have hex' := hM.ex rfl rfl
 have hjx := hM.jx rfl rfl
 have hF' : Set49 H w0 (.func (.func jf) #[] jcap) c e j x w ∧ w.heap.size = H + 5 :=
  ⟨⟨hF.1.trans (hM.below.mono (by omega)), (hM.below.block H (by omega)).trans hF.2.2, hcH.2.2, heH.2.2, hjH.2.2, hxH.2.2⟩, hsz⟩
 have b1 : H + 1 ≤ c ∧ c < H + 5 := ⟨hcH.1, by have := hcH.2.1; omega⟩
 have b2 : H + 1 ≤ e ∧ e < H + 5 := ⟨heH.1, by have := heH.2.1; omega⟩
 have b3 : H + 1 ≤ j ∧ j < H + 5 := ⟨hjH.1, by have := hjH.2.1; omega⟩
 have b4 : H + 1 ≤ x ∧ x < H + 5 := ⟨hxH.1, by have := hxH.2.1; omega⟩
 clear hM hcH heH hjH hxH hF hsz
 have hF := hF'
 clear hF'
 refine fun w₁ h₁ => EndsF.rely ?_ h₁
 clear h₁ w₁
 simp only [T49]
 refine EndsF.step rfl (fun _ h₁ => ?_)
 replace hF := Set49.rely5 hF h₁
 clear h₁
 rw [stepG_seq]
 simp only [goes_go]
 refine ⟨de_nil, ?_⟩
 refine EndsF.step rfl (fun _ h₁ => ?_)
 replace hF := Set49.rely5 hF h₁
 clear h₁
 rw [stepG_region]
 simp only [goes_go, List.size_toArray, List.length_cons, List.length_nil, Nat.reduceAdd, Nat.zero_add, List.range, List.range.loop]
 refine ⟨de_nil, ?_⟩
 refine EndsF.step rfl (fun wc h₁ => ?_)
 replace hF := Set49.rely5 hF h₁
 clear h₁
 refine goes_oper_k rfl rfl (by k_ne) (fun K hK => ?_)
 go_simp
 refine hK _ _ ⟨?_, ?_⟩
 ·intro ex hex
  have hm := mem_listed hex
  simp [go_sem, *] at hm
 clear hK K
 have hwg : WgAt 87 (H + 5) (wc.alloc (.cells #[.int .u64 0, .int .u32 0] 87)) 0 0 := by
  unfold WgAt wgBlock
  have := heap_alloc_new wc (.cells #[.int .u64 0, .int .u32 0] 87)
  rw [hF.2] at this
  exact this
 replace hF : Set49 H w0 (.func (.func jf) #[] jcap) c e j x (wc.alloc (.cells #[.int .u64 0, .int .u32 0] 87)) ∧ (wc.alloc (.cells #[.int .u64 0, .int .u32 0] 87)).heap.size = H + 6 ∧ WgAt 87 (H + 5) (wc.alloc (.cells #[.int .u64 0, .int .u32 0] 87)) 0 0 :=
  ⟨hF.1.alloc hF.2 b1.2 b2.2 b3.2 b4.2 _, by rw [World.size_alloc, hF.2], hwg⟩
 clear hwg
 refine EndsF.step rfl (fun _ h₁ => ?_)
 replace hF := Set49.rely6 hF h₁
 clear h₁
 rw [stepG_region_end]
 iterate 2
  simp only [goes_go]
  refine ⟨de_nil, ?_⟩
  refine EndsF.step rfl (fun _ h₁ => ?_)
  replace hF := Set49.rely6 hF h₁
  clear h₁
  rw [stepG_seq]
 simp only [goes_go]
 refine ⟨de_nil, ?_⟩
 refine EndsF.step rfl (fun _ h₁ => ?_)
 replace hF := Set49.rely6 hF h₁
 clear h₁
 rw [stepG_region]
 simp only [goes_go, List.size_toArray, List.length_cons, List.length_nil, Nat.reduceAdd, Nat.zero_add, List.range, List.range.loop]
 refine ⟨de_nil, ?_⟩
 iterate 2
  refine EndsF.step rfl (fun _ h₁ => ?_)
  replace hF := Set49.rely6 hF h₁
  clear h₁
  refine goes_oper_k rfl rfl (by k_ne) (fun K hK => ?_)
  go_simp
  refine hK _ _ ⟨?_, ?_⟩
  ·refine de_none ?_
   intro ex hex
   have hm := mem_listed hex
   simp [go_sem, *] at hm
  clear hK K
  try w_num
 refine EndsF.step rfl (fun _ h₁ => ?_)
 replace hF := Set49.rely6 hF h₁
 clear h₁
 rw [stepG_region_end]
 simp only [goes_go]
 refine ⟨de_nil, ?_⟩
 refine EndsF.step rfl (fun _ h₁ => ?_)
 replace hF := Set49.rely6 hF h₁
 clear h₁
 rw [stepG_block]
 simp only [goes_go]
 refine ⟨de_nil, ?_⟩
 refine EndsF.step rfl (fun _ h₁ => ?_)
 replace hF := Set49.rely6 hF h₁
 clear h₁
 rw [stepG_loop]
 simp only [goes_go]
 refine ⟨de_nil, ?_⟩
 rename_i wd
 obtain ⟨φ, hφ⟩ : ∃ φ : Ph, φ = { ty := 87, Wg := H + 5, Ch := c, En := e, pb := pb, B := H + 6, Shun := Shun, Fd := Fd, p := p, gr := gr } := ⟨_, rfl⟩
 have f1 : φ.ty = 87 := by rw [hφ]
 have f2 : φ.Wg = H + 5 := by rw [hφ]
 have f3 : φ.Ch = c := by rw [hφ]
 have f4 : φ.En = e := by rw [hφ]
 have f5 : φ.pb = pb := by rw [hφ]
 have f6 : φ.B = H + 6 := by rw [hφ]
 have f7 : φ.Shun = Shun := by rw [hφ]
 have f8 : φ.Fd = Fd := by rw [hφ]
 have f9 : φ.p = p := by rw [hφ]
 have f10 : φ.gr = gr := by rw [hφ]
 clear hφ
 have hFr : FreshG H pb Fd p Shun gr φ := ⟨f1, by omega, by omega, by omega, f5, f7, by omega, f8, f9, f10, f6, by omega⟩
 have fdlt : ∀ b, H ≤ b → φ.Fd ≠ some b := fun b hb e => by rw [f8] at e; have := (hFd b e).1; omega
 have fch : ∀ fd, Fd = some fd → ∃ c b cl s r tm, w0.heap[fd]? = some (.chan c b cl s r tm) := fun fd e => ⟨_, _, _, _, _, _, (hFd fd e).2.2⟩
 have npb : ∀ b, H ≤ b → ¬ φ.pb b := fun b hb hp => by rw [f5] at hp; have := hpH b hp; omega
 have nsh : ∀ a : Addr, H ≤ a.block → ¬ φ.Shun (.cell a) := fun a ha => by rw [f7]; exact hSc a ha
 have Gφ : Geo φ := ⟨by omega, by omega, by omega, npb _ (by omega), npb _ (by omega), npb _ (by omega), by omega, by omega, by omega, fdlt _ (by omega), fdlt _ (by omega), fdlt _ (by omega), (fun b e => by rw [f5]; rw [f8] at e; exact (hFd b e).2.1), (fun b e => by rw [f8] at e; have := (hFd b e).1; omega), fun l ⟨a, e1, e2⟩ => by rw [e1]; exact nsh a (by omega), fun a ha => by rw [f5] at ha; rw [f7]; exact hpS a ha, fun r => by rw [f7]; exact hSo r, fun a ha => nsh a (by omega), fun b hb => by rw [f5] at hb; have := hpH b hb; omega⟩
 have st : ∀ b, H ≤ b → b < H + 5 → b ≠ c → b ≠ e → Still φ b := fun b h1 h2 h3 h4 => ⟨by omega, by omega, by omega, fdlt b h1, npb b h1, fun a ha => nsh a (by omega), by omega⟩
 have sj := st j (by omega) (by omega) (by omega) (by omega)
 have sb := st H (by omega) (by omega) (by omega) (by omega)
 have sx := st x (by omega) (by omega) (by omega) (by omega)
 have J0 := J φ f5
 have hF2 : Firm φ fun w => Kept H (pbF pb Fd) w0 w ∧ SzF gr (H + 6) w := fun own w w' r h => ⟨FreshG.kept hFr fch h.1 r, h.2.frm f10 r⟩
 have hjob0 := hjob φ j H x hFr (by omega) (by omega) (by omega) sj sb sx
 obtain ⟨m, hm⟩ := head49 (φ := φ) (n := n) (N := N) (Pre := Pre) (Done := Done) (Bj := j) (Bb := H) (Be := x) (jf := jf) (jcap := jcap) (F := fun w => Kept H (pbF pb Fd) w0 w ∧ SzF gr (H + 6) w) (cs := b₀.at a₀ (.inRegion ops₀ (i₀ :: rest₀) :: k₀) :: cs) Gφ J0 f1 sj sb sx hn hN hjob0 hF2 N (Nat.le_refl N)
 have hM0 : M49 φ j H x (.func (.func jf) #[] jcap) (fun w => Kept H (pbF pb Fd) w0 w ∧ SzF gr (H + 6) w) wd := by
  refine ⟨⟨?_, ?_, ?_, ?_, Kept.of_below hF.1.below, Nat.le_of_eq hF.2.1.symm, fun _ => hF.2.1⟩, ?_⟩
  ·rw [f3]; simp [World.cell?, hF.1.hj]
  ·simp [World.cell?, hF.1.hb]
  ·rw [f4]; simp [World.cell?, hF.1.hx]
  ·rw [f1, f2]; exact ⟨0, 0, hF.2.2⟩
  ·rw [f4]; simp [World.cell?, hF.1.hx]
 rw [← f7, ← f2]
 refine EndsF.phase (P := Try.prog) (Post := Post) (φ := φ) (n := n) (N := N) (Pre := Pre) (Done := Done) (An := An63 φ j H x (.func (.func jf) #[] jcap) fun w => Kept H (pbF pb Fd) w0 w ∧ SzF gr (H + 6) w) (Nx := Nx49 φ n Done (M49 φ j H x (.func (.func jf) #[] jcap) fun w => Kept H (pbF pb Fd) w0 w ∧ SzF gr (H + 6) w) (b₀.at a₀ (.inRegion ops₀ (i₀ :: rest₀) :: k₀) :: cs))
  (AnW := An49 φ (M49 φ j H x (.func (.func jf) #[] jcap) fun w => Kept H (pbF pb Fd) w0 w ∧ SzF gr (H + 6) w) (b₀.at a₀ (.inRegion ops₀ (i₀ :: rest₀) :: k₀) :: cs)) Gφ J0 ?_ ?_ hN1 hN ?_ ?_ (by omega) (Nat.le_refl _) (by rw [f6, hF.2.1]; exact Nat.le_refl _) ?_ ?_ ?_ ?_ ?_ ?_ ?_
 ·rintro g w ⟨T, rfl, _⟩; rfl
 ·exact fun g w h => an49_running h
 ·exact fun g w h => ⟨_, an63 J0 f1 sj sb sx hF2 hjob0 g w h⟩
 ·exact fun g w h => an49 Gφ J0 f1 (fun w w' r h => h.rely sj sb sx hF2 r) g w h
 ·intro w₁ h₁
  have := hm #[.int .i64 n, .int .i64 N, .func (.func jf) #[] jcap, undef, undef, .pointer (some ⟨H, 0, none⟩), .pointer (some ⟨j, 0, none⟩), .pointer (some ⟨x, 0, none⟩), .pointer (some ⟨φ.Wg, 0, none⟩), .chan (some c), .chan (some e), .int .i64 N, .int .i64 0, undef, undef, undef, undef, undef, undef, undef, undef, undef] w₁ (by simp) (by simp) (by simp) (by simp) (by simp) (by simp) (by simp) (by simp) (hM0.rely sj sb sx hF2 (Frm.of_at h₁))
  exact spawns_of this
 ·rw [f1, f2]; exact hF.2.2
 ·rw [f3]; exact ⟨0, 0, hF.1.hc⟩
 ·rw [f4]; exact ⟨0, 0, hF.1.he⟩
 ·intro fd e; rw [f8] at e; exact ⟨0, 0, (hF.1.below.block fd (hFd fd e).1).trans (hFd fd e).2.2⟩
 ·exact fun k hk => J0.pre k w0 wd (fun b hb => cell_block (hF.1.below.block b (by rw [f5] at hb; exact hpH b hb)) k) (hpre k hk)
 ·rintro a' w' ⟨⟨T, hT, rfl⟩, hK, hD⟩ _
  have hE := hnext φ (fun l => φ.Shun l ∨ ShN φ.Wg l) w' hFr (fun l hl => hl.imp (fun h => by rw [f7] at h; exact h) (fun ⟨a, e1, e2⟩ => ⟨a, e1, by omega⟩)) hK.wk.f.1 hK.wk.f.2 hD
  clear hK hD hm
  simp only [ops49, Try.f49]
  have rlE : ∀ {w w₁ : World}, EndsF Try.prog Post (fun l => φ.Shun l ∨ ShN φ.Wg l) w'.heap.size (Go.Conc.G (b₀.at (a₀.put ((ops₀[i₀]?).bind (·.dst)) (.tuple #[])) (.inRegion ops₀ rest₀ :: k₀)) cs) w → AtRel w w₁ → EndsF Try.prog Post (fun l => φ.Shun l ∨ ShN φ.Wg l) w'.heap.size (Go.Conc.G (b₀.at (a₀.put ((ops₀[i₀]?).bind (·.dst)) (.tuple #[])) (.inRegion ops₀ rest₀ :: k₀)) cs) w₁ := fun h r => h.rely r
  refine EndsF.step rfl (fun _ h₁ => ?_)
  replace hE := rlE hE h₁
  clear h₁
  rw [stepG_region_end]
  simp only [goes_go]
  refine ⟨de_nil, ?_⟩
  refine EndsF.step rfl (fun _ h₁ => ?_)
  replace hE := rlE hE h₁
  clear h₁
  rw [stepG_end]
  simp only [goes_go]
  refine ⟨de_nil, ?_⟩
  refine EndsF.step rfl (fun _ h₁ => ?_)
  replace hE := rlE hE h₁
  clear h₁
  refine goes_leave0 rfl rfl Try.func49 rfl ⟨de_nil, ?_⟩
  walk_nrm
  exact hE
theorem spread_ends (hH : w0.heap.size = H) (hn : n < 9223372036854775808) (hN1 : 1 ≤ N) (hN : N < 2147483648) (hSc : ∀ a : Addr, H ≤ a.block → ¬ Shun (.cell a)) (hSo : ∀ r, ¬ Shun (.obj r)) (hpS : ∀ a : Addr, pb a.block → ¬ Shun (.cell a)) (hpH : ∀ b, pb b → b < H)
  (J : ∀ φ, φ.pb = pb → Jobs φ n Pre Done) (hpre : ∀ k, k < n → Pre k w0)
  (hFd : ∀ fd, Fd = some fd → fd < H ∧ ¬ pb fd ∧ w0.heap[fd]? = some (.chan n #[] false 0 0 false))
  (hjob : ∀ φ Bj Bb Be, FreshX H pb Fd p Shun φ → H ≤ Bj → H ≤ Bb → H ≤ Be → Still φ Bj → Still φ Bb → Still φ Be → JobK φ n Pre Done Bj Bb Be jf jcap fun w => Kept H (pbF pb Fd) w0 w ∧ w.heap.size = H + 6)
  (hnext : ∀ φ Shun' w', FreshX H pb Fd p Shun φ → Shy2 Shun Shun' (H + 5) → Kept H (pbF pb Fd) w0 w' → w'.heap.size = H + 6 → Fin φ n Done w' →
   EndsF Try.prog Post Shun' (H + 6) (Go.Conc.G (b₀.at (a₀.put ((ops₀[i₀]?).bind (·.dst)) (.tuple #[])) (.inRegion ops₀ rest₀ :: k₀)) cs) w') :
  EndsF Try.prog Post Shun H (Go.Conc.G (b49.at ⟨#[.int .i64 n, .int .i64 N, .func (.func jf) #[] jcap, undef, undef, undef, undef, undef, undef, undef, undef, undef, undef, undef, undef, undef, undef, undef, undef, undef, undef, undef], []⟩ [.code body49]) (b₀.at a₀ (.inRegion ops₀ (i₀ :: rest₀) :: k₀) :: cs)) w0 := by
 have eF : (fun w : World => Kept H (pbF pb Fd) w0 w ∧ SzF False (H + 6) w) = fun w => Kept H (pbF pb Fd) w0 w ∧ w.heap.size = H + 6 := funext fun w => by rw [szF_false]
 refine spread_endsG (gr := False) (Fd := Fd) (p := p) hH hn hN1 hN hSc hSo hpS hpH J hpre hFd (fun φ Bj Bb Be h1 h2 h3 h4 h5 h6 h7 => ?_) (fun φ Shun' w' h1 h2 h3 h4 h5 => ?_)
 ·rw [eF]; exact hjob φ Bj Bb Be h1 h2 h3 h4 h5 h6 h7
 ·have h4' := szF_false.1 h4
  rw [h4']
  exact hnext φ Shun' w' h1 h2 h3 h4' h5
end
end Go.Pool
end
section
namespace Go.Pool
open Go.Conc Go.ConcN
open Go.ConcR (stA smA rd wr mk KK WgAt wgBlock g_of_ofEvents)
section
variable {P : Program} {Post : Value → World → Prop} {Shun : Loc → Prop} {B : Nat} {g : Goroutine} {w : World}
theorem EndsF.turn (hs : g.status = .running) (h : ∀ w₁, AtRel w w₁ → ∀ (gs : Array Goroutine) (sl : Option (Nat × Nat)) (t : Trace) (q : Nat → Nat), gs[0]? = some g → Leavers P t gs q → Past Shun B t → ∃ m' ops, runT P (crowd gs w₁ sl) 0 = (.next m', ops) ∧ Ends P Post m' (t ++ ops)) : EndsF P Post Shun B g w := by
 have key : ∀ (M : Nat) (w₁ : World), AtRel w w₁ → ∀ (gs : Array Goroutine) (sl : Option (Nat × Nat)) (t : Trace) (q : Nat → Nat), sumTo gs.size q ≤ M → gs[0]? = some g → Leavers P t gs q → Past Shun B t → Ends P Post (crowd gs w₁ sl) t := by
  intro M
  induction M with
  | zero =>
   intro w₁ h₁ gs sl t q hM h0 hL hP
   have haw : ∀ g ∈ gs, awake g := by
    intro x hx
    obtain ⟨i, hi, rfl⟩ := Array.mem_iff_getElem.1 hx
    rcases Nat.eq_zero_or_pos i with rfl | hpos
    ·have : gs[0] = g := by simpa [Array.getElem?_eq_getElem hi] using h0
     rw [this]; exact awake_of (.inl hs)
    ·exact awake_of ((hL.old i _ hpos (Array.getElem?_eq_getElem hi)).status.elim .inl fun x => .inr (.inr x))
   obtain ⟨i, x, d, sl', hi, hg, hst⟩ := crowd_pick (P := P) (w := w₁) (sl := sl) haw ⟨0, g, h0, hs⟩
   rcases Nat.eq_zero_or_pos i with rfl | hpos
   ·obtain ⟨m', ops, hr, hE⟩ := h (w₁.at d) (atRel_trans _ _ _ h₁ ⟨d, rfl⟩) gs sl' t q h0 hL hP
    exact .of_run (k := 1) (m' := m') (t' := t ++ ops) (by simp only [runNT, hst, hr]) hE
   ·have hq := hL.old i x hpos hi
    have hlt : i < gs.size := (Array.getElem?_eq_some_iff.1 hi).1
    have : q i ≤ sumTo gs.size q := le_sumTo hlt
    have hq0 : q i = 0 := by omega
    rw [hq0] at hq
    rw [hq.1] at hg; cases hg
  | succ M ih =>
   intro w₁ h₁ gs sl t q hM h0 hL hP
   have haw : ∀ g ∈ gs, awake g := by
    intro x hx
    obtain ⟨i, hi, rfl⟩ := Array.mem_iff_getElem.1 hx
    rcases Nat.eq_zero_or_pos i with rfl | hpos
    ·have : gs[0] = g := by simpa [Array.getElem?_eq_getElem hi] using h0
     rw [this]; exact awake_of (.inl hs)
    ·exact awake_of ((hL.old i _ hpos (Array.getElem?_eq_getElem hi)).status.elim .inl fun x => .inr (.inr x))
   obtain ⟨i, x, d, sl', hi, hg, hst⟩ := crowd_pick (P := P) (w := w₁) (sl := sl) haw ⟨0, g, h0, hs⟩
   rcases Nat.eq_zero_or_pos i with rfl | hpos
   ·obtain ⟨m', ops, hr, hE⟩ := h (w₁.at d) (atRel_trans _ _ _ h₁ ⟨d, rfl⟩) gs sl' t q h0 hL hP
    exact .of_run (k := 1) (m' := m') (t' := t ++ ops) (by simp only [runNT, hst, hr]) hE
   ·have hq := hL.old i x hpos hi
    have hi0 : (i == 0) = false := by simp; omega
    have hlt : i < gs.size := (Array.getElem?_eq_some_iff.1 hi).1
    cases hqi : q i with
    | zero => rw [hqi] at hq; rw [hq.1] at hg; cases hg
    | succ k =>
     rw [hqi] at hq
     rcases hq with ⟨hf, _⟩ | ⟨_, g', es, hm, hstp, hq'⟩
     ·rw [hf] at hg; cases hg
     have hrunT := runT_crowd_go (P := P) (sl := sl') (i := i) hi (by rw [hi0]; exact hstp (w₁.at d))
     have hsz : ((gs.map (woken P x g' (w₁.at d))).setIfInBounds i g').size = gs.size := by simp
     have hsum : sumTo gs.size (upd q i k) + (k + 1) = sumTo gs.size q + k := by
      have := sumTo_upd q k id hlt
      simpa [hqi] using this
     have hE := ih (w₁.at d) (atRel_trans _ _ _ h₁ ⟨d, rfl⟩) ((gs.map (woken P x g' (w₁.at d))).setIfInBounds i g') sl' (t ++ MemOp.ofEvents i x.frame.fn x.frame.place es) (upd q i k) (by rw [hsz]; omega)
      (by
       have hne : i ≠ 0 := by omega
       rw [Array.getElem?_setIfInBounds_ne hne, Array.getElem?_map, h0]
       simp [woken_run hs])
      ⟨fun j y hj hy => by
       by_cases hji : i = j
       ·subst hji
        rw [Array.getElem?_setIfInBounds_self_of_lt (by simpa using hlt)] at hy
        obtain rfl := Option.some.inj hy
        rw [upd_same, Deaf_own]
        exact hq'
       ·rw [Array.getElem?_setIfInBounds_ne hji, Array.getElem?_map] at hy
        obtain ⟨z, hz, rfl⟩ := Option.map_eq_some_iff.1 hy
        have hqj := hL.old j z hj hz
        rw [woken_quitsD hqj, upd_ne q k (Ne.symm hji), Deaf_other t hji _ (fun op hop => by obtain ⟨e, _, rfl⟩ := Go.Conc.mem_ofEvents hop; rfl)]
        exact hqj, fun j hj => by
       rw [Deaf_other t (g' := i) (by simp at hj; omega) _ (fun op hop => by obtain ⟨e, _, rfl⟩ := Go.Conc.mem_ofEvents hop; rfl)]
       exact hL.above j (by simpa using hj)⟩
      (hP.mute (by omega) hm)
     exact .of_run (k := 1) (by simp only [runNT, hst, hrunT]) hE
 exact fun w₁ h₁ gs sl t q h0 hL hP => key _ w₁ h₁ gs sl t q (Nat.le_refl _) h0 hL hP
end
end Go.Pool
end
