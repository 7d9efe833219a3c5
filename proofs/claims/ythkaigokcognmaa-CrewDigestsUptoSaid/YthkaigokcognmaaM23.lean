/- A part of the proof of CrewDigestsUpto (no statement of its own): Cr11. -/
import Derived.Test.YthkaigokcognmaaM22
import Derived.Conc.AppendWalk
import Derived.OwnWalk
section
set_option linter.unusedSimpArgs false
namespace Go.Pool
open Go.Conc Go.RowKit Go.Proofs Go.ConcN Go.Conc.Lib Go.ConcR.Gen Go.ConcN.Gen
open Go.ConcR (KK wgBlock WgAt stA smA rd wr mk DC0)
theorem info3 : (Try.prog.info? 3).map (fun i => (i.zero, i.size, i.bytes)) = some (some (.int .i64 0), 1, 8) := by kernel_rfl
theorem mks (n : Nat) (hn : n * 8 ≤ 140737488355328) (w : World) : (Instr.makeSlice 43 (.int .i64 n) (.int .i64 n)).run Try.prog w = .ok (.slice (some ⟨w.heap.size, 0, none⟩) n n) (w.alloc (.cells (madeCells #[.int .i64 0] n) 3)) := by
 obtain ⟨i0, hi, hz0, hz1, hz2⟩ := info_parts info3
 have := run_make (P := Try.prog) w 43 3 i0 (.int .i64 0) Try.underlying43 hi hz0 .i64 .i64 n n (by omega) (by omega) (by rw [hz2]; omega) (by omega)
 simpa [hz1, Value.cells] using this
theorem mkse (n : Nat) (hn : n * 8 ≤ 140737488355328) (w : World) (es : Array Event) : (Instr.makeSlice 43 (.int .i64 n) (.int .i64 n)).events Try.prog w es = es := by
 obtain ⟨i0, hi, hz0, hz1, hz2⟩ := info_parts info3
 exact events_make (P := Try.prog) w 43 3 i0 (.int .i64 0) Try.underlying43 hi hz0 .i64 .i64 n n (by omega) (by omega) (by rw [hz2]; omega) (by omega) (by rw [hz2]; simp; omega) es
theorem store_slice_ev (P : Program) (w : World) (es : Array Event) (a : Addr) (m : Mode) (b : Option Addr) (l c : Nat) : (store a (.slice b l c) m).events P w es = storedEv P w es a (.slice b l c) m := events_store P w es a _ m rfl
abbrev pbM (H : Nat) (pbx : Nat → Prop) (b : Nat) : Prop := pbx b ∨ b = H + 2
structure MQ (H : Nat) (w0 : World) (sl f : Value) (n : Nat) (w : World) : Prop where
 below : Below H w0 w
 size : w.heap.size = H + 4
 hi : w.heap[H]? = some (.cells #[sl] 43)
 hf : w.heap[H + 1]? = some (.cells #[f] 46)
 out : ∃ cs, w.heap[H + 2]? = some (.cells cs 3) ∧ cs.size = n
 ho : w.heap[H + 3]? = some (.cells #[.slice (some ⟨H + 2, 0, none⟩) n n] 43)
section
variable {Post : Value → World → Prop} {Shun : Loc → Prop} {B H : Nat} {w w₁ w0 : World} {N : Int} {n : Nat} {sl f : Value} {pbx : Nat → Prop}
  {b₀ : Frame} {a₀ : Act} {ops₀ : Array Oper} {i₀ : Nat} {rest₀ : List Nat} {k₀ : List Item} {cs : List Frame}
theorem MQ.rely (h : MQ H w0 sl f n w) (r : AtRel w w₁) : MQ H w0 sl f n w₁ := by
 obtain ⟨d, rfl⟩ := r
 exact ⟨⟨h.below.os, h.below.tape, h.below.output, h.below.size, h.below.block⟩, h.size, h.hi, h.hf, h.out, h.ho⟩
theorem MQ.ci (h : MQ H w0 sl f n w) : w.cell? ⟨H, 0, none⟩ = some sl := by simp [World.cell?, h.hi]
structure M3 (H : Nat) (w0 : World) (sl f : Value) (n : Nat) (w : World) : Prop where
 below : Below H w0 w
 size : w.heap.size = H + 3
 hi : w.heap[H]? = some (.cells #[sl] 43)
 hf : w.heap[H + 1]? = some (.cells #[f] 46)
 out : w.heap[H + 2]? = some (.cells (madeCells #[.int .i64 0] n) 3)
structure M4 (H : Nat) (w0 : World) (sl f : Value) (n : Nat) (w : World) : Prop where
 below : Below H w0 w
 size : w.heap.size = H + 4
 hi : w.heap[H]? = some (.cells #[sl] 43)
 hf : w.heap[H + 1]? = some (.cells #[f] 46)
 out : w.heap[H + 2]? = some (.cells (madeCells #[.int .i64 0] n) 3)
 ho : w.heap[H + 3]? = some (.cells #[.slice none 0 0] 43)
theorem M3.rely (h : M3 H w0 sl f n w) (r : AtRel w w₁) : M3 H w0 sl f n w₁ := by
 obtain ⟨d, rfl⟩ := r
 exact ⟨⟨h.below.os, h.below.tape, h.below.output, h.below.size, h.below.block⟩, h.size, h.hi, h.hf, h.out⟩
theorem M4.rely (h : M4 H w0 sl f n w) (r : AtRel w w₁) : M4 H w0 sl f n w₁ := by
 obtain ⟨d, rfl⟩ := r
 exact ⟨⟨h.below.os, h.below.tape, h.below.output, h.below.size, h.below.block⟩, h.size, h.hi, h.hf, h.out, h.ho⟩
theorem MP.m3 (h : MP H w0 sl f w) : M3 H w0 sl f n (w.alloc (.cells (madeCells #[.int .i64 0] n) 3)) :=
 ⟨h.below.alloc (by have := h.size; omega) _, by rw [World.size_alloc, h.size], (Below.heap_alloc _ _ _ (by have := h.size; omega)).trans h.hi, (Below.heap_alloc _ _ _ (by have := h.size; omega)).trans h.hf,
  by have := heap_alloc_new w (.cells (madeCells #[.int .i64 0] n) 3); rwa [h.size] at this⟩
theorem M3.m4 (h : M3 H w0 sl f n w) : M4 H w0 sl f n (w.alloc (.cells #[.slice none 0 0] 43)) :=
 ⟨h.below.alloc (by have := h.size; omega) _, by rw [World.size_alloc, h.size], (Below.heap_alloc _ _ _ (by have := h.size; omega)).trans h.hi, (Below.heap_alloc _ _ _ (by have := h.size; omega)).trans h.hf,
  (Below.heap_alloc _ _ _ (by have := h.size; omega)).trans h.out, by have := heap_alloc_new w (.cells #[.slice none 0 0] 43); rwa [h.size] at this⟩
theorem M4.mq (h : M4 H w0 sl f n w) : MQ H w0 sl f n (w.setCell ⟨H + 3, 0, none⟩ (.slice (some ⟨H + 2, 0, none⟩) n n)) := by
 have A := aside_setCell w ⟨H + 3, 0, none⟩ (.slice (some ⟨H + 2, 0, none⟩) n n)
 refine ⟨h.below.setCell (by show H ≤ H + 3; omega) _, A.size.trans h.size, (A.block _ (by show H ≠ H + 3; omega)).trans h.hi, (A.block _ (by show H + 1 ≠ H + 3; omega)).trans h.hf, ⟨_, (A.block _ (by show H + 2 ≠ H + 3; omega)).trans h.out, size_madeCells _ _⟩, ?_⟩
 rw [heap_setCell_at h.ho]
 rfl
theorem Kept.narrow {a c : World} (h : Kept (H + 4) (pbM H pbx) a c) : Kept H pbx a c :=
 ⟨h.os, h.tape, h.output, h.size, fun b hb hp => h.block b (by omega) fun hq => hq.elim hp fun e => by omega, fun b hb hp => h.shape b (by omega) (.inl hp)⟩
theorem Kept.set {pb : Nat → Prop} {a c : World} (h : Kept H pb a c) {b : Nat} (hp : pb b) (o : Nat) (v : Value) : Kept H pb a (c.setCell ⟨b, o, none⟩ v) := by
 have A := aside_setCell c ⟨b, o, none⟩ v
 refine ⟨A.os.trans h.os, A.tape.trans h.tape, A.output.trans h.output, by rw [A.size]; exact h.size, fun b' hb hn => (A.block b' fun e => hn (by rw [e]; exact hp)).trans (h.block b' hb hn), fun b' hb hn cs ty fz hc => ?_⟩
 obtain ⟨c1, e1, s1⟩ := h.shape b' hb hn cs ty fz hc
 by_cases e : b' = b
 ·subst e; exact ⟨_, heap_setCell_at e1, by simpa using s1⟩
 ·exact ⟨c1, (A.block b' e).trans e1, s1⟩
theorem WK.set {φ : Ph} {Bj Bb Be : Nat} {fv : Value} {F : World → Prop} (h : WK φ Bj Bb Be fv F w) {b : Nat} (h1 : b ≠ Bj) (h2 : b ≠ Bb) (h2' : b ≠ Be) (h3 : b ≠ φ.Wg) (o : Nat) (v : Value) (hF : F (w.setCell ⟨b, o, none⟩ v)) : WK φ Bj Bb Be fv F (w.setCell ⟨b, o, none⟩ v) := by
 have A := aside_setCell w ⟨b, o, none⟩ v
 obtain ⟨st, sm, hl⟩ := h.live
 exact ⟨(cell_block (A.block _ (Ne.symm h1)) 0).trans h.cj, (cell_block (A.block _ (Ne.symm h2)) 0).trans h.cb, (cell_block (A.block _ (Ne.symm h2')) 0).trans h.ce, ⟨st, sm, hl.of_block (A.block _ (Ne.symm h3))⟩, hF⟩
theorem V50.set {k Bf Bi Bo Bin oin Out n ncap : Nat} {fv : Value} {x : Int} (h : V50 k Bf Bi Bo Bin oin Out n ncap fv x w) {b : Nat} (h1 : b ≠ Bf) (h2 : b ≠ Bi) (h3 : b ≠ Bo) (h4 : b ≠ Bin) (h5 : b ≠ Out) (o : Nat) (v : Value) : V50 k Bf Bi Bo Bin oin Out n ncap fv x (w.setCell ⟨b, o, none⟩ v) := by
 have A := aside_setCell w ⟨b, o, none⟩ v
 obtain ⟨cs, hc, hs⟩ := h.out
 exact ⟨(cell_block (A.block _ (Ne.symm h1)) 0).trans h.cf, (cell_block (A.block _ (Ne.symm h2)) 0).trans h.ci, (cell_block (A.block _ (Ne.symm h3)) 0).trans h.co, (cell_block (A.block _ (Ne.symm h4)) _).trans h.cx, cs, (A.block _ (Ne.symm h5)).trans hc, hs⟩
abbrev FunC (Shun : Loc → Prop) (H : Nat) (w0 : World) (n : Nat) (pbx : Nat → Prop) (X0 X1 : Nat → World → Prop) (ff : FuncId) (fcap : Array Value) (xs ys : Nat → Int) : Prop :=
 ∀ φ, Fresh (H + 4) (pbM H pbx) Shun φ → ∀ k, k < n → ∀ V : World → Prop, (∀ w w₁, V w → Frm φ (· = k) w w₁ → V w₁) → (∀ w b v, pbx b → V w → V (w.setCell ⟨b, k, none⟩ v)) → (∀ w, V w → Kept H pbx w0 w) →
  ∃ mf, ∀ w, V w → X0 k w → CallsC Try.prog false (Frm φ (· = k)) (DJ φ k) ff (#[.int .i64 (xs k)] ++ fcap) mf w fun v w' => v = .int .i64 (ys k) ∧ V w' ∧ X1 k w'
theorem ho_kept (hpH : ∀ b, pbx b → b < H) {w' : World} (h : MQ H w0 sl f n w) (hK : Kept (H + 4) (pbM H pbx) w w') : w'.cell? ⟨H + 3, 0, none⟩ = some (.slice (some ⟨H + 2, 0, none⟩) n n) := by
 rw [cell_block (hK.block (H + 3) (by omega) fun hq => hq.elim (fun x => by have := hpH _ x; omega) fun x => by omega) 0]
 simp [World.cell?, h.ho]
abbrev DoneM (H : Nat) (X1 : Nat → World → Prop) (ys : Nat → Int) (k : Nat) (w : World) : Prop := w.cell? ⟨H + 2, k, none⟩ = some (.int .i64 (ys k)) ∧ X1 k w
abbrev InM (Shun : Loc → Prop) (H : Nat) (w0 : World) (n : Nat) (pbx : Nat → Prop) (sa : Option Addr) (xs : Nat → Int) : Prop :=
 ∀ k, k < n → ∃ Bin oin, sa = some ⟨Bin, oin, none⟩ ∧ Bin < H ∧ ¬ pbx Bin ∧ (∀ a : Addr, a.block = Bin → ¬ Shun (.cell a)) ∧ w0.cell? ⟨Bin, oin + k, none⟩ = some (.int .i64 (xs k))
abbrev OnlyM (pbx : Nat → Prop) (X : Nat → World → Prop) : Prop := ∀ k w w', (∀ b, pbx b → w'.cell? ⟨b, k, none⟩ = w.cell? ⟨b, k, none⟩) → X k w → X k w'
set_option maxRecDepth 100000 in
theorem job27 {sa : Option Addr} {sc : Nat} {ff : FuncId} {fcap : Array Value} {X0 X1 : Nat → World → Prop} {xs ys : Nat → Int} (hSc : ∀ a : Addr, H ≤ a.block → ¬ Shun (.cell a)) (hpH : ∀ b, pbx b → b < H)
  (hin : InM Shun H w0 n pbx sa xs) (hX0 : OnlyM pbx X0) (hX1 : OnlyM pbx X1) (hf : FunC Shun H w0 n pbx X0 X1 ff fcap xs ys) (hQ : MQ H w0 (.slice sa n sc) (.func (.func ff) #[] fcap) n w)
  {φ : Ph} {Bj Bb Be : Nat} (hFr : Fresh (H + 4) (pbM H pbx) Shun φ) (hBj : H + 4 ≤ Bj) (hBb : H + 4 ≤ Bb) (hBe : H + 4 ≤ Be) (sj : Still φ Bj) (sb : Still φ Bb) (se : Still φ Be) :
  JobC φ n X0 (DoneM H X1 ys) Bj Bb Be 50 #[.pointer (some ⟨H + 1, 0, none⟩), .pointer (some ⟨H, 0, none⟩), .pointer (some ⟨H + 3, 0, none⟩)] (fun w' => Kept (H + 4) (pbM H pbx) w w' ∧ w'.heap.size = H + 4 + 6) := by
 intro k hk
 obtain ⟨Bin, oin, rfl, hB1, hB2, hB3, hB4⟩ := hin k hk
 have np : ∀ b, H ≤ b → b ≠ H + 2 → ¬ pbM H pbx b := fun b h1 h2 h => h.elim (fun h => by have := hpH b h; omega) h2
 have sf := Fresh.still hFr (b := H + 1) (by omega) (np _ (by omega) (by omega)) (fun a ha => hSc a (by omega))
 have si := Fresh.still hFr (b := H) (by omega) (np _ (by omega) (by omega)) (fun a ha => hSc a (by omega))
 have so := Fresh.still hFr (b := H + 3) (by omega) (np _ (by omega) (by omega)) (fun a ha => hSc a (by omega))
 have sn := Fresh.still hFr (b := Bin) (by omega) (fun h => h.elim hB2 fun e => by omega) hB3
 have hpb : φ.pb (H + 2) := by rw [hFr.pb]; exact .inr rfl
 have hwg := hFr.wg
 have hlow := hFr.low
 have v50 : ∀ w', Kept (H + 4) (pbM H pbx) w w' → V50 k (H + 1) H (H + 3) Bin oin (H + 2) n sc (.func (.func ff) #[] fcap) (xs k) w' := fun w' hK => by
  have hb : ∀ b, b < H + 4 → ¬ pbM H pbx b → ∀ o, w'.cell? ⟨b, o, none⟩ = w.cell? ⟨b, o, none⟩ := fun b h1 h2 o => cell_block (hK.block b h1 h2) o
  obtain ⟨cs, hc, hs⟩ := hQ.out
  obtain ⟨cs', hc', hs'⟩ := hK.shape (H + 2) (by omega) (.inr rfl) _ _ _ hc
  refine ⟨(hb _ (by omega) (np _ (by omega) (by omega)) 0).trans ?_, (hb _ (by omega) (np _ (by omega) (by omega)) 0).trans hQ.ci, (hb _ (by omega) (np _ (by omega) (by omega)) 0).trans ?_, (hb _ (by omega) (fun h => h.elim hB2 fun e => by omega) _).trans ((cell_block (hQ.below.block Bin hB1) _).trans hB4), cs', hc', hs'.trans hs⟩
  ·simp [World.cell?, hQ.hf]
  ·simp [World.cell?, hQ.ho]
 have hF2 : Firm φ (fun w' => Kept (H + 4) (pbM H pbx) w w' ∧ w'.heap.size = H + 4 + 6) := fun own a c r h => ⟨h.1.trans (Fresh.kept hFr r), (FreshX.still_size hFr r).trans h.2⟩
 have wset : ∀ {w'} (b : Nat) (o : Nat) (v : Value), pbM H pbx b → WK φ Bj Bb Be (.func (.func 50) #[] #[.pointer (some ⟨H + 1, 0, none⟩), .pointer (some ⟨H, 0, none⟩), .pointer (some ⟨H + 3, 0, none⟩)]) (fun w' => Kept (H + 4) (pbM H pbx) w w' ∧ w'.heap.size = H + 4 + 6) w' →
   WK φ Bj Bb Be (.func (.func 50) #[] #[.pointer (some ⟨H + 1, 0, none⟩), .pointer (some ⟨H, 0, none⟩), .pointer (some ⟨H + 3, 0, none⟩)]) (fun w' => Kept (H + 4) (pbM H pbx) w w' ∧ w'.heap.size = H + 4 + 6) (w'.setCell ⟨b, o, none⟩ v) := fun {w'} b o v hb hw => by
  have hbl : b < H + 4 := hb.elim (fun h => by have := hpH b h; omega) (fun e => by omega)
  exact hw.set (by omega) (by omega) (by omega) (by omega) o v ⟨hw.f.1.set hb o v, (aside_setCell w' ⟨b, o, none⟩ v).size.trans hw.f.2⟩
 obtain ⟨mf, hmf⟩ := hf φ hFr k hk (fun w' => V50 k (H + 1) H (H + 3) Bin oin (H + 2) n sc (.func (.func ff) #[] fcap) (xs k) w' ∧ WK φ Bj Bb Be (.func (.func 50) #[] #[.pointer (some ⟨H + 1, 0, none⟩), .pointer (some ⟨H, 0, none⟩), .pointer (some ⟨H + 3, 0, none⟩)]) (fun w' => Kept (H + 4) (pbM H pbx) w w' ∧ w'.heap.size = H + 4 + 6) w')
  (fun a c h r => ⟨h.1.rely sf si so sn hpb r, h.2.rely sj sb se hF2 r⟩) (fun a b v hb h => ⟨h.1.set (by have := hpH b hb; omega) (by have := hpH b hb; omega) (by have := hpH b hb; omega) (fun e => hB2 (e ▸ hb)) (by have := hpH b hb; omega) k v, wset b k v (.inl hb) h.2⟩)
  (fun a h => (Kept.of_below hQ.below).trans h.2.f.1.narrow)
 obtain ⟨m, hm⟩ := job50_c (φ := φ) (k := k) (Bf := H + 1) (Bi := H) (Bo := H + 3) (Bin := Bin) (oin := oin) (Out := H + 2) (n := n) (ncap := sc) (x := xs k) (y := ys k)
  (X0 := fun w' => X0 k w' ∧ WK φ Bj Bb Be (.func (.func 50) #[] #[.pointer (some ⟨H + 1, 0, none⟩), .pointer (some ⟨H, 0, none⟩), .pointer (some ⟨H + 3, 0, none⟩)]) (fun w' => Kept (H + 4) (pbM H pbx) w w' ∧ w'.heap.size = H + 4 + 6) w')
  (X1 := fun w' => X1 k w' ∧ WK φ Bj Bb Be (.func (.func 50) #[] #[.pointer (some ⟨H + 1, 0, none⟩), .pointer (some ⟨H, 0, none⟩), .pointer (some ⟨H + 3, 0, none⟩)]) (fun w' => Kept (H + 4) (pbM H pbx) w w' ∧ w'.heap.size = H + 4 + 6) w')
  (ff := ff) (first := #[]) (cap := fcap) sf si so sn hpb (by omega) hk
  (fun a c h r => ⟨hX0 k a c (fun b hb => r.own b k (by rw [hFr.pb]; exact .inl hb) rfl) h.1, h.2.rely sj sb se hF2 r⟩)
  (fun a c h r => ⟨hX1 k a c (fun b hb => r.own b k (by rw [hFr.pb]; exact .inl hb) rfl) h.1, h.2.rely sj sb se hF2 r⟩)
  (fun a v h => ⟨hX1 k a _ (fun b hb => cell_block ((aside_setCell a ⟨H + 2, k, none⟩ v).block b (by have := hpH b hb; show b ≠ H + 2; omega)) k) h.1, wset (H + 2) k v (.inr rfl) h.2⟩) (mf := mf)
  (fun a hv hx => by
   have := hmf a ⟨hv, hx.2⟩ hx.1
   simp only [List.append_toArray, Array.empty_append] at this ⊢
   exact this.mono fun v w' ⟨h1, h2, h3⟩ => ⟨h1, h2.1, h3, h2.2⟩)
 exact ⟨m, fun a hw hx => (hm a (v50 a hw.f.1) ⟨hx, hw⟩).mono fun v w' ⟨h1, h2, h3⟩ => ⟨h1, h2.2, h3, h2.1⟩⟩
set_option maxRecDepth 100000 in
set_option maxHeartbeats 4000000 in
theorem map_ends {sa : Option Addr} {sc : Nat} {ff : FuncId} {fcap : Array Value} {X0 X1 : Nat → World → Prop} {xs ys : Nat → Int} (hH : w0.heap.size = H) (hB : B ≤ H) (hn : n * 8 ≤ 140737488355328) (hSc : ∀ a : Addr, H ≤ a.block → ¬ Shun (.cell a)) (hSo : ∀ r, ¬ Shun (.obj r))
  (hN : 1 ≤ N ∧ N ≤ 64) (hpH : ∀ b, pbx b → b < H) (hpS : ∀ a : Addr, pbx a.block → ¬ Shun (.cell a))
  (hin : InM Shun H w0 n pbx sa xs) (hX0 : OnlyM pbx X0) (hX1 : OnlyM pbx X1) (hX : ∀ k, k < n → X0 k w0)
  (hf : FunC Shun H w0 n pbx X0 X1 ff fcap xs ys)
  (hnext : ∀ Shun' w', Shy2 Shun Shun' (H + 9) → Kept H pbx w0 w' → w'.heap.size = H + 10 → (∃ cs, w'.heap[H + 2]? = some (.cells cs 3) ∧ cs.size = n) → (∀ k, k < n → DoneM H X1 ys k w') →
   Back Post Shun' (H + 10) b₀ a₀ ops₀ i₀ rest₀ k₀ cs (.tuple #[.slice (some ⟨H + 2, 0, none⟩) n n, .int .i64 0]) w') :
  EndsF Try.prog Post Shun B (Go.Conc.G (b27.at ⟨#[.slice sa n sc, .int .i64 N, .func (.func ff) #[] fcap, undef, undef, undef, undef, undef, undef, undef, undef, undef, undef, undef, undef, undef, undef, undef, undef, undef, undef, undef, undef, undef, undef], []⟩ [.code body27]) (b₀.at a₀ (.inRegion ops₀ (i₀ :: rest₀) :: k₀) :: cs)) w0 := by
 refine EndsF.mono (B' := H + 4) (by omega) ?_
 obtain ⟨M, rfl⟩ : ∃ M : Nat, N = M := ⟨N.toNat, by omega⟩
 have e : (decide (1 ≤ (M : Int)) && decide ((M : Int) ≤ 64)) = true := by simpa [Bool.and_eq_true] using hN
 have hmk := mks n hn
 have hme := mkse n hn
 have hss := store_slice_ev
 simp only [body27, Try.f27, Option.getD_some]
 have hF : Below H w0 w0 ∧ w0.heap.size = H := ⟨Below.refl H w0, hH⟩
 refine EndsF.step rfl (fun _ h₁ => ?_)
 replace hF := below_rely hF h₁
 clear h₁
 rw [stepG_seq]
 simp only [goes_go]
 refine ⟨de_nil, ?_⟩
 refine EndsF.step rfl (fun _ h₁ => ?_)
 replace hF := below_rely hF h₁
 clear h₁
 rw [stepG_region]
 simp only [goes_go, List.size_toArray, List.length_cons, List.length_nil, Nat.reduceAdd, Nat.zero_add, List.range, List.range.loop]
 refine ⟨de_nil, ?_⟩
 refine EndsF.step rfl (fun w1 h₁ => ?_)
 replace hF := below_rely hF h₁
 clear h₁
 refine goes_oper_k rfl rfl (by k_ne) (fun K hK => ?_)
 go_simp
 refine hK _ _ ⟨?_, ?_⟩
 ·intro ex hex
  have hm := mem_listed hex
  simp [go_sem, *] at hm
 clear hK K
 replace hF := alloc_facts hF (.cells #[.slice sa n sc] 43)
 refine EndsF.step rfl (fun w2 h₁ => ?_)
 replace hF := one_rely hF h₁
 clear h₁
 refine goes_oper_k rfl rfl (by k_ne) (fun K hK => ?_)
 go_simp
 refine hK _ _ ⟨?_, ?_⟩
 ·intro ex hex
  have hm := mem_listed hex
  simp [go_sem, *] at hm
 clear hK K
 replace hF := mp_of (f := .func (.func ff) #[] fcap) hF
 iterate 2
  refine EndsF.step rfl (fun _ h₁ => ?_)
  replace hF := MP.rely hF h₁
  clear h₁
  refine goes_oper_k rfl rfl (by k_ne) (fun K hK => ?_)
  go_simp
  refine hK _ _ ⟨?_, ?_⟩
  ·refine de_none ?_
   intro ex hex
   have hm := mem_listed hex
   simp [go_sem, *] at hm
  clear hK K
 refine EndsF.step rfl (fun _ h₁ => ?_)
 replace hF := MP.rely hF h₁
 clear h₁
 rw [stepG_region_end]
 iterate 2
  simp only [goes_go]
  refine ⟨de_nil, ?_⟩
  refine EndsF.step rfl (fun _ h₁ => ?_)
  replace hF := MP.rely hF h₁
  clear h₁
  rw [stepG_seq]
 simp only [goes_go]
 refine ⟨de_nil, ?_⟩
 refine EndsF.step rfl (fun _ h₁ => ?_)
 replace hF := MP.rely hF h₁
 clear h₁
 rw [stepG_region]
 simp only [goes_go, List.size_toArray, List.length_cons, List.length_nil, Nat.reduceAdd, Nat.zero_add, List.range, List.range.loop]
 refine ⟨de_nil, ?_⟩
 refine EndsF.step rfl (fun _ h₁ => ?_)
 replace hF := MP.rely hF h₁
 clear h₁
 refine goes_oper_k rfl rfl (by k_ne) (fun K hK => ?_)
 go_simp
 refine hK _ _ ⟨?_, ?_⟩
 ·refine de_none ?_
  intro ex hex
  have hm := mem_listed hex
  simp [go_sem, *] at hm
 clear hK K
 refine EndsF.step rfl (fun _ h₁ => ?_)
 replace hF := MP.rely hF h₁
 clear h₁
 refine goes_call rfl rfl (by k_ne) rfl Try.func48 nm48 rfl ⟨de_nil, ?_⟩
 walk_nrmf Try.f48
 rename_i wc
 refine fine_ends (w := wc) ?_
 rw [e]
 unfold Back
 walk_nrm
 iterate 2
  refine EndsF.step rfl (fun _ h₁ => ?_)
  replace hF := MP.rely hF h₁
  clear h₁
  refine goes_oper_k rfl rfl (by k_ne) (fun K hK => ?_)
  go_simp
  refine hK _ _ ⟨?_, ?_⟩
  ·refine de_none ?_
   intro ex hex
   have hm := mem_listed hex
   simp [go_sem, *] at hm
  clear hK K
 refine EndsF.step rfl (fun _ h₁ => ?_)
 replace hF := MP.rely hF h₁
 clear h₁
 refine goes_oper_k rfl rfl (by k_ne) (fun K hK => ?_)
 have hcf := hF.cf
 go_simp
 refine hK _ _ ⟨fun ex hex => ?_, ?_⟩
 ·have hm := mem_listed hex
  simp [go_sem, *] at hm
  subst hm
  exact evL_cell _ _ (hSc _ (by show H ≤ H + 1; omega)) (by show H + 1 < H + 4; omega)
 clear hK K
 clear hcf
 have hev := evf
 have hevr := evfr
 refine EndsF.step rfl (fun _ h₁ => ?_)
 replace hF := MP.rely hF h₁
 clear h₁
 refine goes_oper_k rfl rfl (by k_ne) (fun K hK => ?_)
 go_simp
 refine hK _ _ ⟨?_, ?_⟩
 ·refine de_none ?_
  intro ex hex
  have hm := mem_listed hex
  simp [go_sem, *] at hm
 clear hK K
 try w_num
 clear hev hevr
 refine EndsF.step rfl (fun _ h₁ => ?_)
 replace hF := MP.rely hF h₁
 clear h₁
 refine goes_oper_k rfl rfl (by k_ne) (fun K hK => ?_)
 go_simp
 refine hK _ _ ⟨?_, ?_⟩
 ·refine de_none ?_
  intro ex hex
  have hm := mem_listed hex
  simp [go_sem, *] at hm
 clear hK K
 refine EndsF.step rfl (fun _ h₁ => ?_)
 replace hF := MP.rely hF h₁
 clear h₁
 rw [stepG_region_end]
 simp only [goes_go]
 refine ⟨de_nil, ?_⟩
 refine EndsF.step rfl (fun _ h₁ => ?_)
 replace hF := MP.rely hF h₁
 clear h₁
 rw [stepG_cond (t := false) rfl]
 simp only [goes_go, if_true, if_false, Bool.false_eq_true, ↓reduceIte]
 refine ⟨de_nil, ?_⟩
 refine EndsF.step rfl (fun _ h₁ => ?_)
 replace hF := MP.rely hF h₁
 clear h₁
 rw [stepG_skip]
 simp only [goes_go]
 refine ⟨de_nil, ?_⟩
 refine EndsF.step rfl (fun _ h₁ => ?_)
 replace hF := MP.rely hF h₁
 clear h₁
 rw [stepG_seq]
 simp only [goes_go]
 refine ⟨de_nil, ?_⟩
 refine EndsF.step rfl (fun _ h₁ => ?_)
 replace hF := MP.rely hF h₁
 clear h₁
 rw [stepG_region]
 simp only [goes_go, List.size_toArray, List.length_cons, List.length_nil, Nat.reduceAdd, Nat.zero_add, List.range, List.range.loop]
 refine ⟨de_nil, ?_⟩
 refine EndsF.step rfl (fun _ h₁ => ?_)
 replace hF := MP.rely hF h₁
 clear h₁
 refine goes_oper_k rfl rfl (by k_ne) (fun K hK => ?_)
 have hci := hF.ci
 go_simp
 refine hK _ _ ⟨fun ex hex => ?_, ?_⟩
 ·have hm := mem_listed hex
  simp [go_sem, *] at hm
  subst hm
  exact evL_cell _ _ (hSc _ (by show H ≤ H; omega)) (by show H < H + 4; omega)
 clear hK K
 clear hci
 refine EndsF.step rfl (fun _ h₁ => ?_)
 replace hF := MP.rely hF h₁
 clear h₁
 refine goes_oper_k rfl rfl (by k_ne) (fun K hK => ?_)
 go_simp
 refine hK _ _ ⟨?_, ?_⟩
 ·refine de_none ?_
  intro ex hex
  have hm := mem_listed hex
  simp [go_sem, *] at hm
 clear hK K
 try w_num
 refine EndsF.step rfl (fun w3 h₁ => ?_)
 replace hF := MP.rely hF h₁
 clear h₁
 have hz := hF.size
 refine goes_oper_k rfl rfl (by k_ne) (fun K hK => ?_)
 go_simp
 refine hK _ _ ⟨?_, ?_⟩
 ·intro ex hex
  have hm := mem_listed hex
  simp [go_sem, *] at hm
 clear hK K
 clear hz
 replace hF := MP.m3 (n := n) hF
 refine EndsF.step rfl (fun w4 h₁ => ?_)
 replace hF := M3.rely hF h₁
 clear h₁
 have hz := hF.size
 refine goes_oper_k rfl rfl (by k_ne) (fun K hK => ?_)
 go_simp
 refine hK _ _ ⟨?_, ?_⟩
 ·intro ex hex
  have hm := mem_listed hex
  simp [go_sem, *] at hm
 clear hK K
 clear hz
 replace hF := hF.m4
 refine EndsF.step rfl (fun w5 h₁ => ?_)
 replace hF := M4.rely hF h₁
 clear h₁
 refine goes_oper_k rfl rfl (by k_ne) (fun K hK => ?_)
 have hcell : w5.cell? ⟨H + 3, 0, none⟩ = some (.slice none 0 0) := by simp [World.cell?, hF.ho]
 have hfr : w5.frozen? ⟨H + 3, 0, none⟩ = false := by simp [World.frozen?, hF.ho]
 go_simp
 try (unfold stored; go_simp)
 refine hK _ _ ⟨?_, ?_⟩
 ·intro ex hex
  have hm := mem_listed hex
  simp [go_sem, *] at hm
  subst hm
  exact evL_cell _ _ (hSc _ (by show H ≤ H + 3; omega)) (by show H + 3 < H + 4; omega)
 clear hK K hcell hfr
 replace hF := hF.mq
 refine EndsF.step rfl (fun _ h₁ => ?_)
 replace hF := MQ.rely hF h₁
 clear h₁
 rw [stepG_region_end]
 simp only [goes_go]
 refine ⟨de_nil, ?_⟩
 refine EndsF.step rfl (fun _ h₁ => ?_)
 replace hF := MQ.rely hF h₁
 clear h₁
 rw [stepG_seq]
 simp only [goes_go]
 refine ⟨de_nil, ?_⟩
 refine EndsF.step rfl (fun _ h₁ => ?_)
 replace hF := MQ.rely hF h₁
 clear h₁
 rw [stepG_region]
 simp only [goes_go, List.size_toArray, List.length_cons, List.length_nil, Nat.reduceAdd, Nat.zero_add, List.range, List.range.loop]
 refine ⟨de_nil, ?_⟩
 refine EndsF.step rfl (fun _ h₁ => ?_)
 replace hF := MQ.rely hF h₁
 clear h₁
 refine goes_oper_k rfl rfl (by k_ne) (fun K hK => ?_)
 have hci := hF.ci
 go_simp
 refine hK _ _ ⟨fun ex hex => ?_, ?_⟩
 ·have hm := mem_listed hex
  simp [go_sem, *] at hm
  subst hm
  exact evL_cell _ _ (hSc _ (by show H ≤ H; omega)) (by show H < H + 4; omega)
 clear hK K
 clear hci
 iterate 2
  refine EndsF.step rfl (fun _ h₁ => ?_)
  replace hF := MQ.rely hF h₁
  clear h₁
  refine goes_oper_k rfl rfl (by k_ne) (fun K hK => ?_)
  go_simp
  refine hK _ _ ⟨?_, ?_⟩
  ·refine de_none ?_
   intro ex hex
   have hm := mem_listed hex
   simp [go_sem, *] at hm
  clear hK K
  try w_num
 refine EndsF.step rfl (fun _ h₁ => ?_)
 replace hF := MQ.rely hF h₁
 clear h₁
 refine goes_oper_k rfl rfl (by k_ne) (fun K hK => ?_)
 go_simp
 refine hK _ _ ⟨?_, ?_⟩
 ·refine de_none ?_
  intro ex hex
  have hm := mem_listed hex
  simp [go_sem, Instr.makeFunc] at hm
 clear hK K
 refine EndsF.step rfl (fun _ h₁ => ?_)
 replace hF := MQ.rely hF h₁
 clear h₁
 refine goes_call rfl rfl (by k_ne) rfl Try.func49 nm49 rfl ⟨de_nil, ?_⟩
 walk_nrmf Try.f49
 clear hmk hme hss
 rename_i w6
 refine spread_ends (Post := Post) (Shun := Shun) (pb := pbM H pbx) (Fd := none) (p := fun _ => False) (n := n) (N := M) (H := H + 4) (Pre := X0) (Done := DoneM H X1 ys) (jf := 50) (w0 := w6) hF.size (by omega) (by omega) (by omega) (fun a ha => hSc a (by omega)) hSo ?_ ?_ ?_ ?_ ?_ ?_ ?_
 ·rintro a (h | h)
  ·exact hpS a h
  ·exact hSc a (by omega)
 ·rintro b (h | h)
  ·have := hpH b h; omega
  ·omega
 ·exact fun φ hφ => ⟨fun k w w' h hx => hX0 k w w' (fun b hb => h b (by rw [hφ]; exact .inl hb)) hx, fun k w w' h hx => ⟨(h _ (by rw [hφ]; exact .inr rfl)).trans hx.1, hX1 k w w' (fun b hb => h b (by rw [hφ]; exact .inl hb)) hx.2⟩⟩
 ·exact fun k hk => hX0 k w0 w6 (fun b hb => cell_block (hF.below.block b (hpH b hb)) k) (hX k hk)
 ·exact fun _ e => by cases e
 ·intro φ Bj Bb Be hFr h1 h2 h3 sj sb se
  rw [pbF_none]
  exact jobK_of_jobC (fun k => by rw [hFr.p]; exact id) (job27 hSc hpH hin hX0 hX1 hf hF hFr h1 h2 h3 sj sb se)
 intro φ Shun' w' hFr hS' hK hsz hfin
 rw [pbF_none] at hK
 have hD : ∀ k, k < n → DoneM H X1 ys k w' := by
  obtain ⟨Hn, _, hq, hD, _⟩ := hfin
  have e : Hn = n := hq.resolve_right fun ⟨k, _, hp⟩ => by rw [hFr.p] at hp; exact hp
  rw [e] at hD
  exact hD
 clear hfin hFr φ
 have hE : Kept (H + 4) (pbM H pbx) w6 w' ∧ w'.heap.size = H + 10 ∧ ∀ k, k < n → DoneM H X1 ys k w' := ⟨hK, hsz, hD⟩
 clear hK hsz hD
 have rlE : ∀ {w w₁ : World}, Kept (H + 4) (pbM H pbx) w6 w ∧ w.heap.size = H + 10 ∧ (∀ k, k < n → DoneM H X1 ys k w) → AtRel w w₁ → Kept (H + 4) (pbM H pbx) w6 w₁ ∧ w₁.heap.size = H + 10 ∧ ∀ k, k < n → DoneM H X1 ys k w₁ := fun {w w₁} h r => by
  obtain ⟨d, rfl⟩ := r
  exact ⟨⟨h.1.os, h.1.tape, h.1.output, h.1.size, h.1.block, h.1.shape⟩, h.2.1, fun k hk => ⟨(h.2.2 k hk).1, hX1 k w _ (fun _ _ => rfl) (h.2.2 k hk).2⟩⟩
 walk_nrm
 refine EndsF.step rfl (fun _ h₁ => ?_)
 replace hE := rlE hE h₁
 clear h₁
 rw [stepG_region_end]
 simp only [goes_go]
 refine ⟨de_nil, ?_⟩
 refine EndsF.step rfl (fun _ h₁ => ?_)
 replace hE := rlE hE h₁
 clear h₁
 rw [stepG_seq]
 simp only [goes_go]
 refine ⟨de_nil, ?_⟩
 refine EndsF.step rfl (fun _ h₁ => ?_)
 replace hE := rlE hE h₁
 clear h₁
 rw [stepG_region]
 simp only [goes_go, List.size_toArray, List.length_cons, List.length_nil, Nat.reduceAdd, Nat.zero_add, List.range, List.range.loop]
 refine ⟨de_nil, ?_⟩
 refine EndsF.step rfl (fun _ h₁ => ?_)
 replace hE := rlE hE h₁
 clear h₁
 refine goes_oper_k rfl rfl (by k_ne) (fun K hK => ?_)
 have hco := ho_kept hpH hF hE.1
 go_simp
 refine hK _ _ ⟨fun ex hex => ?_, ?_⟩
 ·have hm := mem_listed hex
  simp [go_sem, *] at hm
  subst hm
  exact evL_cell _ _ (fun h => (hS' _ h).elim (hSc _ (by show H ≤ H + 3; omega)) (fun ⟨a, e1, e2⟩ => by cases e1; have e3 : H + 3 = H + 4 + 5 := e2; omega)) (by show H + 3 < H + 4 + 6; omega)
 clear hK K
 clear hco
 iterate 2
  refine EndsF.step rfl (fun _ h₁ => ?_)
  replace hE := rlE hE h₁
  clear h₁
  refine goes_oper_k rfl rfl (by k_ne) (fun K hK => ?_)
  go_simp
  refine hK _ _ ⟨?_, ?_⟩
  ·refine de_none ?_
   intro ex hex
   have hm := mem_listed hex
   simp [go_sem, *] at hm
  clear hK K
 refine EndsF.step rfl (fun _ h₁ => ?_)
 replace hE := rlE hE h₁
 clear h₁
 rw [stepG_region_end]
 simp only [goes_go]
 refine ⟨de_nil, ?_⟩
 refine EndsF.step rfl (fun _ h₁ => ?_)
 replace hE := rlE hE h₁
 clear h₁
 rw [stepG_ret']
 simp only [goes_go]
 refine ⟨de_nil, ?_⟩
 refine EndsF.step rfl (fun _ h₁ => ?_)
 replace hE := rlE hE h₁
 clear h₁
 refine goes_leave2 rfl rfl Try.func27 rfl ⟨de_nil, ?_⟩
 walk_nrm
 obtain ⟨cs', hc, hs⟩ := hF.out
 obtain ⟨cs2, hc2, hs2⟩ := hE.1.shape (H + 2) (by omega) (.inr rfl) _ _ _ hc
 exact hnext Shun' _ hS' ((Kept.of_below hF.below).trans hE.1.narrow) hE.2.1 ⟨cs2, hc2, hs2.trans hs⟩ hE.2.2
end
end Go.Pool
end
