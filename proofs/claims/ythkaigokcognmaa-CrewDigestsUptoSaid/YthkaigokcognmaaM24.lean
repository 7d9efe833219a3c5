/- A part of the proof of CrewDigestsUpto (no statement of its own): Dg5, Dg6. -/
import Derived.Test.YthkaigokcognmaaM21
import Derived.Test.YthkaigokcognmaaM23
section
set_option linter.unusedSimpArgs false
namespace Go.Pool
open Go.Conc Go.RowKit Go.Proofs Go.ConcN Go.Conc.Lib Go.ConcR.Gen Go.ConcN.Gen
open Go.ConcR (KK wgBlock WgAt stA smA rd wr mk DC0)
noncomputable def body53 : Code := Try.f53.body.getD .skip
theorem nm53 : (Try.f53.name == "runtime.NumGoroutine") = false := by kernel_rfl
def b53 : Frame := base 53
theorem eqi71 (d : Nat) (w : World) (es : Array Event) (f : FuncId) (c : Array Value) : (Op.equalIn (d + 1) 71 (.func (.func f) #[] c) .nilFunc).events Try.prog w es = es ∧ (Op.equalIn (d + 1) 71 (.func (.func f) #[] c) .nilFunc).run Try.prog w = .ok false w := by
 constructor <;> (unfold Op.equalIn; simp [go_sem])
theorem evf71 (w : World) (es : Array Event) (f : FuncId) (c : Array Value) : (binOp .eql 71 (.func (.func f) #[] c) .nilFunc).events Try.prog w es = es := by
 have h1 := (eqi71 9999 w es f c).1
 change (Op.equalIn Op.maxDepth 71 (.func (.func f) #[] c) .nilFunc).events Try.prog w es = es at h1
 simp only [binOp, Op.equal]
 simp [go_sem, h1]
theorem evfr71 (w : World) (f : FuncId) (c : Array Value) : (binOp .eql 71 (.func (.func f) #[] c) .nilFunc).run Try.prog w = .ok (.bool false) w := by
 have h2 := (eqi71 9999 w #[] f c).2
 change (Op.equalIn Op.maxDepth 71 (.func (.func f) #[] c) .nilFunc).run Try.prog w = _ at h2
 simp only [binOp, Op.equal]
 simp [go_sem, h2]
theorem info9 : (Try.prog.info? 9).map (fun i => (i.zero, i.size, i.bytes)) = some (some (.string ⟨#[]⟩), 1, 16) := by kernel_rfl
theorem mks25 (n : Nat) (hn : n ≤ 1048576) (w : World) : (Instr.makeSlice 25 (.int .i64 n) (.int .i64 n)).run Try.prog w = .ok (.slice (some ⟨w.heap.size, 0, none⟩) n n) (w.alloc (.cells (madeCells #[.string ⟨#[]⟩] n) 9)) := by
 obtain ⟨i0, hi, hz0, hz1, hz2⟩ := info_parts info9
 have := run_make (P := Try.prog) w 25 9 i0 (.string ⟨#[]⟩) Try.underlying25 hi hz0 .i64 .i64 n n (by omega) (by omega) (by rw [hz2]; omega) (by omega)
 simpa [hz1, Value.cells] using this
theorem mkse25 (n : Nat) (hn : n ≤ 1048576) (w : World) (es : Array Event) : (Instr.makeSlice 25 (.int .i64 n) (.int .i64 n)).events Try.prog w es = es := by
 obtain ⟨i0, hi, hz0, hz1, hz2⟩ := info_parts info9
 exact events_make (P := Try.prog) w 25 9 i0 (.string ⟨#[]⟩) Try.underlying25 hi hz0 .i64 .i64 n n (by omega) (by omega) (by rw [hz2]; omega) (by omega) (by rw [hz2]; simp; omega) es
structure D2 (H : Nat) (w0 : World) (sl f : Value) (w : World) : Prop where
 below : Below H w0 w
 size : w.heap.size = H + 2
 hi : w.heap[H]? = some (.cells #[sl] 67)
 hf : w.heap[H + 1]? = some (.cells #[f] 71)
structure D3 (H : Nat) (w0 : World) (sl f : Value) (n : Nat) (w : World) : Prop where
 below : Below H w0 w
 size : w.heap.size = H + 3
 hi : w.heap[H]? = some (.cells #[sl] 67)
 hf : w.heap[H + 1]? = some (.cells #[f] 71)
 out : w.heap[H + 2]? = some (.cells (madeCells #[.string ⟨#[]⟩] n) 9)
structure D4 (H : Nat) (w0 : World) (sl f : Value) (n : Nat) (w : World) : Prop where
 below : Below H w0 w
 size : w.heap.size = H + 4
 hi : w.heap[H]? = some (.cells #[sl] 67)
 hf : w.heap[H + 1]? = some (.cells #[f] 71)
 out : w.heap[H + 2]? = some (.cells (madeCells #[.string ⟨#[]⟩] n) 9)
 ho : w.heap[H + 3]? = some (.cells #[.slice none 0 0] 25)
structure DQ (H : Nat) (w0 : World) (sl f : Value) (n : Nat) (w : World) : Prop where
 below : Below H w0 w
 size : w.heap.size = H + 4
 hi : w.heap[H]? = some (.cells #[sl] 67)
 hf : w.heap[H + 1]? = some (.cells #[f] 71)
 out : ∃ cs, w.heap[H + 2]? = some (.cells cs 9) ∧ cs.size = n
 ho : w.heap[H + 3]? = some (.cells #[.slice (some ⟨H + 2, 0, none⟩) n n] 25)
section
variable {Post : Value → World → Prop} {Shun : Loc → Prop} {B H : Nat} {w w₁ w0 : World} {N : Int} {n : Nat} {sl f : Value}
  {b₀ : Frame} {a₀ : Act} {ops₀ : Array Oper} {i₀ : Nat} {rest₀ : List Nat} {k₀ : List Item} {cs : List Frame}
theorem below_at {B : Nat} {a b c : World} (h : Below B a b) (r : AtRel b c) : Below B a c := by
 obtain ⟨d, rfl⟩ := r
 exact ⟨h.os, h.tape, h.output, h.size, h.block⟩
theorem D2.rely (h : D2 H w0 sl f w) (r : AtRel w w₁) : D2 H w0 sl f w₁ := by
 have hb := below_at h.below r
 obtain ⟨d, rfl⟩ := r
 exact ⟨hb, h.size, h.hi, h.hf⟩
theorem D3.rely (h : D3 H w0 sl f n w) (r : AtRel w w₁) : D3 H w0 sl f n w₁ := by
 have hb := below_at h.below r
 obtain ⟨d, rfl⟩ := r
 exact ⟨hb, h.size, h.hi, h.hf, h.out⟩
theorem D4.rely (h : D4 H w0 sl f n w) (r : AtRel w w₁) : D4 H w0 sl f n w₁ := by
 have hb := below_at h.below r
 obtain ⟨d, rfl⟩ := r
 exact ⟨hb, h.size, h.hi, h.hf, h.out, h.ho⟩
theorem DQ.rely (h : DQ H w0 sl f n w) (r : AtRel w w₁) : DQ H w0 sl f n w₁ := by
 have hb := below_at h.below r
 obtain ⟨d, rfl⟩ := r
 exact ⟨hb, h.size, h.hi, h.hf, h.out, h.ho⟩
theorem D2.ci (h : D2 H w0 sl f w) : w.cell? ⟨H, 0, none⟩ = some sl := by simp [World.cell?, h.hi]
theorem D2.cf (h : D2 H w0 sl f w) : w.cell? ⟨H + 1, 0, none⟩ = some f := by simp [World.cell?, h.hf]
theorem DQ.ci (h : DQ H w0 sl f n w) : w.cell? ⟨H, 0, none⟩ = some sl := by simp [World.cell?, h.hi]
theorem d2_of (h : Below H w0 w ∧ w.heap.size = H + 1 ∧ w.heap[H]? = some (.cells #[sl] 67)) : D2 H w0 sl f (w.alloc (.cells #[f] 71)) :=
 ⟨h.1.alloc (by omega) _, by rw [World.size_alloc, h.2.1], (Below.heap_alloc _ _ _ (by omega)).trans h.2.2, by have := heap_alloc_new w (.cells #[f] 71); rwa [h.2.1] at this⟩
theorem D2.d3 (h : D2 H w0 sl f w) : D3 H w0 sl f n (w.alloc (.cells (madeCells #[.string ⟨#[]⟩] n) 9)) :=
 ⟨h.below.alloc (by have := h.size; omega) _, by rw [World.size_alloc, h.size], (Below.heap_alloc _ _ _ (by have := h.size; omega)).trans h.hi, (Below.heap_alloc _ _ _ (by have := h.size; omega)).trans h.hf,
  by have := heap_alloc_new w (.cells (madeCells #[.string ⟨#[]⟩] n) 9); rwa [h.size] at this⟩
theorem D3.d4 (h : D3 H w0 sl f n w) : D4 H w0 sl f n (w.alloc (.cells #[.slice none 0 0] 25)) :=
 ⟨h.below.alloc (by have := h.size; omega) _, by rw [World.size_alloc, h.size], (Below.heap_alloc _ _ _ (by have := h.size; omega)).trans h.hi, (Below.heap_alloc _ _ _ (by have := h.size; omega)).trans h.hf,
  (Below.heap_alloc _ _ _ (by have := h.size; omega)).trans h.out, by have := heap_alloc_new w (.cells #[.slice none 0 0] 25); rwa [h.size] at this⟩
theorem D4.dq (h : D4 H w0 sl f n w) : DQ H w0 sl f n (w.setCell ⟨H + 3, 0, none⟩ (.slice (some ⟨H + 2, 0, none⟩) n n)) := by
 have A := aside_setCell w ⟨H + 3, 0, none⟩ (.slice (some ⟨H + 2, 0, none⟩) n n)
 refine ⟨h.below.setCell (by show H ≤ H + 3; omega) _, A.size.trans h.size, (A.block _ (by show H ≠ H + 3; omega)).trans h.hi, (A.block _ (by show H + 1 ≠ H + 3; omega)).trans h.hf, ⟨_, (A.block _ (by show H + 2 ≠ H + 3; omega)).trans h.out, size_madeCells _ _⟩, ?_⟩
 rw [heap_setCell_at h.ho]
 rfl
abbrev pbD (H : Nat) (b : Nat) : Prop := b = H + 2
theorem Kept.below {pb : Nat → Prop} {a b c : World} (h : Kept H pb a b) {B : Nat} (hB : H ≤ B) (r : Below B b c) : Kept H pb a c :=
 ⟨r.os.trans h.os, r.tape.trans h.tape, r.output.trans h.output, Nat.le_trans h.size r.size, fun x hx hp => (r.block x (by omega)).trans (h.block x hx hp), fun x hx hp cs ty fz hc => let ⟨c1, e1, s1⟩ := h.shape x hx hp cs ty fz hc; ⟨c1, (r.block x (by omega)).trans e1, s1⟩⟩
theorem WK.below {φ : Ph} {Bj Bb Be : Nat} {fv : Value} {F : World → Prop} (hj : Still φ Bj) (hb : Still φ Bb) (he : Still φ Be) (hW : φ.Wg < φ.B) (hF : F w → F w₁) (h : WK φ Bj Bb Be fv F w) (r : Below φ.B w w₁) : WK φ Bj Bb Be fv F w₁ := by
 have e : ∀ b o, b < φ.B → w₁.cell? ⟨b, o, none⟩ = w.cell? ⟨b, o, none⟩ := fun b o hb => cell_block (r.block b hb) o
 obtain ⟨st, sm, hl⟩ := h.live
 exact ⟨(e _ _ hj.low).trans h.cj, (e _ _ hb.low).trans h.cb, (e _ _ he.low).trans h.ce, ⟨st, sm, hl.of_block (r.block _ hW)⟩, hF h.f⟩
abbrev InD (Shun : Loc → Prop) (H : Nat) (w0 : World) (n : Nat) (sa : Option Addr) (ss ts : Nat → ByteArray) : Prop :=
 ∀ k, k < n → ∃ Bin oin, sa = some ⟨Bin, oin, none⟩ ∧ Bin < H ∧ (∀ a : Addr, a.block = Bin → ¬ Shun (.cell a)) ∧ w0.cell? ⟨Bin, oin + k * 2, none⟩ = some (.string (ss k)) ∧ w0.cell? ⟨Bin, oin + k * 2 + 1, none⟩ = some (.string (ts k))
abbrev DoneD (H : Nat) (ys : Nat → ByteArray) (k : Nat) (w : World) : Prop := w.cell? ⟨H + 2, k, none⟩ = some (.string (ys k))
set_option maxRecDepth 100000 in
set_option maxHeartbeats 4000000 in
theorem job53 {sa : Option Addr} {sc : Nat} {ss ts ys : Nat → ByteArray} (hSc : ∀ a : Addr, H ≤ a.block → ¬ Shun (.cell a))
  (hin : InD Shun H w0 n sa ss ts) (hcall : ∀ k, k < n → ∀ w, Calls Try.prog 54 #[.agg #[.string (ss k), .string (ts k)]] w fun e _ => e = .returned (.string (ys k))) (hQ : DQ H w0 (.slice sa n sc) (.func (.func 54) #[] #[]) n w)
  {φ : Ph} {Bj Bb Be : Nat} (hFr : FreshG (H + 4) (pbD H) none (fun _ => False) Shun True φ) (hBj : H + 4 ≤ Bj) (hBb : H + 4 ≤ Bb) (hBe : H + 4 ≤ Be) (sj : Still φ Bj) (sb : Still φ Bb) (se : Still φ Be) :
  JobK φ n (fun _ _ => True) (DoneD H ys) Bj Bb Be 67 #[.pointer (some ⟨H + 1, 0, none⟩), .pointer (some ⟨H, 0, none⟩), .pointer (some ⟨H + 3, 0, none⟩)] (fun w' => Kept (H + 4) (pbD H) w w' ∧ SzF True (H + 4 + 6) w') := by
 intro k hk b a ops i rest o x args ats kk cs ho hw hke hop hx hargs h1 _ w1 hF _
 obtain ⟨Bin, oin, rfl, hB1, hB3, hB4, hB5⟩ := hin k hk
 have np : ∀ b, b ≠ H + 2 → ¬ pbD H b := fun b h => h
 have sf := FreshG.still hFr (b := H + 1) (by omega) (np _ (by omega)) (by simp) (fun a ha => hSc a (by omega))
 have si := FreshG.still hFr (b := H) (by omega) (np _ (by omega)) (by simp) (fun a ha => hSc a (by omega))
 have so := FreshG.still hFr (b := H + 3) (by omega) (np _ (by omega)) (by simp) (fun a ha => hSc a (by omega))
 have sn := FreshG.still hFr (b := Bin) (by omega) (np _ (by omega)) (by simp) hB3
 have hpb : φ.pb (H + 2) := by rw [hFr.pb]
 have hpbB : ∀ b, φ.pb b → b < φ.B := fun b hb => by rw [hFr.pb] at hb; have : b = H + 2 := hb; have := hFr.low; omega
 have hwg := hFr.wg
 have hlow := hFr.low
 have htop := hFr.top
 have hgr : φ.gr := by rw [hFr.gr]; trivial
 have hWgB := hFr.wgB
 obtain ⟨fvj, hfvj⟩ : ∃ v, v = Value.func (.func 67) #[] #[.pointer (some ⟨H + 1, 0, none⟩), .pointer (some ⟨H, 0, none⟩), .pointer (some ⟨H + 3, 0, none⟩)] := ⟨_, rfl⟩
 simp only [← hfvj] at hF h1 ⊢
 have hF2 : Firm φ (fun w' => Kept (H + 4) (pbD H) w w' ∧ SzF True (H + 4 + 6) w') := fun own a c r h => ⟨by
  have h2 : Kept (H + 4) (pbF (pbD H) none) w a := by rw [pbF_none]; exact h.1
  have := FreshG.kept hFr (fun _ e => by cases e) h2 r
  rw [pbF_none] at this
  exact this, h.2.frm hFr.gr r⟩
 have hX : ∀ {own : Nat → Prop} a c, WK φ Bj Bb Be fvj (fun w' => Kept (H + 4) (pbD H) w w' ∧ SzF True (H + 4 + 6) w') a → Frm φ own a c → WK φ Bj Bb Be fvj (fun w' => Kept (H + 4) (pbD H) w w' ∧ SzF True (H + 4 + 6) w') c := fun a c h r => h.rely sj sb se hF2 r
 have hXb : ∀ a c, WK φ Bj Bb Be fvj (fun w' => Kept (H + 4) (pbD H) w w' ∧ SzF True (H + 4 + 6) w') a → Below φ.B a c → WK φ Bj Bb Be fvj (fun w' => Kept (H + 4) (pbD H) w w' ∧ SzF True (H + 4 + 6) w') c := fun a c h r =>
  WK.below sj sb se hWgB (fun g => ⟨g.1.below (by omega) r, Nat.le_trans g.2.1 r.size, fun x => absurd trivial x⟩) h r
 have hXs : ∀ a v, WK φ Bj Bb Be fvj (fun w' => Kept (H + 4) (pbD H) w w' ∧ SzF True (H + 4 + 6) w') a → WK φ Bj Bb Be fvj (fun w' => Kept (H + 4) (pbD H) w w' ∧ SzF True (H + 4 + 6) w') (a.setCell ⟨H + 2, k, none⟩ v) := fun a v h =>
  h.set (by omega) (by omega) (by omega) (by omega) k v ⟨h.f.1.set rfl k v, by rw [show (a.setCell ⟨H + 2, k, none⟩ v).heap.size = a.heap.size from (aside_setCell a ⟨H + 2, k, none⟩ v).size]; exact h.f.2.1, fun x => absurd trivial x⟩
 have v67 : ∀ w', Kept (H + 4) (pbD H) w w' → V67 k (H + 1) H (H + 3) Bin oin (H + 2) n sc (ss k) (ts k) w' := fun w' hK => by
  have hb : ∀ b, b < H + 4 → ¬ pbD H b → ∀ o, w'.cell? ⟨b, o, none⟩ = w.cell? ⟨b, o, none⟩ := fun b h1 h2 o => cell_block (hK.block b h1 h2) o
  obtain ⟨cs, hc, hs⟩ := hQ.out
  obtain ⟨cs', hc', hs'⟩ := hK.shape (H + 2) (by omega) rfl _ _ _ hc
  refine ⟨(hb _ (by omega) (np _ (by omega)) 0).trans ?_, (hb _ (by omega) (np _ (by omega)) 0).trans hQ.ci, (hb _ (by omega) (np _ (by omega)) 0).trans ?_, (hb _ (by omega) (np _ (by omega)) _).trans ((cell_block (hQ.below.block Bin hB1) _).trans hB4), (hb _ (by omega) (np _ (by omega)) _).trans ((cell_block (hQ.below.block Bin hB1) _).trans hB5), cs', hc', hs'.trans hs⟩
  ·simp [World.cell?, hQ.hf]
  ·simp [World.cell?, hQ.ho]
 have hreg := fun S kk cs id hend => region67 (φ := φ) (k := k) (Bf := H + 1) (Bi := H) (Bo := H + 3) (Bin := Bin) (oin := oin) (Out := H + 2) (n := n) (ncap := sc) (s := ss k) (t := ts k) (y := ys k) (X := WK φ Bj Bb Be fvj (fun w' => Kept (H + 4) (pbD H) w w' ∧ SzF True (H + 4 + 6) w')) sf si so sn hpb (by omega) hk hpbB hgr hX hXb hXs (hcall k hk) (S := S) (kk := kk) (cs := cs) (id := id) hend
 have rl : ∀ {w w₁ : World}, WK φ Bj Bb Be fvj (fun w' => Kept (H + 4) (pbD H) _ w' ∧ SzF True (H + 4 + 6) w') w → RJ φ k [] w w₁ → WK φ Bj Bb Be fvj (fun w' => Kept (H + 4) (pbD H) _ w' ∧ SzF True (H + 4 + 6) w') w₁ := fun h r => hX _ _ h r.1
 refine GoesX.step rfl (fun _ h₁ => ?_)
 replace hF := rl hF h₁
 clear h₁
 refine goes_callv (first := #[]) ho hw hke hop hx Try.func67 nm67 rfl ⟨djo_nil, ?_⟩
 rw [hargs]
 walk_nrmf Try.f67
 simp only [ops67, Try.f67, T67, gv, Bool.false_eq_true, if_false, if_true] at hreg
 refine GoesX.step rfl (fun _ h₁ => ?_)
 replace hF := rl hF h₁
 clear h₁
 rw [stepG_seq]
 simp only [goes_go]
 refine ⟨djo_nil, ?_⟩
 refine GoesX.step rfl (fun _ h₁ => ?_)
 replace hF := rl hF h₁
 clear h₁
 rw [stepG_region]
 simp only [goes_go, List.size_toArray, List.length_cons, List.length_nil, Nat.reduceAdd, Nat.zero_add, List.range, List.range.loop]
 refine ⟨djo_nil, ?_⟩
 refine GoesX.step rfl (fun _ h₁ => ?_)
 replace hF := rl hF h₁
 clear h₁
 refine goes_oper_k rfl rfl (by k_ne) (fun K hK => ?_)
 go_simp
 refine hK _ _ ⟨?_, ?_⟩
 ·refine djo_none ?_
  intro ex hex
  have hm := mem_listed hex
  simp [go_sem, *] at hm
 clear hK K
 try w_num
 refine GoesX.step rfl (fun _ h₁ => ?_)
 replace hF := rl hF h₁
 clear h₁
 rw [stepG_region_end]
 simp only [goes_go]
 refine ⟨djo_nil, ?_⟩
 refine GoesX.step rfl (fun _ h₁ => ?_)
 replace hF := rl hF h₁
 clear h₁
 rw [stepG_seq]
 simp only [goes_go]
 refine ⟨djo_nil, ?_⟩
 rename_i wr
 refine hreg _ _ _ _ (fun w4 h4 => ?_) _ ⟨v67 _ hF.f.1, hF, by have := hF.f.2.1; omega, by simp⟩
 have hF4 : WK φ Bj Bb Be fvj (fun w' => Kept (H + 4) (pbD H) w w' ∧ SzF True (H + 4 + 6) w') w4 ∧ DoneD H ys k w4 := ⟨h4.2.1, h4.2.2.2 rfl⟩
 clear h4 hF
 have rl4 : ∀ {a c : World}, WK φ Bj Bb Be fvj (fun w' => Kept (H + 4) (pbD H) w w' ∧ SzF True (H + 4 + 6) w') a ∧ DoneD H ys k a → RJ φ k [] a c → WK φ Bj Bb Be fvj (fun w' => Kept (H + 4) (pbD H) w w' ∧ SzF True (H + 4 + 6) w') c ∧ DoneD H ys k c := fun h r => ⟨hX _ _ h.1 r.1, (r.1.own (H + 2) k hpb rfl).trans h.2⟩
 refine GoesX.step rfl (fun _ h₁ => ?_)
 replace hF4 := rl4 hF4 h₁
 clear h₁
 rw [stepG_seq]
 simp only [goes_go]
 refine ⟨djo_nil, ?_⟩
 refine GoesX.step rfl (fun _ h₁ => ?_)
 replace hF4 := rl4 hF4 h₁
 clear h₁
 rw [stepG_region]
 simp only [goes_go, List.size_toArray, List.length_cons, List.length_nil, Nat.reduceAdd, Nat.zero_add, List.range, List.range.loop]
 refine ⟨djo_nil, ?_⟩
 refine GoesX.step rfl (fun _ h₁ => ?_)
 replace hF4 := rl4 hF4 h₁
 clear h₁
 refine goes_oper_k rfl rfl (by k_ne) (fun K hK => ?_)
 go_simp
 refine hK _ _ ⟨?_, ?_⟩
 ·refine djo_none ?_
  intro ex hex
  have hm := mem_listed hex
  simp [go_sem, *] at hm
 clear hK K
 try w_num
 refine GoesX.step rfl (fun _ h₁ => ?_)
 replace hF4 := rl4 hF4 h₁
 clear h₁
 rw [stepG_region_end]
 simp only [goes_go]
 refine ⟨djo_nil, ?_⟩
 refine GoesX.step rfl (fun _ h₁ => ?_)
 replace hF4 := rl4 hF4 h₁
 clear h₁
 rw [stepG_ret']
 simp only [goes_go]
 refine ⟨djo_nil, ?_⟩
 refine GoesX.step rfl (fun _ h₁ => ?_)
 replace hF4 := rl4 hF4 h₁
 clear h₁
 refine goes_leave1 rfl rfl Try.func67 rfl ⟨djo_nil, ?_⟩
 walk_nrm
 simp only [ho, Option.bind_some]
 exact h1 [] _ hF4.1 hF4.2 (by rw [hFr.p]; exact id)
end
end Go.Pool
end
section
set_option linter.unusedSimpArgs false
namespace Go.Pool
open Go.Conc Go.RowKit Go.Proofs Go.ConcN Go.Conc.Lib Go.ConcR.Gen Go.ConcN.Gen
open Go.ConcR (KK wgBlock WgAt stA smA rd wr mk DC0)
section
variable {Post : Value → World → Prop} {Shun : Loc → Prop} {B H : Nat} {w w₁ w0 : World} {N : Int} {n : Nat} {sl f : Value}
  {b₀ : Frame} {a₀ : Act} {ops₀ : Array Oper} {i₀ : Nat} {rest₀ : List Nat} {k₀ : List Item} {cs : List Frame}
theorem ho_keptD {w' : World} (h : DQ H w0 sl f n w) (hK : Kept (H + 4) (pbD H) w w') : w'.cell? ⟨H + 3, 0, none⟩ = some (.slice (some ⟨H + 2, 0, none⟩) n n) := by
 rw [cell_block (hK.block (H + 3) (by omega) (by show H + 3 ≠ H + 2; omega)) 0]
 simp [World.cell?, h.ho]
set_option maxRecDepth 100000 in
set_option maxHeartbeats 4000000 in
theorem map53_ends {sa : Option Addr} {sc : Nat} {ss ts ys : Nat → ByteArray} (hH : w0.heap.size = H) (hB : B ≤ H) (hn : n ≤ 1048576) (hSc : ∀ a : Addr, H ≤ a.block → ¬ Shun (.cell a)) (hSo : ∀ r, ¬ Shun (.obj r))
  (hN : 1 ≤ N ∧ N ≤ 64) (hin : InD Shun H w0 n sa ss ts) (hcall : ∀ k, k < n → ∀ w, Calls Try.prog 54 #[.agg #[.string (ss k), .string (ts k)]] w fun e _ => e = .returned (.string (ys k)))
  (hnext : ∀ Shun' w', Shy2 Shun Shun' (H + 9) → Below H w0 w' → H + 10 ≤ w'.heap.size → (∀ k, k < n → DoneD H ys k w') →
   Back Post Shun' w'.heap.size b₀ a₀ ops₀ i₀ rest₀ k₀ cs (.tuple #[.slice (some ⟨H + 2, 0, none⟩) n n, .int .i64 0]) w') :
  EndsF Try.prog Post Shun B (Go.Conc.G (b53.at ⟨#[.slice sa n sc, .int .i64 N, .func (.func 54) #[] #[], undef, undef, undef, undef, undef, undef, undef, undef, undef, undef, undef, undef, undef, undef, undef, undef, undef, undef, undef, undef, undef, undef], []⟩ [.code body53]) (b₀.at a₀ (.inRegion ops₀ (i₀ :: rest₀) :: k₀) :: cs)) w0 := by
 refine EndsF.mono (B' := H + 4) (by omega) ?_
 obtain ⟨M, rfl⟩ : ∃ M : Nat, N = M := ⟨N.toNat, by omega⟩
 have e : (decide (1 ≤ (M : Int)) && decide ((M : Int) ≤ 64)) = true := by simpa [Bool.and_eq_true] using hN
 have hmk := mks25 n hn
 have hme := mkse25 n hn
 have hss := store_slice_ev
 simp only [body53, Try.f53, Option.getD_some]
 have hF : Below H w0 w0 ∧ w0.heap.size = H := ⟨Below.refl H w0, hH⟩
 refine EndsF.step rfl (fun _ h₁ => ?_)
 replace hF := below_rely hF h₁
 clear h₁
 rw [stepG_seq]
 simp only [goes_go]
 refine ⟨de_nil, ?_⟩
 refine EndsF.step rfl (fun _ h₁ => ?_)
 replace hF := below_rely hF h₁
 clear h₁
 rw [stepG_region]
 simp only [goes_go, List.size_toArray, List.length_cons, List.length_nil, Nat.reduceAdd, Nat.zero_add, List.range, List.range.loop]
 refine ⟨de_nil, ?_⟩
 refine EndsF.step rfl (fun w1 h₁ => ?_)
 replace hF := below_rely hF h₁
 clear h₁
 refine goes_oper_k rfl rfl (by k_ne) (fun K hK => ?_)
 go_simp
 refine hK _ _ ⟨?_, ?_⟩
 ·intro ex hex
  have hm := mem_listed hex
  simp [go_sem, *] at hm
 clear hK K
 replace hF := alloc_facts hF (.cells #[.slice sa n sc] 67)
 refine EndsF.step rfl (fun w2 h₁ => ?_)
 replace hF := one_rely hF h₁
 clear h₁
 refine goes_oper_k rfl rfl (by k_ne) (fun K hK => ?_)
 go_simp
 refine hK _ _ ⟨?_, ?_⟩
 ·intro ex hex
  have hm := mem_listed hex
  simp [go_sem, *] at hm
 clear hK K
 replace hF := d2_of (f := .func (.func 54) #[] #[]) hF
 iterate 2
  refine EndsF.step rfl (fun _ h₁ => ?_)
  replace hF := D2.rely hF h₁
  clear h₁
  refine goes_oper_k rfl rfl (by k_ne) (fun K hK => ?_)
  go_simp
  refine hK _ _ ⟨?_, ?_⟩
  ·refine de_none ?_
   intro ex hex
   have hm := mem_listed hex
   simp [go_sem, *] at hm
  clear hK K
 refine EndsF.step rfl (fun _ h₁ => ?_)
 replace hF := D2.rely hF h₁
 clear h₁
 rw [stepG_region_end]
 iterate 2
  simp only [goes_go]
  refine ⟨de_nil, ?_⟩
  refine EndsF.step rfl (fun _ h₁ => ?_)
  replace hF := D2.rely hF h₁
  clear h₁
  rw [stepG_seq]
 simp only [goes_go]
 refine ⟨de_nil, ?_⟩
 refine EndsF.step rfl (fun _ h₁ => ?_)
 replace hF := D2.rely hF h₁
 clear h₁
 rw [stepG_region]
 simp only [goes_go, List.size_toArray, List.length_cons, List.length_nil, Nat.reduceAdd, Nat.zero_add, List.range, List.range.loop]
 refine ⟨de_nil, ?_⟩
 refine EndsF.step rfl (fun _ h₁ => ?_)
 replace hF := D2.rely hF h₁
 clear h₁
 refine goes_oper_k rfl rfl (by k_ne) (fun K hK => ?_)
 go_simp
 refine hK _ _ ⟨?_, ?_⟩
 ·refine de_none ?_
  intro ex hex
  have hm := mem_listed hex
  simp [go_sem, *] at hm
 clear hK K
 refine EndsF.step rfl (fun _ h₁ => ?_)
 replace hF := D2.rely hF h₁
 clear h₁
 refine goes_call rfl rfl (by k_ne) rfl Try.func48 nm48 rfl ⟨de_nil, ?_⟩
 walk_nrmf Try.f48
 rename_i wc
 refine fine_ends (w := wc) ?_
 rw [e]
 unfold Back
 walk_nrm
 iterate 2
  refine EndsF.step rfl (fun _ h₁ => ?_)
  replace hF := D2.rely hF h₁
  clear h₁
  refine goes_oper_k rfl rfl (by k_ne) (fun K hK => ?_)
  go_simp
  refine hK _ _ ⟨?_, ?_⟩
  ·refine de_none ?_
   intro ex hex
   have hm := mem_listed hex
   simp [go_sem, *] at hm
  clear hK K
 refine EndsF.step rfl (fun _ h₁ => ?_)
 replace hF := D2.rely hF h₁
 clear h₁
 refine goes_oper_k rfl rfl (by k_ne) (fun K hK => ?_)
 have hcf := hF.cf
 go_simp
 refine hK _ _ ⟨fun ex hex => ?_, ?_⟩
 ·have hm := mem_listed hex
  simp [go_sem, *] at hm
  subst hm
  exact evL_cell _ _ (hSc _ (by show H ≤ H + 1; omega)) (by show H + 1 < H + 4; omega)
 clear hK K
 clear hcf
 have hev := evf71
 have hevr := evfr71
 refine EndsF.step rfl (fun _ h₁ => ?_)
 replace hF := D2.rely hF h₁
 clear h₁
 refine goes_oper_k rfl rfl (by k_ne) (fun K hK => ?_)
 go_simp
 refine hK _ _ ⟨?_, ?_⟩
 ·refine de_none ?_
  intro ex hex
  have hm := mem_listed hex
  simp [go_sem, *] at hm
 clear hK K
 try w_num
 clear hev hevr
 refine EndsF.step rfl (fun _ h₁ => ?_)
 replace hF := D2.rely hF h₁
 clear h₁
 refine goes_oper_k rfl rfl (by k_ne) (fun K hK => ?_)
 go_simp
 refine hK _ _ ⟨?_, ?_⟩
 ·refine de_none ?_
  intro ex hex
  have hm := mem_listed hex
  simp [go_sem, *] at hm
 clear hK K
 refine EndsF.step rfl (fun _ h₁ => ?_)
 replace hF := D2.rely hF h₁
 clear h₁
 rw [stepG_region_end]
 simp only [goes_go]
 refine ⟨de_nil, ?_⟩
 refine EndsF.step rfl (fun _ h₁ => ?_)
 replace hF := D2.rely hF h₁
 clear h₁
 rw [stepG_cond (t := false) rfl]
 simp only [goes_go, if_true, if_false, Bool.false_eq_true, ↓reduceIte]
 refine ⟨de_nil, ?_⟩
 refine EndsF.step rfl (fun _ h₁ => ?_)
 replace hF := D2.rely hF h₁
 clear h₁
 rw [stepG_skip]
 simp only [goes_go]
 refine ⟨de_nil, ?_⟩
 refine EndsF.step rfl (fun _ h₁ => ?_)
 replace hF := D2.rely hF h₁
 clear h₁
 rw [stepG_seq]
 simp only [goes_go]
 refine ⟨de_nil, ?_⟩
 refine EndsF.step rfl (fun _ h₁ => ?_)
 replace hF := D2.rely hF h₁
 clear h₁
 rw [stepG_region]
 simp only [goes_go, List.size_toArray, List.length_cons, List.length_nil, Nat.reduceAdd, Nat.zero_add, List.range, List.range.loop]
 refine ⟨de_nil, ?_⟩
 refine EndsF.step rfl (fun _ h₁ => ?_)
 replace hF := D2.rely hF h₁
 clear h₁
 refine goes_oper_k rfl rfl (by k_ne) (fun K hK => ?_)
 have hci := hF.ci
 go_simp
 refine hK _ _ ⟨fun ex hex => ?_, ?_⟩
 ·have hm := mem_listed hex
  simp [go_sem, *] at hm
  subst hm
  exact evL_cell _ _ (hSc _ (by show H ≤ H; omega)) (by show H < H + 4; omega)
 clear hK K
 clear hci
 refine EndsF.step rfl (fun _ h₁ => ?_)
 replace hF := D2.rely hF h₁
 clear h₁
 refine goes_oper_k rfl rfl (by k_ne) (fun K hK => ?_)
 go_simp
 refine hK _ _ ⟨?_, ?_⟩
 ·refine de_none ?_
  intro ex hex
  have hm := mem_listed hex
  simp [go_sem, *] at hm
 clear hK K
 try w_num
 refine EndsF.step rfl (fun w3 h₁ => ?_)
 replace hF := D2.rely hF h₁
 clear h₁
 have hz := hF.size
 refine goes_oper_k rfl rfl (by k_ne) (fun K hK => ?_)
 go_simp
 refine hK _ _ ⟨?_, ?_⟩
 ·intro ex hex
  have hm := mem_listed hex
  simp [go_sem, *] at hm
 clear hK K
 clear hz
 replace hF := D2.d3 (n := n) hF
 refine EndsF.step rfl (fun w4 h₁ => ?_)
 replace hF := D3.rely hF h₁
 clear h₁
 have hz := hF.size
 refine goes_oper_k rfl rfl (by k_ne) (fun K hK => ?_)
 go_simp
 refine hK _ _ ⟨?_, ?_⟩
 ·intro ex hex
  have hm := mem_listed hex
  simp [go_sem, *] at hm
 clear hK K
 clear hz
 replace hF := hF.d4
 refine EndsF.step rfl (fun w5 h₁ => ?_)
 replace hF := D4.rely hF h₁
 clear h₁
 refine goes_oper_k rfl rfl (by k_ne) (fun K hK => ?_)
 have hcell : w5.cell? ⟨H + 3, 0, none⟩ = some (.slice none 0 0) := by simp [World.cell?, hF.ho]
 have hfr : w5.frozen? ⟨H + 3, 0, none⟩ = false := by simp [World.frozen?, hF.ho]
 go_simp
 try (unfold stored; go_simp)
 refine hK _ _ ⟨?_, ?_⟩
 ·intro ex hex
  have hm := mem_listed hex
  simp [go_sem, *] at hm
  subst hm
  exact evL_cell _ _ (hSc _ (by show H ≤ H + 3; omega)) (by show H + 3 < H + 4; omega)
 clear hK K hcell hfr
 replace hF := hF.dq
 refine EndsF.step rfl (fun _ h₁ => ?_)
 replace hF := DQ.rely hF h₁
 clear h₁
 rw [stepG_region_end]
 simp only [goes_go]
 refine ⟨de_nil, ?_⟩
 refine EndsF.step rfl (fun _ h₁ => ?_)
 replace hF := DQ.rely hF h₁
 clear h₁
 rw [stepG_seq]
 simp only [goes_go]
 refine ⟨de_nil, ?_⟩
 refine EndsF.step rfl (fun _ h₁ => ?_)
 replace hF := DQ.rely hF h₁
 clear h₁
 rw [stepG_region]
 simp only [goes_go, List.size_toArray, List.length_cons, List.length_nil, Nat.reduceAdd, Nat.zero_add, List.range, List.range.loop]
 refine ⟨de_nil, ?_⟩
 refine EndsF.step rfl (fun _ h₁ => ?_)
 replace hF := DQ.rely hF h₁
 clear h₁
 refine goes_oper_k rfl rfl (by k_ne) (fun K hK => ?_)
 have hci := hF.ci
 go_simp
 refine hK _ _ ⟨fun ex hex => ?_, ?_⟩
 ·have hm := mem_listed hex
  simp [go_sem, *] at hm
  subst hm
  exact evL_cell _ _ (hSc _ (by show H ≤ H; omega)) (by show H < H + 4; omega)
 clear hK K
 clear hci
 iterate 2
  refine EndsF.step rfl (fun _ h₁ => ?_)
  replace hF := DQ.rely hF h₁
  clear h₁
  refine goes_oper_k rfl rfl (by k_ne) (fun K hK => ?_)
  go_simp
  refine hK _ _ ⟨?_, ?_⟩
  ·refine de_none ?_
   intro ex hex
   have hm := mem_listed hex
   simp [go_sem, *] at hm
  clear hK K
  try w_num
 refine EndsF.step rfl (fun _ h₁ => ?_)
 replace hF := DQ.rely hF h₁
 clear h₁
 refine goes_oper_k rfl rfl (by k_ne) (fun K hK => ?_)
 go_simp
 refine hK _ _ ⟨?_, ?_⟩
 ·refine de_none ?_
  intro ex hex
  have hm := mem_listed hex
  simp [go_sem, Instr.makeFunc] at hm
 clear hK K
 refine EndsF.step rfl (fun _ h₁ => ?_)
 replace hF := DQ.rely hF h₁
 clear h₁
 refine goes_call rfl rfl (by k_ne) rfl Try.func49 nm49 rfl ⟨de_nil, ?_⟩
 walk_nrmf Try.f49
 clear hmk hme hss
 rename_i w6
 refine spread_endsG (Post := Post) (Shun := Shun) (pb := pbD H) (Fd := none) (p := fun _ => False) (gr := True) (n := n) (N := M) (H := H + 4) (Pre := fun _ _ => True) (Done := DoneD H ys) (jf := 67) (w0 := w6) hF.size (by omega) (by omega) (by omega) (fun a ha => hSc a (by omega)) hSo ?_ ?_ ?_ ?_ ?_ ?_ ?_
 ·rintro a (h : a.block = H + 2)
  exact hSc a (by omega)
 ·rintro b (h : b = H + 2)
  omega
 ·exact fun φ hφ => ⟨fun k w w' h hx => trivial, fun k w w' h hx => (h _ (by rw [hφ])).trans hx⟩
 ·exact fun k hk => trivial
 ·exact fun _ e => by cases e
 ·intro φ Bj Bb Be hFr h1 h2 h3 sj sb se
  rw [pbF_none]
  exact job53 hSc hin hcall hF hFr h1 h2 h3 sj sb se
 intro φ Shun' w' hFr hS' hK hsz hfin
 rw [pbF_none] at hK
 have hD : ∀ k, k < n → DoneD H ys k w' := by
  obtain ⟨Hn, _, hq, hD, _⟩ := hfin
  have e : Hn = n := hq.resolve_right fun ⟨k, _, hp⟩ => by rw [hFr.p] at hp; exact hp
  rw [e] at hD
  exact hD
 clear hfin hFr φ
 obtain ⟨Z, hZ⟩ : ∃ Z, Z = w'.heap.size := ⟨_, rfl⟩
 rw [← hZ]
 have hE : Kept (H + 4) (pbD H) w6 w' ∧ w'.heap.size = Z ∧ ∀ k, k < n → DoneD H ys k w' := ⟨hK, hZ.symm, hD⟩
 have hZ10 : H + 10 ≤ Z := by have := hsz.1; omega
 clear hK hsz hD hZ
 have rlE : ∀ {w w₁ : World}, Kept (H + 4) (pbD H) w6 w ∧ w.heap.size = Z ∧ (∀ k, k < n → DoneD H ys k w) → AtRel w w₁ → Kept (H + 4) (pbD H) w6 w₁ ∧ w₁.heap.size = Z ∧ ∀ k, k < n → DoneD H ys k w₁ := fun {w w₁} h r => by
  obtain ⟨d, rfl⟩ := r
  exact ⟨⟨h.1.os, h.1.tape, h.1.output, h.1.size, h.1.block, h.1.shape⟩, h.2.1, h.2.2⟩
 walk_nrm
 refine EndsF.step rfl (fun _ h₁ => ?_)
 replace hE := rlE hE h₁
 clear h₁
 rw [stepG_region_end]
 simp only [goes_go]
 refine ⟨de_nil, ?_⟩
 refine EndsF.step rfl (fun _ h₁ => ?_)
 replace hE := rlE hE h₁
 clear h₁
 rw [stepG_seq]
 simp only [goes_go]
 refine ⟨de_nil, ?_⟩
 refine EndsF.step rfl (fun _ h₁ => ?_)
 replace hE := rlE hE h₁
 clear h₁
 rw [stepG_region]
 simp only [goes_go, List.size_toArray, List.length_cons, List.length_nil, Nat.reduceAdd, Nat.zero_add, List.range, List.range.loop]
 refine ⟨de_nil, ?_⟩
 refine EndsF.step rfl (fun _ h₁ => ?_)
 replace hE := rlE hE h₁
 clear h₁
 refine goes_oper_k rfl rfl (by k_ne) (fun K hK => ?_)
 have hco := ho_keptD hF hE.1
 go_simp
 refine hK _ _ ⟨fun ex hex => ?_, ?_⟩
 ·have hm := mem_listed hex
  simp [go_sem, *] at hm
  subst hm
  exact evL_cell _ _ (fun h => (hS' _ h).elim (hSc _ (by show H ≤ H + 3; omega)) (fun ⟨a, e1, e2⟩ => by cases e1; have e3 : H + 3 = H + 4 + 5 := e2; omega)) (by show H + 3 < Z; omega)
 clear hK K
 clear hco
 iterate 2
  refine EndsF.step rfl (fun _ h₁ => ?_)
  replace hE := rlE hE h₁
  clear h₁
  refine goes_oper_k rfl rfl (by k_ne) (fun K hK => ?_)
  go_simp
  refine hK _ _ ⟨?_, ?_⟩
  ·refine de_none ?_
   intro ex hex
   have hm := mem_listed hex
   simp [go_sem, *] at hm
  clear hK K
 refine EndsF.step rfl (fun _ h₁ => ?_)
 replace hE := rlE hE h₁
 clear h₁
 rw [stepG_region_end]
 simp only [goes_go]
 refine ⟨de_nil, ?_⟩
 refine EndsF.step rfl (fun _ h₁ => ?_)
 replace hE := rlE hE h₁
 clear h₁
 rw [stepG_ret']
 simp only [goes_go]
 refine ⟨de_nil, ?_⟩
 refine EndsF.step rfl (fun _ h₁ => ?_)
 replace hE := rlE hE h₁
 clear h₁
 refine goes_leave2 rfl rfl Try.func53 rfl ⟨de_nil, ?_⟩
 walk_nrm
 have := hnext Shun' _ hS' (hF.below.trans ⟨hE.1.os, hE.1.tape, hE.1.output, hE.1.size, fun b hb => hE.1.block b (by omega) (by show b ≠ H + 2; omega)⟩) (by rw [hE.2.1]; exact hZ10) hE.2.2
 rw [hE.2.1] at this
 exact this
end
end Go.Pool
end
