/-
  FIRST 4: crew.First[int] as a whole, beside leavers.
-/
import Derived.Test.YthkaigokcognmaaFi3
import Derived.Test.YthkaigokcognmaaCr11
set_option linter.unusedSimpArgs false
namespace Go.Pool
open Go.Conc Go.RowKit Go.Proofs Go.ConcN Go.Conc.Lib Go.ConcR.Gen Go.ConcN.Gen
open Go.ConcR (KK wgBlock WgAt stA smA rd wr mk DC0)

theorem eqi47 (d : Nat) (w : World) (es : Array Event) (f : FuncId) (c : Array Value) : (Op.equalIn (d + 1) 47 (.func (.func f) #[] c) .nilFunc).events Try.prog w es = es ∧ (Op.equalIn (d + 1) 47 (.func (.func f) #[] c) .nilFunc).run Try.prog w = .ok false w := by
  constructor <;> (unfold Op.equalIn; simp [go_sem])
theorem evf47 (w : World) (es : Array Event) (f : FuncId) (c : Array Value) : (binOp .eql 47 (.func (.func f) #[] c) .nilFunc).events Try.prog w es = es := by
  have h1 := (eqi47 9999 w es f c).1
  change (Op.equalIn Op.maxDepth 47 (.func (.func f) #[] c) .nilFunc).events Try.prog w es = es at h1
  simp only [binOp, Op.equal]
  simp [go_sem, h1]
theorem evfr47 (w : World) (f : FuncId) (c : Array Value) : (binOp .eql 47 (.func (.func f) #[] c) .nilFunc).run Try.prog w = .ok (.bool false) w := by
  have h2 := (eqi47 9999 w #[] f c).2
  change (Op.equalIn Op.maxDepth 47 (.func (.func f) #[] c) .nilFunc).run Try.prog w = _ at h2
  simp only [binOp, Op.equal]
  simp [go_sem, h2]
theorem mkn (n : Nat) (hn : n * 8 ≤ 140737488355328) (w : World) : (Instr.makeChan 66 (.int .i64 n)).run Try.prog w = .ok (.chan (some w.heap.size)) (w.alloc (.chan n #[] false 0 0 false)) := by
  obtain ⟨i, hi, hb⟩ := bytes3
  exact run_makeChan (P := Try.prog) (w := w) Try.underlying66 hi .i64 n (by omega) (by rw [hb]; omega)
theorem mkne (n : Nat) (hn : n * 8 ≤ 140737488355328) (w : World) (es : Array Event) : (Instr.makeChan 66 (.int .i64 n)).events Try.prog w es = es := by
  obtain ⟨i, hi, hb⟩ := bytes3
  exact events_makeChan (P := Try.prog) (w := w) Try.underlying66 hi .i64 n (by omega) (by rw [hb]; omega) es

section
variable {Post : Value → World → Prop} {Shun : Loc → Prop} {B H : Nat} {w w₁ w0 : World} {N : Int} {n : Nat} {sl f : Value}
  {b₀ : Frame} {a₀ : Act} {ops₀ : Array Oper} {i₀ : Nat} {rest₀ : List Nat} {k₀ : List Item} {cs : List Frame}

/-- Behind makeChan; behind the variable's making; at the call of spread. -/
structure F3 (H : Nat) (w0 : World) (sl f : Value) (n : Nat) (w : World) : Prop where
  below : Below H w0 w
  size : w.heap.size = H + 3
  hi : w.heap[H]? = some (.cells #[sl] 43)
  hf : w.heap[H + 1]? = some (.cells #[f] 47)
  hc : w.heap[H + 2]? = some (.chan n #[] false 0 0 false)
structure F4 (H : Nat) (w0 : World) (sl f : Value) (n : Nat) (v : Value) (w : World) : Prop where
  below : Below H w0 w
  size : w.heap.size = H + 4
  hi : w.heap[H]? = some (.cells #[sl] 43)
  hf : w.heap[H + 1]? = some (.cells #[f] 47)
  hc : w.heap[H + 2]? = some (.chan n #[] false 0 0 false)
  hd : w.heap[H + 3]? = some (.cells #[v] 66)
theorem F3.rely (h : F3 H w0 sl f n w) (r : AtRel w w₁) : F3 H w0 sl f n w₁ := by
  obtain ⟨d, rfl⟩ := r
  exact ⟨⟨h.below.os, h.below.tape, h.below.output, h.below.size, h.below.block⟩, h.size, h.hi, h.hf, h.hc⟩
theorem F4.rely {v : Value} (h : F4 H w0 sl f n v w) (r : AtRel w w₁) : F4 H w0 sl f n v w₁ := by
  obtain ⟨d, rfl⟩ := r
  exact ⟨⟨h.below.os, h.below.tape, h.below.output, h.below.size, h.below.block⟩, h.size, h.hi, h.hf, h.hc, h.hd⟩
theorem FP.f3 (h : FP H w0 sl f w) : F3 H w0 sl f n (w.alloc (.chan n #[] false 0 0 false)) :=
  ⟨h.below.alloc (by have := h.size; omega) _, by rw [World.size_alloc, h.size], (Below.heap_alloc _ _ _ (by have := h.size; omega)).trans h.hi, (Below.heap_alloc _ _ _ (by have := h.size; omega)).trans h.hf,
    by have := heap_alloc_new w (.chan n #[] false 0 0 false); rwa [h.size] at this⟩
theorem F3.f4 (h : F3 H w0 sl f n w) (v : Value) : F4 H w0 sl f n v (w.alloc (.cells #[v] 66)) :=
  ⟨h.below.alloc (by have := h.size; omega) _, by rw [World.size_alloc, h.size], (Below.heap_alloc _ _ _ (by have := h.size; omega)).trans h.hi, (Below.heap_alloc _ _ _ (by have := h.size; omega)).trans h.hf,
    (Below.heap_alloc _ _ _ (by have := h.size; omega)).trans h.hc, by have := heap_alloc_new w (.cells #[v] 66); rwa [h.size] at this⟩
theorem F4.set {v : Value} (h : F4 H w0 sl f n v w) (v' : Value) : F4 H w0 sl f n v' (w.setCell ⟨H + 3, 0, none⟩ v') := by
  have A := aside_setCell w ⟨H + 3, 0, none⟩ v'
  refine ⟨h.below.setCell (by show H ≤ H + 3; omega) _, A.size.trans h.size, (A.block _ (by show H ≠ H + 3; omega)).trans h.hi, (A.block _ (by show H + 1 ≠ H + 3; omega)).trans h.hf, (A.block _ (by show H + 2 ≠ H + 3; omega)).trans h.hc, ?_⟩
  rw [heap_setCell_at h.hd]
  rfl
theorem F4.ci {v : Value} (h : F4 H w0 sl f n v w) : w.cell? ⟨H, 0, none⟩ = some sl := by simp [World.cell?, h.hi]
theorem F4.cf {v : Value} (h : F4 H w0 sl f n v w) : w.cell? ⟨H + 1, 0, none⟩ = some f := by simp [World.cell?, h.hf]
theorem F4.cd {v : Value} (h : F4 H w0 sl f n v w) : w.cell? ⟨H + 3, 0, none⟩ = some v := by simp [World.cell?, h.hd]

/-- What is asked of the function, beside the slice: a contract in company. -/
abbrev FunF (Shun : Loc → Prop) (H : Nat) (w0 : World) (n : Nat) (ff : FuncId) (fcap : Array Value) (xs : Nat → Int) (bs : Nat → Bool) : Prop :=
  ∀ φ p, FreshX (H + 4) (fun _ => False) (some (H + 2)) p Shun φ → ∀ F : World → Prop, (∀ w, F w → Below H w0 w) → FunP φ n F ff fcap xs bs

/-- Seen from the blocks below H. -/
theorem below_of_kept {pb : Nat → Prop} {a c : World} (h : Kept (H + 4) pb a c) (hp : ∀ b, b < H → ¬ pb b) : Below H a c := ⟨h.os, h.tape, h.output, h.size, fun b hb => h.block b (by omega) (hp b hb)⟩

/-- Behind spread. -/
structure E33 (H : Nat) (w0 : World) (sl : Value) (n : Nat) (l : List Nat) (cl : Bool) (s r : Nat) (w : World) : Prop where
  below : Below H w0 w
  size : w.heap.size = H + 10
  hi : w.heap[H]? = some (.cells #[sl] 43)
  hd : w.heap[H + 3]? = some (.cells #[.chan (some (H + 2))] 66)
  hc : w.heap[H + 2]? = some (.chan n (found l) cl s r false)
theorem E33.rely {l : List Nat} {cl : Bool} {s r : Nat} (h : E33 H w0 sl n l cl s r w) (r' : AtRel w w₁) : E33 H w0 sl n l cl s r w₁ := by
  obtain ⟨d, rfl⟩ := r'
  exact ⟨⟨h.below.os, h.below.tape, h.below.output, h.below.size, h.below.block⟩, h.size, h.hi, h.hd, h.hc⟩
theorem E33.ci {l : List Nat} {cl : Bool} {s r : Nat} (h : E33 H w0 sl n l cl s r w) : w.cell? ⟨H, 0, none⟩ = some sl := by simp [World.cell?, h.hi]
theorem E33.cd {l : List Nat} {cl : Bool} {s r : Nat} (h : E33 H w0 sl n l cl s r w) : w.cell? ⟨H + 3, 0, none⟩ = some (.chan (some (H + 2))) := by simp [World.cell?, h.hd]
theorem E33.shut {l : List Nat} {s r : Nat} (h : E33 H w0 sl n l false s r w) : E33 H w0 sl n l true s r (w.setChan (H + 2) n (found l) true s r false) := by
  have A := aside_setChan w (H + 2) n (found l) true s r false
  have hlt : H + 2 < w.heap.size := (Array.getElem?_eq_some_iff.1 h.hc).1
  refine ⟨⟨A.os.trans h.below.os, A.tape.trans h.below.tape, A.output.trans h.below.output, by rw [A.size]; exact h.below.size, fun b hb => (A.block b (by omega)).trans (h.below.block b hb)⟩, A.size.trans h.size, (A.block _ (by omega)).trans h.hi, (A.block _ (by omega)).trans h.hd, ?_⟩
  simp [World.setChan, hlt]
theorem E33.q {l : List Nat} {s r : Nat} (h : E33 H w0 sl n l true s r w) : Q33 H (H + 10) w0 sl n l s r w := ⟨h.below, h.size, h.hi, h.hc⟩

theorem de_close {Shun : Loc → Prop} {B c : Nat} {w w' : World} (hSo : ¬ Shun (.obj c)) (hc : c < B) : DE (EvL Shun B) w w' (closeEvents c) := by
  intro ev he
  simp only [closeEvents, List.mem_toArray, List.mem_cons, List.not_mem_nil, or_false] at he
  rcases he with rfl | rfl
  · refine ⟨fun x hx hs => ?_, by simp, by simp, hc⟩
    simp only [MemAct.ofEvent, MemAct.touch?, Option.some.injEq] at hx
    subst hx
    exact absurd hs hSo
  · refine ⟨fun x hx hs => ?_, by simp, by simp, hc⟩
    simp [MemAct.ofEvent, MemAct.touch?] at hx

set_option maxRecDepth 100000 in
set_option maxHeartbeats 4000000 in
/-- ████ FIRST. ████ -/
theorem first_ends {sa : Option Addr} {sc : Nat} {ff : FuncId} {fcap : Array Value} {xs : Nat → Int} {bs : Nat → Bool} {r : Nat} (hH : w0.heap.size = H) (hB : B ≤ H) (hn : n * 8 ≤ 140737488355328) (hSc : ∀ a : Addr, H ≤ a.block → ¬ Shun (.cell a)) (hSo : ∀ r, ¬ Shun (.obj r))
    (hN : 1 ≤ N ∧ N ≤ 64) (hin : InM Shun H w0 n (fun _ => False) sa xs) (hf : FunF Shun H w0 n ff fcap xs bs) (hr : ∀ r', IsFirst n bs r' → r' = r)
    (hnext : ∀ Shun' w', Shy2 Shun Shun' (H + 9) → Below H w0 w' → w'.heap.size = H + 10 →
      Back Post Shun' (H + 10) b₀ a₀ ops₀ i₀ rest₀ k₀ cs (.tuple (if r = n then #[.int .i64 0, .int .i64 3] else #[.int .i64 r, .int .i64 0])) w') :
    EndsF Try.prog Post Shun B (Go.Conc.G (b33.at ⟨#[.slice sa n sc, .int .i64 N, .func (.func ff) #[] fcap, undef, undef, undef, undef, undef, undef, undef, undef, undef, undef, undef, undef, undef, undef, undef, undef, undef, undef, undef, undef, undef, undef, undef, undef, undef, undef, undef, undef, undef, undef, undef, undef, undef, undef, undef, undef, undef, undef], []⟩ [.code body33]) (b₀.at a₀ (.inRegion ops₀ (i₀ :: rest₀) :: k₀) :: cs)) w0 := by
  refine EndsF.mono (B' := H + 4) (by omega) ?_
  obtain ⟨M, rfl⟩ : ∃ M : Nat, N = M := ⟨N.toNat, by omega⟩
  have e : (decide (1 ≤ (M : Int)) && decide ((M : Int) ≤ 64)) = true := by simpa [Bool.and_eq_true] using hN
  have hmk := mkn n hn
  have hme := mkne n hn
  simp only [body33, Try.f33, Option.getD_some]
  have hF : Below H w0 w0 ∧ w0.heap.size = H := ⟨Below.refl H w0, hH⟩
  refine EndsF.step rfl (fun _ h₁ => ?_)
  replace hF := below_rely hF h₁
  clear h₁
  rw [stepG_seq]
  simp only [goes_go]
  refine ⟨de_nil, ?_⟩
  refine EndsF.step rfl (fun _ h₁ => ?_)
  replace hF := below_rely hF h₁
  clear h₁
  rw [stepG_region]
  simp only [goes_go, List.size_toArray, List.length_cons, List.length_nil, Nat.reduceAdd, Nat.zero_add, List.range, List.range.loop]
  refine ⟨de_nil, ?_⟩
  refine EndsF.step rfl (fun w1 h₁ => ?_)
  replace hF := below_rely hF h₁
  clear h₁
  refine goes_oper_k rfl rfl (by k_ne) (fun K hK => ?_)
  go_simp
  refine hK _ _ ⟨?_, ?_⟩
  · intro ex hex
    have hm := mem_listed hex
    simp [go_sem, *] at hm
  clear hK K
  replace hF := alloc_facts hF (.cells #[.slice sa n sc] 43)
  refine EndsF.step rfl (fun w2 h₁ => ?_)
  replace hF := one_rely hF h₁
  clear h₁
  refine goes_oper_k rfl rfl (by k_ne) (fun K hK => ?_)
  go_simp
  refine hK _ _ ⟨?_, ?_⟩
  · intro ex hex
    have hm := mem_listed hex
    simp [go_sem, *] at hm
  clear hK K
  replace hF := fp_of (f := .func (.func ff) #[] fcap) hF
  refine EndsF.step rfl (fun _ h₁ => ?_)
  replace hF := FP.rely hF h₁
  clear h₁
  refine goes_oper_k rfl rfl (by k_ne) (fun K hK => ?_)
  go_simp
  refine hK _ _ ⟨?_, ?_⟩
  · refine de_none ?_
    intro ex hex
    have hm := mem_listed hex
    simp [go_sem, *] at hm
  clear hK K
  refine EndsF.step rfl (fun _ h₁ => ?_)
  replace hF := FP.rely hF h₁
  clear h₁
  refine goes_oper_k rfl rfl (by k_ne) (fun K hK => ?_)
  go_simp
  refine hK _ _ ⟨?_, ?_⟩
  · refine de_none ?_
    intro ex hex
    have hm := mem_listed hex
    simp [go_sem, *] at hm
  clear hK K
  refine EndsF.step rfl (fun _ h₁ => ?_)
  replace hF := FP.rely hF h₁
  clear h₁
  rw [stepG_region_end]
  simp only [goes_go]
  refine ⟨de_nil, ?_⟩
  refine EndsF.step rfl (fun _ h₁ => ?_)
  replace hF := FP.rely hF h₁
  clear h₁
  rw [stepG_seq]
  simp only [goes_go]
  refine ⟨de_nil, ?_⟩
  refine EndsF.step rfl (fun _ h₁ => ?_)
  replace hF := FP.rely hF h₁
  clear h₁
  rw [stepG_seq]
  simp only [goes_go]
  refine ⟨de_nil, ?_⟩
  refine EndsF.step rfl (fun _ h₁ => ?_)
  replace hF := FP.rely hF h₁
  clear h₁
  rw [stepG_region]
  simp only [goes_go, List.size_toArray, List.length_cons, List.length_nil, Nat.reduceAdd, Nat.zero_add, List.range, List.range.loop]
  refine ⟨de_nil, ?_⟩
  refine EndsF.step rfl (fun _ h₁ => ?_)
  replace hF := FP.rely hF h₁
  clear h₁
  refine goes_oper_k rfl rfl (by k_ne) (fun K hK => ?_)
  go_simp
  refine hK _ _ ⟨?_, ?_⟩
  · refine de_none ?_
    intro ex hex
    have hm := mem_listed hex
    simp [go_sem, *] at hm
  clear hK K
  refine EndsF.step rfl (fun _ h₁ => ?_)
  replace hF := FP.rely hF h₁
  clear h₁
  refine goes_call rfl rfl (by k_ne) rfl Try.func48 nm48 rfl ⟨de_nil, ?_⟩
  walk_nrmf Try.f48
  rename_i wc
  refine fine_ends (w := wc) ?_
  rw [e]
  unfold Back
  walk_nrm
  refine EndsF.step rfl (fun _ h₁ => ?_)
  replace hF := FP.rely hF h₁
  clear h₁
  refine goes_oper_k rfl rfl (by k_ne) (fun K hK => ?_)
  go_simp
  refine hK _ _ ⟨?_, ?_⟩
  · refine de_none ?_
    intro ex hex
    have hm := mem_listed hex
    simp [go_sem, *] at hm
  clear hK K
  refine EndsF.step rfl (fun _ h₁ => ?_)
  replace hF := FP.rely hF h₁
  clear h₁
  refine goes_oper_k rfl rfl (by k_ne) (fun K hK => ?_)
  go_simp
  refine hK _ _ ⟨?_, ?_⟩
  · refine de_none ?_
    intro ex hex
    have hm := mem_listed hex
    simp [go_sem, *] at hm
  clear hK K
  refine EndsF.step rfl (fun _ h₁ => ?_)
  replace hF := FP.rely hF h₁
  clear h₁
  refine goes_oper_k rfl rfl (by k_ne) (fun K hK => ?_)
  have hcf := hF.cf
  go_simp
  refine hK _ _ ⟨fun ex hex => ?_, ?_⟩
  · have hm := mem_listed hex
    simp [go_sem, *] at hm
    subst hm
    exact evL_cell _ _ (hSc _ (by show H ≤ H + 1; omega)) (by show H + 1 < H + 4; omega)
  clear hK K
  clear hcf
  have hev := evf47
  have hevr := evfr47
  refine EndsF.step rfl (fun _ h₁ => ?_)
  replace hF := FP.rely hF h₁
  clear h₁
  refine goes_oper_k rfl rfl (by k_ne) (fun K hK => ?_)
  go_simp
  refine hK _ _ ⟨?_, ?_⟩
  · refine de_none ?_
    intro ex hex
    have hm := mem_listed hex
    simp [go_sem, *] at hm
  clear hK K
  try w_num
  clear hev hevr
  refine EndsF.step rfl (fun _ h₁ => ?_)
  replace hF := FP.rely hF h₁
  clear h₁
  refine goes_oper_k rfl rfl (by k_ne) (fun K hK => ?_)
  go_simp
  refine hK _ _ ⟨?_, ?_⟩
  · refine de_none ?_
    intro ex hex
    have hm := mem_listed hex
    simp [go_sem, *] at hm
  clear hK K
  refine EndsF.step rfl (fun _ h₁ => ?_)
  replace hF := FP.rely hF h₁
  clear h₁
  rw [stepG_region_end]
  simp only [goes_go]
  refine ⟨de_nil, ?_⟩
  refine EndsF.step rfl (fun _ h₁ => ?_)
  replace hF := FP.rely hF h₁
  clear h₁
  rw [stepG_cond (t := false) rfl]
  simp only [goes_go, if_true, if_false, Bool.false_eq_true, ↓reduceIte]
  refine ⟨de_nil, ?_⟩
  refine EndsF.step rfl (fun _ h₁ => ?_)
  replace hF := FP.rely hF h₁
  clear h₁
  rw [stepG_skip]
  simp only [goes_go]
  refine ⟨de_nil, ?_⟩
  refine EndsF.step rfl (fun _ h₁ => ?_)
  replace hF := FP.rely hF h₁
  clear h₁
  rw [stepG_seq]
  simp only [goes_go]
  refine ⟨de_nil, ?_⟩
  refine EndsF.step rfl (fun _ h₁ => ?_)
  replace hF := FP.rely hF h₁
  clear h₁
  rw [stepG_region]
  simp only [goes_go, List.size_toArray, List.length_cons, List.length_nil, Nat.reduceAdd, Nat.zero_add, List.range, List.range.loop]
  refine ⟨de_nil, ?_⟩
  refine EndsF.step rfl (fun _ h₁ => ?_)
  replace hF := FP.rely hF h₁
  clear h₁
  refine goes_oper_k rfl rfl (by k_ne) (fun K hK => ?_)
  have hci := hF.ci
  go_simp
  refine hK _ _ ⟨fun ex hex => ?_, ?_⟩
  · have hm := mem_listed hex
    simp [go_sem, *] at hm
    subst hm
    exact evL_cell _ _ (hSc _ (by show H ≤ H; omega)) (by show H < H + 4; omega)
  clear hK K
  clear hci
  refine EndsF.step rfl (fun _ h₁ => ?_)
  replace hF := FP.rely hF h₁
  clear h₁
  refine goes_oper_k rfl rfl (by k_ne) (fun K hK => ?_)
  go_simp
  refine hK _ _ ⟨?_, ?_⟩
  · refine de_none ?_
    intro ex hex
    have hm := mem_listed hex
    simp [go_sem, *] at hm
  clear hK K
  try w_num
  refine EndsF.step rfl (fun w3 h₁ => ?_)
  replace hF := FP.rely hF h₁
  clear h₁
  have hz := hF.size
  refine goes_oper_k rfl rfl (by k_ne) (fun K hK => ?_)
  go_simp
  refine hK _ _ ⟨?_, ?_⟩
  · intro ex hex
    have hm := mem_listed hex
    simp [go_sem, *] at hm
  clear hK K
  clear hz
  replace hF := FP.f3 (n := n) hF
  refine EndsF.step rfl (fun w4 h₁ => ?_)
  replace hF := F3.rely hF h₁
  clear h₁
  have hz := hF.size
  refine goes_oper_k rfl rfl (by k_ne) (fun K hK => ?_)
  go_simp
  refine hK _ _ ⟨?_, ?_⟩
  · intro ex hex
    have hm := mem_listed hex
    simp [go_sem, *] at hm
  clear hK K
  clear hz
  replace hF := hF.f4 (.chan none)
  refine EndsF.step rfl (fun w5 h₁ => ?_)
  replace hF := F4.rely hF h₁
  clear h₁
  refine goes_oper_k rfl rfl (by k_ne) (fun K hK => ?_)
  have hcell := hF.cd
  have hfr : w5.frozen? ⟨H + 3, 0, none⟩ = false := by simp [World.frozen?, hF.hd]
  go_simp
  try (unfold stored; go_simp)
  refine hK _ _ ⟨?_, ?_⟩
  · intro ex hex
    have hm := mem_listed hex
    simp [go_sem, *] at hm
    subst hm
    exact evL_cell _ _ (hSc _ (by show H ≤ H + 3; omega)) (by show H + 3 < H + 4; omega)
  clear hK K hcell hfr
  replace hF := hF.set (.chan (some (H + 2)))
  refine EndsF.step rfl (fun _ h₁ => ?_)
  replace hF := F4.rely hF h₁
  clear h₁
  rw [stepG_region_end]
  simp only [goes_go]
  refine ⟨de_nil, ?_⟩
  refine EndsF.step rfl (fun _ h₁ => ?_)
  replace hF := F4.rely hF h₁
  clear h₁
  rw [stepG_seq]
  simp only [goes_go]
  refine ⟨de_nil, ?_⟩
  refine EndsF.step rfl (fun _ h₁ => ?_)
  replace hF := F4.rely hF h₁
  clear h₁
  rw [stepG_region]
  simp only [goes_go, List.size_toArray, List.length_cons, List.length_nil, Nat.reduceAdd, Nat.zero_add, List.range, List.range.loop]
  refine ⟨de_nil, ?_⟩
  refine EndsF.step rfl (fun _ h₁ => ?_)
  replace hF := F4.rely hF h₁
  clear h₁
  refine goes_oper_k rfl rfl (by k_ne) (fun K hK => ?_)
  have hci := hF.ci
  go_simp
  refine hK _ _ ⟨fun ex hex => ?_, ?_⟩
  · have hm := mem_listed hex
    simp [go_sem, *] at hm
    subst hm
    exact evL_cell _ _ (hSc _ (by show H ≤ H; omega)) (by show H < H + 4; omega)
  clear hK K
  clear hci
  refine EndsF.step rfl (fun _ h₁ => ?_)
  replace hF := F4.rely hF h₁
  clear h₁
  refine goes_oper_k rfl rfl (by k_ne) (fun K hK => ?_)
  go_simp
  refine hK _ _ ⟨?_, ?_⟩
  · refine de_none ?_
    intro ex hex
    have hm := mem_listed hex
    simp [go_sem, *] at hm
  clear hK K
  try w_num
  refine EndsF.step rfl (fun _ h₁ => ?_)
  replace hF := F4.rely hF h₁
  clear h₁
  refine goes_oper_k rfl rfl (by k_ne) (fun K hK => ?_)
  go_simp
  refine hK _ _ ⟨?_, ?_⟩
  · refine de_none ?_
    intro ex hex
    have hm := mem_listed hex
    simp [go_sem, *] at hm
  clear hK K
  try w_num
  refine EndsF.step rfl (fun _ h₁ => ?_)
  replace hF := F4.rely hF h₁
  clear h₁
  refine goes_oper_k rfl rfl (by k_ne) (fun K hK => ?_)
  go_simp
  refine hK _ _ ⟨?_, ?_⟩
  · refine de_none ?_
    intro ex hex
    have hm := mem_listed hex
    simp [go_sem, Instr.makeFunc] at hm
  clear hK K
  refine EndsF.step rfl (fun _ h₁ => ?_)
  replace hF := F4.rely hF h₁
  clear h₁
  refine goes_call rfl rfl (by k_ne) rfl Try.func49 nm49 rfl ⟨de_nil, ?_⟩
  walk_nrmf Try.f49
  clear hmk hme
  rename_i w6
  refine spread_ends (Post := Post) (Shun := Shun) (pb := fun _ => False) (Fd := some (H + 2)) (p := fun k => bs k = true) (n := n) (N := M) (H := H + 4) (Pre := fun _ _ => True) (Done := fun _ _ => True) (jf := 52) (w0 := w6) hF.size (by omega) (by omega) (by omega) (fun a ha => hSc a (by omega)) hSo (fun _ h => h.elim) (fun _ h => h.elim) (fun _ _ => ⟨fun _ _ _ _ h => h, fun _ _ _ _ h => h⟩) (fun _ _ => trivial) ?_ ?_ ?_
  · intro fd e'
    cases e'
    exact ⟨by omega, id, hF.hc⟩
  · intro φ Bj Bb Be hFr h1 h2 h3 sj sb se
    have np : ∀ b, b ≠ H + 2 → ¬ pbF (fun _ => False) (some (H + 2)) b := fun b hb h => h.elim id fun e => hb (by cases e; rfl)
    have still : ∀ b, H ≤ b → b < H + 4 → b ≠ H + 2 → Still φ b := fun b g1 g2 g3 => hFr.still (b := b) g2 id (fun e => g3 (by cases e; rfl)) (fun a ha => hSc a (by omega))
    have hF2 : Firm φ fun w => Kept (H + 4) (pbF (fun _ => False) (some (H + 2))) w6 w ∧ w.heap.size = H + 4 + 6 := fun own a c r h => ⟨FreshX.kept hFr (fun fd e => by cases e; exact ⟨_, _, _, _, _, _, hF.hc⟩) h.1 r, r.size.trans h.2⟩
    have bel : ∀ w, (Kept (H + 4) (pbF (fun _ => False) (some (H + 2))) w6 w ∧ w.heap.size = H + 4 + 6) → Below H w0 w := fun w h => hF.below.trans (below_of_kept h.1 fun b hb => np b (by omega))
    refine job52 (fd := H + 2) (Bf := H + 1) (Bi := H) (Bd := H + 3) (ff := ff) (cap := fcap) (xs := xs) (bs := bs) (ncap := sc) sj sb se (still _ (by omega) (by omega) (by omega)) (still _ (by omega) (by omega) (by omega)) (still _ (by omega) (by omega) (by omega)) hF2 hFr.fd (fun k => by rw [hFr.p]) (fun k hk => ?_) (hf φ _ hFr _ bel)
    obtain ⟨Bin, oin, rfl, hB1, _, hB3, hB4⟩ := hin k hk
    refine ⟨Bin, oin, hFr.still (b := Bin) (by omega) id (fun e => by cases e; omega) hB3, fun w' h => ?_⟩
    have hb : ∀ b, b < H + 4 → b ≠ H + 2 → ∀ o, w'.cell? ⟨b, o, none⟩ = w6.cell? ⟨b, o, none⟩ := fun b g1 g2 o => cell_block (h.1.block b g1 (np b g2)) o
    exact ⟨(hb _ (by omega) (by omega) 0).trans hF.cf, (hb _ (by omega) (by omega) 0).trans hF.ci, (hb _ (by omega) (by omega) 0).trans hF.cd, (hb _ (by omega) (by omega) _).trans ((cell_block (hF.below.block Bin hB1) _).trans hB4)⟩
  intro φ Shun' w' hFr hS' hK hsz hfin
  obtain ⟨Hn, g1, g2, _, g3⟩ := hfin
  rw [hFr.p] at g2
  obtain ⟨l, s, r', g4, g5, g6⟩ := g3 (H + 2) hFr.fd
  rw [hFr.p] at g5 g6
  have hle := hr _ (first_of g2 g1 g5 g6)
  have np : ∀ b, b ≠ H + 2 → ¬ pbF (fun _ => False) (some (H + 2)) b := fun b hb h => h.elim id fun e => hb (by cases e; rfl)
  have hE : E33 H w0 (.slice sa n sc) n l false s r' w' := ⟨hF.below.trans (below_of_kept hK fun b hb => np b (by omega)), hsz, (hK.block _ (by omega) (np _ (by omega))).trans hF.hi, (hK.block _ (by omega) (np _ (by omega))).trans hF.hd, g4⟩
  have hSc' : ∀ a : Addr, H ≤ a.block → a.block < H + 4 → ¬ Shun' (.cell a) := fun a u1 u2 h => (hS' _ h).elim (hSc a u1) fun ⟨a', e1, e2⟩ => by cases e1; omega
  have hSo' : ∀ r, ¬ Shun' (.obj r) := fun r h => (hS' _ h).elim (hSo r) fun ⟨a', e1, _⟩ => by cases e1
  clear hF hK hsz g1 g2 g3 g4 g5 g6 hFr φ
  walk_nrm
  refine EndsF.step rfl (fun _ h₁ => ?_)
  replace hE := E33.rely hE h₁
  clear h₁
  rw [stepG_region_end]
  simp only [goes_go]
  refine ⟨de_nil, ?_⟩
  refine EndsF.step rfl (fun _ h₁ => ?_)
  replace hE := E33.rely hE h₁
  clear h₁
  rw [stepG_seq]
  simp only [goes_go]
  refine ⟨de_nil, ?_⟩
  refine EndsF.step rfl (fun _ h₁ => ?_)
  replace hE := E33.rely hE h₁
  clear h₁
  rw [stepG_region]
  simp only [goes_go, List.size_toArray, List.length_cons, List.length_nil, Nat.reduceAdd, Nat.zero_add, List.range, List.range.loop]
  refine ⟨de_nil, ?_⟩
  refine EndsF.step rfl (fun _ h₁ => ?_)
  replace hE := E33.rely hE h₁
  clear h₁
  refine goes_oper_k rfl rfl (by k_ne) (fun K hK => ?_)
  have hcd := hE.cd
  go_simp
  refine hK _ _ ⟨fun ex hex => ?_, ?_⟩
  · have hm := mem_listed hex
    simp [go_sem, *] at hm
    subst hm
    exact evL_cell _ _ (hSc' _ (by show H ≤ H + 3; omega) (by show H + 3 < H + 4; omega)) (by show H + 3 < H + 4 + 6; omega)
  clear hK K
  clear hcd
  refine EndsF.step rfl (fun w7 h₁ => ?_)
  replace hE := E33.rely hE h₁
  clear h₁
  rw [stepG_close rfl (by rfl) (by k_ne) rfl (by rfl) hE.hc loud33]
  simp only [goes_go]
  refine ⟨de_close (hSo' _) (by omega), ?_⟩
  replace hE := hE.shut
  walk_nrm
  refine EndsF.step rfl (fun _ h₁ => ?_)
  replace hE := E33.rely hE h₁
  clear h₁
  rw [stepG_region_end]
  simp only [goes_go]
  refine ⟨de_nil, ?_⟩
  refine EndsF.step rfl (fun _ h₁ => ?_)
  replace hE := E33.rely hE h₁
  clear h₁
  rw [stepG_seq]
  simp only [goes_go]
  refine ⟨de_nil, ?_⟩
  refine EndsF.step rfl (fun _ h₁ => ?_)
  replace hE := E33.rely hE h₁
  clear h₁
  rw [stepG_region]
  simp only [goes_go, List.size_toArray, List.length_cons, List.length_nil, Nat.reduceAdd, Nat.zero_add, List.range, List.range.loop]
  refine ⟨de_nil, ?_⟩
  refine EndsF.step rfl (fun _ h₁ => ?_)
  replace hE := E33.rely hE h₁
  clear h₁
  refine goes_oper_k rfl rfl (by k_ne) (fun K hK => ?_)
  have hci := hE.ci
  go_simp
  refine hK _ _ ⟨fun ex hex => ?_, ?_⟩
  · have hm := mem_listed hex
    simp [go_sem, *] at hm
    subst hm
    exact evL_cell _ _ (hSc' _ (by show H ≤ H; omega) (by show H < H + 4; omega)) (by show H < H + 4 + 6; omega)
  clear hK K
  clear hci
  refine EndsF.step rfl (fun _ h₁ => ?_)
  replace hE := E33.rely hE h₁
  clear h₁
  refine goes_oper_k rfl rfl (by k_ne) (fun K hK => ?_)
  go_simp
  refine hK _ _ ⟨?_, ?_⟩
  · refine de_none ?_
    intro ex hex
    have hm := mem_listed hex
    simp [go_sem, *] at hm
  clear hK K
  try w_num
  refine EndsF.step rfl (fun _ h₁ => ?_)
  replace hE := E33.rely hE h₁
  clear h₁
  refine goes_oper_k rfl rfl (by k_ne) (fun K hK => ?_)
  go_simp
  refine hK _ _ ⟨?_, ?_⟩
  · refine de_none ?_
    intro ex hex
    have hm := mem_listed hex
    simp [go_sem, *] at hm
  clear hK K
  try w_num
  refine EndsF.step rfl (fun _ h₁ => ?_)
  replace hE := E33.rely hE h₁
  clear h₁
  rw [stepG_region_end]
  simp only [goes_go]
  refine ⟨de_nil, ?_⟩
  refine EndsF.step rfl (fun _ h₁ => ?_)
  replace hE := E33.rely hE h₁
  clear h₁
  rw [stepG_seq]
  simp only [goes_go]
  refine ⟨de_nil, ?_⟩
  refine EndsF.step rfl (fun _ h₁ => ?_)
  replace hE := E33.rely hE h₁
  clear h₁
  rw [stepG_seq]
  simp only [goes_go]
  refine ⟨de_nil, ?_⟩
  refine EndsF.step rfl (fun _ h₁ => ?_)
  replace hE := E33.rely hE h₁
  clear h₁
  rw [stepG_region]
  simp only [goes_go, List.size_toArray, List.length_cons, List.length_nil, Nat.reduceAdd, Nat.zero_add, List.range, List.range.loop]
  refine ⟨de_nil, ?_⟩
  refine EndsF.step rfl (fun _ h₁ => ?_)
  replace hE := E33.rely hE h₁
  clear h₁
  refine goes_oper_k rfl rfl (by k_ne) (fun K hK => ?_)
  have hcd := hE.cd
  go_simp
  refine hK _ _ ⟨fun ex hex => ?_, ?_⟩
  · have hm := mem_listed hex
    simp [go_sem, *] at hm
    subst hm
    exact evL_cell _ _ (hSc' _ (by show H ≤ H + 3; omega) (by show H + 3 < H + 4; omega)) (by show H + 3 < H + 4 + 6; omega)
  clear hK K
  clear hcd
  have hA := head33 (Post := Post) (Shun := Shun') (B := H + 4 + 6) (K := H + 10) (H := H) (w0 := w0) (n := n) (b₀ := b₀) (a₀ := a₀) (ops₀ := ops₀) (i₀ := i₀) (rest₀ := rest₀) (k₀ := k₀) (cs := cs) (sa := sa) (sc := sc) (fun a ha => hSc' a (by omega) (by omega)) (by omega) (by omega) r (fun w' hb hs => hnext Shun' w' hS' hb hs) l n hle
  simp only [L33, K33, tail33, Try.f33] at hA
  refine EndsF.step rfl (fun _ h₁ => ?_)
  replace hE := E33.rely hE h₁
  clear h₁
  rw [stepG_region_end]
  simp only [goes_go]
  refine ⟨de_nil, ?_⟩
  refine EndsF.step rfl (fun _ h₁ => ?_)
  replace hE := E33.rely hE h₁
  clear h₁
  rw [stepG_block]
  simp only [goes_go]
  refine ⟨de_nil, ?_⟩
  refine EndsF.step rfl (fun _ h₁ => ?_)
  replace hE := E33.rely hE h₁
  clear h₁
  rw [stepG_loop]
  simp only [goes_go]
  refine ⟨de_nil, ?_⟩
  exact hA _ _ _ _ (by simp) (by simp) (by simp) (by simp) hE.q
end
end Go.Pool
