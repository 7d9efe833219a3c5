/-
  CREW 14: Map with a function of no memory, whichever the number of workers; the laws' own 'fine'; First without a function.
-/
import Derived.Test.YthkaigokcognmaaCr13
set_option linter.unusedSimpArgs false
namespace Go.Pool
open Go.Conc Go.RowKit Go.Proofs Go.ConcN Go.Conc.Lib Go.ConcR.Gen Go.ConcN.Gen
open Go.ConcR (KK wgBlock WgAt stA smA rd wr mk DC0)

/-- What more is shunned: cells of blocks made since, not the result's. -/
def Grow (Shun Shun' : Loc → Prop) (H K : Nat) : Prop := ∀ l, Shun' l → Shun l ∨ ∃ a : Addr, l = .cell a ∧ H ≤ a.block ∧ a.block < K ∧ a.block ≠ H + 2
theorem Grow.fresh {Shun Shun' : Loc → Prop} {H K : Nat} (h : Grow Shun Shun' H K) (hK : H ≤ K) (hSc : ∀ a : Addr, H ≤ a.block → ¬ Shun (.cell a)) : ∀ a : Addr, K ≤ a.block → ¬ Shun' (.cell a) := fun a ha hs =>
  (h _ hs).elim (hSc a (by omega)) fun ⟨x, e, _, h2, _⟩ => by cases e; omega
theorem Grow.obj {Shun Shun' : Loc → Prop} {H K : Nat} (h : Grow Shun Shun' H K) (hSo : ∀ r, ¬ Shun (.obj r)) : ∀ r, ¬ Shun' (.obj r) := fun r hs => (h _ hs).elim (hSo r) fun ⟨x, e, _⟩ => by cases e
theorem Grow.old {Shun Shun' : Loc → Prop} {H K : Nat} (h : Grow Shun Shun' H K) {a : Addr} (ha : a.block < H ∨ a.block = H + 2) (hs : ¬ Shun (.cell a)) : ¬ Shun' (.cell a) := fun x =>
  (h _ x).elim hs fun ⟨y, e, h1, _, h3⟩ => by cases e; omega
theorem Grow.refl {Shun : Loc → Prop} {H K : Nat} : Grow Shun Shun H K := fun _ h => .inl h

noncomputable def body29 : Code := Try.f29.body.getD .skip
theorem nm29 : (Try.f29.name == "runtime.NumGoroutine") = false := by kernel_rfl
noncomputable def body33 : Code := Try.f33.body.getD .skip
theorem nm33 : (Try.f33.name == "runtime.NumGoroutine") = false := by kernel_rfl
def b33 : Frame := base 33

theorem eqn47 (d : Nat) (w : World) (es : Array Event) : (Op.equalIn (d + 1) 47 .nilFunc .nilFunc).events Try.prog w es = es ∧ (Op.equalIn (d + 1) 47 .nilFunc .nilFunc).run Try.prog w = .ok true w := by
  constructor <;> (unfold Op.equalIn; simp [go_sem])
theorem evn47 (w : World) (es : Array Event) : (binOp .eql 47 .nilFunc .nilFunc).events Try.prog w es = es := by
  have h1 := (eqn47 9999 w es).1
  change (Op.equalIn Op.maxDepth 47 .nilFunc .nilFunc).events Try.prog w es = es at h1
  simp only [binOp, Op.equal]
  simp [go_sem, h1]

section
variable {Post : Value → World → Prop} {Shun : Loc → Prop} {B H n : Nat} {w w₁ w0 : World} {N : Int}
  {b₀ : Frame} {a₀ : Act} {ops₀ : Array Oper} {i₀ : Nat} {rest₀ : List Nat} {k₀ : List Item} {cs : List Frame}

theorem map_out {sa : Option Addr} {sc : Nat} {ff : FuncId} {fcap : Array Value} {xs ys : Nat → Int} (hH : w0.heap.size = H) (hB : B ≤ H) (hn : n * 8 ≤ 140737488355328) (hSc : ∀ a : Addr, H ≤ a.block → ¬ Shun (.cell a)) (hSo : ∀ r, ¬ Shun (.obj r))
    (hin : InM Shun H w0 n (fun _ => False) sa xs) (hf : FunC Shun H w0 n (fun _ => False) (fun _ _ => True) (fun _ _ => True) ff fcap xs ys)
    (hnext : ∀ Shun' w' K sl e, Grow Shun Shun' H K → Below H w0 w' → w'.heap.size = K → H ≤ K →
      ((1 ≤ N ∧ N ≤ 64) ∧ sl = .slice (some ⟨H + 2, 0, none⟩) n n ∧ e = 0 ∧ H + 2 < K ∧ RowIn (some ⟨H + 2, 0, none⟩) n ys w') ∨ (¬ (1 ≤ N ∧ N ≤ 64) ∧ sl = .slice none 0 0 ∧ e = 1) →
      Back Post Shun' K b₀ a₀ ops₀ i₀ rest₀ k₀ cs (.tuple #[sl, .int .i64 e]) w') :
    EndsF Try.prog Post Shun B (Go.Conc.G (b27.at ⟨#[.slice sa n sc, .int .i64 N, .func (.func ff) #[] fcap, undef, undef, undef, undef, undef, undef, undef, undef, undef, undef, undef, undef, undef, undef, undef, undef, undef, undef, undef, undef, undef, undef], []⟩ [.code body27]) (b₀.at a₀ (.inRegion ops₀ (i₀ :: rest₀) :: k₀) :: cs)) w0 := by
  by_cases hN : 1 ≤ N ∧ N ≤ 64
  · refine map_ends (pbx := fun _ => False) (X0 := fun _ _ => True) (X1 := fun _ _ => True) (xs := xs) (ys := ys) hH hB hn hSc hSo hN (fun _ h => h.elim) (fun _ h => h.elim) hin (fun _ _ _ _ h => h) (fun _ _ _ _ h => h) (fun _ _ => trivial) hf ?_
    intro Shun' w' hS hK hsz _ hD
    refine hnext Shun' w' (H + 10) _ 0 (fun l hl => (hS l hl).imp id fun ⟨a, e1, e2⟩ => ⟨a, e1, by omega, by omega, by omega⟩) ⟨hK.os, hK.tape, hK.output, hK.size, fun b hb => hK.block b hb id⟩ hsz (by omega)
      (.inl ⟨hN, rfl, rfl, by omega, fun k hk => ⟨H + 2, 0, rfl, by rw [Nat.zero_add]; exact (hD k hk).1⟩⟩)
  · exact map_fails (.inr ⟨_, _, rfl⟩) hH hB hN fun w' hb hs => hnext Shun w' (H + 2) _ 1 .refl hb hs (by omega) (.inr ⟨hN, rfl, rfl⟩)

set_option maxRecDepth 100000 in
theorem fine29_ends (hE : Back Post Shun B b₀ a₀ ops₀ i₀ rest₀ k₀ cs (.bool (decide (1 ≤ N) && decide (N ≤ 64))) w) :
    EndsF Try.prog Post Shun B (Go.Conc.G ((base 29).at ⟨#[.int .i64 N, undef, undef, undef, undef, undef, undef, undef, undef], []⟩ [.code body29]) (b₀.at a₀ (.inRegion ops₀ (i₀ :: rest₀) :: k₀) :: cs)) w := by
  have rlE : ∀ {v : Value} {w w₁ : World}, Back Post Shun B b₀ a₀ ops₀ i₀ rest₀ k₀ cs v w → AtRel w w₁ → Back Post Shun B b₀ a₀ ops₀ i₀ rest₀ k₀ cs v w₁ := fun h r => EndsF.rely h r
  simp only [body29, Try.f29, Option.getD_some]
  by_cases h1 : 1 ≤ N
  · simp only [h1, decide_true, Bool.true_and] at hE
    refine EndsF.step rfl (fun _ h₁ => ?_)
    replace hE := rlE hE h₁
    clear h₁
    rw [stepG_seq]
    simp only [goes_go]
    refine ⟨de_nil, ?_⟩
    refine EndsF.step rfl (fun _ h₁ => ?_)
    replace hE := rlE hE h₁
    clear h₁
    rw [stepG_region]
    simp only [goes_go, List.size_toArray, List.length_cons, List.length_nil, Nat.reduceAdd, Nat.zero_add, List.range, List.range.loop]
    refine ⟨de_nil, ?_⟩
    refine EndsF.step rfl (fun _ h₁ => ?_)
    replace hE := rlE hE h₁
    clear h₁
    refine goes_oper_k rfl rfl (by k_ne) (fun K hK => ?_)
    go_simp
    refine hK _ _ ⟨?_, ?_⟩
    · refine de_none ?_
      intro ex hex
      have hm := mem_listed hex
      simp [go_sem, *] at hm
    clear hK K
    refine EndsF.step rfl (fun _ h₁ => ?_)
    replace hE := rlE hE h₁
    clear h₁
    rw [stepG_region_end]
    simp only [goes_go]
    refine ⟨de_nil, ?_⟩
    refine EndsF.step rfl (fun _ h₁ => ?_)
    replace hE := rlE hE h₁
    clear h₁
    rw [stepG_seq]
    simp only [goes_go]
    refine ⟨de_nil, ?_⟩
    refine EndsF.step rfl (fun _ h₁ => ?_)
    replace hE := rlE hE h₁
    clear h₁
    rw [stepG_region]
    simp only [goes_go, List.size_toArray, List.length_cons, List.length_nil, Nat.reduceAdd, Nat.zero_add, List.range, List.range.loop]
    refine ⟨de_nil, ?_⟩
    refine EndsF.step rfl (fun _ h₁ => ?_)
    replace hE := rlE hE h₁
    clear h₁
    refine goes_oper_k rfl rfl (by k_ne) (fun K hK => ?_)
    go_simp
    refine hK _ _ ⟨?_, ?_⟩
    · refine de_none ?_
      intro ex hex
      have hm := mem_listed hex
      simp [go_sem, *] at hm
    clear hK K
    refine EndsF.step rfl (fun _ h₁ => ?_)
    replace hE := rlE hE h₁
    clear h₁
    refine goes_oper_k rfl rfl (by k_ne) (fun K hK => ?_)
    go_simp
    refine hK _ _ ⟨?_, ?_⟩
    · refine de_none ?_
      intro ex hex
      have hm := mem_listed hex
      simp [go_sem, *] at hm
    clear hK K
    refine EndsF.step rfl (fun _ h₁ => ?_)
    replace hE := rlE hE h₁
    clear h₁
    refine goes_oper_k rfl rfl (by k_ne) (fun K hK => ?_)
    go_simp
    refine hK _ _ ⟨?_, ?_⟩
    · refine de_none ?_
      intro ex hex
      have hm := mem_listed hex
      simp [go_sem, *] at hm
    clear hK K
    refine EndsF.step rfl (fun _ h₁ => ?_)
    replace hE := rlE hE h₁
    clear h₁
    refine goes_oper_k rfl rfl (by k_ne) (fun K hK => ?_)
    go_simp
    refine hK _ _ ⟨?_, ?_⟩
    · refine de_none ?_
      intro ex hex
      have hm := mem_listed hex
      simp [go_sem, *] at hm
    clear hK K
    refine EndsF.step rfl (fun _ h₁ => ?_)
    replace hE := rlE hE h₁
    clear h₁
    refine goes_oper_k rfl rfl (by k_ne) (fun K hK => ?_)
    go_simp
    refine hK _ _ ⟨?_, ?_⟩
    · refine de_none ?_
      intro ex hex
      have hm := mem_listed hex
      simp [go_sem, *] at hm
    clear hK K
    refine EndsF.step rfl (fun _ h₁ => ?_)
    replace hE := rlE hE h₁
    clear h₁
    refine goes_oper_k rfl rfl (by k_ne) (fun K hK => ?_)
    go_simp
    refine hK _ _ ⟨?_, ?_⟩
    · refine de_none ?_
      intro ex hex
      have hm := mem_listed hex
      simp [go_sem, *] at hm
    clear hK K
    refine EndsF.step rfl (fun _ h₁ => ?_)
    replace hE := rlE hE h₁
    clear h₁
    refine goes_oper_k rfl rfl (by k_ne) (fun K hK => ?_)
    go_simp
    refine hK _ _ ⟨?_, ?_⟩
    · refine de_none ?_
      intro ex hex
      have hm := mem_listed hex
      simp [go_sem, *] at hm
    clear hK K
    refine EndsF.step rfl (fun _ h₁ => ?_)
    replace hE := rlE hE h₁
    clear h₁
    rw [stepG_region_end]
    simp only [goes_go]
    refine ⟨de_nil, ?_⟩
    refine EndsF.step rfl (fun _ h₁ => ?_)
    replace hE := rlE hE h₁
    clear h₁
    rw [stepG_ret']
    simp only [goes_go]
    refine ⟨de_nil, ?_⟩
    refine EndsF.step rfl (fun _ h₁ => ?_)
    replace hE := rlE hE h₁
    clear h₁
    refine goes_leave1 rfl rfl Try.func29 rfl ⟨de_nil, ?_⟩
    walk_nrm
    exact hE
  · simp only [h1, decide_false, Bool.false_and] at hE
    refine EndsF.step rfl (fun _ h₁ => ?_)
    replace hE := rlE hE h₁
    clear h₁
    rw [stepG_seq]
    simp only [goes_go]
    refine ⟨de_nil, ?_⟩
    refine EndsF.step rfl (fun _ h₁ => ?_)
    replace hE := rlE hE h₁
    clear h₁
    rw [stepG_region]
    simp only [goes_go, List.size_toArray, List.length_cons, List.length_nil, Nat.reduceAdd, Nat.zero_add, List.range, List.range.loop]
    refine ⟨de_nil, ?_⟩
    refine EndsF.step rfl (fun _ h₁ => ?_)
    replace hE := rlE hE h₁
    clear h₁
    refine goes_oper_k rfl rfl (by k_ne) (fun K hK => ?_)
    go_simp
    refine hK _ _ ⟨?_, ?_⟩
    · refine de_none ?_
      intro ex hex
      have hm := mem_listed hex
      simp [go_sem, *] at hm
    clear hK K
    refine EndsF.step rfl (fun _ h₁ => ?_)
    replace hE := rlE hE h₁
    clear h₁
    rw [stepG_region_end]
    simp only [goes_go]
    refine ⟨de_nil, ?_⟩
    refine EndsF.step rfl (fun _ h₁ => ?_)
    replace hE := rlE hE h₁
    clear h₁
    rw [stepG_seq]
    simp only [goes_go]
    refine ⟨de_nil, ?_⟩
    refine EndsF.step rfl (fun _ h₁ => ?_)
    replace hE := rlE hE h₁
    clear h₁
    rw [stepG_region]
    simp only [goes_go, List.size_toArray, List.length_cons, List.length_nil, Nat.reduceAdd, Nat.zero_add, List.range, List.range.loop]
    refine ⟨de_nil, ?_⟩
    refine EndsF.step rfl (fun _ h₁ => ?_)
    replace hE := rlE hE h₁
    clear h₁
    refine goes_oper_k rfl rfl (by k_ne) (fun K hK => ?_)
    go_simp
    refine hK _ _ ⟨?_, ?_⟩
    · refine de_none ?_
      intro ex hex
      have hm := mem_listed hex
      simp [go_sem, *] at hm
    clear hK K
    refine EndsF.step rfl (fun _ h₁ => ?_)
    replace hE := rlE hE h₁
    clear h₁
    refine goes_oper_k rfl rfl (by k_ne) (fun K hK => ?_)
    go_simp
    refine hK _ _ ⟨?_, ?_⟩
    · refine de_none ?_
      intro ex hex
      have hm := mem_listed hex
      simp [go_sem, *] at hm
    clear hK K
    refine EndsF.step rfl (fun _ h₁ => ?_)
    replace hE := rlE hE h₁
    clear h₁
    refine goes_oper_k rfl rfl (by k_ne) (fun K hK => ?_)
    go_simp
    refine hK _ _ ⟨?_, ?_⟩
    · refine de_none ?_
      intro ex hex
      have hm := mem_listed hex
      simp [go_sem, *] at hm
    clear hK K
    refine EndsF.step rfl (fun _ h₁ => ?_)
    replace hE := rlE hE h₁
    clear h₁
    rw [stepG_unwanted rfl rfl]
    simp only [goes_go]
    refine ⟨de_nil, ?_⟩
    walk_nrm
    refine EndsF.step rfl (fun _ h₁ => ?_)
    replace hE := rlE hE h₁
    clear h₁
    rw [stepG_unwanted rfl rfl]
    simp only [goes_go]
    refine ⟨de_nil, ?_⟩
    walk_nrm
    refine EndsF.step rfl (fun _ h₁ => ?_)
    replace hE := rlE hE h₁
    clear h₁
    refine goes_oper_k rfl rfl (by k_ne) (fun K hK => ?_)
    go_simp
    refine hK _ _ ⟨?_, ?_⟩
    · refine de_none ?_
      intro ex hex
      have hm := mem_listed hex
      simp [go_sem, *] at hm
    clear hK K
    refine EndsF.step rfl (fun _ h₁ => ?_)
    replace hE := rlE hE h₁
    clear h₁
    refine goes_oper_k rfl rfl (by k_ne) (fun K hK => ?_)
    go_simp
    refine hK _ _ ⟨?_, ?_⟩
    · refine de_none ?_
      intro ex hex
      have hm := mem_listed hex
      simp [go_sem, *] at hm
    clear hK K
    refine EndsF.step rfl (fun _ h₁ => ?_)
    replace hE := rlE hE h₁
    clear h₁
    rw [stepG_region_end]
    simp only [goes_go]
    refine ⟨de_nil, ?_⟩
    refine EndsF.step rfl (fun _ h₁ => ?_)
    replace hE := rlE hE h₁
    clear h₁
    rw [stepG_ret']
    simp only [goes_go]
    refine ⟨de_nil, ?_⟩
    refine EndsF.step rfl (fun _ h₁ => ?_)
    replace hE := rlE hE h₁
    clear h₁
    refine goes_leave1 rfl rfl Try.func29 rfl ⟨de_nil, ?_⟩
    walk_nrm
    exact hE

/-- What First's first region makes. -/
structure MF (H : Nat) (w0 : World) (sl f : Value) (w : World) : Prop where
  below : Below H w0 w
  size : w.heap.size = H + 2
  hi : w.heap[H]? = some (.cells #[sl] 43)
  hf : w.heap[H + 1]? = some (.cells #[f] 47)
theorem MF.rely {sl f : Value} {w w₁ : World} (h : MF H w0 sl f w) (r : AtRel w w₁) : MF H w0 sl f w₁ := by
  obtain ⟨d, rfl⟩ := r
  exact ⟨⟨h.below.os, h.below.tape, h.below.output, h.below.size, h.below.block⟩, h.size, h.hi, h.hf⟩
theorem mf_of {sl f : Value} {w : World} (h : Below H w0 w ∧ w.heap.size = H + 1 ∧ w.heap[H]? = some (.cells #[sl] 43)) : MF H w0 sl f (w.alloc (.cells #[f] 47)) :=
  ⟨h.1.alloc (by omega) _, by rw [World.size_alloc, h.2.1], (Below.heap_alloc _ _ _ (by omega)).trans h.2.2, by have := heap_alloc_new w (.cells #[f] 47); rwa [h.2.1] at this⟩
theorem MF.cf {sl f : Value} {w : World} (h : MF H w0 sl f w) : w.cell? ⟨H + 1, 0, none⟩ = some f := by simp [World.cell?, h.hf]

set_option maxRecDepth 100000 in
/-- First, NO FUNCTION. -/
theorem first_nil {sa : Option Addr} {sn sc : Nat} (hH : w0.heap.size = H) (hB : B ≤ H) (hSc : ∀ a : Addr, H ≤ a.block → ¬ Shun (.cell a)) (hN : 1 ≤ N ∧ N ≤ 64)
    (hnext : ∀ w', Below H w0 w' → w'.heap.size = H + 2 → Back Post Shun (H + 2) b₀ a₀ ops₀ i₀ rest₀ k₀ cs (.tuple #[.int .i64 0, .int .i64 1]) w') :
    EndsF Try.prog Post Shun B (Go.Conc.G (b33.at ⟨#[.slice sa sn sc, .int .i64 N, .nilFunc, undef, undef, undef, undef, undef, undef, undef, undef, undef, undef, undef, undef, undef, undef, undef, undef, undef, undef, undef, undef, undef, undef, undef, undef, undef, undef, undef, undef, undef, undef, undef, undef, undef, undef, undef, undef, undef, undef], []⟩ [.code body33]) (b₀.at a₀ (.inRegion ops₀ (i₀ :: rest₀) :: k₀) :: cs)) w0 := by
  refine EndsF.mono (B' := H + 2) (by omega) ?_
  have e : (decide (1 ≤ N) && decide (N ≤ 64)) = true := by simpa [Bool.and_eq_true] using hN
  simp only [body33, Try.f33, Option.getD_some]
  have hF : Below H w0 w0 ∧ w0.heap.size = H := ⟨Below.refl H w0, hH⟩
  clear hH
  refine EndsF.step rfl (fun _ h₁ => ?_)
  replace hF := below_rely hF h₁
  clear h₁
  rw [stepG_seq]
  simp only [goes_go]
  refine ⟨de_nil, ?_⟩
  refine EndsF.step rfl (fun _ h₁ => ?_)
  replace hF := below_rely hF h₁
  clear h₁
  rw [stepG_region]
  simp only [goes_go, List.size_toArray, List.length_cons, List.length_nil, Nat.reduceAdd, Nat.zero_add, List.range, List.range.loop]
  refine ⟨de_nil, ?_⟩
  refine EndsF.step rfl (fun w1 h₁ => ?_)
  replace hF := below_rely hF h₁
  clear h₁
  refine goes_oper_k rfl rfl (by k_ne) (fun K hK => ?_)
  go_simp
  refine hK _ _ ⟨?_, ?_⟩
  · intro ex hex
    have hm := mem_listed hex
    simp [go_sem, *] at hm
  clear hK K
  replace hF := alloc_facts hF (.cells #[.slice sa sn sc] 43)
  refine EndsF.step rfl (fun w2 h₁ => ?_)
  replace hF := one_rely hF h₁
  clear h₁
  refine goes_oper_k rfl rfl (by k_ne) (fun K hK => ?_)
  go_simp
  refine hK _ _ ⟨?_, ?_⟩
  · intro ex hex
    have hm := mem_listed hex
    simp [go_sem, *] at hm
  clear hK K
  replace hF := mf_of (f := .nilFunc) hF
  refine EndsF.step rfl (fun _ h₁ => ?_)
  replace hF := MF.rely hF h₁
  clear h₁
  refine goes_oper_k rfl rfl (by k_ne) (fun K hK => ?_)
  go_simp
  refine hK _ _ ⟨?_, ?_⟩
  · refine de_none ?_
    intro ex hex
    have hm := mem_listed hex
    simp [go_sem, *] at hm
  clear hK K
  refine EndsF.step rfl (fun _ h₁ => ?_)
  replace hF := MF.rely hF h₁
  clear h₁
  refine goes_oper_k rfl rfl (by k_ne) (fun K hK => ?_)
  go_simp
  refine hK _ _ ⟨?_, ?_⟩
  · refine de_none ?_
    intro ex hex
    have hm := mem_listed hex
    simp [go_sem, *] at hm
  clear hK K
  refine EndsF.step rfl (fun _ h₁ => ?_)
  replace hF := MF.rely hF h₁
  clear h₁
  rw [stepG_region_end]
  simp only [goes_go]
  refine ⟨de_nil, ?_⟩
  refine EndsF.step rfl (fun _ h₁ => ?_)
  replace hF := MF.rely hF h₁
  clear h₁
  rw [stepG_seq]
  simp only [goes_go]
  refine ⟨de_nil, ?_⟩
  refine EndsF.step rfl (fun _ h₁ => ?_)
  replace hF := MF.rely hF h₁
  clear h₁
  rw [stepG_seq]
  simp only [goes_go]
  refine ⟨de_nil, ?_⟩
  refine EndsF.step rfl (fun _ h₁ => ?_)
  replace hF := MF.rely hF h₁
  clear h₁
  rw [stepG_region]
  simp only [goes_go, List.size_toArray, List.length_cons, List.length_nil, Nat.reduceAdd, Nat.zero_add, List.range, List.range.loop]
  refine ⟨de_nil, ?_⟩
  refine EndsF.step rfl (fun _ h₁ => ?_)
  replace hF := MF.rely hF h₁
  clear h₁
  refine goes_oper_k rfl rfl (by k_ne) (fun K hK => ?_)
  go_simp
  refine hK _ _ ⟨?_, ?_⟩
  · refine de_none ?_
    intro ex hex
    have hm := mem_listed hex
    simp [go_sem, *] at hm
  clear hK K
  refine EndsF.step rfl (fun _ h₁ => ?_)
  replace hF := MF.rely hF h₁
  clear h₁
  refine goes_call rfl rfl (by k_ne) rfl Try.func48 nm48 rfl ⟨de_nil, ?_⟩
  walk_nrmf Try.f48
  rename_i wc
  refine fine_ends (w := wc) ?_
  rw [e]
  unfold Back
  walk_nrm
  refine EndsF.step rfl (fun _ h₁ => ?_)
  replace hF := MF.rely hF h₁
  clear h₁
  refine goes_oper_k rfl rfl (by k_ne) (fun K hK => ?_)
  go_simp
  refine hK _ _ ⟨?_, ?_⟩
  · refine de_none ?_
    intro ex hex
    have hm := mem_listed hex
    simp [go_sem, *] at hm
  clear hK K
  refine EndsF.step rfl (fun _ h₁ => ?_)
  replace hF := MF.rely hF h₁
  clear h₁
  refine goes_oper_k rfl rfl (by k_ne) (fun K hK => ?_)
  go_simp
  refine hK _ _ ⟨?_, ?_⟩
  · refine de_none ?_
    intro ex hex
    have hm := mem_listed hex
    simp [go_sem, *] at hm
  clear hK K
  refine EndsF.step rfl (fun _ h₁ => ?_)
  replace hF := MF.rely hF h₁
  clear h₁
  refine goes_oper_k rfl rfl (by k_ne) (fun K hK => ?_)
  have hcf := hF.cf
  go_simp
  refine hK _ _ ⟨fun ex hex => ?_, ?_⟩
  · have hm := mem_listed hex
    simp [go_sem, *] at hm
    subst hm
    exact evL_cell _ _ (hSc _ (by show H ≤ H + 1; omega)) (by show H + 1 < H + 2; omega)
  clear hK K
  clear hcf
  have hev := evn47
  refine EndsF.step rfl (fun _ h₁ => ?_)
  replace hF := MF.rely hF h₁
  clear h₁
  refine goes_oper_k rfl rfl (by k_ne) (fun K hK => ?_)
  go_simp
  refine hK _ _ ⟨?_, ?_⟩
  · refine de_none ?_
    intro ex hex
    have hm := mem_listed hex
    simp [go_sem, *] at hm
  clear hK K
  try w_num
  refine EndsF.step rfl (fun _ h₁ => ?_)
  replace hF := MF.rely hF h₁
  clear h₁
  refine goes_oper_k rfl rfl (by k_ne) (fun K hK => ?_)
  go_simp
  refine hK _ _ ⟨?_, ?_⟩
  · refine de_none ?_
    intro ex hex
    have hm := mem_listed hex
    simp [go_sem, *] at hm
  clear hK K
  refine EndsF.step rfl (fun _ h₁ => ?_)
  replace hF := MF.rely hF h₁
  clear h₁
  rw [stepG_region_end]
  simp only [goes_go]
  refine ⟨de_nil, ?_⟩
  refine EndsF.step rfl (fun _ h₁ => ?_)
  replace hF := MF.rely hF h₁
  clear h₁
  rw [stepG_cond (t := true) rfl]
  simp only [goes_go, if_true, if_false, Bool.false_eq_true, ↓reduceIte]
  refine ⟨de_nil, ?_⟩
  refine EndsF.step rfl (fun _ h₁ => ?_)
  replace hF := MF.rely hF h₁
  clear h₁
  rw [stepG_seq]
  simp only [goes_go]
  refine ⟨de_nil, ?_⟩
  refine EndsF.step rfl (fun _ h₁ => ?_)
  replace hF := MF.rely hF h₁
  clear h₁
  rw [stepG_region]
  simp only [goes_go, List.size_toArray, List.length_cons, List.length_nil, Nat.reduceAdd, Nat.zero_add, List.range, List.range.loop]
  refine ⟨de_nil, ?_⟩
  refine EndsF.step rfl (fun _ h₁ => ?_)
  replace hF := MF.rely hF h₁
  clear h₁
  refine goes_oper_k rfl rfl (by k_ne) (fun K hK => ?_)
  go_simp
  refine hK _ _ ⟨?_, ?_⟩
  · refine de_none ?_
    intro ex hex
    have hm := mem_listed hex
    simp [go_sem, *] at hm
  clear hK K
  refine EndsF.step rfl (fun _ h₁ => ?_)
  replace hF := MF.rely hF h₁
  clear h₁
  refine goes_oper_k rfl rfl (by k_ne) (fun K hK => ?_)
  go_simp
  refine hK _ _ ⟨?_, ?_⟩
  · refine de_none ?_
    intro ex hex
    have hm := mem_listed hex
    simp [go_sem, *] at hm
  clear hK K
  refine EndsF.step rfl (fun _ h₁ => ?_)
  replace hF := MF.rely hF h₁
  clear h₁
  rw [stepG_region_end]
  simp only [goes_go]
  refine ⟨de_nil, ?_⟩
  refine EndsF.step rfl (fun _ h₁ => ?_)
  replace hF := MF.rely hF h₁
  clear h₁
  rw [stepG_ret']
  simp only [goes_go]
  refine ⟨de_nil, ?_⟩
  refine EndsF.step rfl (fun _ h₁ => ?_)
  replace hF := MF.rely hF h₁
  clear h₁
  refine goes_leave2 rfl rfl Try.func33 rfl ⟨de_nil, ?_⟩
  walk_nrm
  exact hnext _ hF.below hF.size
end
end Go.Pool
