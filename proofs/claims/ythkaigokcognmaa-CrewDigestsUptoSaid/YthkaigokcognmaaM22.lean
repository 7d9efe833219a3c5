/- A part of the proof of CrewDigestsUpto (no statement of its own): Cr10. -/
import Derived.Test.YthkaigokcognmaaM20
import Derived.Laws.MakeOwn
section
set_option linter.unusedSimpArgs false
namespace Go.Pool
open Go.Conc Go.RowKit Go.Proofs Go.ConcN Go.Conc.Lib Go.ConcR.Gen Go.ConcN.Gen
open Go.ConcR (KK wgBlock WgAt stA smA rd wr mk DC0)
noncomputable def body48 : Code := Try.f48.body.getD .skip
noncomputable def body27 : Code := Try.f27.body.getD .skip
theorem nm48 : (Try.f48.name == "runtime.NumGoroutine") = false := by kernel_rfl
theorem nm49 : (Try.f49.name == "runtime.NumGoroutine") = false := by kernel_rfl
def b27 : Frame := base 27
theorem eqi (d : Nat) (w : World) (es : Array Event) (f : FuncId) (c : Array Value) : (Op.equalIn (d + 1) 46 (.func (.func f) #[] c) .nilFunc).events Try.prog w es = es ∧ (Op.equalIn (d + 1) 46 (.func (.func f) #[] c) .nilFunc).run Try.prog w = .ok false w := by
 constructor <;> (unfold Op.equalIn; simp [go_sem])
theorem evf (w : World) (es : Array Event) (f : FuncId) (c : Array Value) : (binOp .eql 46 (.func (.func f) #[] c) .nilFunc).events Try.prog w es = es := by
 have h1 := (eqi 9999 w es f c).1
 change (Op.equalIn Op.maxDepth 46 (.func (.func f) #[] c) .nilFunc).events Try.prog w es = es at h1
 simp only [binOp, Op.equal]
 simp [go_sem, h1]
theorem evfr (w : World) (f : FuncId) (c : Array Value) : (binOp .eql 46 (.func (.func f) #[] c) .nilFunc).run Try.prog w = .ok (.bool false) w := by
 have h2 := (eqi 9999 w #[] f c).2
 change (Op.equalIn Op.maxDepth 46 (.func (.func f) #[] c) .nilFunc).run Try.prog w = _ at h2
 simp only [binOp, Op.equal]
 simp [go_sem, h2]
section
variable {Post : Value → World → Prop} {Shun : Loc → Prop} {B H : Nat} {w w0 : World} {N : Int} {v : Value}
  {b₀ : Frame} {a₀ : Act} {ops₀ : Array Oper} {i₀ : Nat} {rest₀ : List Nat} {k₀ : List Item} {cs : List Frame}
abbrev Back (Post : Value → World → Prop) (Shun : Loc → Prop) (B : Nat) (b₀ : Frame) (a₀ : Act) (ops₀ : Array Oper) (i₀ : Nat) (rest₀ : List Nat) (k₀ : List Item) (cs : List Frame) (v : Value) (w : World) : Prop :=
 EndsF Try.prog Post Shun B (Go.Conc.G (b₀.at (a₀.put ((ops₀[i₀]?).bind (·.dst)) v) (.inRegion ops₀ rest₀ :: k₀)) cs) w
set_option maxRecDepth 100000 in
theorem fine_ends (hE : Back Post Shun B b₀ a₀ ops₀ i₀ rest₀ k₀ cs (.bool (decide (1 ≤ N) && decide (N ≤ 64))) w) :
  EndsF Try.prog Post Shun B (Go.Conc.G ((base 48).at ⟨#[.int .i64 N, undef, undef, undef, undef, undef, undef, undef, undef], []⟩ [.code body48]) (b₀.at a₀ (.inRegion ops₀ (i₀ :: rest₀) :: k₀) :: cs)) w := by
 have rlE : ∀ {v : Value} {w w₁ : World}, Back Post Shun B b₀ a₀ ops₀ i₀ rest₀ k₀ cs v w → AtRel w w₁ → Back Post Shun B b₀ a₀ ops₀ i₀ rest₀ k₀ cs v w₁ := fun h r => EndsF.rely h r
 simp only [body48, Try.f48, Option.getD_some]
 by_cases h1 : 1 ≤ N
 ·simp only [h1, decide_true, Bool.true_and] at hE
  refine EndsF.step rfl (fun _ h₁ => ?_)
  replace hE := rlE hE h₁
  clear h₁
  rw [stepG_seq]
  simp only [goes_go]
  refine ⟨de_nil, ?_⟩
  refine EndsF.step rfl (fun _ h₁ => ?_)
  replace hE := rlE hE h₁
  clear h₁
  rw [stepG_region]
  simp only [goes_go, List.size_toArray, List.length_cons, List.length_nil, Nat.reduceAdd, Nat.zero_add, List.range, List.range.loop]
  refine ⟨de_nil, ?_⟩
  refine EndsF.step rfl (fun _ h₁ => ?_)
  replace hE := rlE hE h₁
  clear h₁
  refine goes_oper_k rfl rfl (by k_ne) (fun K hK => ?_)
  go_simp
  refine hK _ _ ⟨?_, ?_⟩
  ·refine de_none ?_
   intro ex hex
   have hm := mem_listed hex
   simp [go_sem, *] at hm
  clear hK K
  refine EndsF.step rfl (fun _ h₁ => ?_)
  replace hE := rlE hE h₁
  clear h₁
  rw [stepG_region_end]
  simp only [goes_go]
  refine ⟨de_nil, ?_⟩
  refine EndsF.step rfl (fun _ h₁ => ?_)
  replace hE := rlE hE h₁
  clear h₁
  rw [stepG_seq]
  simp only [goes_go]
  refine ⟨de_nil, ?_⟩
  refine EndsF.step rfl (fun _ h₁ => ?_)
  replace hE := rlE hE h₁
  clear h₁
  rw [stepG_region]
  simp only [goes_go, List.size_toArray, List.length_cons, List.length_nil, Nat.reduceAdd, Nat.zero_add, List.range, List.range.loop]
  refine ⟨de_nil, ?_⟩
  iterate 7
   refine EndsF.step rfl (fun _ h₁ => ?_)
   replace hE := rlE hE h₁
   clear h₁
   refine goes_oper_k rfl rfl (by k_ne) (fun K hK => ?_)
   go_simp
   refine hK _ _ ⟨?_, ?_⟩
   ·refine de_none ?_
    intro ex hex
    have hm := mem_listed hex
    simp [go_sem, *] at hm
   clear hK K
  refine EndsF.step rfl (fun _ h₁ => ?_)
  replace hE := rlE hE h₁
  clear h₁
  rw [stepG_region_end]
  simp only [goes_go]
  refine ⟨de_nil, ?_⟩
  refine EndsF.step rfl (fun _ h₁ => ?_)
  replace hE := rlE hE h₁
  clear h₁
  rw [stepG_ret']
  simp only [goes_go]
  refine ⟨de_nil, ?_⟩
  refine EndsF.step rfl (fun _ h₁ => ?_)
  replace hE := rlE hE h₁
  clear h₁
  refine goes_leave1 rfl rfl Try.func48 rfl ⟨de_nil, ?_⟩
  walk_nrm
  exact hE
 ·simp only [h1, decide_false, Bool.false_and] at hE
  refine EndsF.step rfl (fun _ h₁ => ?_)
  replace hE := rlE hE h₁
  clear h₁
  rw [stepG_seq]
  simp only [goes_go]
  refine ⟨de_nil, ?_⟩
  refine EndsF.step rfl (fun _ h₁ => ?_)
  replace hE := rlE hE h₁
  clear h₁
  rw [stepG_region]
  simp only [goes_go, List.size_toArray, List.length_cons, List.length_nil, Nat.reduceAdd, Nat.zero_add, List.range, List.range.loop]
  refine ⟨de_nil, ?_⟩
  refine EndsF.step rfl (fun _ h₁ => ?_)
  replace hE := rlE hE h₁
  clear h₁
  refine goes_oper_k rfl rfl (by k_ne) (fun K hK => ?_)
  go_simp
  refine hK _ _ ⟨?_, ?_⟩
  ·refine de_none ?_
   intro ex hex
   have hm := mem_listed hex
   simp [go_sem, *] at hm
  clear hK K
  refine EndsF.step rfl (fun _ h₁ => ?_)
  replace hE := rlE hE h₁
  clear h₁
  rw [stepG_region_end]
  simp only [goes_go]
  refine ⟨de_nil, ?_⟩
  refine EndsF.step rfl (fun _ h₁ => ?_)
  replace hE := rlE hE h₁
  clear h₁
  rw [stepG_seq]
  simp only [goes_go]
  refine ⟨de_nil, ?_⟩
  refine EndsF.step rfl (fun _ h₁ => ?_)
  replace hE := rlE hE h₁
  clear h₁
  rw [stepG_region]
  simp only [goes_go, List.size_toArray, List.length_cons, List.length_nil, Nat.reduceAdd, Nat.zero_add, List.range, List.range.loop]
  refine ⟨de_nil, ?_⟩
  iterate 3
   refine EndsF.step rfl (fun _ h₁ => ?_)
   replace hE := rlE hE h₁
   clear h₁
   refine goes_oper_k rfl rfl (by k_ne) (fun K hK => ?_)
   go_simp
   refine hK _ _ ⟨?_, ?_⟩
   ·refine de_none ?_
    intro ex hex
    have hm := mem_listed hex
    simp [go_sem, *] at hm
   clear hK K
  iterate 2
   refine EndsF.step rfl (fun _ h₁ => ?_)
   replace hE := rlE hE h₁
   clear h₁
   rw [stepG_unwanted rfl rfl]
   simp only [goes_go]
   refine ⟨de_nil, ?_⟩
   walk_nrm
  iterate 2
   refine EndsF.step rfl (fun _ h₁ => ?_)
   replace hE := rlE hE h₁
   clear h₁
   refine goes_oper_k rfl rfl (by k_ne) (fun K hK => ?_)
   go_simp
   refine hK _ _ ⟨?_, ?_⟩
   ·refine de_none ?_
    intro ex hex
    have hm := mem_listed hex
    simp [go_sem, *] at hm
   clear hK K
  refine EndsF.step rfl (fun _ h₁ => ?_)
  replace hE := rlE hE h₁
  clear h₁
  rw [stepG_region_end]
  simp only [goes_go]
  refine ⟨de_nil, ?_⟩
  refine EndsF.step rfl (fun _ h₁ => ?_)
  replace hE := rlE hE h₁
  clear h₁
  rw [stepG_ret']
  simp only [goes_go]
  refine ⟨de_nil, ?_⟩
  refine EndsF.step rfl (fun _ h₁ => ?_)
  replace hE := rlE hE h₁
  clear h₁
  refine goes_leave1 rfl rfl Try.func48 rfl ⟨de_nil, ?_⟩
  walk_nrm
  exact hE
structure MP (H : Nat) (w0 : World) (sl f : Value) (w : World) : Prop where
 below : Below H w0 w
 size : w.heap.size = H + 2
 hi : w.heap[H]? = some (.cells #[sl] 43)
 hf : w.heap[H + 1]? = some (.cells #[f] 46)
theorem MP.rely {sl f : Value} {w w₁ : World} (h : MP H w0 sl f w) (r : AtRel w w₁) : MP H w0 sl f w₁ := by
 obtain ⟨d, rfl⟩ := r
 exact ⟨⟨h.below.os, h.below.tape, h.below.output, h.below.size, h.below.block⟩, h.size, h.hi, h.hf⟩
theorem below_rely {w w₁ : World} (h : Below H w0 w ∧ w.heap.size = H) (r : AtRel w w₁) : Below H w0 w₁ ∧ w₁.heap.size = H := by
 obtain ⟨d, rfl⟩ := r
 exact ⟨⟨h.1.os, h.1.tape, h.1.output, h.1.size, h.1.block⟩, h.2⟩
theorem one_rely {o : Obj} {w w₁ : World} (h : Below H w0 w ∧ w.heap.size = H + 1 ∧ w.heap[H]? = some o) (r : AtRel w w₁) : Below H w0 w₁ ∧ w₁.heap.size = H + 1 ∧ w₁.heap[H]? = some o := by
 obtain ⟨d, rfl⟩ := r
 exact ⟨⟨h.1.os, h.1.tape, h.1.output, h.1.size, h.1.block⟩, h.2⟩
theorem mp_of {sl f : Value} {w : World} (h : Below H w0 w ∧ w.heap.size = H + 1 ∧ w.heap[H]? = some (.cells #[sl] 43)) : MP H w0 sl f (w.alloc (.cells #[f] 46)) :=
 ⟨h.1.alloc (by omega) _, by rw [World.size_alloc, h.2.1], (Below.heap_alloc _ _ _ (by omega)).trans h.2.2, by have := heap_alloc_new w (.cells #[f] 46); rwa [h.2.1] at this⟩
theorem MP.cf {sl f : Value} {w : World} (h : MP H w0 sl f w) : w.cell? ⟨H + 1, 0, none⟩ = some f := by simp [World.cell?, h.hf]
theorem MP.ci {sl f : Value} {w : World} (h : MP H w0 sl f w) : w.cell? ⟨H, 0, none⟩ = some sl := by simp [World.cell?, h.hi]
end
end Go.Pool
end
