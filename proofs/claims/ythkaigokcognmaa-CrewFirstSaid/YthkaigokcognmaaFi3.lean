/-
  FIRST 3: crew.First[int]: the least of what was found (plainly); where there may not be so many workers; the loop behind the phase.
-/
import Derived.Test.YthkaigokcognmaaFi2
import Derived.Test.YthkaigokcognmaaCr14
import Derived.Test.YthkaigokcognmaaEnd3
set_option linter.unusedSimpArgs false
namespace Go.Pool
open Go.Conc Go.RowKit Go.Proofs Go.ConcN Go.Conc.Lib Go.ConcR.Gen Go.ConcN.Gen
open Go.ConcR (KK wgBlock WgAt stA smA rd wr mk DC0)

/-! ### the plain law -/
def least (m : Nat) (l : List Nat) : Nat := l.foldl (fun m k => if k < m then k else m) m
theorem least_nil (m : Nat) : least m [] = m := rfl
theorem least_cons (m k : Nat) (l : List Nat) : least m (k :: l) = least (if k < m then k else m) l := rfl
theorem least_le : ∀ (l : List Nat) (m : Nat), least m l ≤ m ∧ ∀ k ∈ l, least m l ≤ k
  | [], m => ⟨Nat.le_refl _, by simp⟩
  | k :: l, m => by
    obtain ⟨h1, h2⟩ := least_le l (if k < m then k else m)
    rw [least_cons]
    have h3 : (if k < m then k else m) ≤ m ∧ (if k < m then k else m) ≤ k := by split <;> omega
    refine ⟨Nat.le_trans h1 h3.1, fun x hx => ?_⟩
    rcases List.mem_cons.1 hx with rfl | hx
    · exact Nat.le_trans h1 h3.2
    · exact h2 x hx
theorem least_mem : ∀ (l : List Nat) (m : Nat), least m l = m ∨ least m l ∈ l
  | [], m => .inl rfl
  | k :: l, m => by
    rw [least_cons]
    rcases least_mem l (if k < m then k else m) with h | h
    · by_cases e : k < m
      · rw [if_pos e] at h ⊢; exact .inr (by simp [h])
      · rw [if_neg e] at h ⊢; exact .inl h
    · exact .inr (List.mem_cons_of_mem _ h)

/-- The first of n of which something is so, or n. -/
structure IsFirst (n : Nat) (bs : Nat → Bool) (r : Nat) : Prop where
  le : r ≤ n
  before : ∀ k, k < r → bs k = false
  at_ : r < n → bs r = true

theorem first_of {n H : Nat} {bs : Nat → Bool} {l : List Nat} (hq : H = n ∨ ∃ k, k < H ∧ bs k = true) (hH : H ≤ n) (h1 : ∀ k ∈ l, k < H ∧ bs k = true) (h2 : ∀ k, k < H → bs k = true → k ∈ l) : IsFirst n bs (least n l) := by
  obtain ⟨h3, h4⟩ := least_le l n
  refine ⟨h3, fun k hk => ?_, fun hlt => ?_⟩
  · refine Bool.eq_false_iff.2 fun e => ?_
    have hkH : k < H := by
      rcases hq with rfl | ⟨k', hk', e'⟩
      · omega
      · have := h4 k' (h2 k' hk' e')
        omega
    have := h4 k (h2 k hkH e)
    omega
  · rcases least_mem l n with h | h
    · omega
    · exact (h1 _ h).2

/-! ### the program's side -/
noncomputable def tail33 : Code := match Try.f33.body with
  | some (.seq _ (.seq _ (.seq _ (.seq _ (.seq _ (.seq _ c)))))) => c
  | _ => .skip
noncomputable def L33 : Code := match tail33 with
  | .seq (.seq _ (.block _ (.loop c))) _ => c
  | _ => .skip
noncomputable def K33 : Code := match tail33 with
  | .seq _ c => c
  | _ => .skip
theorem loud33 : (Try.prog.funcs[33]?).any (·.norace) = false := by kernel_rfl

theorem array41 (T : Array Value) (h : T.size = 41) : ∃ v0 v1 v2 v3 v4 v5 v6 v7 v8 v9 v10 v11 v12 v13 v14 v15 v16 v17 v18 v19 v20 v21 v22 v23 v24 v25 v26 v27 v28 v29 v30 v31 v32 v33 v34 v35 v36 v37 v38 v39 v40, T = #[v0, v1, v2, v3, v4, v5, v6, v7, v8, v9, v10, v11, v12, v13, v14, v15, v16, v17, v18, v19, v20, v21, v22, v23, v24, v25, v26, v27, v28, v29, v30, v31, v32, v33, v34, v35, v36, v37, v38, v39, v40] :=
  ⟨T[0], T[1], T[2], T[3], T[4], T[5], T[6], T[7], T[8], T[9], T[10], T[11], T[12], T[13], T[14], T[15], T[16], T[17], T[18], T[19], T[20], T[21], T[22], T[23], T[24], T[25], T[26], T[27], T[28], T[29], T[30], T[31], T[32], T[33], T[34], T[35], T[36], T[37], T[38], T[39], T[40], by
    apply Array.ext (by simp [h])
    intro i h1 h2
    have hi : i < 41 := by omega
    iterate 41 (rcases i with _ | i; · rfl)
    omega⟩

section
variable {Post : Value → World → Prop} {Shun : Loc → Prop} {B H K : Nat} {w w₁ w0 : World} {N : Int} {n : Nat} {sl f : Value}
  {b₀ : Frame} {a₀ : Act} {ops₀ : Array Oper} {i₀ : Nat} {rest₀ : List Nat} {k₀ : List Item} {cs : List Frame}

/-- What First's first region makes. -/
structure FP (H : Nat) (w0 : World) (sl f : Value) (w : World) : Prop where
  below : Below H w0 w
  size : w.heap.size = H + 2
  hi : w.heap[H]? = some (.cells #[sl] 43)
  hf : w.heap[H + 1]? = some (.cells #[f] 47)

theorem FP.rely (h : FP H w0 sl f w) (r : AtRel w w₁) : FP H w0 sl f w₁ := by
  obtain ⟨d, rfl⟩ := r
  exact ⟨⟨h.below.os, h.below.tape, h.below.output, h.below.size, h.below.block⟩, h.size, h.hi, h.hf⟩
theorem fp_of (h : Below H w0 w ∧ w.heap.size = H + 1 ∧ w.heap[H]? = some (.cells #[sl] 43)) : FP H w0 sl f (w.alloc (.cells #[f] 47)) :=
  ⟨h.1.alloc (by omega) _, by rw [World.size_alloc, h.2.1], (Below.heap_alloc _ _ _ (by omega)).trans h.2.2, by have := heap_alloc_new w (.cells #[f] 47); rwa [h.2.1] at this⟩
theorem FP.cf (h : FP H w0 sl f w) : w.cell? ⟨H + 1, 0, none⟩ = some f := by simp [World.cell?, h.hf]
theorem FP.ci (h : FP H w0 sl f w) : w.cell? ⟨H, 0, none⟩ = some sl := by simp [World.cell?, h.hi]

set_option maxRecDepth 100000 in
/-- NOT SO MANY. -/
theorem first_fails {sa : Option Addr} {sn sc : Nat} {ff : FuncId} {fcap : Array Value} (hH : w0.heap.size = H) (hB : B ≤ H) (hN : ¬ (1 ≤ N ∧ N ≤ 64))
    (hnext : ∀ w', Below H w0 w' → w'.heap.size = H + 2 → Back Post Shun (H + 2) b₀ a₀ ops₀ i₀ rest₀ k₀ cs (.tuple #[.int .i64 0, .int .i64 1]) w') :
    EndsF Try.prog Post Shun B (Go.Conc.G (b33.at ⟨#[.slice sa sn sc, .int .i64 N, .func (.func ff) #[] fcap, undef, undef, undef, undef, undef, undef, undef, undef, undef, undef, undef, undef, undef, undef, undef, undef, undef, undef, undef, undef, undef, undef, undef, undef, undef, undef, undef, undef, undef, undef, undef, undef, undef, undef, undef, undef, undef, undef], []⟩ [.code body33]) (b₀.at a₀ (.inRegion ops₀ (i₀ :: rest₀) :: k₀) :: cs)) w0 := by
  refine EndsF.mono (B' := H + 2) (by omega) ?_
  have e : (decide (1 ≤ N) && decide (N ≤ 64)) = false := by simpa [Bool.and_eq_true] using hN
  simp only [body33, Try.f33, Option.getD_some]
  have hF : Below H w0 w0 ∧ w0.heap.size = H := ⟨Below.refl H w0, hH⟩
  clear hH
  refine EndsF.step rfl (fun _ h₁ => ?_)
  replace hF := below_rely hF h₁
  clear h₁
  rw [stepG_seq]
  simp only [goes_go]
  refine ⟨de_nil, ?_⟩
  refine EndsF.step rfl (fun _ h₁ => ?_)
  replace hF := below_rely hF h₁
  clear h₁
  rw [stepG_region]
  simp only [goes_go, List.size_toArray, List.length_cons, List.length_nil, Nat.reduceAdd, Nat.zero_add, List.range, List.range.loop]
  refine ⟨de_nil, ?_⟩
  refine EndsF.step rfl (fun w1 h₁ => ?_)
  replace hF := below_rely hF h₁
  clear h₁
  refine goes_oper_k rfl rfl (by k_ne) (fun K hK => ?_)
  go_simp
  refine hK _ _ ⟨?_, ?_⟩
  · intro ex hex
    have hm := mem_listed hex
    simp [go_sem, *] at hm
  clear hK K
  replace hF := alloc_facts hF (.cells #[.slice sa sn sc] 43)
  refine EndsF.step rfl (fun w2 h₁ => ?_)
  replace hF := one_rely hF h₁
  clear h₁
  refine goes_oper_k rfl rfl (by k_ne) (fun K hK => ?_)
  go_simp
  refine hK _ _ ⟨?_, ?_⟩
  · intro ex hex
    have hm := mem_listed hex
    simp [go_sem, *] at hm
  clear hK K
  replace hF := fp_of (f := .func (.func ff) #[] fcap) hF
  refine EndsF.step rfl (fun _ h₁ => ?_)
  replace hF := FP.rely hF h₁
  clear h₁
  refine goes_oper_k rfl rfl (by k_ne) (fun K hK => ?_)
  go_simp
  refine hK _ _ ⟨?_, ?_⟩
  · refine de_none ?_
    intro ex hex
    have hm := mem_listed hex
    simp [go_sem, *] at hm
  clear hK K
  refine EndsF.step rfl (fun _ h₁ => ?_)
  replace hF := FP.rely hF h₁
  clear h₁
  refine goes_oper_k rfl rfl (by k_ne) (fun K hK => ?_)
  go_simp
  refine hK _ _ ⟨?_, ?_⟩
  · refine de_none ?_
    intro ex hex
    have hm := mem_listed hex
    simp [go_sem, *] at hm
  clear hK K
  refine EndsF.step rfl (fun _ h₁ => ?_)
  replace hF := FP.rely hF h₁
  clear h₁
  rw [stepG_region_end]
  simp only [goes_go]
  refine ⟨de_nil, ?_⟩
  refine EndsF.step rfl (fun _ h₁ => ?_)
  replace hF := FP.rely hF h₁
  clear h₁
  rw [stepG_seq]
  simp only [goes_go]
  refine ⟨de_nil, ?_⟩
  refine EndsF.step rfl (fun _ h₁ => ?_)
  replace hF := FP.rely hF h₁
  clear h₁
  rw [stepG_seq]
  simp only [goes_go]
  refine ⟨de_nil, ?_⟩
  refine EndsF.step rfl (fun _ h₁ => ?_)
  replace hF := FP.rely hF h₁
  clear h₁
  rw [stepG_region]
  simp only [goes_go, List.size_toArray, List.length_cons, List.length_nil, Nat.reduceAdd, Nat.zero_add, List.range, List.range.loop]
  refine ⟨de_nil, ?_⟩
  refine EndsF.step rfl (fun _ h₁ => ?_)
  replace hF := FP.rely hF h₁
  clear h₁
  refine goes_oper_k rfl rfl (by k_ne) (fun K hK => ?_)
  go_simp
  refine hK _ _ ⟨?_, ?_⟩
  · refine de_none ?_
    intro ex hex
    have hm := mem_listed hex
    simp [go_sem, *] at hm
  clear hK K
  refine EndsF.step rfl (fun _ h₁ => ?_)
  replace hF := FP.rely hF h₁
  clear h₁
  refine goes_call rfl rfl (by k_ne) rfl Try.func48 nm48 rfl ⟨de_nil, ?_⟩
  walk_nrmf Try.f48
  rename_i wc
  refine fine_ends (w := wc) ?_
  rw [e]
  unfold Back
  walk_nrm
  refine EndsF.step rfl (fun _ h₁ => ?_)
  replace hF := FP.rely hF h₁
  clear h₁
  refine goes_oper_k rfl rfl (by k_ne) (fun K hK => ?_)
  go_simp
  refine hK _ _ ⟨?_, ?_⟩
  · refine de_none ?_
    intro ex hex
    have hm := mem_listed hex
    simp [go_sem, *] at hm
  clear hK K
  refine EndsF.step rfl (fun _ h₁ => ?_)
  replace hF := FP.rely hF h₁
  clear h₁
  refine goes_oper_k rfl rfl (by k_ne) (fun K hK => ?_)
  go_simp
  refine hK _ _ ⟨?_, ?_⟩
  · refine de_none ?_
    intro ex hex
    have hm := mem_listed hex
    simp [go_sem, *] at hm
  clear hK K
  refine EndsF.step rfl (fun _ h₁ => ?_)
  replace hF := FP.rely hF h₁
  clear h₁
  rw [stepG_unwanted rfl rfl]
  simp only [goes_go]
  refine ⟨de_nil, ?_⟩
  walk_nrm
  refine EndsF.step rfl (fun _ h₁ => ?_)
  replace hF := FP.rely hF h₁
  clear h₁
  rw [stepG_unwanted rfl rfl]
  simp only [goes_go]
  refine ⟨de_nil, ?_⟩
  walk_nrm
  refine EndsF.step rfl (fun _ h₁ => ?_)
  replace hF := FP.rely hF h₁
  clear h₁
  refine goes_oper_k rfl rfl (by k_ne) (fun K hK => ?_)
  go_simp
  refine hK _ _ ⟨?_, ?_⟩
  · refine de_none ?_
    intro ex hex
    have hm := mem_listed hex
    simp [go_sem, *] at hm
  clear hK K
  refine EndsF.step rfl (fun _ h₁ => ?_)
  replace hF := FP.rely hF h₁
  clear h₁
  rw [stepG_region_end]
  simp only [goes_go]
  refine ⟨de_nil, ?_⟩
  refine EndsF.step rfl (fun _ h₁ => ?_)
  replace hF := FP.rely hF h₁
  clear h₁
  rw [stepG_cond (t := true) rfl]
  simp only [goes_go, if_true, if_false, Bool.false_eq_true, ↓reduceIte]
  refine ⟨de_nil, ?_⟩
  refine EndsF.step rfl (fun _ h₁ => ?_)
  replace hF := FP.rely hF h₁
  clear h₁
  rw [stepG_seq]
  simp only [goes_go]
  refine ⟨de_nil, ?_⟩
  refine EndsF.step rfl (fun _ h₁ => ?_)
  replace hF := FP.rely hF h₁
  clear h₁
  rw [stepG_region]
  simp only [goes_go, List.size_toArray, List.length_cons, List.length_nil, Nat.reduceAdd, Nat.zero_add, List.range, List.range.loop]
  refine ⟨de_nil, ?_⟩
  refine EndsF.step rfl (fun _ h₁ => ?_)
  replace hF := FP.rely hF h₁
  clear h₁
  refine goes_oper_k rfl rfl (by k_ne) (fun K hK => ?_)
  go_simp
  refine hK _ _ ⟨?_, ?_⟩
  · refine de_none ?_
    intro ex hex
    have hm := mem_listed hex
    simp [go_sem, *] at hm
  clear hK K
  refine EndsF.step rfl (fun _ h₁ => ?_)
  replace hF := FP.rely hF h₁
  clear h₁
  refine goes_oper_k rfl rfl (by k_ne) (fun K hK => ?_)
  go_simp
  refine hK _ _ ⟨?_, ?_⟩
  · refine de_none ?_
    intro ex hex
    have hm := mem_listed hex
    simp [go_sem, *] at hm
  clear hK K
  refine EndsF.step rfl (fun _ h₁ => ?_)
  replace hF := FP.rely hF h₁
  clear h₁
  rw [stepG_region_end]
  simp only [goes_go]
  refine ⟨de_nil, ?_⟩
  refine EndsF.step rfl (fun _ h₁ => ?_)
  replace hF := FP.rely hF h₁
  clear h₁
  rw [stepG_ret']
  simp only [goes_go]
  refine ⟨de_nil, ?_⟩
  refine EndsF.step rfl (fun _ h₁ => ?_)
  replace hF := FP.rely hF h₁
  clear h₁
  refine goes_leave2 rfl rfl Try.func33 rfl ⟨de_nil, ?_⟩
  walk_nrm
  exact hnext _ hF.below hF.size

/-- In the loop behind the phase. -/
structure Q33 (H K : Nat) (w0 : World) (sl : Value) (n : Nat) (l : List Nat) (s r : Nat) (w : World) : Prop where
  below : Below H w0 w
  size : w.heap.size = K
  hi : w.heap[H]? = some (.cells #[sl] 43)
  hc : w.heap[H + 2]? = some (.chan n (found l) true s r false)
theorem Q33.rely {l : List Nat} {s r : Nat} (h : Q33 H K w0 sl n l s r w) (r' : AtRel w w₁) : Q33 H K w0 sl n l s r w₁ := by
  obtain ⟨d, rfl⟩ := r'
  exact ⟨⟨h.below.os, h.below.tape, h.below.output, h.below.size, h.below.block⟩, h.size, h.hi, h.hc⟩
theorem Q33.ci {l : List Nat} {s r : Nat} (h : Q33 H K w0 sl n l s r w) : w.cell? ⟨H, 0, none⟩ = some sl := by simp [World.cell?, h.hi]
theorem found_extract (k : Nat) (l : List Nat) : (found (k :: l)).extract 1 (found (k :: l)).size = found l := by
  simp only [found, List.map_cons, List.size_toArray, List.length_cons, List.extract_toArray, List.extract_eq_take_drop, Nat.add_sub_cancel, List.drop_succ_cons, List.drop_zero]
  rw [List.take_of_length_le (Nat.le_refl _)]
theorem found_head (k : Nat) (l : List Nat) : (found (k :: l)).getD 0 undef = .int .i64 k := by simp [found]
theorem Q33.pop {k : Nat} {l : List Nat} {s r : Nat} (h : Q33 H K w0 sl n (k :: l) s r w) : Q33 H K w0 sl n l s (r + 1) (w.setChan (H + 2) n ((found (k :: l)).extract 1 (found (k :: l)).size) true s (r + 1) false) := by
  have A := aside_setChan w (H + 2) n ((found (k :: l)).extract 1 (found (k :: l)).size) true s (r + 1) false
  have hlt : H + 2 < w.heap.size := (Array.getElem?_eq_some_iff.1 h.hc).1
  refine ⟨⟨A.os.trans h.below.os, A.tape.trans h.below.tape, A.output.trans h.below.output, by rw [A.size]; exact h.below.size, fun b hb => (A.block b (by omega)).trans (h.below.block b hb)⟩, A.size.trans h.size, (A.block _ (by omega)).trans h.hi, ?_⟩
  rw [found_extract]
  simp [World.setChan, hlt]

theorem min2_ev (x y : Int) (w : World) (es : Array Event) : (Builtin.min2 (.int .i64 x) (.int .i64 y)).events Try.prog w es = es := by simp [Builtin.min2, go_sem]

theorem min2_run (x y : Int) (w : World) : (Builtin.min2 (.int .i64 x) (.int .i64 y)).run Try.prog w = .ok (.int .i64 (if y < x then y else x)) w := by simp [Builtin.min2, go_sem]
theorem ite_cast (k m : Nat) : (if (k : Int) < (m : Int) then (k : Int) else (m : Int)) = ((if k < m then k else m : Nat) : Int) := by split <;> split <;> omega

set_option maxRecDepth 100000 in
set_option maxHeartbeats 4000000 in
theorem head33 {sa : Option Addr} {sc : Nat} (hSi : ∀ a : Addr, a.block = H → ¬ Shun (.cell a)) (hHK : H + 2 < K) (hBK : K ≤ B)
    (R : Nat) (hnext : ∀ w', Below H w0 w' → w'.heap.size = K → Back Post Shun B b₀ a₀ ops₀ i₀ rest₀ k₀ cs (.tuple (if R = n then #[.int .i64 0, .int .i64 3] else #[.int .i64 R, .int .i64 0])) w') :
    ∀ (l : List Nat) (m : Nat), least m l = R → ∀ (T : Array Value) (s r : Nat) (w : World), T.size = 41 → T[3]? = some (.pointer (some ⟨H, 0, none⟩)) → T[9]? = some (.int .i64 m) → T[29]? = some (.chan (some (H + 2))) → Q33 H K w0 (.slice sa n sc) n l s r w →
      EndsF Try.prog Post Shun B (Go.Conc.G (b33.at ⟨T, []⟩ [.code L33, .inLoop L33, .inBlock 0, .code K33]) (b₀.at a₀ (.inRegion ops₀ (i₀ :: rest₀) :: k₀) :: cs)) w := by
  intro l
  induction l with
  | nil =>
    intro m hm T s r w hs t3 t9 t29 hF
    rw [least_nil] at hm
    subst hm
    obtain ⟨v0, v1, v2, v3, v4, v5, v6, v7, v8, v9, v10, v11, v12, v13, v14, v15, v16, v17, v18, v19, v20, v21, v22, v23, v24, v25, v26, v27, v28, v29, v30, v31, v32, v33, v34, v35, v36, v37, v38, v39, v40, rfl⟩ := array41 T hs
    simp only [List.getElem?_toArray, List.getElem?_cons_zero, List.getElem?_cons_succ, Option.some.injEq] at t3 t9 t29
    subst t3 t9 t29
    simp only [L33, K33, tail33, Try.f33]
    refine EndsF.step rfl (fun _ h₁ => ?_)
    replace hF := Q33.rely hF h₁
    clear h₁
    rw [stepG_seq]
    simp only [goes_go]
    refine ⟨de_nil, ?_⟩
    refine EndsF.step rfl (fun _ h₁ => ?_)
    replace hF := Q33.rely hF h₁
    clear h₁
    rw [stepG_region]
    simp only [goes_go, List.size_toArray, List.length_cons, List.length_nil, Nat.reduceAdd, Nat.zero_add, List.range, List.range.loop]
    refine ⟨de_nil, ?_⟩
    refine EndsF.recv_closed (z := .int .i64 0) (sh := .recv true) rfl (fun w₁ h₁ => ⟨stepG_comm rfl (by rfl) (by k_ne) (by simp [go_sem, Act.eval, rcase]), ?_⟩) hF.hc (by omega) ?_
    · intro e he
      have hm := mem_listed he
      simp [go_sem, Act.eval] at hm
    rw [finishComm_recv, served_G]
    simp only [recvd, if_true]
    walk_nrm
    refine EndsF.step rfl (fun _ h₁ => ?_)
    replace hF := Q33.rely hF h₁
    clear h₁
    refine goes_oper_k rfl rfl (by k_ne) (fun K hK => ?_)
    go_simp
    refine hK _ _ ⟨?_, ?_⟩
    · refine de_none ?_
      intro ex hex
      have hm := mem_listed hex
      simp [go_sem, *] at hm
    clear hK K
    try w_num
    refine EndsF.step rfl (fun _ h₁ => ?_)
    replace hF := Q33.rely hF h₁
    clear h₁
    rw [stepG_region_end]
    simp only [goes_go]
    refine ⟨de_nil, ?_⟩
    refine EndsF.step rfl (fun _ h₁ => ?_)
    replace hF := Q33.rely hF h₁
    clear h₁
    rw [stepG_seq]
    simp only [goes_go]
    refine ⟨de_nil, ?_⟩
    refine EndsF.step rfl (fun _ h₁ => ?_)
    replace hF := Q33.rely hF h₁
    clear h₁
    rw [stepG_cond (t := false) rfl]
    simp only [goes_go, if_true, if_false, Bool.false_eq_true, ↓reduceIte]
    refine ⟨de_nil, ?_⟩
    refine EndsF.step rfl (fun _ h₁ => ?_)
    replace hF := Q33.rely hF h₁
    clear h₁
    refine goes_exit rfl ?_
    refine ⟨de_nil, ?_⟩
    refine EndsF.step rfl (fun _ h₁ => ?_)
    replace hF := Q33.rely hF h₁
    clear h₁
    rw [stepG_seq]
    simp only [goes_go]
    refine ⟨de_nil, ?_⟩
    refine EndsF.step rfl (fun _ h₁ => ?_)
    replace hF := Q33.rely hF h₁
    clear h₁
    rw [stepG_seq]
    simp only [goes_go]
    refine ⟨de_nil, ?_⟩
    refine EndsF.step rfl (fun _ h₁ => ?_)
    replace hF := Q33.rely hF h₁
    clear h₁
    rw [stepG_region]
    simp only [goes_go, List.size_toArray, List.length_cons, List.length_nil, Nat.reduceAdd, Nat.zero_add, List.range, List.range.loop]
    refine ⟨de_nil, ?_⟩
    refine EndsF.step rfl (fun _ h₁ => ?_)
    replace hF := Q33.rely hF h₁
    clear h₁
    refine goes_oper_k rfl rfl (by k_ne) (fun K hK => ?_)
    go_simp
    refine hK _ _ ⟨?_, ?_⟩
    · refine de_none ?_
      intro ex hex
      have hm := mem_listed hex
      simp [go_sem, *] at hm
    clear hK K
    try w_num
    refine EndsF.step rfl (fun _ h₁ => ?_)
    replace hF := Q33.rely hF h₁
    clear h₁
    refine goes_oper_k rfl rfl (by k_ne) (fun K hK => ?_)
    have hci := hF.ci
    go_simp
    refine hK _ _ ⟨fun ex hex => ?_, ?_⟩
    · have hm := mem_listed hex
      simp [go_sem, *] at hm
      subst hm
      exact evL_cell _ _ (hSi _ rfl) (by show H < B; omega)
    clear hK K
    clear hci
    by_cases e : m = n
    · have e' : (m : Int) = (n : Int) := by omega
      rw [if_pos e] at hnext
      refine EndsF.step rfl (fun _ h₁ => ?_)
      replace hF := Q33.rely hF h₁
      clear h₁
      refine goes_oper_k rfl rfl (by k_ne) (fun K hK => ?_)
      go_simp
      refine hK _ _ ⟨?_, ?_⟩
      · refine de_none ?_
        intro ex hex
        have hm := mem_listed hex
        simp [go_sem, *] at hm
      clear hK K
      try w_num
      refine EndsF.step rfl (fun _ h₁ => ?_)
      replace hF := Q33.rely hF h₁
      clear h₁
      refine goes_oper_k rfl rfl (by k_ne) (fun K hK => ?_)
      go_simp
      refine hK _ _ ⟨?_, ?_⟩
      · refine de_none ?_
        intro ex hex
        have hm := mem_listed hex
        simp [go_sem, *] at hm
      clear hK K
      try w_num
      refine EndsF.step rfl (fun _ h₁ => ?_)
      replace hF := Q33.rely hF h₁
      clear h₁
      rw [stepG_region_end]
      simp only [goes_go]
      refine ⟨de_nil, ?_⟩
      refine EndsF.step rfl (fun _ h₁ => ?_)
      replace hF := Q33.rely hF h₁
      clear h₁
      rw [stepG_cond (t := true) rfl]
      simp only [goes_go, if_true, if_false, Bool.false_eq_true, ↓reduceIte]
      refine ⟨de_nil, ?_⟩
      refine EndsF.step rfl (fun _ h₁ => ?_)
      replace hF := Q33.rely hF h₁
      clear h₁
      rw [stepG_seq]
      simp only [goes_go]
      refine ⟨de_nil, ?_⟩
      refine EndsF.step rfl (fun _ h₁ => ?_)
      replace hF := Q33.rely hF h₁
      clear h₁
      rw [stepG_region]
      simp only [goes_go, List.size_toArray, List.length_cons, List.length_nil, Nat.reduceAdd, Nat.zero_add, List.range, List.range.loop]
      refine ⟨de_nil, ?_⟩
      refine EndsF.step rfl (fun _ h₁ => ?_)
      replace hF := Q33.rely hF h₁
      clear h₁
      refine goes_oper_k rfl rfl (by k_ne) (fun K hK => ?_)
      go_simp
      refine hK _ _ ⟨?_, ?_⟩
      · refine de_none ?_
        intro ex hex
        have hm := mem_listed hex
        simp [go_sem, *] at hm
      clear hK K
      try w_num
      refine EndsF.step rfl (fun _ h₁ => ?_)
      replace hF := Q33.rely hF h₁
      clear h₁
      refine goes_oper_k rfl rfl (by k_ne) (fun K hK => ?_)
      go_simp
      refine hK _ _ ⟨?_, ?_⟩
      · refine de_none ?_
        intro ex hex
        have hm := mem_listed hex
        simp [go_sem, *] at hm
      clear hK K
      try w_num
      refine EndsF.step rfl (fun _ h₁ => ?_)
      replace hF := Q33.rely hF h₁
      clear h₁
      rw [stepG_region_end]
      simp only [goes_go]
      refine ⟨de_nil, ?_⟩
      refine EndsF.step rfl (fun _ h₁ => ?_)
      replace hF := Q33.rely hF h₁
      clear h₁
      rw [stepG_ret']
      simp only [goes_go]
      refine ⟨de_nil, ?_⟩
      refine EndsF.step rfl (fun _ h₁ => ?_)
      replace hF := Q33.rely hF h₁
      clear h₁
      refine goes_leave2 rfl rfl Try.func33 rfl ⟨de_nil, ?_⟩
      walk_nrm
      exact hnext _ hF.below hF.size
    · have e' : ¬ (m : Int) = (n : Int) := by omega
      have e2 : ((m : Int) == (n : Int)) = false := by simpa using e'
      rw [if_neg e] at hnext
      refine EndsF.step rfl (fun _ h₁ => ?_)
      replace hF := Q33.rely hF h₁
      clear h₁
      refine goes_oper_k rfl rfl (by k_ne) (fun K hK => ?_)
      go_simp
      refine hK _ _ ⟨?_, ?_⟩
      · refine de_none ?_
        intro ex hex
        have hm := mem_listed hex
        simp [go_sem, *] at hm
      clear hK K
      try w_num
      refine EndsF.step rfl (fun _ h₁ => ?_)
      replace hF := Q33.rely hF h₁
      clear h₁
      refine goes_oper_k rfl rfl (by k_ne) (fun K hK => ?_)
      go_simp
      refine hK _ _ ⟨?_, ?_⟩
      · refine de_none ?_
        intro ex hex
        have hm := mem_listed hex
        simp [go_sem, *] at hm
      clear hK K
      try w_num
      refine EndsF.step rfl (fun _ h₁ => ?_)
      replace hF := Q33.rely hF h₁
      clear h₁
      rw [stepG_region_end]
      simp only [goes_go]
      refine ⟨de_nil, ?_⟩
      refine EndsF.step rfl (fun _ h₁ => ?_)
      replace hF := Q33.rely hF h₁
      clear h₁
      rw [stepG_cond (t := false) rfl]
      simp only [goes_go, if_true, if_false, Bool.false_eq_true, ↓reduceIte]
      refine ⟨de_nil, ?_⟩
      refine EndsF.step rfl (fun _ h₁ => ?_)
      replace hF := Q33.rely hF h₁
      clear h₁
      rw [stepG_skip]
      simp only [goes_go]
      refine ⟨de_nil, ?_⟩
      refine EndsF.step rfl (fun _ h₁ => ?_)
      replace hF := Q33.rely hF h₁
      clear h₁
      rw [stepG_seq]
      simp only [goes_go]
      refine ⟨de_nil, ?_⟩
      refine EndsF.step rfl (fun _ h₁ => ?_)
      replace hF := Q33.rely hF h₁
      clear h₁
      rw [stepG_region]
      simp only [goes_go, List.size_toArray, List.length_cons, List.length_nil, Nat.reduceAdd, Nat.zero_add, List.range, List.range.loop]
      refine ⟨de_nil, ?_⟩
      refine EndsF.step rfl (fun _ h₁ => ?_)
      replace hF := Q33.rely hF h₁
      clear h₁
      refine goes_oper_k rfl rfl (by k_ne) (fun K hK => ?_)
      go_simp
      refine hK _ _ ⟨?_, ?_⟩
      · refine de_none ?_
        intro ex hex
        have hm := mem_listed hex
        simp [go_sem, *] at hm
      clear hK K
      try w_num
      refine EndsF.step rfl (fun _ h₁ => ?_)
      replace hF := Q33.rely hF h₁
      clear h₁
      refine goes_oper_k rfl rfl (by k_ne) (fun K hK => ?_)
      go_simp
      refine hK _ _ ⟨?_, ?_⟩
      · refine de_none ?_
        intro ex hex
        have hm := mem_listed hex
        simp [go_sem, *] at hm
      clear hK K
      try w_num
      refine EndsF.step rfl (fun _ h₁ => ?_)
      replace hF := Q33.rely hF h₁
      clear h₁
      refine goes_oper_k rfl rfl (by k_ne) (fun K hK => ?_)
      go_simp
      refine hK _ _ ⟨?_, ?_⟩
      · refine de_none ?_
        intro ex hex
        have hm := mem_listed hex
        simp [go_sem, *] at hm
      clear hK K
      try w_num
      refine EndsF.step rfl (fun _ h₁ => ?_)
      replace hF := Q33.rely hF h₁
      clear h₁
      rw [stepG_region_end]
      simp only [goes_go]
      refine ⟨de_nil, ?_⟩
      refine EndsF.step rfl (fun _ h₁ => ?_)
      replace hF := Q33.rely hF h₁
      clear h₁
      rw [stepG_ret']
      simp only [goes_go]
      refine ⟨de_nil, ?_⟩
      refine EndsF.step rfl (fun _ h₁ => ?_)
      replace hF := Q33.rely hF h₁
      clear h₁
      refine goes_leave2 rfl rfl Try.func33 rfl ⟨de_nil, ?_⟩
      walk_nrm
      exact hnext _ hF.below hF.size
  | cons k l ih =>
    intro m hm T s r w hs t3 t9 t29 hF
    rw [least_cons] at hm
    have ih' := ih _ hm
    clear ih
    obtain ⟨v0, v1, v2, v3, v4, v5, v6, v7, v8, v9, v10, v11, v12, v13, v14, v15, v16, v17, v18, v19, v20, v21, v22, v23, v24, v25, v26, v27, v28, v29, v30, v31, v32, v33, v34, v35, v36, v37, v38, v39, v40, rfl⟩ := array41 T hs
    simp only [List.getElem?_toArray, List.getElem?_cons_zero, List.getElem?_cons_succ, Option.some.injEq] at t3 t9 t29
    subst t3 t9 t29
    simp only [L33, K33, tail33, Try.f33] at ih' ⊢
    refine EndsF.step rfl (fun _ h₁ => ?_)
    replace hF := Q33.rely hF h₁
    clear h₁
    rw [stepG_seq]
    simp only [goes_go]
    refine ⟨de_nil, ?_⟩
    refine EndsF.step rfl (fun _ h₁ => ?_)
    replace hF := Q33.rely hF h₁
    clear h₁
    rw [stepG_region]
    simp only [goes_go, List.size_toArray, List.length_cons, List.length_nil, Nat.reduceAdd, Nat.zero_add, List.range, List.range.loop]
    refine ⟨de_nil, ?_⟩
    refine EndsF.recv_buf (z := .int .i64 0) (sh := .recv true) rfl (fun w₁ h₁ => ⟨stepG_comm rfl (by rfl) (by k_ne) (by simp [go_sem, Act.eval, rcase]), ?_⟩) hF.hc (by rw [size_found]; simp) (by omega) ?_
    · intro e he
      have hm := mem_listed he
      simp [go_sem, Act.eval] at hm
    rw [found_head, finishComm_recv, served_G]
    replace hF := hF.pop
    simp only [recvd, if_true]
    walk_nrm
    refine EndsF.step rfl (fun _ h₁ => ?_)
    replace hF := Q33.rely hF h₁
    clear h₁
    refine goes_oper_k rfl rfl (by k_ne) (fun K hK => ?_)
    go_simp
    refine hK _ _ ⟨?_, ?_⟩
    · refine de_none ?_
      intro ex hex
      have hm := mem_listed hex
      simp [go_sem, *] at hm
    clear hK K
    try w_num
    refine EndsF.step rfl (fun _ h₁ => ?_)
    replace hF := Q33.rely hF h₁
    clear h₁
    rw [stepG_region_end]
    simp only [goes_go]
    refine ⟨de_nil, ?_⟩
    refine EndsF.step rfl (fun _ h₁ => ?_)
    replace hF := Q33.rely hF h₁
    clear h₁
    rw [stepG_seq]
    simp only [goes_go]
    refine ⟨de_nil, ?_⟩
    refine EndsF.step rfl (fun _ h₁ => ?_)
    replace hF := Q33.rely hF h₁
    clear h₁
    rw [stepG_cond (t := true) rfl]
    simp only [goes_go, if_true, if_false, Bool.false_eq_true, ↓reduceIte]
    refine ⟨de_nil, ?_⟩
    refine EndsF.step rfl (fun _ h₁ => ?_)
    replace hF := Q33.rely hF h₁
    clear h₁
    rw [stepG_skip]
    simp only [goes_go]
    refine ⟨de_nil, ?_⟩
    refine EndsF.step rfl (fun _ h₁ => ?_)
    replace hF := Q33.rely hF h₁
    clear h₁
    rw [stepG_block]
    simp only [goes_go]
    refine ⟨de_nil, ?_⟩
    refine EndsF.step rfl (fun _ h₁ => ?_)
    replace hF := Q33.rely hF h₁
    clear h₁
    rw [stepG_seq]
    simp only [goes_go]
    refine ⟨de_nil, ?_⟩
    refine EndsF.step rfl (fun _ h₁ => ?_)
    replace hF := Q33.rely hF h₁
    clear h₁
    rw [stepG_region]
    simp only [goes_go, List.size_toArray, List.length_cons, List.length_nil, Nat.reduceAdd, Nat.zero_add, List.range, List.range.loop]
    refine ⟨de_nil, ?_⟩
    refine EndsF.step rfl (fun _ h₁ => ?_)
    replace hF := Q33.rely hF h₁
    clear h₁
    refine goes_oper_k rfl rfl (by k_ne) (fun K hK => ?_)
    go_simp
    refine hK _ _ ⟨?_, ?_⟩
    · refine de_none ?_
      intro ex hex
      have hm := mem_listed hex
      simp [go_sem, *] at hm
    clear hK K
    try w_num
    refine EndsF.step rfl (fun _ h₁ => ?_)
    replace hF := Q33.rely hF h₁
    clear h₁
    refine goes_oper_k rfl rfl (by k_ne) (fun K hK => ?_)
    go_simp
    refine hK _ _ ⟨?_, ?_⟩
    · refine de_none ?_
      intro ex hex
      have hm := mem_listed hex
      simp [go_sem, *] at hm
    clear hK K
    try w_num
    refine EndsF.step rfl (fun _ h₁ => ?_)
    replace hF := Q33.rely hF h₁
    clear h₁
    rw [stepG_region_end]
    simp only [goes_go]
    refine ⟨de_nil, ?_⟩
    refine EndsF.step rfl (fun _ h₁ => ?_)
    replace hF := Q33.rely hF h₁
    clear h₁
    rw [stepG_region]
    simp only [goes_go, List.size_toArray, List.length_cons, List.length_nil, Nat.reduceAdd, Nat.zero_add, List.range, List.range.loop]
    refine ⟨de_nil, ?_⟩
    refine EndsF.step rfl (fun _ h₁ => ?_)
    replace hF := Q33.rely hF h₁
    clear h₁
    refine goes_oper_k rfl rfl (by k_ne) (fun K hK => ?_)
    go_simp
    refine hK _ _ ⟨?_, ?_⟩
    · refine de_none ?_
      intro ex hex
      have hm := mem_listed hex
      simp [go_sem, *] at hm
    clear hK K
    try w_num
    refine EndsF.step rfl (fun _ h₁ => ?_)
    replace hF := Q33.rely hF h₁
    clear h₁
    refine goes_oper_k rfl rfl (by k_ne) (fun K hK => ?_)
    go_simp
    refine hK _ _ ⟨?_, ?_⟩
    · refine de_none ?_
      intro ex hex
      have hm := mem_listed hex
      simp [go_sem, *] at hm
    clear hK K
    try w_num
    refine EndsF.step rfl (fun _ h₁ => ?_)
    replace hF := Q33.rely hF h₁
    clear h₁
    refine goes_oper_k rfl rfl (by k_ne) (fun K hK => ?_)
    have hm1 := min2_run m k
    have hm2 := min2_ev m k
    go_simp
    refine hK _ _ ⟨?_, ?_⟩
    · refine de_none ?_
      intro ex hex
      have hm := mem_listed hex
      simp [go_sem, Builtin.min_, hm2] at hm
    clear hK K hm1 hm2
    refine EndsF.step rfl (fun _ h₁ => ?_)
    replace hF := Q33.rely hF h₁
    clear h₁
    refine goes_oper_k rfl rfl (by k_ne) (fun K hK => ?_)
    go_simp
    refine hK _ _ ⟨?_, ?_⟩
    · refine de_none ?_
      intro ex hex
      have hm := mem_listed hex
      simp [go_sem, *] at hm
    clear hK K
    try w_num
    refine EndsF.step rfl (fun _ h₁ => ?_)
    replace hF := Q33.rely hF h₁
    clear h₁
    rw [stepG_region_end]
    simp only [goes_go]
    refine ⟨de_nil, ?_⟩
    refine EndsF.step rfl (fun _ h₁ => ?_)
    replace hF := Q33.rely hF h₁
    clear h₁
    rw [stepG_inBlock]
    simp only [goes_go]
    refine ⟨de_nil, ?_⟩
    refine EndsF.step rfl (fun _ h₁ => ?_)
    replace hF := Q33.rely hF h₁
    clear h₁
    rw [stepG_inLoop]
    simp only [goes_go]
    refine ⟨de_nil, ?_⟩
    exact ih' _ _ _ _ (by simp) (by simp) (by simp; split <;> rfl) (by simp) hF
end
end Go.Pool
