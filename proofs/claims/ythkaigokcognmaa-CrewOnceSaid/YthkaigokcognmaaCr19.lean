/-
  CREW 19: CrewOnce: its rows; its two loops; what stands behind them.
-/
import Derived.Test.YthkaigokcognmaaCr15
import Derived.Test.YthkaigokcognmaaCr4
import Derived.Laws.BitsLemmas
import Derived.Laws.OwnMore
set_option linter.unusedSimpArgs false
namespace Go.Pool
open Go.Conc Go.RowKit Go.Proofs Go.ConcN Go.Conc.Lib Go.ConcR.Gen Go.ConcN.Gen
open Go.ConcR (KK wgBlock WgAt stA smA rd wr mk DC0)

noncomputable def body9 : Code := Try.f9.body.getD .skip
noncomputable def L9a : Code := match Try.f9.body with
  | some (.seq _ (.seq _ (.seq _ (.seq _ (.seq (.seq _ (.block _ (.loop c))) _))))) => c
  | _ => .skip
noncomputable def K9 : Code := match Try.f9.body with
  | some (.seq _ (.seq _ (.seq _ (.seq _ (.seq _ c))))) => c
  | _ => .skip
noncomputable def L9b : Code := match K9 with
  | .seq _ (.seq _ (.seq (.seq _ (.block _ (.loop c))) _)) => c
  | _ => .skip
noncomputable def K9b : Code := match K9 with
  | .seq _ (.seq _ (.seq _ c)) => c
  | _ => .skip
def b9 : Frame := base 9

theorem array62 (T : Array Value) (h : T.size = 62) : ∃ v0 v1 v2 v3 v4 v5 v6 v7 v8 v9 v10 v11 v12 v13 v14 v15 v16 v17 v18 v19 v20 v21 v22 v23 v24 v25 v26 v27 v28 v29 v30 v31 v32 v33 v34 v35 v36 v37 v38 v39 v40 v41 v42 v43 v44 v45 v46 v47 v48 v49 v50 v51 v52 v53 v54 v55 v56 v57 v58 v59 v60 v61, T = #[v0, v1, v2, v3, v4, v5, v6, v7, v8, v9, v10, v11, v12, v13, v14, v15, v16, v17, v18, v19, v20, v21, v22, v23, v24, v25, v26, v27, v28, v29, v30, v31, v32, v33, v34, v35, v36, v37, v38, v39, v40, v41, v42, v43, v44, v45, v46, v47, v48, v49, v50, v51, v52, v53, v54, v55, v56, v57, v58, v59, v60, v61] :=
  ⟨T[0], T[1], T[2], T[3], T[4], T[5], T[6], T[7], T[8], T[9], T[10], T[11], T[12], T[13], T[14], T[15], T[16], T[17], T[18], T[19], T[20], T[21], T[22], T[23], T[24], T[25], T[26], T[27], T[28], T[29], T[30], T[31], T[32], T[33], T[34], T[35], T[36], T[37], T[38], T[39], T[40], T[41], T[42], T[43], T[44], T[45], T[46], T[47], T[48], T[49], T[50], T[51], T[52], T[53], T[54], T[55], T[56], T[57], T[58], T[59], T[60], T[61], by
    apply Array.ext (by simp [h])
    intro i h1 h2
    have hi : i < 62 := by omega
    iterate 62 (rcases i with _ | i; · rfl)
    omega⟩


theorem i64_and127 (n : Int) : bits .and .i64 n 127 = n % 128 := by
  have h15 : (BitVec.ofInt 64 127).toNat = 2 ^ 7 - 1 := by decide
  have key : (BitVec.ofInt 64 n &&& BitVec.ofInt 64 127).toNat = (n % ((2 ^ 64 : Nat) : Int)).toNat % 2 ^ 7 := by
    rw [BitVec.toNat_and, BitVec.toNat_ofInt, h15, Nat.and_two_pow_sub_one_eq_mod]
  show IntKind.i64.wrap ((BitVec.ofInt 64 n &&& BitVec.ofInt 64 127).toNat : Nat) = n % 128
  rw [key, IntKind.wrap_i64]
  omega


theorem made_get (n k : Nat) (hk : k < n) : (madeCells #[.int .i64 0] n)[k]? = some (.int .i64 0) := by
  rw [← Array.getElem?_toList, toList_madeCells_one, List.getElem?_replicate]
  simp [hk]

/-- The rows of CrewOnce, the first i of in's cells written. -/
structure O1 (W : World) (H n i : Nat) (w : World) : Prop where
  below : Below H W w
  size : w.heap.size = H + 3
  hin : ∃ cs, w.heap[H]? = some (.cells cs 3) ∧ cs.size = n ∧ ∀ j, j < i → cs[j]? = some (.int .i64 j)
  hca : w.heap[H + 1]? = some (.cells (madeCells #[.int .i64 0] n) 3)
  hv : w.heap[H + 2]? = some (.cells #[.slice (some ⟨H + 1, 0, none⟩) n n] 43)

theorem O1.rely {W : World} {H n i : Nat} {w w₁ : World} (h : O1 W H n i w) (r : AtRel w w₁) : O1 W H n i w₁ := by
  obtain ⟨d, rfl⟩ := r
  exact ⟨⟨h.below.os, h.below.tape, h.below.output, h.below.size, h.below.block⟩, h.size, h.hin, h.hca, h.hv⟩
theorem O1.write {W : World} {H n i : Nat} {w : World} (h : O1 W H n i w) (hi : i < n) : O1 W H n (i + 1) (w.setCell ⟨H, i, none⟩ (.int .i64 i)) := by
  have A := aside_setCell w ⟨H, i, none⟩ (.int .i64 i)
  obtain ⟨cs, h1, h2, h3⟩ := h.hin
  refine ⟨h.below.setCell (Nat.le_refl H) _, A.size.trans h.size, ⟨_, heap_setCell_at h1, by simpa using h2, fun j hj => ?_⟩, (A.block _ (by show H + 1 ≠ H; omega)).trans h.hca, (A.block _ (by show H + 2 ≠ H; omega)).trans h.hv⟩
  by_cases e : j = i
  · subst e; rw [Array.getElem?_setIfInBounds_self_of_lt (by omega)]
  · rw [Array.getElem?_setIfInBounds_ne (Ne.symm e)]; exact h3 j (by omega)

/-- What the temporaries hold in the first loop. -/
structure TA (wv : Int) (H n i : Nat) (T : Array Value) : Prop where
  size : T.size = 62
  t1 : T[1]? = some (.int .i64 wv)
  t5 : T[5]? = some (.int .i64 n)
  t6 : T[6]? = some (.slice (some ⟨H, 0, none⟩) n n)
  t7 : T[7]? = some (.pointer (some ⟨H + 2, 0, none⟩))
  t8 : T[8]? = some (.int .i64 i)

section
variable {W w : World} {Shun : Loc → Prop} {B H n : Nat} {wv : Int} {Post : Value → World → Prop}

set_option maxRecDepth 100000 in
set_option maxHeartbeats 4000000 in
theorem head9a (hn : n ≤ 127) (hSc : ∀ z : Addr, H ≤ z.block → ¬ Shun (.cell z)) (hB : H < B)
    (hnext : ∀ T w, TA wv H n n T → O1 W H n n w → EndsF Try.prog Post Shun B (Go.Conc.G (b9.at ⟨T, []⟩ [.code K9]) []) w) :
    ∀ r i, i + r = n → ∀ (T : Array Value) (w : World), TA wv H n i T → O1 W H n i w → EndsF Try.prog Post Shun B (Go.Conc.G (b9.at ⟨T, []⟩ [.code L9a, .inLoop L9a, .inBlock 0, .code K9]) []) w := by
  intro r
  induction r with
  | zero =>
    intro i hi T w ⟨hs, t1, t5, t6, t7, t8⟩ hF
    obtain rfl : i = n := by omega
    obtain ⟨v0, v1, v2, v3, v4, v5, v6, v7, v8, v9, v10, v11, v12, v13, v14, v15, v16, v17, v18, v19, v20, v21, v22, v23, v24, v25, v26, v27, v28, v29, v30, v31, v32, v33, v34, v35, v36, v37, v38, v39, v40, v41, v42, v43, v44, v45, v46, v47, v48, v49, v50, v51, v52, v53, v54, v55, v56, v57, v58, v59, v60, v61, rfl⟩ := array62 T hs
    simp only [List.getElem?_toArray, List.getElem?_cons_zero, List.getElem?_cons_succ, Option.some.injEq] at t1 t5 t6 t7 t8
    subst t1 t5 t6 t7 t8
    simp only [L9a, K9, Try.f9] at hnext ⊢
    have hlt : ¬ (i : Int) < (i : Int) := by omega
    refine EndsF.step rfl (fun _ h₁ => ?_)
    replace hF := O1.rely hF h₁
    clear h₁
    rw [stepG_seq]
    simp only [goes_go]
    refine ⟨de_nil, ?_⟩
    refine EndsF.step rfl (fun _ h₁ => ?_)
    replace hF := O1.rely hF h₁
    clear h₁
    rw [stepG_seq]
    simp only [goes_go]
    refine ⟨de_nil, ?_⟩
    refine EndsF.step rfl (fun _ h₁ => ?_)
    replace hF := O1.rely hF h₁
    clear h₁
    rw [stepG_region]
    simp only [goes_go, List.size_toArray, List.length_cons, List.length_nil, Nat.reduceAdd, Nat.zero_add, List.range, List.range.loop]
    refine ⟨de_nil, ?_⟩
    refine EndsF.step rfl (fun _ h₁ => ?_)
    replace hF := O1.rely hF h₁
    clear h₁
    refine goes_oper_k rfl rfl (by k_ne) (fun K hK => ?_)
    go_simp
    refine hK _ _ ⟨?_, ?_⟩
    · refine de_none ?_
      intro ex hex
      have hm := mem_listed hex
      simp [go_sem, *] at hm
    clear hK K
    try w_num
    refine EndsF.step rfl (fun _ h₁ => ?_)
    replace hF := O1.rely hF h₁
    clear h₁
    refine goes_oper_k rfl rfl (by k_ne) (fun K hK => ?_)
    go_simp
    refine hK _ _ ⟨?_, ?_⟩
    · refine de_none ?_
      intro ex hex
      have hm := mem_listed hex
      simp [go_sem, *] at hm
    clear hK K
    try w_num
    refine EndsF.step rfl (fun _ h₁ => ?_)
    replace hF := O1.rely hF h₁
    clear h₁
    refine goes_oper_k rfl rfl (by k_ne) (fun K hK => ?_)
    go_simp
    refine hK _ _ ⟨?_, ?_⟩
    · refine de_none ?_
      intro ex hex
      have hm := mem_listed hex
      simp [go_sem, *] at hm
    clear hK K
    try w_num
    refine EndsF.step rfl (fun _ h₁ => ?_)
    replace hF := O1.rely hF h₁
    clear h₁
    rw [stepG_region_end]
    simp only [goes_go]
    refine ⟨de_nil, ?_⟩
    refine EndsF.step rfl (fun _ h₁ => ?_)
    replace hF := O1.rely hF h₁
    clear h₁
    rw [stepG_cond (t := false) rfl]
    simp only [goes_go, if_true, if_false, Bool.false_eq_true, ↓reduceIte]
    refine ⟨de_nil, ?_⟩
    refine EndsF.step rfl (fun _ h₁ => ?_)
    replace hF := O1.rely hF h₁
    clear h₁
    refine goes_exit rfl ?_
    refine ⟨de_nil, ?_⟩
    exact hnext _ _ ⟨by simp, by simp, by simp, by simp, by simp, by simp⟩ hF
  | succ r ih =>
    intro i hi T w ⟨hs, t1, t5, t6, t7, t8⟩ hF
    obtain ⟨v0, v1, v2, v3, v4, v5, v6, v7, v8, v9, v10, v11, v12, v13, v14, v15, v16, v17, v18, v19, v20, v21, v22, v23, v24, v25, v26, v27, v28, v29, v30, v31, v32, v33, v34, v35, v36, v37, v38, v39, v40, v41, v42, v43, v44, v45, v46, v47, v48, v49, v50, v51, v52, v53, v54, v55, v56, v57, v58, v59, v60, v61, rfl⟩ := array62 T hs
    simp only [List.getElem?_toArray, List.getElem?_cons_zero, List.getElem?_cons_succ, Option.some.injEq] at t1 t5 t6 t7 t8
    subst t1 t5 t6 t7 t8
    have ih' := ih (i + 1) (by omega)
    clear ih hnext
    simp only [L9a, K9, Try.f9] at ih' ⊢
    have hlt : (i : Int) < (n : Int) := by omega
    have hw : IntKind.i64.wrap ((i : Int) + 1) = ((i + 1 : Nat) : Int) := by rw [IntKind.wrap_i64]; omega
    refine EndsF.step rfl (fun _ h₁ => ?_)
    replace hF := O1.rely hF h₁
    clear h₁
    rw [stepG_seq]
    simp only [goes_go]
    refine ⟨de_nil, ?_⟩
    refine EndsF.step rfl (fun _ h₁ => ?_)
    replace hF := O1.rely hF h₁
    clear h₁
    rw [stepG_seq]
    simp only [goes_go]
    refine ⟨de_nil, ?_⟩
    refine EndsF.step rfl (fun _ h₁ => ?_)
    replace hF := O1.rely hF h₁
    clear h₁
    rw [stepG_region]
    simp only [goes_go, List.size_toArray, List.length_cons, List.length_nil, Nat.reduceAdd, Nat.zero_add, List.range, List.range.loop]
    refine ⟨de_nil, ?_⟩
    refine EndsF.step rfl (fun _ h₁ => ?_)
    replace hF := O1.rely hF h₁
    clear h₁
    refine goes_oper_k rfl rfl (by k_ne) (fun K hK => ?_)
    go_simp
    refine hK _ _ ⟨?_, ?_⟩
    · refine de_none ?_
      intro ex hex
      have hm := mem_listed hex
      simp [go_sem, *] at hm
    clear hK K
    try w_num
    refine EndsF.step rfl (fun _ h₁ => ?_)
    replace hF := O1.rely hF h₁
    clear h₁
    refine goes_oper_k rfl rfl (by k_ne) (fun K hK => ?_)
    go_simp
    refine hK _ _ ⟨?_, ?_⟩
    · refine de_none ?_
      intro ex hex
      have hm := mem_listed hex
      simp [go_sem, *] at hm
    clear hK K
    try w_num
    refine EndsF.step rfl (fun _ h₁ => ?_)
    replace hF := O1.rely hF h₁
    clear h₁
    refine goes_oper_k rfl rfl (by k_ne) (fun K hK => ?_)
    go_simp
    refine hK _ _ ⟨?_, ?_⟩
    · refine de_none ?_
      intro ex hex
      have hm := mem_listed hex
      simp [go_sem, *] at hm
    clear hK K
    try w_num
    refine EndsF.step rfl (fun _ h₁ => ?_)
    replace hF := O1.rely hF h₁
    clear h₁
    rw [stepG_region_end]
    simp only [goes_go]
    refine ⟨de_nil, ?_⟩
    refine EndsF.step rfl (fun _ h₁ => ?_)
    replace hF := O1.rely hF h₁
    clear h₁
    rw [stepG_cond (t := true) rfl]
    simp only [goes_go, if_true, if_false, Bool.false_eq_true, ↓reduceIte]
    refine ⟨de_nil, ?_⟩
    refine EndsF.step rfl (fun _ h₁ => ?_)
    replace hF := O1.rely hF h₁
    clear h₁
    rw [stepG_skip]
    simp only [goes_go]
    refine ⟨de_nil, ?_⟩
    refine EndsF.step rfl (fun _ h₁ => ?_)
    replace hF := O1.rely hF h₁
    clear h₁
    rw [stepG_seq]
    simp only [goes_go]
    refine ⟨de_nil, ?_⟩
    refine EndsF.step rfl (fun _ h₁ => ?_)
    replace hF := O1.rely hF h₁
    clear h₁
    rw [stepG_block]
    simp only [goes_go]
    refine ⟨de_nil, ?_⟩
    refine EndsF.step rfl (fun _ h₁ => ?_)
    replace hF := O1.rely hF h₁
    clear h₁
    rw [stepG_region]
    simp only [goes_go, List.size_toArray, List.length_cons, List.length_nil, Nat.reduceAdd, Nat.zero_add, List.range, List.range.loop]
    refine ⟨de_nil, ?_⟩
    refine EndsF.step rfl (fun _ h₁ => ?_)
    replace hF := O1.rely hF h₁
    clear h₁
    refine goes_oper_k rfl rfl (by k_ne) (fun K hK => ?_)
    go_simp
    refine hK _ _ ⟨?_, ?_⟩
    · refine de_none ?_
      intro ex hex
      have hm := mem_listed hex
      simp [go_sem, *] at hm
    clear hK K
    try w_num
    refine EndsF.step rfl (fun _ h₁ => ?_)
    replace hF := O1.rely hF h₁
    clear h₁
    refine goes_oper_k rfl rfl (by k_ne) (fun K hK => ?_)
    go_simp
    refine hK _ _ ⟨?_, ?_⟩
    · refine de_none ?_
      intro ex hex
      have hm := mem_listed hex
      simp [go_sem, *] at hm
    clear hK K
    try w_num
    refine EndsF.step rfl (fun _ h₁ => ?_)
    replace hF := O1.rely hF h₁
    clear h₁
    refine goes_oper_k rfl rfl (by k_ne) (fun K hK => ?_)
    go_simp
    refine hK _ _ ⟨?_, ?_⟩
    · refine de_none ?_
      intro ex hex
      have hm := mem_listed hex
      simp [go_sem, *] at hm
    clear hK K
    try w_num
    refine EndsF.step rfl (fun _ h₁ => ?_)
    replace hF := O1.rely hF h₁
    clear h₁
    refine goes_oper_k rfl rfl (by k_ne) (fun K hK => ?_)
    go_simp
    refine hK _ _ ⟨?_, ?_⟩
    · refine de_none ?_
      intro ex hex
      have hm := mem_listed hex
      simp [go_sem, *] at hm
    clear hK K
    try w_num
    refine EndsF.step rfl (fun w5 h₁ => ?_)
    replace hF := O1.rely hF h₁
    clear h₁
    obtain ⟨cs, h1, h2, h3⟩ := hF.hin
    have hltc : i < cs.size := by omega
    have hcell : w5.cell? ⟨H, i, none⟩ = some cs[i] := by simp [World.cell?, h1, hltc]
    have hfr : w5.frozen? ⟨H, i, none⟩ = false := by simp [World.frozen?, h1]
    refine goes_oper_k rfl rfl (by k_ne) (fun K hK => ?_)
    go_simp
    try (unfold stored; go_simp)
    refine hK _ _ ⟨?_, ?_⟩
    · intro ex hex
      have hm := mem_listed hex
      simp [go_sem, *] at hm
      subst hm
      exact evL_cell _ _ (hSc _ (Nat.le_refl H)) hB
    clear hK K hcell hfr h1 h2 h3 hltc
    replace hF := hF.write (by omega)
    refine EndsF.step rfl (fun _ h₁ => ?_)
    replace hF := O1.rely hF h₁
    clear h₁
    rw [stepG_region_end]
    simp only [goes_go]
    refine ⟨de_nil, ?_⟩
    refine EndsF.step rfl (fun _ h₁ => ?_)
    replace hF := O1.rely hF h₁
    clear h₁
    rw [stepG_inBlock]
    simp only [goes_go]
    refine ⟨de_nil, ?_⟩
    refine EndsF.step rfl (fun _ h₁ => ?_)
    replace hF := O1.rely hF h₁
    clear h₁
    rw [stepG_region]
    simp only [goes_go, List.size_toArray, List.length_cons, List.length_nil, Nat.reduceAdd, Nat.zero_add, List.range, List.range.loop]
    refine ⟨de_nil, ?_⟩
    refine EndsF.step rfl (fun _ h₁ => ?_)
    replace hF := O1.rely hF h₁
    clear h₁
    refine goes_oper_k rfl rfl (by k_ne) (fun K hK => ?_)
    go_simp
    refine hK _ _ ⟨?_, ?_⟩
    · refine de_none ?_
      intro ex hex
      have hm := mem_listed hex
      simp [go_sem, *] at hm
    clear hK K
    try w_num
    refine EndsF.step rfl (fun _ h₁ => ?_)
    replace hF := O1.rely hF h₁
    clear h₁
    refine goes_oper_k rfl rfl (by k_ne) (fun K hK => ?_)
    go_simp
    refine hK _ _ ⟨?_, ?_⟩
    · refine de_none ?_
      intro ex hex
      have hm := mem_listed hex
      simp [go_sem, *] at hm
    clear hK K
    try w_num
    refine EndsF.step rfl (fun _ h₁ => ?_)
    replace hF := O1.rely hF h₁
    clear h₁
    refine goes_oper_k rfl rfl (by k_ne) (fun K hK => ?_)
    go_simp
    refine hK _ _ ⟨?_, ?_⟩
    · refine de_none ?_
      intro ex hex
      have hm := mem_listed hex
      simp [go_sem, *] at hm
    clear hK K
    try w_num
    refine EndsF.step rfl (fun _ h₁ => ?_)
    replace hF := O1.rely hF h₁
    clear h₁
    rw [stepG_region_end]
    simp only [goes_go]
    refine ⟨de_nil, ?_⟩
    refine EndsF.step rfl (fun _ h₁ => ?_)
    replace hF := O1.rely hF h₁
    clear h₁
    rw [stepG_inLoop]
    simp only [goes_go]
    refine ⟨de_nil, ?_⟩
    exact ih' _ _ ⟨by simp, by simp, by simp, by simp, by simp, by simp⟩ hF
end
end Go.Pool
