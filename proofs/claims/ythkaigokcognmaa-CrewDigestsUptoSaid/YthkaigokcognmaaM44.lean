/- A part of the proof of CrewDigestsUpto (no statement of its own): Dg13. -/
import Derived.Test.YthkaigokcognmaaM43
section
set_option linter.unusedSimpArgs false
namespace Go.Pool
open Go.Conc Go.RowKit Go.Proofs Go.ConcN Go.Conc.Lib Go.ConcR.Gen Go.ConcN.Gen
open Go.ConcR (KK wgBlock WgAt stA smA rd wr mk DC0)
theorem nm37 : (Try.f37.name == "runtime.NumGoroutine") = false := by kernel_rfl
noncomputable def M12 : Code := match Try.f12.body with
 | some (.seq _ (.seq _ c)) => c
 | _ => .skip
abbrev E12 (W : World) (S T : Nat → ByteArray) (K : Nat) (O : Option Addr) (m : Nat) (w : World) : Prop := (Below W.heap.size W w ∧ w.heap.size = K) ∧ RowT O m (dgs S T) w
theorem E12.rely {W : World} {S T : Nat → ByteArray} {K : Nat} {O : Option Addr} {m : Nat} {w w₁ : World} (h : E12 W S T K O m w) (r : AtRel w w₁) : E12 W S T K O m w₁ := by
 refine ⟨sz_rely h.1 r, ?_⟩
 obtain ⟨d, rfl⟩ := r
 exact h.2
section
variable {W : World} {Shun : Loc → Prop} {n1 n2 K m : Nat} {O : Option Addr} {er N : Int} {sa1 sa2 : Option Addr} {c1 c2 : Nat} {S T : Nat → ByteArray}
set_option maxRecDepth 100000 in
set_option maxHeartbeats 8000000 in
theorem mid12 (hn : n1 ≤ 1048576) (hn2 : n2 ≤ 1048576) (hHK : W.heap.size ≤ K) (hSc : ∀ a : Addr, K ≤ a.block → ¬ Shun (.cell a)) (hSo : ∀ r, ¬ Shun (.obj r)) (h1 : StrIn Shun W.heap.size W n1 sa1 S) (h2 : StrIn Shun W.heap.size W n2 sa2 T) (hT : ∀ k, k < n2 → (T k).size ≤ 140737488355000) (hO : OkRow Shun K O m)
  (hres : (((1 ≤ N ∧ N ≤ 64) ∧ n1 = n2 ∧ ∀ j, j < n1 → (S j).size ≤ 32) ∧ m = n1 ∧ er = 0) ∨ (¬ ((1 ≤ N ∧ N ≤ 64) ∧ n1 = n2 ∧ ∀ j, j < n1 → (S j).size ≤ 32) ∧ m = 0 ∧ er = 1))
  (A : Array Value) (w : World) (hs : A.size = 85) (t0 : A[0]? = some (.slice sa1 n1 c1)) (t1 : A[1]? = some (.slice sa2 n2 c2)) (t2 : A[2]? = some (.int .i64 N)) (t7 : A[7]? = some (.slice O m m)) (t8 : A[8]? = some (.int .i64 er)) (hF : E12 W S T K O m w) :
  EndsF Try.prog (PostL W) Shun K (Go.Conc.G (b12.at ⟨A, []⟩ [.code M12]) []) w := by
 obtain ⟨v0, v1, v2, v3, v4, v5, v6, v7, v8, v9, v10, v11, v12, v13, v14, v15, v16, v17, v18, v19, v20, v21, v22, v23, v24, v25, v26, v27, v28, v29, v30, v31, v32, v33, v34, v35, v36, v37, v38, v39, v40, v41, v42, v43, v44, v45, v46, v47, v48, v49, v50, v51, v52, v53, v54, v55, v56, v57, v58, v59, v60, v61, v62, v63, v64, v65, v66, v67, v68, v69, v70, v71, v72, v73, v74, v75, v76, v77, v78, v79, v80, v81, v82, v83, v84, rfl⟩ := array85 A hs
 simp only [List.getElem?_toArray, List.getElem?_cons_zero, List.getElem?_cons_succ, Option.some.injEq] at t0 t1 t2 t7 t8
 subst t0 t1 t2 t7 t8
 by_cases hf : 1 ≤ N ∧ N ≤ 64
 ·have ea : (decide (1 ≤ N) && decide (N ≤ 64)) = true := by simpa [Bool.and_eq_true] using hf
  by_cases hnn : n1 = n2
  ·subst hnn
   have hHd := head12 (W := W) (Shun := Shun) (n := n1) (K := K) (m := m) (O := O) (er := er) (sa1 := sa1) (sa2 := sa2) (c1 := c1) (c2 := c2) (S := S) (T := T) hn hHK hSc hSo h1 h2 hT hO (hres.imp (fun h => ⟨h.1.2.2, h.2⟩) (fun h => ⟨fun x => h.1 ⟨hf, rfl, x⟩, h.2⟩)) n1 0 (by omega) (fun j h => absurd h (Nat.not_lt_zero j))
   simp only [L12, K12, tail12, Try.f12] at hHd
   simp only [M12, Try.f12]
   iterate 2
    refine EndsF.step rfl (fun _ h₁ => ?_)
    replace hF := E12.rely hF h₁
    clear h₁
    rw [stepG_seq]
    simp only [goes_go]
    refine ⟨de_nil, ?_⟩
   refine EndsF.step rfl (fun _ h₁ => ?_)
   replace hF := E12.rely hF h₁
   clear h₁
   rw [stepG_region]
   simp only [goes_go, List.size_toArray, List.length_cons, List.length_nil, Nat.reduceAdd, Nat.zero_add, List.range, List.range.loop]
   refine ⟨de_nil, ?_⟩
   refine EndsF.step rfl (fun _ h₁ => ?_)
   replace hF := E12.rely hF h₁
   clear h₁
   refine goes_oper_k rfl rfl (by k_ne) (fun K hK => ?_)
   go_simp
   refine hK _ _ ⟨?_, ?_⟩
   ·refine de_none ?_
    intro ex hex
    have hm := mem_listed hex
    simp [go_sem, *] at hm
   clear hK K
   try w_num
   refine EndsF.step rfl (fun _ h₁ => ?_)
   replace hF := E12.rely hF h₁
   clear h₁
   refine goes_call rfl rfl (by k_ne) rfl Try.func29 nm29 rfl ⟨de_nil, ?_⟩
   walk_nrmf Try.f29
   rename_i w3
   refine fine29_ends (w := w3) ?_
   rw [ea]
   clear ea
   unfold Back
   walk_nrm
   iterate 8
    refine EndsF.step rfl (fun _ h₁ => ?_)
    replace hF := E12.rely hF h₁
    clear h₁
    refine goes_oper_k rfl rfl (by k_ne) (fun K hK => ?_)
    go_simp
    refine hK _ _ ⟨?_, ?_⟩
    ·refine de_none ?_
     intro ex hex
     have hm := mem_listed hex
     simp [go_sem, *] at hm
    clear hK K
    try w_num
   refine EndsF.step rfl (fun _ h₁ => ?_)
   replace hF := E12.rely hF h₁
   clear h₁
   rw [stepG_region_end]
   simp only [goes_go]
   refine ⟨de_nil, ?_⟩
   refine EndsF.step rfl (fun _ h₁ => ?_)
   replace hF := E12.rely hF h₁
   clear h₁
   rw [stepG_cond (t := false) rfl]
   simp only [goes_go, if_true, if_false, Bool.false_eq_true, ↓reduceIte]
   refine ⟨de_nil, ?_⟩
   refine EndsF.step rfl (fun _ h₁ => ?_)
   replace hF := E12.rely hF h₁
   clear h₁
   rw [stepG_skip]
   simp only [goes_go]
   refine ⟨de_nil, ?_⟩
   refine EndsF.step rfl (fun _ h₁ => ?_)
   replace hF := E12.rely hF h₁
   clear h₁
   rw [stepG_seq]
   simp only [goes_go]
   refine ⟨de_nil, ?_⟩
   refine EndsF.step rfl (fun _ h₁ => ?_)
   replace hF := E12.rely hF h₁
   clear h₁
   rw [stepG_region]
   simp only [goes_go, List.size_toArray, List.length_cons, List.length_nil, Nat.reduceAdd, Nat.zero_add, List.range, List.range.loop]
   refine ⟨de_nil, ?_⟩
   refine EndsF.step rfl (fun _ h₁ => ?_)
   replace hF := E12.rely hF h₁
   clear h₁
   refine goes_oper_k rfl rfl (by k_ne) (fun K hK => ?_)
   go_simp
   refine hK _ _ ⟨?_, ?_⟩
   ·refine de_none ?_
    intro ex hex
    have hm := mem_listed hex
    simp [go_sem, *] at hm
   clear hK K
   try w_num
   refine EndsF.step rfl (fun _ h₁ => ?_)
   replace hF := E12.rely hF h₁
   clear h₁
   rw [stepG_region_end]
   iterate 2
    simp only [goes_go]
    refine ⟨de_nil, ?_⟩
    refine EndsF.step rfl (fun _ h₁ => ?_)
    replace hF := E12.rely hF h₁
    clear h₁
    rw [stepG_seq]
   simp only [goes_go]
   refine ⟨de_nil, ?_⟩
   refine EndsF.step rfl (fun _ h₁ => ?_)
   replace hF := E12.rely hF h₁
   clear h₁
   rw [stepG_region]
   simp only [goes_go, List.size_toArray, List.length_cons, List.length_nil, Nat.reduceAdd, Nat.zero_add, List.range, List.range.loop]
   refine ⟨de_nil, ?_⟩
   refine EndsF.step rfl (fun _ h₁ => ?_)
   replace hF := E12.rely hF h₁
   clear h₁
   refine goes_oper_k rfl rfl (by k_ne) (fun K hK => ?_)
   go_simp
   refine hK _ _ ⟨?_, ?_⟩
   ·refine de_none ?_
    intro ex hex
    have hm := mem_listed hex
    simp [go_sem, *] at hm
   clear hK K
   try w_num
   refine EndsF.step rfl (fun _ h₁ => ?_)
   replace hF := E12.rely hF h₁
   clear h₁
   rw [stepG_region_end]
   simp only [goes_go]
   refine ⟨de_nil, ?_⟩
   refine EndsF.step rfl (fun _ h₁ => ?_)
   replace hF := E12.rely hF h₁
   clear h₁
   rw [stepG_block]
   simp only [goes_go]
   refine ⟨de_nil, ?_⟩
   refine EndsF.step rfl (fun _ h₁ => ?_)
   replace hF := E12.rely hF h₁
   clear h₁
   rw [stepG_loop]
   simp only [goes_go]
   refine ⟨de_nil, ?_⟩
   rw [← hF.1.2]
   exact hHd _ (.slice none 0 0) _ rfl rfl rfl rfl rfl rfl rfl (Nat.le_of_eq hF.1.2.symm) ⟨hF.1.1, rfl, ⟨rfl, .inl ⟨rfl, rfl⟩⟩, hF.2⟩
  ·have hne : ¬ ((n1 : Int) = (n2 : Int)) := by omega
   obtain ⟨_, rfl, rfl⟩ := hres.resolve_left fun h => hnn h.1.2.1
   simp only [M12, Try.f12]
   iterate 2
    refine EndsF.step rfl (fun _ h₁ => ?_)
    replace hF := E12.rely hF h₁
    clear h₁
    rw [stepG_seq]
    simp only [goes_go]
    refine ⟨de_nil, ?_⟩
   refine EndsF.step rfl (fun _ h₁ => ?_)
   replace hF := E12.rely hF h₁
   clear h₁
   rw [stepG_region]
   simp only [goes_go, List.size_toArray, List.length_cons, List.length_nil, Nat.reduceAdd, Nat.zero_add, List.range, List.range.loop]
   refine ⟨de_nil, ?_⟩
   refine EndsF.step rfl (fun _ h₁ => ?_)
   replace hF := E12.rely hF h₁
   clear h₁
   refine goes_oper_k rfl rfl (by k_ne) (fun K hK => ?_)
   go_simp
   refine hK _ _ ⟨?_, ?_⟩
   ·refine de_none ?_
    intro ex hex
    have hm := mem_listed hex
    simp [go_sem, *] at hm
   clear hK K
   try w_num
   refine EndsF.step rfl (fun _ h₁ => ?_)
   replace hF := E12.rely hF h₁
   clear h₁
   refine goes_call rfl rfl (by k_ne) rfl Try.func29 nm29 rfl ⟨de_nil, ?_⟩
   walk_nrmf Try.f29
   rename_i w3
   refine fine29_ends (w := w3) ?_
   rw [ea]
   clear ea
   unfold Back
   walk_nrm
   iterate 8
    refine EndsF.step rfl (fun _ h₁ => ?_)
    replace hF := E12.rely hF h₁
    clear h₁
    refine goes_oper_k rfl rfl (by k_ne) (fun K hK => ?_)
    go_simp
    refine hK _ _ ⟨?_, ?_⟩
    ·refine de_none ?_
     intro ex hex
     have hm := mem_listed hex
     simp [go_sem, *] at hm
    clear hK K
    try w_num
   refine EndsF.step rfl (fun _ h₁ => ?_)
   replace hF := E12.rely hF h₁
   clear h₁
   rw [stepG_region_end]
   simp only [goes_go]
   refine ⟨de_nil, ?_⟩
   refine EndsF.step rfl (fun _ h₁ => ?_)
   replace hF := E12.rely hF h₁
   clear h₁
   rw [stepG_cond (t := true) (by first | rfl | (simp [Act.eval]; omega))]
   simp only [goes_go, if_true, if_false, Bool.false_eq_true, ↓reduceIte]
   refine ⟨de_nil, ?_⟩
   refine EndsF.step rfl (fun _ h₁ => ?_)
   replace hF := E12.rely hF h₁
   clear h₁
   rw [stepG_seq]
   simp only [goes_go]
   refine ⟨de_nil, ?_⟩
   refine EndsF.step rfl (fun _ h₁ => ?_)
   replace hF := E12.rely hF h₁
   clear h₁
   rw [stepG_region]
   simp only [goes_go, List.size_toArray, List.length_cons, List.length_nil, Nat.reduceAdd, Nat.zero_add, List.range, List.range.loop]
   refine ⟨de_nil, ?_⟩
   iterate 8
    refine EndsF.step rfl (fun _ h₁ => ?_)
    replace hF := E12.rely hF h₁
    clear h₁
    refine goes_oper_k rfl rfl (by k_ne) (fun K hK => ?_)
    go_simp
    refine hK _ _ ⟨?_, ?_⟩
    ·refine de_none ?_
     intro ex hex
     have hm := mem_listed hex
     simp [go_sem, *] at hm
    clear hK K
    try w_num
   refine EndsF.step rfl (fun _ h₁ => ?_)
   replace hF := E12.rely hF h₁
   clear h₁
   refine goes_call rfl rfl (by k_ne) rfl Try.func30 nm30 rfl ⟨de_nil, ?_⟩
   walk_nrmf Try.f30
   rename_i w1
   refine awake_ends (H := K) (w0 := w1) hF.1.2 (Nat.le_refl _) hSc hSo ?_
   intro Shun' w2 hS2 hb2 hs2
   have hF2 : Below W.heap.size W w2 ∧ w2.heap.size = K + 12 := ⟨hF.1.1.trans (hb2.mono (by omega)), hs2⟩
   clear hF hb2 hs2
   unfold Back
   walk_nrm
   iterate 2
    refine EndsF.step rfl (fun _ h₁ => ?_)
    replace hF2 := sz_rely hF2 h₁
    clear h₁
    refine goes_oper_k rfl rfl (by k_ne) (fun K hK => ?_)
    go_simp
    refine hK _ _ ⟨?_, ?_⟩
    ·refine de_none ?_
     intro ex hex
     have hm := mem_listed hex
     simp [go_sem, *] at hm
    clear hK K
    try w_num
   refine EndsF.step rfl (fun _ h₁ => ?_)
   replace hF2 := sz_rely hF2 h₁
   clear h₁
   rw [stepG_region_end]
   simp only [goes_go]
   refine ⟨de_nil, ?_⟩
   refine EndsF.step rfl (fun _ h₁ => ?_)
   replace hF2 := sz_rely hF2 h₁
   clear h₁
   rw [stepG_ret']
   simp only [goes_go]
   refine ⟨de_nil, ?_⟩
   refine postL_end rfl (fun w => ?_) hF2.1
   simp [Go.Conc.G, stepG, unwind, doReturn, results, Frame.at, base, b12, Try.func12, Try.f12, seen, GStep.after]
 ·have ea : (decide (1 ≤ N) && decide (N ≤ 64)) = false := by simpa [Bool.and_eq_true] using hf
  obtain ⟨_, rfl, rfl⟩ := hres.resolve_left fun h => hf h.1.1
  simp only [M12, Try.f12]
  iterate 2
   refine EndsF.step rfl (fun _ h₁ => ?_)
   replace hF := E12.rely hF h₁
   clear h₁
   rw [stepG_seq]
   simp only [goes_go]
   refine ⟨de_nil, ?_⟩
  refine EndsF.step rfl (fun _ h₁ => ?_)
  replace hF := E12.rely hF h₁
  clear h₁
  rw [stepG_region]
  simp only [goes_go, List.size_toArray, List.length_cons, List.length_nil, Nat.reduceAdd, Nat.zero_add, List.range, List.range.loop]
  refine ⟨de_nil, ?_⟩
  refine EndsF.step rfl (fun _ h₁ => ?_)
  replace hF := E12.rely hF h₁
  clear h₁
  refine goes_oper_k rfl rfl (by k_ne) (fun K hK => ?_)
  go_simp
  refine hK _ _ ⟨?_, ?_⟩
  ·refine de_none ?_
   intro ex hex
   have hm := mem_listed hex
   simp [go_sem, *] at hm
  clear hK K
  try w_num
  refine EndsF.step rfl (fun _ h₁ => ?_)
  replace hF := E12.rely hF h₁
  clear h₁
  refine goes_call rfl rfl (by k_ne) rfl Try.func29 nm29 rfl ⟨de_nil, ?_⟩
  walk_nrmf Try.f29
  rename_i w3
  refine fine29_ends (w := w3) ?_
  rw [ea]
  clear ea
  unfold Back
  walk_nrm
  iterate 2
   refine EndsF.step rfl (fun _ h₁ => ?_)
   replace hF := E12.rely hF h₁
   clear h₁
   refine goes_oper_k rfl rfl (by k_ne) (fun K hK => ?_)
   go_simp
   refine hK _ _ ⟨?_, ?_⟩
   ·refine de_none ?_
    intro ex hex
    have hm := mem_listed hex
    simp [go_sem, *] at hm
   clear hK K
   try w_num
  iterate 5
   refine EndsF.step rfl (fun _ h₁ => ?_)
   replace hF := E12.rely hF h₁
   clear h₁
   rw [stepG_unwanted rfl rfl]
   simp only [goes_go]
   refine ⟨de_nil, ?_⟩
   walk_nrm
  refine EndsF.step rfl (fun _ h₁ => ?_)
  replace hF := E12.rely hF h₁
  clear h₁
  refine goes_oper_k rfl rfl (by k_ne) (fun K hK => ?_)
  go_simp
  refine hK _ _ ⟨?_, ?_⟩
  ·refine de_none ?_
   intro ex hex
   have hm := mem_listed hex
   simp [go_sem, *] at hm
  clear hK K
  try w_num
  refine EndsF.step rfl (fun _ h₁ => ?_)
  replace hF := E12.rely hF h₁
  clear h₁
  rw [stepG_region_end]
  simp only [goes_go]
  refine ⟨de_nil, ?_⟩
  refine EndsF.step rfl (fun _ h₁ => ?_)
  replace hF := E12.rely hF h₁
  clear h₁
  rw [stepG_cond (t := true) rfl]
  simp only [goes_go, if_true, if_false, Bool.false_eq_true, ↓reduceIte]
  refine ⟨de_nil, ?_⟩
  refine EndsF.step rfl (fun _ h₁ => ?_)
  replace hF := E12.rely hF h₁
  clear h₁
  rw [stepG_seq]
  simp only [goes_go]
  refine ⟨de_nil, ?_⟩
  refine EndsF.step rfl (fun _ h₁ => ?_)
  replace hF := E12.rely hF h₁
  clear h₁
  rw [stepG_region]
  simp only [goes_go, List.size_toArray, List.length_cons, List.length_nil, Nat.reduceAdd, Nat.zero_add, List.range, List.range.loop]
  refine ⟨de_nil, ?_⟩
  iterate 8
   refine EndsF.step rfl (fun _ h₁ => ?_)
   replace hF := E12.rely hF h₁
   clear h₁
   refine goes_oper_k rfl rfl (by k_ne) (fun K hK => ?_)
   go_simp
   refine hK _ _ ⟨?_, ?_⟩
   ·refine de_none ?_
    intro ex hex
    have hm := mem_listed hex
    simp [go_sem, *] at hm
   clear hK K
   try w_num
  refine EndsF.step rfl (fun _ h₁ => ?_)
  replace hF := E12.rely hF h₁
  clear h₁
  refine goes_call rfl rfl (by k_ne) rfl Try.func30 nm30 rfl ⟨de_nil, ?_⟩
  walk_nrmf Try.f30
  rename_i w1
  refine awake_ends (H := K) (w0 := w1) hF.1.2 (Nat.le_refl _) hSc hSo ?_
  intro Shun' w2 hS2 hb2 hs2
  have hF2 : Below W.heap.size W w2 ∧ w2.heap.size = K + 12 := ⟨hF.1.1.trans (hb2.mono (by omega)), hs2⟩
  clear hF hb2 hs2
  unfold Back
  walk_nrm
  iterate 2
   refine EndsF.step rfl (fun _ h₁ => ?_)
   replace hF2 := sz_rely hF2 h₁
   clear h₁
   refine goes_oper_k rfl rfl (by k_ne) (fun K hK => ?_)
   go_simp
   refine hK _ _ ⟨?_, ?_⟩
   ·refine de_none ?_
    intro ex hex
    have hm := mem_listed hex
    simp [go_sem, *] at hm
   clear hK K
   try w_num
  refine EndsF.step rfl (fun _ h₁ => ?_)
  replace hF2 := sz_rely hF2 h₁
  clear h₁
  rw [stepG_region_end]
  simp only [goes_go]
  refine ⟨de_nil, ?_⟩
  refine EndsF.step rfl (fun _ h₁ => ?_)
  replace hF2 := sz_rely hF2 h₁
  clear h₁
  rw [stepG_ret']
  simp only [goes_go]
  refine ⟨de_nil, ?_⟩
  refine postL_end rfl (fun w => ?_) hF2.1
  simp [Go.Conc.G, stepG, unwind, doReturn, results, Frame.at, base, b12, Try.func12, Try.f12, seen, GStep.after]
set_option maxRecDepth 100000 in
set_option maxHeartbeats 8000000 in
theorem digests_law (hn : n1 ≤ 1048576) (hn2 : n2 ≤ 1048576) (hT : ∀ k, k < n2 → (T k).size ≤ 140737488355000)
  (hin1 : ∀ k, k < n1 → ∃ b o, sa1 = some ⟨b, o, none⟩ ∧ b < W.heap.size ∧ W.cell? ⟨b, o + k, none⟩ = some (.string (S k))) (hin2 : ∀ k, k < n2 → ∃ b o, sa2 = some ⟨b, o, none⟩ ∧ b < W.heap.size ∧ W.cell? ⟨b, o + k, none⟩ = some (.string (T k))) :
  EndsF Try.prog (PostL W) (fun _ => False) 0 (Go.Conc.G (b12.at ⟨#[.slice sa1 n1 c1, .slice sa2 n2 c2, .int .i64 N, undef, undef, undef, undef, undef, undef, undef, undef, undef, undef, undef, undef, undef, undef, undef, undef, undef, undef, undef, undef, undef, undef, undef, undef, undef, undef, undef, undef, undef, undef, undef, undef, undef, undef, undef, undef, undef, undef, undef, undef, undef, undef, undef, undef, undef, undef, undef, undef, undef, undef, undef, undef, undef, undef, undef, undef, undef, undef, undef, undef, undef, undef, undef, undef, undef, undef, undef, undef, undef, undef, undef, undef, undef, undef, undef, undef, undef, undef, undef, undef, undef, undef], []⟩ [.code body12]) []) W := by
 obtain ⟨H, hH⟩ : ∃ H, W.heap.size = H := ⟨_, rfl⟩
 have hstr : ∀ (Shun : Loc → Prop), (∀ a : Addr, a.block < H → ¬ Shun (.cell a)) → ∀ (n : Nat) (sa : Option Addr) (S : Nat → ByteArray), (∀ k, k < n → ∃ b o, sa = some ⟨b, o, none⟩ ∧ b < W.heap.size ∧ W.cell? ⟨b, o + k, none⟩ = some (.string (S k))) → ∀ w, Below H W w → StrIn Shun H w n sa S := fun Shun hs n sa S h w hb k hk => by
  obtain ⟨b, o, e, hlt, hc⟩ := h k hk
  exact ⟨b, o, e, by omega, fun a ha => hs a (by omega), (cell_block (hb.block b (by omega)) _).trans hc⟩
 have hM := fun (Shun : Loc → Prop) (K m : Nat) (O : Option Addr) (er : Int) h3 h4 h5 h6 h7 h8 h9 => mid12 (W := W) (Shun := Shun) (n1 := n1) (n2 := n2) (K := K) (m := m) (O := O) (er := er) (N := N) (sa1 := sa1) (sa2 := sa2) (c1 := c1) (c2 := c2) (S := S) (T := T) hn hn2 h3 h4 h5 h6 h7 hT h8 h9
 simp only [M12, Try.f12] at hM
 refine EndsF.mono (Nat.zero_le H) ?_
 simp only [body12, Try.f12, Option.getD_some]
 have hF : Below H W W ∧ W.heap.size = H := ⟨Below.refl _ W, hH⟩
 refine EndsF.step rfl (fun _ h₁ => ?_)
 replace hF := below_rely hF h₁
 clear h₁
 rw [stepG_seq]
 simp only [goes_go]
 refine ⟨de_nil, ?_⟩
 refine EndsF.step rfl (fun _ h₁ => ?_)
 replace hF := below_rely hF h₁
 clear h₁
 rw [stepG_region]
 simp only [goes_go, List.size_toArray, List.length_cons, List.length_nil, Nat.reduceAdd, Nat.zero_add, List.range, List.range.loop]
 refine ⟨de_nil, ?_⟩
 refine EndsF.step rfl (fun _ h₁ => ?_)
 replace hF := below_rely hF h₁
 clear h₁
 refine goes_oper_k rfl rfl (by k_ne) (fun K hK => ?_)
 go_simp
 refine hK _ _ ⟨?_, ?_⟩
 ·refine de_none ?_
  intro ex hex
  have hm := mem_listed hex
  simp [go_sem, *] at hm
 clear hK K
 try w_num
 refine EndsF.step rfl (fun _ h₁ => ?_)
 replace hF := below_rely hF h₁
 clear h₁
 rw [stepG_region_end]
 simp only [goes_go]
 refine ⟨de_nil, ?_⟩
 refine EndsF.step rfl (fun _ h₁ => ?_)
 replace hF := below_rely hF h₁
 clear h₁
 rw [stepG_seq]
 simp only [goes_go]
 refine ⟨de_nil, ?_⟩
 refine EndsF.step rfl (fun _ h₁ => ?_)
 replace hF := below_rely hF h₁
 clear h₁
 rw [stepG_region]
 simp only [goes_go, List.size_toArray, List.length_cons, List.length_nil, Nat.reduceAdd, Nat.zero_add, List.range, List.range.loop]
 refine ⟨de_nil, ?_⟩
 iterate 3
  refine EndsF.step rfl (fun _ h₁ => ?_)
  replace hF := below_rely hF h₁
  clear h₁
  refine goes_oper_k rfl rfl (by k_ne) (fun K hK => ?_)
  go_simp
  refine hK _ _ ⟨?_, ?_⟩
  ·refine de_none ?_
   intro ex hex
   have hm := mem_listed hex
   simp [go_sem, *] at hm
  clear hK K
  try w_num
 refine EndsF.step rfl (fun _ h₁ => ?_)
 replace hF := below_rely hF h₁
 clear h₁
 refine goes_call rfl rfl (by k_ne) rfl Try.func37 nm37 rfl ⟨de_nil, ?_⟩
 walk_nrmf Try.f37
 rename_i w1
 refine digests_ends (Post := PostL W) (Shun := fun _ => False) (N := N) (c1 := c1) (c2 := c2) hF.2 hn hT (fun _ _ => id) (fun _ => id) (hstr _ (fun _ _ => id) n1 sa1 S hin1 w1 hF.1) (hstr _ (fun _ _ => id) n2 sa2 T hin2 w1 hF.1) ?_ ?_
 ·intro w' hb hnot
  obtain ⟨K, hK⟩ : ∃ K, w'.heap.size = K := ⟨_, rfl⟩
  rw [hK]
  have hHK : H ≤ K := by have := hb.size; have := hF.1.size; omega
  have hF2 : E12 W S T K none 0 w' := ⟨⟨by rw [hH]; exact hF.1.trans hb, hK⟩, fun k hk => absurd hk (Nat.not_lt_zero k)⟩
  clear hF hb hK
  unfold Back
  walk_nrm
  iterate 5
   refine EndsF.step rfl (fun _ h₁ => ?_)
   replace hF2 := E12.rely hF2 h₁
   clear h₁
   refine goes_oper_k rfl rfl (by k_ne) (fun K hK => ?_)
   go_simp
   refine hK _ _ ⟨?_, ?_⟩
   ·refine de_none ?_
    intro ex hex
    have hm := mem_listed hex
    simp [go_sem, *] at hm
   clear hK K
   try w_num
  refine EndsF.step rfl (fun _ h₁ => ?_)
  replace hF2 := E12.rely hF2 h₁
  clear h₁
  rw [stepG_region_end]
  simp only [goes_go]
  refine ⟨de_nil, ?_⟩
  exact hM (fun _ => False) K 0 none 1 (by omega) (fun _ _ => id) (fun _ => id) (by rw [hH]; exact hstr _ (fun _ _ => id) n1 sa1 S hin1 W (Below.refl _ W)) (by rw [hH]; exact hstr _ (fun _ _ => id) n2 sa2 T hin2 W (Below.refl _ W)) (fun h0 => absurd h0 (Nat.lt_irrefl 0)) (.inr ⟨hnot, rfl, rfl⟩) _ _ rfl rfl rfl rfl rfl rfl hF2
 ·intro Shun' w' O' hS' hO' hb hHO hOK hcells hgood
  obtain ⟨K, hK⟩ : ∃ K, w'.heap.size = K := ⟨_, rfl⟩
  rw [hK] at hS' hOK ⊢
  have hHK : H ≤ K := by omega
  have hF2 : E12 W S T K (some ⟨O', 0, none⟩) n1 w' := ⟨⟨by rw [hH]; exact hF.1.trans hb, hK⟩, fun k hk => ⟨O', 0, rfl, by rw [Nat.zero_add]; exact hcells k hk⟩⟩
  have hlow : ∀ a : Addr, a.block < H → ¬ Shun' (.cell a) := fun a ha hs => (hS' _ hs).elim id fun ⟨a', e1, e2, e3⟩ => by cases e1; omega
  have hr : (((1 ≤ N ∧ N ≤ 64) ∧ n1 = n2 ∧ ∀ j, j < n1 → (S j).size ≤ 32) ∧ n1 = n1 ∧ (0 : Int) = 0) ∨ (¬ ((1 ≤ N ∧ N ≤ 64) ∧ n1 = n2 ∧ ∀ j, j < n1 → (S j).size ≤ 32) ∧ n1 = 0 ∧ (0 : Int) = 1) := .inl ⟨hgood, rfl, rfl⟩
  clear hF hb hK hgood
  unfold Back
  walk_nrm
  iterate 5
   refine EndsF.step rfl (fun _ h₁ => ?_)
   replace hF2 := E12.rely hF2 h₁
   clear h₁
   refine goes_oper_k rfl rfl (by k_ne) (fun K hK => ?_)
   go_simp
   refine hK _ _ ⟨?_, ?_⟩
   ·refine de_none ?_
    intro ex hex
    have hm := mem_listed hex
    simp [go_sem, *] at hm
   clear hK K
   try w_num
  refine EndsF.step rfl (fun _ h₁ => ?_)
  replace hF2 := E12.rely hF2 h₁
  clear h₁
  rw [stepG_region_end]
  simp only [goes_go]
  refine ⟨de_nil, ?_⟩
  exact hM Shun' K n1 (some ⟨O', 0, none⟩) 0 (by omega) (fun a ha hs => (hS' _ hs).elim id fun ⟨a', e1, e2, e3⟩ => by cases e1; omega) (fun r hs => (hS' _ hs).elim id fun ⟨a', e1, _⟩ => by cases e1) (by rw [hH]; exact hstr _ hlow n1 sa1 S hin1 W (Below.refl _ W)) (by rw [hH]; exact hstr _ hlow n2 sa2 T hin2 W (Below.refl _ W)) (fun _ ad e => by cases e; exact ⟨hO', hOK⟩) hr _ _ rfl rfl rfl rfl rfl rfl hF2
end
end Go.Pool
end
