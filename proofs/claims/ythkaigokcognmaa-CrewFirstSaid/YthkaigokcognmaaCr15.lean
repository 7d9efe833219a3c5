/-
  CREW 15: CrewSame, walked.
-/
import Derived.Test.YthkaigokcognmaaCr14
set_option linter.unusedSimpArgs false
namespace Go.Pool
open Go.Conc Go.RowKit Go.Proofs Go.ConcN Go.Conc.Lib Go.ConcR.Gen Go.ConcN.Gen
open Go.ConcR (KK wgBlock WgAt stA smA rd wr mk DC0)

noncomputable def body11 : Code := Try.f11.body.getD .skip
noncomputable def K11 : Code := match Try.f11.body with
  | some (.seq _ (.seq _ (.seq _ (.seq _ c)))) => c
  | _ => .skip
def b11 : Frame := base 11

theorem array63 (T : Array Value) (h : T.size = 63) : ∃ v0 v1 v2 v3 v4 v5 v6 v7 v8 v9 v10 v11 v12 v13 v14 v15 v16 v17 v18 v19 v20 v21 v22 v23 v24 v25 v26 v27 v28 v29 v30 v31 v32 v33 v34 v35 v36 v37 v38 v39 v40 v41 v42 v43 v44 v45 v46 v47 v48 v49 v50 v51 v52 v53 v54 v55 v56 v57 v58 v59 v60 v61 v62, T = #[v0, v1, v2, v3, v4, v5, v6, v7, v8, v9, v10, v11, v12, v13, v14, v15, v16, v17, v18, v19, v20, v21, v22, v23, v24, v25, v26, v27, v28, v29, v30, v31, v32, v33, v34, v35, v36, v37, v38, v39, v40, v41, v42, v43, v44, v45, v46, v47, v48, v49, v50, v51, v52, v53, v54, v55, v56, v57, v58, v59, v60, v61, v62] :=
  ⟨T[0], T[1], T[2], T[3], T[4], T[5], T[6], T[7], T[8], T[9], T[10], T[11], T[12], T[13], T[14], T[15], T[16], T[17], T[18], T[19], T[20], T[21], T[22], T[23], T[24], T[25], T[26], T[27], T[28], T[29], T[30], T[31], T[32], T[33], T[34], T[35], T[36], T[37], T[38], T[39], T[40], T[41], T[42], T[43], T[44], T[45], T[46], T[47], T[48], T[49], T[50], T[51], T[52], T[53], T[54], T[55], T[56], T[57], T[58], T[59], T[60], T[61], T[62], by
    apply Array.ext (by simp [h])
    intro i h1 h2
    have hi : i < 63 := by omega
    iterate 63 (rcases i with _ | i; · rfl)
    omega⟩

theorem fun35 {Shun : Loc → Prop} {H n : Nat} {w0 : World} {xs : Nat → Int} : FunC Shun H w0 n (fun _ => False) (fun _ _ => True) (fun _ _ => True) 35 #[] xs (fun k => IntKind.i64.wrap (xs k * xs k)) := by
  intro φ _ k hk V hV _ _
  refine (f35_c (φ := φ) (k := k) (S := V) hV (xs k)).elim fun m hm => ⟨m, fun w hw _ => ?_⟩
  exact CallsC.mono (hm w hw) fun v w' h => ⟨h.1, h.2, trivial⟩
theorem fun36 {Shun : Loc → Prop} {H n : Nat} {w0 : World} {xs : Nat → Int} : FunC Shun H w0 n (fun _ => False) (fun _ _ => True) (fun _ _ => True) 36 #[] xs (fun k => IntKind.i64.wrap (xs k * xs k)) := by
  intro φ _ k hk V hV _ _
  refine (f36_c (φ := φ) (k := k) (S := V) hV (xs k)).elim fun m hm => ⟨m, fun w hw _ => ?_⟩
  exact CallsC.mono (hm w hw) fun v w' h => ⟨h.1, h.2, trivial⟩

/-- What a law's run leaves. -/
def PostL (W : World) (v : Value) (w' : World) : Prop := v = .bool true ∧ Below W.heap.size W w'

theorem postL_end {P : Program} {Shun : Loc → Prop} {B : Nat} {g : Goroutine} {W w : World} (hr : g.status = .running) (h : ∀ w, stepG P true g w = .ended (.done (.bool true)) w #[]) (hF : Below W.heap.size W w) : EndsF P (PostL W) Shun B g w :=
  EndsF.last fun w₁ r => ⟨hr, .bool true, #[], h w₁, by simp, rfl, by obtain ⟨d, rfl⟩ := r; exact ⟨hF.os, hF.tape, hF.output, hF.size, hF.block⟩⟩

theorem sz_rely {W w w₁ : World} {H : Nat} (h : Below W.heap.size W w ∧ w.heap.size = H) (r : AtRel w w₁) : Below W.heap.size W w₁ ∧ w₁.heap.size = H := by
  obtain ⟨d, rfl⟩ := r
  exact ⟨⟨h.1.os, h.1.tape, h.1.output, h.1.size, h.1.block⟩, h.2⟩

section
variable {W w : World} {Shun : Loc → Prop} {B H : Nat} {sa : Option Addr} {sn sc : Nat}

set_option maxRecDepth 100000 in
set_option maxHeartbeats 4000000 in
/-- FROM BEHIND THE COMPARISON. -/
theorem tail11 (hW : W.heap.size ≤ H) (hF : Below W.heap.size W w ∧ w.heap.size = H) (hB : B ≤ H) (hSc : ∀ a : Addr, H ≤ a.block → ¬ Shun (.cell a)) (hSo : ∀ r, ¬ Shun (.obj r)) (T : Array Value) (hs : T.size = 63) (t0 : T[0]? = some (.slice sa sn sc)) :
    EndsF Try.prog (PostL W) Shun B (Go.Conc.G (b11.at ⟨T, []⟩ [.code K11]) []) w := by
  obtain ⟨v0, v1, v2, v3, v4, v5, v6, v7, v8, v9, v10, v11, v12, v13, v14, v15, v16, v17, v18, v19, v20, v21, v22, v23, v24, v25, v26, v27, v28, v29, v30, v31, v32, v33, v34, v35, v36, v37, v38, v39, v40, v41, v42, v43, v44, v45, v46, v47, v48, v49, v50, v51, v52, v53, v54, v55, v56, v57, v58, v59, v60, v61, v62, rfl⟩ := array63 T hs
  simp only [List.getElem?_toArray, List.getElem?_cons_zero, Option.some.injEq] at t0
  subst t0
  refine EndsF.mono hB ?_
  simp only [K11, Try.f11]
  refine EndsF.step rfl (fun _ h₁ => ?_)
  replace hF := sz_rely hF h₁
  clear h₁
  rw [stepG_seq]
  simp only [goes_go]
  refine ⟨de_nil, ?_⟩
  refine EndsF.step rfl (fun _ h₁ => ?_)
  replace hF := sz_rely hF h₁
  clear h₁
  rw [stepG_region]
  simp only [goes_go, List.size_toArray, List.length_cons, List.length_nil, Nat.reduceAdd, Nat.zero_add, List.range, List.range.loop]
  refine ⟨de_nil, ?_⟩
  refine EndsF.step rfl (fun _ h₁ => ?_)
  replace hF := sz_rely hF h₁
  clear h₁
  refine goes_oper_k rfl rfl (by k_ne) (fun K hK => ?_)
  go_simp
  refine hK _ _ ⟨?_, ?_⟩
  · refine de_none ?_
    intro ex hex
    have hm := mem_listed hex
    simp [go_sem, *] at hm
  clear hK K
  refine EndsF.step rfl (fun _ h₁ => ?_)
  replace hF := sz_rely hF h₁
  clear h₁
  refine goes_call rfl rfl (by k_ne) rfl Try.func27 nm27 rfl ⟨de_nil, ?_⟩
  walk_nrmf Try.f27
  rename_i w1
  refine map_nil (H := H) (w0 := w1) hF.2 (Nat.le_refl _) hSc (by omega) ?_
  intro w2 hb2 hs2
  have hF2 : Below W.heap.size W w2 ∧ w2.heap.size = H + 2 := ⟨hF.1.trans (hb2.mono hW), hs2⟩
  clear hF hb2 hs2
  unfold Back
  walk_nrm
  refine EndsF.step rfl (fun _ h₁ => ?_)
  replace hF2 := sz_rely hF2 h₁
  clear h₁
  refine goes_oper_k rfl rfl (by k_ne) (fun K hK => ?_)
  go_simp
  refine hK _ _ ⟨?_, ?_⟩
  · refine de_none ?_
    intro ex hex
    have hm := mem_listed hex
    simp [go_sem, *] at hm
  clear hK K
  refine EndsF.step rfl (fun _ h₁ => ?_)
  replace hF2 := sz_rely hF2 h₁
  clear h₁
  refine goes_oper_k rfl rfl (by k_ne) (fun K hK => ?_)
  go_simp
  refine hK _ _ ⟨?_, ?_⟩
  · refine de_none ?_
    intro ex hex
    have hm := mem_listed hex
    simp [go_sem, *] at hm
  clear hK K
  refine EndsF.step rfl (fun _ h₁ => ?_)
  replace hF2 := sz_rely hF2 h₁
  clear h₁
  refine goes_oper_k rfl rfl (by k_ne) (fun K hK => ?_)
  go_simp
  refine hK _ _ ⟨?_, ?_⟩
  · refine de_none ?_
    intro ex hex
    have hm := mem_listed hex
    simp [go_sem, *] at hm
  clear hK K
  refine EndsF.step rfl (fun _ h₁ => ?_)
  replace hF2 := sz_rely hF2 h₁
  clear h₁
  refine goes_oper_k rfl rfl (by k_ne) (fun K hK => ?_)
  go_simp
  refine hK _ _ ⟨?_, ?_⟩
  · refine de_none ?_
    intro ex hex
    have hm := mem_listed hex
    simp [go_sem, *] at hm
  clear hK K
  refine EndsF.step rfl (fun _ h₁ => ?_)
  replace hF2 := sz_rely hF2 h₁
  clear h₁
  refine goes_oper_k rfl rfl (by k_ne) (fun K hK => ?_)
  go_simp
  refine hK _ _ ⟨?_, ?_⟩
  · refine de_none ?_
    intro ex hex
    have hm := mem_listed hex
    simp [go_sem, *] at hm
  clear hK K
  refine EndsF.step rfl (fun _ h₁ => ?_)
  replace hF2 := sz_rely hF2 h₁
  clear h₁
  rw [stepG_region_end]
  simp only [goes_go]
  refine ⟨de_nil, ?_⟩
  refine EndsF.step rfl (fun _ h₁ => ?_)
  replace hF2 := sz_rely hF2 h₁
  clear h₁
  rw [stepG_seq]
  simp only [goes_go]
  refine ⟨de_nil, ?_⟩
  refine EndsF.step rfl (fun _ h₁ => ?_)
  replace hF2 := sz_rely hF2 h₁
  clear h₁
  rw [stepG_region]
  simp only [goes_go, List.size_toArray, List.length_cons, List.length_nil, Nat.reduceAdd, Nat.zero_add, List.range, List.range.loop]
  refine ⟨de_nil, ?_⟩
  refine EndsF.step rfl (fun _ h₁ => ?_)
  replace hF2 := sz_rely hF2 h₁
  clear h₁
  refine goes_oper_k rfl rfl (by k_ne) (fun K hK => ?_)
  go_simp
  refine hK _ _ ⟨?_, ?_⟩
  · refine de_none ?_
    intro ex hex
    have hm := mem_listed hex
    simp [go_sem, *] at hm
  clear hK K
  refine EndsF.step rfl (fun _ h₁ => ?_)
  replace hF2 := sz_rely hF2 h₁
  clear h₁
  refine goes_call rfl rfl (by k_ne) rfl Try.func33 nm33 rfl ⟨de_nil, ?_⟩
  walk_nrmf Try.f33
  rename_i w3
  refine first_nil (H := H + 2) (w0 := w3) hF2.2 (Nat.le_refl _) (fun a ha => hSc a (by omega)) (by omega) ?_
  intro w4 hb4 hs4
  have hF3 : Below W.heap.size W w4 ∧ w4.heap.size = H + 4 := ⟨hF2.1.trans (hb4.mono (by omega)), by omega⟩
  clear hF2 hb4 hs4
  unfold Back
  walk_nrm
  refine EndsF.step rfl (fun _ h₁ => ?_)
  replace hF3 := sz_rely hF3 h₁
  clear h₁
  refine goes_oper_k rfl rfl (by k_ne) (fun K hK => ?_)
  go_simp
  refine hK _ _ ⟨?_, ?_⟩
  · refine de_none ?_
    intro ex hex
    have hm := mem_listed hex
    simp [go_sem, *] at hm
  clear hK K
  refine EndsF.step rfl (fun _ h₁ => ?_)
  replace hF3 := sz_rely hF3 h₁
  clear h₁
  refine goes_oper_k rfl rfl (by k_ne) (fun K hK => ?_)
  go_simp
  refine hK _ _ ⟨?_, ?_⟩
  · refine de_none ?_
    intro ex hex
    have hm := mem_listed hex
    simp [go_sem, *] at hm
  clear hK K
  refine EndsF.step rfl (fun _ h₁ => ?_)
  replace hF3 := sz_rely hF3 h₁
  clear h₁
  refine goes_oper_k rfl rfl (by k_ne) (fun K hK => ?_)
  go_simp
  refine hK _ _ ⟨?_, ?_⟩
  · refine de_none ?_
    intro ex hex
    have hm := mem_listed hex
    simp [go_sem, *] at hm
  clear hK K
  refine EndsF.step rfl (fun _ h₁ => ?_)
  replace hF3 := sz_rely hF3 h₁
  clear h₁
  refine goes_oper_k rfl rfl (by k_ne) (fun K hK => ?_)
  go_simp
  refine hK _ _ ⟨?_, ?_⟩
  · refine de_none ?_
    intro ex hex
    have hm := mem_listed hex
    simp [go_sem, *] at hm
  clear hK K
  refine EndsF.step rfl (fun _ h₁ => ?_)
  replace hF3 := sz_rely hF3 h₁
  clear h₁
  refine goes_oper_k rfl rfl (by k_ne) (fun K hK => ?_)
  go_simp
  refine hK _ _ ⟨?_, ?_⟩
  · refine de_none ?_
    intro ex hex
    have hm := mem_listed hex
    simp [go_sem, *] at hm
  clear hK K
  refine EndsF.step rfl (fun _ h₁ => ?_)
  replace hF3 := sz_rely hF3 h₁
  clear h₁
  rw [stepG_region_end]
  simp only [goes_go]
  refine ⟨de_nil, ?_⟩
  refine EndsF.step rfl (fun _ h₁ => ?_)
  replace hF3 := sz_rely hF3 h₁
  clear h₁
  rw [stepG_seq]
  simp only [goes_go]
  refine ⟨de_nil, ?_⟩
  refine EndsF.step rfl (fun _ h₁ => ?_)
  replace hF3 := sz_rely hF3 h₁
  clear h₁
  rw [stepG_region]
  simp only [goes_go, List.size_toArray, List.length_cons, List.length_nil, Nat.reduceAdd, Nat.zero_add, List.range, List.range.loop]
  refine ⟨de_nil, ?_⟩
  refine EndsF.step rfl (fun _ h₁ => ?_)
  replace hF3 := sz_rely hF3 h₁
  clear h₁
  refine goes_oper_k rfl rfl (by k_ne) (fun K hK => ?_)
  go_simp
  refine hK _ _ ⟨?_, ?_⟩
  · refine de_none ?_
    intro ex hex
    have hm := mem_listed hex
    simp [go_sem, *] at hm
  clear hK K
  refine EndsF.step rfl (fun _ h₁ => ?_)
  replace hF3 := sz_rely hF3 h₁
  clear h₁
  refine goes_oper_k rfl rfl (by k_ne) (fun K hK => ?_)
  go_simp
  refine hK _ _ ⟨?_, ?_⟩
  · refine de_none ?_
    intro ex hex
    have hm := mem_listed hex
    simp [go_sem, *] at hm
  clear hK K
  try w_num
  refine EndsF.step rfl (fun _ h₁ => ?_)
  replace hF3 := sz_rely hF3 h₁
  clear h₁
  refine goes_oper_k rfl rfl (by k_ne) (fun K hK => ?_)
  go_simp
  refine hK _ _ ⟨?_, ?_⟩
  · refine de_none ?_
    intro ex hex
    have hm := mem_listed hex
    simp [go_sem, *] at hm
  clear hK K
  refine EndsF.step rfl (fun _ h₁ => ?_)
  replace hF3 := sz_rely hF3 h₁
  clear h₁
  refine goes_oper_k rfl rfl (by k_ne) (fun K hK => ?_)
  go_simp
  refine hK _ _ ⟨?_, ?_⟩
  · refine de_none ?_
    intro ex hex
    have hm := mem_listed hex
    simp [go_sem, *] at hm
  clear hK K
  refine EndsF.step rfl (fun _ h₁ => ?_)
  replace hF3 := sz_rely hF3 h₁
  clear h₁
  refine goes_oper_k rfl rfl (by k_ne) (fun K hK => ?_)
  go_simp
  refine hK _ _ ⟨?_, ?_⟩
  · refine de_none ?_
    intro ex hex
    have hm := mem_listed hex
    simp [go_sem, *] at hm
  clear hK K
  try w_num
  refine EndsF.step rfl (fun _ h₁ => ?_)
  replace hF3 := sz_rely hF3 h₁
  clear h₁
  refine goes_oper_k rfl rfl (by k_ne) (fun K hK => ?_)
  go_simp
  refine hK _ _ ⟨?_, ?_⟩
  · refine de_none ?_
    intro ex hex
    have hm := mem_listed hex
    simp [go_sem, *] at hm
  clear hK K
  refine EndsF.step rfl (fun _ h₁ => ?_)
  replace hF3 := sz_rely hF3 h₁
  clear h₁
  refine goes_oper_k rfl rfl (by k_ne) (fun K hK => ?_)
  go_simp
  refine hK _ _ ⟨?_, ?_⟩
  · refine de_none ?_
    intro ex hex
    have hm := mem_listed hex
    simp [go_sem, *] at hm
  clear hK K
  refine EndsF.step rfl (fun _ h₁ => ?_)
  replace hF3 := sz_rely hF3 h₁
  clear h₁
  refine goes_call rfl rfl (by k_ne) rfl Try.func30 nm30 rfl ⟨de_nil, ?_⟩
  walk_nrmf Try.f30
  rename_i w5
  refine awake_ends (H := H + 4) (w0 := w5) hF3.2 (Nat.le_refl _) (fun a ha => hSc a (by omega)) hSo ?_
  intro Shun' w6 hS6 hb6 hs6
  have hF4 : Below W.heap.size W w6 ∧ w6.heap.size = H + 16 := ⟨hF3.1.trans (hb6.mono (by omega)), by omega⟩
  clear hF3 hb6 hs6
  unfold Back
  walk_nrm
  refine EndsF.step rfl (fun _ h₁ => ?_)
  replace hF4 := sz_rely hF4 h₁
  clear h₁
  refine goes_oper_k rfl rfl (by k_ne) (fun K hK => ?_)
  go_simp
  refine hK _ _ ⟨?_, ?_⟩
  · refine de_none ?_
    intro ex hex
    have hm := mem_listed hex
    simp [go_sem, *] at hm
  clear hK K
  refine EndsF.step rfl (fun _ h₁ => ?_)
  replace hF4 := sz_rely hF4 h₁
  clear h₁
  refine goes_oper_k rfl rfl (by k_ne) (fun K hK => ?_)
  go_simp
  refine hK _ _ ⟨?_, ?_⟩
  · refine de_none ?_
    intro ex hex
    have hm := mem_listed hex
    simp [go_sem, *] at hm
  clear hK K
  refine EndsF.step rfl (fun _ h₁ => ?_)
  replace hF4 := sz_rely hF4 h₁
  clear h₁
  rw [stepG_region_end]
  simp only [goes_go]
  refine ⟨de_nil, ?_⟩
  refine EndsF.step rfl (fun _ h₁ => ?_)
  replace hF4 := sz_rely hF4 h₁
  clear h₁
  rw [stepG_ret']
  simp only [goes_go]
  refine ⟨de_nil, ?_⟩
  refine postL_end rfl (fun w => ?_) hF4.1
  simp [Go.Conc.G, stepG, unwind, doReturn, results, Frame.at, base, b11, Try.func11, Try.f11, seen, GStep.after]

/-- What came of a Map. -/
abbrev Out (N : Int) (n : Nat) (ys : Nat → Int) (H K : Nat) (sl : Value) (e : Int) (w : World) : Prop :=
  ((1 ≤ N ∧ N ≤ 64) ∧ sl = .slice (some ⟨H + 2, 0, none⟩) n n ∧ e = 0 ∧ H + 2 < K ∧ RowIn (some ⟨H + 2, 0, none⟩) n ys w) ∨ (¬ (1 ≤ N ∧ N ≤ 64) ∧ sl = .slice none 0 0 ∧ e = 1)

theorem Out.stay {N : Int} {n : Nat} {ys : Nat → Int} {H K K' : Nat} {sl : Value} {e : Int} {w w' : World} (h : Out N n ys H K sl e w) (hb : Below K' w w') (hK : K ≤ K') : Out N n ys H K sl e w' := by
  refine h.imp (fun ⟨h1, h2, h3, h4, h5⟩ => ⟨h1, h2, h3, h4, fun k hk => ?_⟩) id
  obtain ⟨b, o, e', hc⟩ := h5 k hk
  cases e'
  exact ⟨H + 2, 0, rfl, (cell_block (hb.block (H + 2) (by omega)) _).trans hc⟩
theorem Out.at {N : Int} {n : Nat} {ys : Nat → Int} {H K : Nat} {sl : Value} {e : Int} {w w₁ : World} (h : Out N n ys H K sl e w) (r : AtRel w w₁) : Out N n ys H K sl e w₁ := by
  obtain ⟨d, rfl⟩ := r
  exact h

theorem out_rely {W : World} {a b : Int} {n : Nat} {ys zs : Nat → Int} {H1 K1 H2 K2 K : Nat} {s1 s2 : Value} {e1 e2 : Int} {w w₁ : World} (h : (Below W.heap.size W w ∧ w.heap.size = K) ∧ Out a n ys H1 K1 s1 e1 w ∧ Out b n zs H2 K2 s2 e2 w) (r : AtRel w w₁) :
    (Below W.heap.size W w₁ ∧ w₁.heap.size = K) ∧ Out a n ys H1 K1 s1 e1 w₁ ∧ Out b n zs H2 K2 s2 e2 w₁ := ⟨sz_rely h.1 r, h.2.1.at r, h.2.2.at r⟩
theorem out1_rely {W : World} {a : Int} {n : Nat} {ys : Nat → Int} {H1 K1 K : Nat} {s1 : Value} {e1 : Int} {w w₁ : World} (h : (Below W.heap.size W w ∧ w.heap.size = K) ∧ Out a n ys H1 K1 s1 e1 w) (r : AtRel w w₁) :
    (Below W.heap.size W w₁ ∧ w₁.heap.size = K) ∧ Out a n ys H1 K1 s1 e1 w₁ := ⟨sz_rely h.1 r, h.2.at r⟩

set_option maxRecDepth 100000 in
set_option maxHeartbeats 4000000 in
/-- ████ CrewSame. ████ -/
theorem same_law {n : Nat} {xs : Nat → Int} {av bv : Int} (hn : n * 8 ≤ 140737488355328) (hin : ∀ k, k < n → ∃ Bin oin, sa = some ⟨Bin, oin, none⟩ ∧ Bin < W.heap.size ∧ W.cell? ⟨Bin, oin + k, none⟩ = some (.int .i64 (xs k))) :
    EndsF Try.prog (PostL W) (fun _ => False) 0 (Go.Conc.G (b11.at ⟨#[.slice sa n sc, .int .i64 av, .int .i64 bv, undef, undef, undef, undef, undef, undef, undef, undef, undef, undef, undef, undef, undef, undef, undef, undef, undef, undef, undef, undef, undef, undef, undef, undef, undef, undef, undef, undef, undef, undef, undef, undef, undef, undef, undef, undef, undef, undef, undef, undef, undef, undef, undef, undef, undef, undef, undef, undef, undef, undef, undef, undef, undef, undef, undef, undef, undef, undef, undef, undef], []⟩ [.code body11]) []) W := by
  obtain ⟨H, hH⟩ : ∃ H, W.heap.size = H := ⟨_, rfl⟩
  have hT := fun (Shun : Loc → Prop) (B K : Nat) (w : World) h1 h2 h3 h4 h5 T hs t0 => tail11 (W := W) (w := w) (Shun := Shun) (B := B) (H := K) (sa := sa) (sn := n) (sc := sc) h1 h2 h3 h4 h5 T hs t0
  simp only [K11, Try.f11] at hT
  refine EndsF.mono (Nat.zero_le H) ?_
  simp only [body11, Try.f11, Option.getD_some]
  have hF : Below W.heap.size W W ∧ W.heap.size = H := ⟨Below.refl _ W, hH⟩
  refine EndsF.step rfl (fun _ h₁ => ?_)
  replace hF := sz_rely hF h₁
  clear h₁
  rw [stepG_seq]
  simp only [goes_go]
  refine ⟨de_nil, ?_⟩
  refine EndsF.step rfl (fun _ h₁ => ?_)
  replace hF := sz_rely hF h₁
  clear h₁
  rw [stepG_region]
  simp only [goes_go, List.size_toArray, List.length_cons, List.length_nil, Nat.reduceAdd, Nat.zero_add, List.range, List.range.loop]
  refine ⟨de_nil, ?_⟩
  refine EndsF.step rfl (fun _ h₁ => ?_)
  replace hF := sz_rely hF h₁
  clear h₁
  refine goes_oper_k rfl rfl (by k_ne) (fun K hK => ?_)
  go_simp
  refine hK _ _ ⟨?_, ?_⟩
  · refine de_none ?_
    intro ex hex
    have hm := mem_listed hex
    simp [go_sem, *] at hm
  clear hK K
  refine EndsF.step rfl (fun _ h₁ => ?_)
  replace hF := sz_rely hF h₁
  clear h₁
  rw [stepG_region_end]
  simp only [goes_go]
  refine ⟨de_nil, ?_⟩
  refine EndsF.step rfl (fun _ h₁ => ?_)
  replace hF := sz_rely hF h₁
  clear h₁
  rw [stepG_seq]
  simp only [goes_go]
  refine ⟨de_nil, ?_⟩
  refine EndsF.step rfl (fun _ h₁ => ?_)
  replace hF := sz_rely hF h₁
  clear h₁
  rw [stepG_region]
  simp only [goes_go, List.size_toArray, List.length_cons, List.length_nil, Nat.reduceAdd, Nat.zero_add, List.range, List.range.loop]
  refine ⟨de_nil, ?_⟩
  refine EndsF.step rfl (fun _ h₁ => ?_)
  replace hF := sz_rely hF h₁
  clear h₁
  refine goes_oper_k rfl rfl (by k_ne) (fun K hK => ?_)
  go_simp
  refine hK _ _ ⟨?_, ?_⟩
  · refine de_none ?_
    intro ex hex
    have hm := mem_listed hex
    simp [go_sem, *] at hm
  clear hK K
  refine EndsF.step rfl (fun _ h₁ => ?_)
  replace hF := sz_rely hF h₁
  clear h₁
  refine goes_oper_k rfl rfl (by k_ne) (fun K hK => ?_)
  go_simp
  refine hK _ _ ⟨?_, ?_⟩
  · refine de_none ?_
    intro ex hex
    have hm := mem_listed hex
    simp [go_sem, *] at hm
  clear hK K
  refine EndsF.step rfl (fun _ h₁ => ?_)
  replace hF := sz_rely hF h₁
  clear h₁
  refine goes_call rfl rfl (by k_ne) rfl Try.func27 nm27 rfl ⟨de_nil, ?_⟩
  walk_nrmf Try.f27
  rename_i w1
  refine map_out (H := H) (w0 := w1) (xs := xs) (ys := fun k => IntKind.i64.wrap (xs k * xs k)) hF.2 (Nat.le_refl _) hn (fun _ _ => id) (fun _ => id) ?_ fun35 ?_
  · intro k hk
    obtain ⟨Bin, oin, e, h1, h2⟩ := hin k hk
    exact ⟨Bin, oin, e, by omega, id, fun _ _ => id, (hF.1.cell (p := ⟨Bin, oin + k, none⟩) (by omega)).trans h2⟩
  intro Shun1 w1' K1 sl1 e1 hG1 hb1 hs1 hK1 hO1
  have hc1 := hG1.fresh hK1 (fun _ _ => id)
  have ho1 := hG1.obj (fun _ => id)
  have hF1 : (Below W.heap.size W w1' ∧ w1'.heap.size = K1) ∧ Out av n (fun k => IntKind.i64.wrap (xs k * xs k)) H K1 sl1 e1 w1' := ⟨⟨hF.1.trans (hb1.mono (by omega)), hs1⟩, hO1⟩
  clear hF hb1 hs1 hO1
  unfold Back
  walk_nrm
  refine EndsF.step rfl (fun _ h₁ => ?_)
  replace hF1 := out1_rely hF1 h₁
  clear h₁
  refine goes_oper_k rfl rfl (by k_ne) (fun K hK => ?_)
  go_simp
  refine hK _ _ ⟨?_, ?_⟩
  · refine de_none ?_
    intro ex hex
    have hm := mem_listed hex
    simp [go_sem, *] at hm
  clear hK K
  refine EndsF.step rfl (fun _ h₁ => ?_)
  replace hF1 := out1_rely hF1 h₁
  clear h₁
  refine goes_oper_k rfl rfl (by k_ne) (fun K hK => ?_)
  go_simp
  refine hK _ _ ⟨?_, ?_⟩
  · refine de_none ?_
    intro ex hex
    have hm := mem_listed hex
    simp [go_sem, *] at hm
  clear hK K
  refine EndsF.step rfl (fun _ h₁ => ?_)
  replace hF1 := out1_rely hF1 h₁
  clear h₁
  refine goes_oper_k rfl rfl (by k_ne) (fun K hK => ?_)
  go_simp
  refine hK _ _ ⟨?_, ?_⟩
  · refine de_none ?_
    intro ex hex
    have hm := mem_listed hex
    simp [go_sem, *] at hm
  clear hK K
  refine EndsF.step rfl (fun _ h₁ => ?_)
  replace hF1 := out1_rely hF1 h₁
  clear h₁
  refine goes_oper_k rfl rfl (by k_ne) (fun K hK => ?_)
  go_simp
  refine hK _ _ ⟨?_, ?_⟩
  · refine de_none ?_
    intro ex hex
    have hm := mem_listed hex
    simp [go_sem, *] at hm
  clear hK K
  refine EndsF.step rfl (fun _ h₁ => ?_)
  replace hF1 := out1_rely hF1 h₁
  clear h₁
  refine goes_oper_k rfl rfl (by k_ne) (fun K hK => ?_)
  go_simp
  refine hK _ _ ⟨?_, ?_⟩
  · refine de_none ?_
    intro ex hex
    have hm := mem_listed hex
    simp [go_sem, *] at hm
  clear hK K
  refine EndsF.step rfl (fun _ h₁ => ?_)
  replace hF1 := out1_rely hF1 h₁
  clear h₁
  rw [stepG_region_end]
  simp only [goes_go]
  refine ⟨de_nil, ?_⟩
  refine EndsF.step rfl (fun _ h₁ => ?_)
  replace hF1 := out1_rely hF1 h₁
  clear h₁
  rw [stepG_seq]
  simp only [goes_go]
  refine ⟨de_nil, ?_⟩
  refine EndsF.step rfl (fun _ h₁ => ?_)
  replace hF1 := out1_rely hF1 h₁
  clear h₁
  rw [stepG_region]
  simp only [goes_go, List.size_toArray, List.length_cons, List.length_nil, Nat.reduceAdd, Nat.zero_add, List.range, List.range.loop]
  refine ⟨de_nil, ?_⟩
  refine EndsF.step rfl (fun _ h₁ => ?_)
  replace hF1 := out1_rely hF1 h₁
  clear h₁
  refine goes_oper_k rfl rfl (by k_ne) (fun K hK => ?_)
  go_simp
  refine hK _ _ ⟨?_, ?_⟩
  · refine de_none ?_
    intro ex hex
    have hm := mem_listed hex
    simp [go_sem, *] at hm
  clear hK K
  refine EndsF.step rfl (fun _ h₁ => ?_)
  replace hF1 := out1_rely hF1 h₁
  clear h₁
  refine goes_oper_k rfl rfl (by k_ne) (fun K hK => ?_)
  go_simp
  refine hK _ _ ⟨?_, ?_⟩
  · refine de_none ?_
    intro ex hex
    have hm := mem_listed hex
    simp [go_sem, *] at hm
  clear hK K
  refine EndsF.step rfl (fun _ h₁ => ?_)
  replace hF1 := out1_rely hF1 h₁
  clear h₁
  refine goes_call rfl rfl (by k_ne) rfl Try.func27 nm27 rfl ⟨de_nil, ?_⟩
  walk_nrmf Try.f27
  rename_i w2
  refine map_out (H := K1) (w0 := w2) (xs := xs) (ys := fun k => IntKind.i64.wrap (xs k * xs k)) hF1.1.2 (Nat.le_refl _) hn hc1 ho1 ?_ fun36 ?_
  · intro k hk
    obtain ⟨Bin, oin, e, h1, h2⟩ := hin k hk
    exact ⟨Bin, oin, e, by omega, id, fun a ha => hG1.old (.inl (by omega)) id, (hF1.1.1.cell (p := ⟨Bin, oin + k, none⟩) (by omega)).trans h2⟩
  intro Shun2 w2' K2 sl2 e2 hG2 hb2 hs2 hK2 hO2
  have hc2 := hG2.fresh hK2 hc1
  have ho2 := hG2.obj ho1
  have hF2 : (Below W.heap.size W w2' ∧ w2'.heap.size = K2) ∧ Out av n (fun k => IntKind.i64.wrap (xs k * xs k)) H K1 sl1 e1 w2' ∧ Out bv n (fun k => IntKind.i64.wrap (xs k * xs k)) K1 K2 sl2 e2 w2' := ⟨⟨hF1.1.1.trans (hb2.mono (by omega)), hs2⟩, hF1.2.stay hb2 (Nat.le_refl _), hO2⟩
  clear hF1 hb2 hs2 hO2
  unfold Back
  walk_nrm
  refine EndsF.step rfl (fun _ h₁ => ?_)
  replace hF2 := out_rely hF2 h₁
  clear h₁
  refine goes_oper_k rfl rfl (by k_ne) (fun K hK => ?_)
  go_simp
  refine hK _ _ ⟨?_, ?_⟩
  · refine de_none ?_
    intro ex hex
    have hm := mem_listed hex
    simp [go_sem, *] at hm
  clear hK K
  refine EndsF.step rfl (fun _ h₁ => ?_)
  replace hF2 := out_rely hF2 h₁
  clear h₁
  refine goes_oper_k rfl rfl (by k_ne) (fun K hK => ?_)
  go_simp
  refine hK _ _ ⟨?_, ?_⟩
  · refine de_none ?_
    intro ex hex
    have hm := mem_listed hex
    simp [go_sem, *] at hm
  clear hK K
  refine EndsF.step rfl (fun _ h₁ => ?_)
  replace hF2 := out_rely hF2 h₁
  clear h₁
  refine goes_oper_k rfl rfl (by k_ne) (fun K hK => ?_)
  go_simp
  refine hK _ _ ⟨?_, ?_⟩
  · refine de_none ?_
    intro ex hex
    have hm := mem_listed hex
    simp [go_sem, *] at hm
  clear hK K
  refine EndsF.step rfl (fun _ h₁ => ?_)
  replace hF2 := out_rely hF2 h₁
  clear h₁
  refine goes_oper_k rfl rfl (by k_ne) (fun K hK => ?_)
  go_simp
  refine hK _ _ ⟨?_, ?_⟩
  · refine de_none ?_
    intro ex hex
    have hm := mem_listed hex
    simp [go_sem, *] at hm
  clear hK K
  refine EndsF.step rfl (fun _ h₁ => ?_)
  replace hF2 := out_rely hF2 h₁
  clear h₁
  refine goes_oper_k rfl rfl (by k_ne) (fun K hK => ?_)
  go_simp
  refine hK _ _ ⟨?_, ?_⟩
  · refine de_none ?_
    intro ex hex
    have hm := mem_listed hex
    simp [go_sem, *] at hm
  clear hK K
  refine EndsF.step rfl (fun _ h₁ => ?_)
  replace hF2 := out_rely hF2 h₁
  clear h₁
  rw [stepG_region_end]
  simp only [goes_go]
  refine ⟨de_nil, ?_⟩
  refine EndsF.step rfl (fun _ h₁ => ?_)
  replace hF2 := out_rely hF2 h₁
  clear h₁
  rw [stepG_seq]
  simp only [goes_go]
  refine ⟨de_nil, ?_⟩
  refine EndsF.step rfl (fun _ h₁ => ?_)
  replace hF2 := out_rely hF2 h₁
  clear h₁
  rw [stepG_seq]
  simp only [goes_go]
  refine ⟨de_nil, ?_⟩
  refine EndsF.step rfl (fun _ h₁ => ?_)
  replace hF2 := out_rely hF2 h₁
  clear h₁
  rw [stepG_region]
  simp only [goes_go, List.size_toArray, List.length_cons, List.length_nil, Nat.reduceAdd, Nat.zero_add, List.range, List.range.loop]
  refine ⟨de_nil, ?_⟩
  refine EndsF.step rfl (fun _ h₁ => ?_)
  replace hF2 := out_rely hF2 h₁
  clear h₁
  refine goes_oper_k rfl rfl (by k_ne) (fun K hK => ?_)
  go_simp
  refine hK _ _ ⟨?_, ?_⟩
  · refine de_none ?_
    intro ex hex
    have hm := mem_listed hex
    simp [go_sem, *] at hm
  clear hK K
  refine EndsF.step rfl (fun _ h₁ => ?_)
  replace hF2 := out_rely hF2 h₁
  clear h₁
  refine goes_call rfl rfl (by k_ne) rfl Try.func29 nm29 rfl ⟨de_nil, ?_⟩
  walk_nrmf Try.f29
  rename_i w3
  refine fine29_ends (w := w3) ?_
  unfold Back
  walk_nrm
  by_cases ha : 1 ≤ av ∧ av ≤ 64
  · have ea : (decide (1 ≤ av) && decide (av ≤ 64)) = true := by simpa [Bool.and_eq_true] using ha
    rw [ea]
    clear ea
    refine EndsF.step rfl (fun _ h₁ => ?_)
    replace hF2 := out_rely hF2 h₁
    clear h₁
    refine goes_oper_k rfl rfl (by k_ne) (fun K hK => ?_)
    go_simp
    refine hK _ _ ⟨?_, ?_⟩
    · refine de_none ?_
      intro ex hex
      have hm := mem_listed hex
      simp [go_sem, *] at hm
    clear hK K
    refine EndsF.step rfl (fun _ h₁ => ?_)
    replace hF2 := out_rely hF2 h₁
    clear h₁
    refine goes_oper_k rfl rfl (by k_ne) (fun K hK => ?_)
    go_simp
    refine hK _ _ ⟨?_, ?_⟩
    · refine de_none ?_
      intro ex hex
      have hm := mem_listed hex
      simp [go_sem, *] at hm
    clear hK K
    refine EndsF.step rfl (fun _ h₁ => ?_)
    replace hF2 := out_rely hF2 h₁
    clear h₁
    refine goes_call rfl rfl (by k_ne) rfl Try.func29 nm29 rfl ⟨de_nil, ?_⟩
    walk_nrmf Try.f29
    rename_i w4
    refine fine29_ends (w := w4) ?_
    unfold Back
    walk_nrm
    by_cases hb : 1 ≤ bv ∧ bv ≤ 64
    · have eb : (decide (1 ≤ bv) && decide (bv ≤ 64)) = true := by simpa [Bool.and_eq_true] using hb
      rw [eb]
      clear eb
      obtain ⟨_, rfl, rfl, hk1, hr1⟩ | ⟨hx, _⟩ := hF2.2.1
      · obtain ⟨_, rfl, rfl, hk2, hr2⟩ | ⟨hx, _⟩ := hF2.2.2
        · clear hr1 hr2
          refine EndsF.step rfl (fun _ h₁ => ?_)
          replace hF2 := out_rely hF2 h₁
          clear h₁
          refine goes_oper_k rfl rfl (by k_ne) (fun K hK => ?_)
          go_simp
          refine hK _ _ ⟨?_, ?_⟩
          · refine de_none ?_
            intro ex hex
            have hm := mem_listed hex
            simp [go_sem, *] at hm
          clear hK K
          refine EndsF.step rfl (fun _ h₁ => ?_)
          replace hF2 := out_rely hF2 h₁
          clear h₁
          refine goes_oper_k rfl rfl (by k_ne) (fun K hK => ?_)
          go_simp
          refine hK _ _ ⟨?_, ?_⟩
          · refine de_none ?_
            intro ex hex
            have hm := mem_listed hex
            simp [go_sem, *] at hm
          clear hK K
          refine EndsF.step rfl (fun _ h₁ => ?_)
          replace hF2 := out_rely hF2 h₁
          clear h₁
          refine goes_oper_k rfl rfl (by k_ne) (fun K hK => ?_)
          go_simp
          refine hK _ _ ⟨?_, ?_⟩
          · refine de_none ?_
            intro ex hex
            have hm := mem_listed hex
            simp [go_sem, *] at hm
          clear hK K
          refine EndsF.step rfl (fun _ h₁ => ?_)
          replace hF2 := out_rely hF2 h₁
          clear h₁
          refine goes_oper_k rfl rfl (by k_ne) (fun K hK => ?_)
          go_simp
          refine hK _ _ ⟨?_, ?_⟩
          · refine de_none ?_
            intro ex hex
            have hm := mem_listed hex
            simp [go_sem, *] at hm
          clear hK K
          refine EndsF.step rfl (fun _ h₁ => ?_)
          replace hF2 := out_rely hF2 h₁
          clear h₁
          refine goes_oper_k rfl rfl (by k_ne) (fun K hK => ?_)
          go_simp
          refine hK _ _ ⟨?_, ?_⟩
          · refine de_none ?_
            intro ex hex
            have hm := mem_listed hex
            simp [go_sem, *] at hm
          clear hK K
          try w_num
          refine EndsF.step rfl (fun _ h₁ => ?_)
          replace hF2 := out_rely hF2 h₁
          clear h₁
          refine goes_oper_k rfl rfl (by k_ne) (fun K hK => ?_)
          go_simp
          refine hK _ _ ⟨?_, ?_⟩
          · refine de_none ?_
            intro ex hex
            have hm := mem_listed hex
            simp [go_sem, *] at hm
          clear hK K
          refine EndsF.step rfl (fun _ h₁ => ?_)
          replace hF2 := out_rely hF2 h₁
          clear h₁
          refine goes_oper_k rfl rfl (by k_ne) (fun K hK => ?_)
          go_simp
          refine hK _ _ ⟨?_, ?_⟩
          · refine de_none ?_
            intro ex hex
            have hm := mem_listed hex
            simp [go_sem, *] at hm
          clear hK K
          refine EndsF.step rfl (fun _ h₁ => ?_)
          replace hF2 := out_rely hF2 h₁
          clear h₁
          refine goes_oper_k rfl rfl (by k_ne) (fun K hK => ?_)
          go_simp
          refine hK _ _ ⟨?_, ?_⟩
          · refine de_none ?_
            intro ex hex
            have hm := mem_listed hex
            simp [go_sem, *] at hm
          clear hK K
          refine EndsF.step rfl (fun _ h₁ => ?_)
          replace hF2 := out_rely hF2 h₁
          clear h₁
          refine goes_call rfl rfl (by k_ne) rfl Try.func31 nm31 rfl ⟨de_nil, ?_⟩
          walk_nrmf Try.f31
          rename_i w5
          obtain ⟨_, _, _, _, hr1⟩ | ⟨hx, _⟩ := hF2.2.1
          · obtain ⟨_, _, _, _, hr2⟩ | ⟨hx, _⟩ := hF2.2.2
            · refine same_ends (a := some ⟨H + 2, 0, none⟩) (a' := some ⟨K1 + 2, 0, none⟩) (w := w5) (by omega) (fun _ ad e => by cases e; exact ⟨fun x hx => hG2.old (.inl (by have : x.block = H + 2 := hx; omega)) (hG1.old (.inr hx) id), by show H + 2 < K2; omega⟩) (fun _ ad e => by cases e; exact ⟨fun x hx => hG2.old (.inr hx) (hc1 x (by have : x.block = K1 + 2 := hx; omega)), by show K1 + 2 < K2; omega⟩) ⟨hr1, hr2, ?_⟩
              clear hr1 hr2
              unfold Back
              walk_nrm
              refine EndsF.step rfl (fun _ h₁ => ?_)
              replace hF2 := out_rely hF2 h₁
              clear h₁
              refine goes_oper_k rfl rfl (by k_ne) (fun K hK => ?_)
              go_simp
              refine hK _ _ ⟨?_, ?_⟩
              · refine de_none ?_
                intro ex hex
                have hm := mem_listed hex
                simp [go_sem, *] at hm
              clear hK K
              refine EndsF.step rfl (fun _ h₁ => ?_)
              replace hF2 := out_rely hF2 h₁
              clear h₁
              refine goes_oper_k rfl rfl (by k_ne) (fun K hK => ?_)
              go_simp
              refine hK _ _ ⟨?_, ?_⟩
              · refine de_none ?_
                intro ex hex
                have hm := mem_listed hex
                simp [go_sem, *] at hm
              clear hK K
              refine EndsF.step rfl (fun _ h₁ => ?_)
              replace hF2 := out_rely hF2 h₁
              clear h₁
              refine goes_oper_k rfl rfl (by k_ne) (fun K hK => ?_)
              go_simp
              refine hK _ _ ⟨?_, ?_⟩
              · refine de_none ?_
                intro ex hex
                have hm := mem_listed hex
                simp [go_sem, *] at hm
              clear hK K
              refine EndsF.step rfl (fun _ h₁ => ?_)
              replace hF2 := out_rely hF2 h₁
              clear h₁
              rw [stepG_region_end]
              simp only [goes_go]
              refine ⟨de_nil, ?_⟩
              refine EndsF.step rfl (fun _ h₁ => ?_)
              replace hF2 := out_rely hF2 h₁
              clear h₁
              rw [stepG_cond (t := false) rfl]
              simp only [goes_go, if_true, if_false, Bool.false_eq_true, ↓reduceIte]
              refine ⟨de_nil, ?_⟩
              refine EndsF.step rfl (fun _ h₁ => ?_)
              replace hF2 := out_rely hF2 h₁
              clear h₁
              rw [stepG_skip]
              simp only [goes_go]
              refine ⟨de_nil, ?_⟩
              exact hT Shun2 K2 K2 _ (by omega) hF2.1 (Nat.le_refl _) hc2 ho2 _ (by simp) (by simp)
            · exact absurd hb hx
          · exact absurd ha hx
        · exact absurd hb hx
      · exact absurd ha hx
    · have eb : (decide (1 ≤ bv) && decide (bv ≤ 64)) = false := by simpa [Bool.and_eq_true] using hb
      rw [eb]
      clear eb
      refine EndsF.step rfl (fun _ h₁ => ?_)
      replace hF2 := out_rely hF2 h₁
      clear h₁
      refine goes_oper_k rfl rfl (by k_ne) (fun K hK => ?_)
      go_simp
      refine hK _ _ ⟨?_, ?_⟩
      · refine de_none ?_
        intro ex hex
        have hm := mem_listed hex
        simp [go_sem, *] at hm
      clear hK K
      refine EndsF.step rfl (fun _ h₁ => ?_)
      replace hF2 := out_rely hF2 h₁
      clear h₁
      refine goes_oper_k rfl rfl (by k_ne) (fun K hK => ?_)
      go_simp
      refine hK _ _ ⟨?_, ?_⟩
      · refine de_none ?_
        intro ex hex
        have hm := mem_listed hex
        simp [go_sem, *] at hm
      clear hK K
      refine EndsF.step rfl (fun _ h₁ => ?_)
      replace hF2 := out_rely hF2 h₁
      clear h₁
      rw [stepG_unwanted rfl rfl]
      simp only [goes_go]
      refine ⟨de_nil, ?_⟩
      walk_nrm
      refine EndsF.step rfl (fun _ h₁ => ?_)
      replace hF2 := out_rely hF2 h₁
      clear h₁
      rw [stepG_unwanted rfl rfl]
      simp only [goes_go]
      refine ⟨de_nil, ?_⟩
      walk_nrm
      refine EndsF.step rfl (fun _ h₁ => ?_)
      replace hF2 := out_rely hF2 h₁
      clear h₁
      rw [stepG_unwanted rfl rfl]
      simp only [goes_go]
      refine ⟨de_nil, ?_⟩
      walk_nrm
      refine EndsF.step rfl (fun _ h₁ => ?_)
      replace hF2 := out_rely hF2 h₁
      clear h₁
      rw [stepG_unwanted rfl rfl]
      simp only [goes_go]
      refine ⟨de_nil, ?_⟩
      walk_nrm
      refine EndsF.step rfl (fun _ h₁ => ?_)
      replace hF2 := out_rely hF2 h₁
      clear h₁
      rw [stepG_unwanted rfl rfl]
      simp only [goes_go]
      refine ⟨de_nil, ?_⟩
      walk_nrm
      refine EndsF.step rfl (fun _ h₁ => ?_)
      replace hF2 := out_rely hF2 h₁
      clear h₁
      rw [stepG_unwanted rfl rfl]
      simp only [goes_go]
      refine ⟨de_nil, ?_⟩
      walk_nrm
      refine EndsF.step rfl (fun _ h₁ => ?_)
      replace hF2 := out_rely hF2 h₁
      clear h₁
      rw [stepG_unwanted rfl rfl]
      simp only [goes_go]
      refine ⟨de_nil, ?_⟩
      walk_nrm
      refine EndsF.step rfl (fun _ h₁ => ?_)
      replace hF2 := out_rely hF2 h₁
      clear h₁
      rw [stepG_unwanted rfl rfl]
      simp only [goes_go]
      refine ⟨de_nil, ?_⟩
      walk_nrm
      refine EndsF.step rfl (fun _ h₁ => ?_)
      replace hF2 := out_rely hF2 h₁
      clear h₁
      rw [stepG_unwanted rfl rfl]
      simp only [goes_go]
      refine ⟨de_nil, ?_⟩
      walk_nrm
      refine EndsF.step rfl (fun _ h₁ => ?_)
      replace hF2 := out_rely hF2 h₁
      clear h₁
      refine goes_oper_k rfl rfl (by k_ne) (fun K hK => ?_)
      go_simp
      refine hK _ _ ⟨?_, ?_⟩
      · refine de_none ?_
        intro ex hex
        have hm := mem_listed hex
        simp [go_sem, *] at hm
      clear hK K
      refine EndsF.step rfl (fun _ h₁ => ?_)
      replace hF2 := out_rely hF2 h₁
      clear h₁
      rw [stepG_region_end]
      simp only [goes_go]
      refine ⟨de_nil, ?_⟩
      refine EndsF.step rfl (fun _ h₁ => ?_)
      replace hF2 := out_rely hF2 h₁
      clear h₁
      rw [stepG_cond (t := false) rfl]
      simp only [goes_go, if_true, if_false, Bool.false_eq_true, ↓reduceIte]
      refine ⟨de_nil, ?_⟩
      refine EndsF.step rfl (fun _ h₁ => ?_)
      replace hF2 := out_rely hF2 h₁
      clear h₁
      rw [stepG_skip]
      simp only [goes_go]
      refine ⟨de_nil, ?_⟩
      exact hT Shun2 K2 K2 _ (by omega) hF2.1 (Nat.le_refl _) hc2 ho2 _ (by simp) (by simp)
  · have ea : (decide (1 ≤ av) && decide (av ≤ 64)) = false := by simpa [Bool.and_eq_true] using ha
    rw [ea]
    clear ea
    refine EndsF.step rfl (fun _ h₁ => ?_)
    replace hF2 := out_rely hF2 h₁
    clear h₁
    refine goes_oper_k rfl rfl (by k_ne) (fun K hK => ?_)
    go_simp
    refine hK _ _ ⟨?_, ?_⟩
    · refine de_none ?_
      intro ex hex
      have hm := mem_listed hex
      simp [go_sem, *] at hm
    clear hK K
    refine EndsF.step rfl (fun _ h₁ => ?_)
    replace hF2 := out_rely hF2 h₁
    clear h₁
    rw [stepG_unwanted rfl rfl]
    simp only [goes_go]
    refine ⟨de_nil, ?_⟩
    walk_nrm
    refine EndsF.step rfl (fun _ h₁ => ?_)
    replace hF2 := out_rely hF2 h₁
    clear h₁
    rw [stepG_unwanted rfl rfl]
    simp only [goes_go]
    refine ⟨de_nil, ?_⟩
    walk_nrm
    refine EndsF.step rfl (fun _ h₁ => ?_)
    replace hF2 := out_rely hF2 h₁
    clear h₁
    refine goes_oper_k rfl rfl (by k_ne) (fun K hK => ?_)
    go_simp
    refine hK _ _ ⟨?_, ?_⟩
    · refine de_none ?_
      intro ex hex
      have hm := mem_listed hex
      simp [go_sem, *] at hm
    clear hK K
    refine EndsF.step rfl (fun _ h₁ => ?_)
    replace hF2 := out_rely hF2 h₁
    clear h₁
    refine goes_oper_k rfl rfl (by k_ne) (fun K hK => ?_)
    go_simp
    refine hK _ _ ⟨?_, ?_⟩
    · refine de_none ?_
      intro ex hex
      have hm := mem_listed hex
      simp [go_sem, *] at hm
    clear hK K
    refine EndsF.step rfl (fun _ h₁ => ?_)
    replace hF2 := out_rely hF2 h₁
    clear h₁
    rw [stepG_unwanted rfl rfl]
    simp only [goes_go]
    refine ⟨de_nil, ?_⟩
    walk_nrm
    refine EndsF.step rfl (fun _ h₁ => ?_)
    replace hF2 := out_rely hF2 h₁
    clear h₁
    rw [stepG_unwanted rfl rfl]
    simp only [goes_go]
    refine ⟨de_nil, ?_⟩
    walk_nrm
    refine EndsF.step rfl (fun _ h₁ => ?_)
    replace hF2 := out_rely hF2 h₁
    clear h₁
    rw [stepG_unwanted rfl rfl]
    simp only [goes_go]
    refine ⟨de_nil, ?_⟩
    walk_nrm
    refine EndsF.step rfl (fun _ h₁ => ?_)
    replace hF2 := out_rely hF2 h₁
    clear h₁
    rw [stepG_unwanted rfl rfl]
    simp only [goes_go]
    refine ⟨de_nil, ?_⟩
    walk_nrm
    refine EndsF.step rfl (fun _ h₁ => ?_)
    replace hF2 := out_rely hF2 h₁
    clear h₁
    rw [stepG_unwanted rfl rfl]
    simp only [goes_go]
    refine ⟨de_nil, ?_⟩
    walk_nrm
    refine EndsF.step rfl (fun _ h₁ => ?_)
    replace hF2 := out_rely hF2 h₁
    clear h₁
    rw [stepG_unwanted rfl rfl]
    simp only [goes_go]
    refine ⟨de_nil, ?_⟩
    walk_nrm
    refine EndsF.step rfl (fun _ h₁ => ?_)
    replace hF2 := out_rely hF2 h₁
    clear h₁
    rw [stepG_unwanted rfl rfl]
    simp only [goes_go]
    refine ⟨de_nil, ?_⟩
    walk_nrm
    refine EndsF.step rfl (fun _ h₁ => ?_)
    replace hF2 := out_rely hF2 h₁
    clear h₁
    rw [stepG_unwanted rfl rfl]
    simp only [goes_go]
    refine ⟨de_nil, ?_⟩
    walk_nrm
    refine EndsF.step rfl (fun _ h₁ => ?_)
    replace hF2 := out_rely hF2 h₁
    clear h₁
    rw [stepG_unwanted rfl rfl]
    simp only [goes_go]
    refine ⟨de_nil, ?_⟩
    walk_nrm
    refine EndsF.step rfl (fun _ h₁ => ?_)
    replace hF2 := out_rely hF2 h₁
    clear h₁
    refine goes_oper_k rfl rfl (by k_ne) (fun K hK => ?_)
    go_simp
    refine hK _ _ ⟨?_, ?_⟩
    · refine de_none ?_
      intro ex hex
      have hm := mem_listed hex
      simp [go_sem, *] at hm
    clear hK K
    refine EndsF.step rfl (fun _ h₁ => ?_)
    replace hF2 := out_rely hF2 h₁
    clear h₁
    rw [stepG_region_end]
    simp only [goes_go]
    refine ⟨de_nil, ?_⟩
    refine EndsF.step rfl (fun _ h₁ => ?_)
    replace hF2 := out_rely hF2 h₁
    clear h₁
    rw [stepG_cond (t := false) rfl]
    simp only [goes_go, if_true, if_false, Bool.false_eq_true, ↓reduceIte]
    refine ⟨de_nil, ?_⟩
    refine EndsF.step rfl (fun _ h₁ => ?_)
    replace hF2 := out_rely hF2 h₁
    clear h₁
    rw [stepG_skip]
    simp only [goes_go]
    refine ⟨de_nil, ?_⟩
    exact hT Shun2 K2 K2 _ (by omega) hF2.1 (Nat.le_refl _) hc2 ho2 _ (by simp) (by simp)
end
end Go.Pool
