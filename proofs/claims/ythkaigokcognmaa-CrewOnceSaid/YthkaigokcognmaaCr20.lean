/-
  CREW 20: CrewOnce, walked.
-/
import Derived.Test.YthkaigokcognmaaCr19
set_option linter.unusedSimpArgs false
namespace Go.Pool
open Go.Conc Go.RowKit Go.Proofs Go.ConcN Go.Conc.Lib Go.ConcR.Gen Go.ConcN.Gen
open Go.ConcR (KK wgBlock WgAt stA smA rd wr mk DC0)

abbrev idN (k : Nat) : Int := k
abbrev CallsAt (H : Nat) (c : Int) (k : Nat) (w : World) : Prop := w.cell? ⟨H + 1, k, none⟩ = some (.int .i64 c)

set_option maxRecDepth 100000 in
theorem fun32 {Shun : Loc → Prop} {H n : Nat} {w0 : World} (hS : ∀ a : Addr, H ≤ a.block → ¬ Shun (.cell a)) (hv : w0.heap[H + 2]? = some (.cells #[.slice (some ⟨H + 1, 0, none⟩) n n] 43)) (hc : ∃ cs, w0.heap[H + 1]? = some (.cells cs 3) ∧ cs.size = n) :
    FunC Shun (H + 3) w0 n (fun b => b = H + 1) (CallsAt H 0) (CallsAt H 1) 32 #[.pointer (some ⟨H + 2, 0, none⟩)] idN idN := by
  intro φ hFr k hk V hV hVs hK
  have st := hFr.still (b := H + 2) (by omega) (fun h => h.elim (fun e => by omega) fun e => by omega) (fun a ha => hS a (by omega))
  have hpb : φ.pb (H + 1) := by rw [hFr.pb]; exact .inl rfl
  have hlow := hFr.low
  refine (f32_c (φ := φ) (k := k) (Bc := H + 2) (Cal := H + 1) (n := n) (V := V) st hpb (by omega) hk hV (fun w v h => hVs w (H + 1) v rfl h)).elim fun m hm => ⟨m, fun w hw hx => ?_⟩
  have hKw := hK w hw
  have hx32 : X32 k (H + 2) (H + 1) n 0 w := by
    refine ⟨?_, hx, ?_⟩
    · rw [cell_block (hKw.block (H + 2) (by omega) (by omega)) 0]
      simp [World.cell?, hv]
    · obtain ⟨cs, h1, h2⟩ := hc
      obtain ⟨cs', h3, h4⟩ := hKw.shape (H + 1) (by omega) rfl _ _ _ h1
      exact ⟨cs', h3, h4.trans h2⟩
  exact CallsC.mono (hm w hw hx32) fun v w' h => ⟨h.1, h.2.1, h.2.2.cc⟩

/-- What the temporaries hold in the second loop. -/
structure TB (H Ob n i : Nat) (T : Array Value) : Prop where
  size : T.size = 62
  t5 : T[5]? = some (.int .i64 n)
  t6 : T[6]? = some (.slice (some ⟨H, 0, none⟩) n n)
  t7 : T[7]? = some (.pointer (some ⟨H + 2, 0, none⟩))
  t9 : T[9]? = some (.slice (some ⟨Ob, 0, none⟩) n n)
  t10 : T[10]? = some (.int .i64 0)
  t11 : T[11]? = some (.int .i64 i)

structure FB (W : World) (H Ob K n : Nat) (w : World) : Prop where
  below : Below W.heap.size W w
  size : w.heap.size = K
  cv : w.cell? ⟨H + 2, 0, none⟩ = some (.slice (some ⟨H + 1, 0, none⟩) n n)
  cc : ∀ k, k < n → CallsAt H 1 k w
  ri : RowIn (some ⟨H, 0, none⟩) n idN w
  ro : RowIn (some ⟨Ob, 0, none⟩) n idN w
theorem FB.rely {W : World} {H Ob K n : Nat} {w w₁ : World} (h : FB W H Ob K n w) (r : AtRel w w₁) : FB W H Ob K n w₁ := by
  obtain ⟨d, rfl⟩ := r
  exact ⟨⟨h.below.os, h.below.tape, h.below.output, h.below.size, h.below.block⟩, h.size, h.cv, h.cc, h.ri, h.ro⟩

section
variable {W w : World} {Shun : Loc → Prop} {B H n : Nat} {wv : Int}

set_option maxRecDepth 100000 in
set_option maxHeartbeats 4000000 in
theorem head9b {K Ob : Nat} (hn : n ≤ 127) (hW : W.heap.size ≤ K) (hSc : ∀ z : Addr, K ≤ z.block → ¬ Shun (.cell z)) (hSo : ∀ r, ¬ Shun (.obj r)) (hS3 : ∀ z : Addr, H ≤ z.block → z.block < H + 3 → ¬ Shun (.cell z)) (hSO : ∀ z : Addr, z.block = Ob → ¬ Shun (.cell z)) (hK : H + 3 ≤ K) (hOb : Ob < K) :
    ∀ r i, i + r = n → ∀ (T : Array Value) (w : World), TB H Ob n i T → FB W H Ob K n w → EndsF Try.prog (PostL W) Shun K (Go.Conc.G (b9.at ⟨T, []⟩ [.code L9b, .inLoop L9b, .inBlock 2, .code K9b]) []) w := by
  intro r
  induction r with
  | zero =>
    intro i hi T w ⟨hs, t5, t6, t7, t9, t10, t11⟩ hF
    obtain rfl : i = n := by omega
    obtain ⟨v0, v1, v2, v3, v4, v5, v6, v7, v8, v9, v10, v11, v12, v13, v14, v15, v16, v17, v18, v19, v20, v21, v22, v23, v24, v25, v26, v27, v28, v29, v30, v31, v32, v33, v34, v35, v36, v37, v38, v39, v40, v41, v42, v43, v44, v45, v46, v47, v48, v49, v50, v51, v52, v53, v54, v55, v56, v57, v58, v59, v60, v61, rfl⟩ := array62 T hs
    simp only [List.getElem?_toArray, List.getElem?_cons_zero, List.getElem?_cons_succ, Option.some.injEq] at t5 t6 t7 t9 t10 t11
    subst t5 t6 t7 t9 t10 t11
    simp only [L9b, K9b, K9, Try.f9]
    have hlt : ¬ (i : Int) < (i : Int) := by omega
    refine EndsF.step rfl (fun _ h₁ => ?_)
    replace hF := FB.rely hF h₁
    clear h₁
    rw [stepG_seq]
    simp only [goes_go]
    refine ⟨de_nil, ?_⟩
    refine EndsF.step rfl (fun _ h₁ => ?_)
    replace hF := FB.rely hF h₁
    clear h₁
    rw [stepG_seq]
    simp only [goes_go]
    refine ⟨de_nil, ?_⟩
    refine EndsF.step rfl (fun _ h₁ => ?_)
    replace hF := FB.rely hF h₁
    clear h₁
    rw [stepG_region]
    simp only [goes_go, List.size_toArray, List.length_cons, List.length_nil, Nat.reduceAdd, Nat.zero_add, List.range, List.range.loop]
    refine ⟨de_nil, ?_⟩
    refine EndsF.step rfl (fun _ h₁ => ?_)
    replace hF := FB.rely hF h₁
    clear h₁
    refine goes_oper_k rfl rfl (by k_ne) (fun K hK => ?_)
    go_simp
    refine hK _ _ ⟨?_, ?_⟩
    · refine de_none ?_
      intro ex hex
      have hm := mem_listed hex
      simp [go_sem, *] at hm
    clear hK K
    try w_num
    refine EndsF.step rfl (fun _ h₁ => ?_)
    replace hF := FB.rely hF h₁
    clear h₁
    refine goes_oper_k rfl rfl (by k_ne) (fun K hK => ?_)
    go_simp
    refine hK _ _ ⟨?_, ?_⟩
    · refine de_none ?_
      intro ex hex
      have hm := mem_listed hex
      simp [go_sem, *] at hm
    clear hK K
    try w_num
    refine EndsF.step rfl (fun _ h₁ => ?_)
    replace hF := FB.rely hF h₁
    clear h₁
    refine goes_oper_k rfl rfl (by k_ne) (fun K hK => ?_)
    go_simp
    refine hK _ _ ⟨?_, ?_⟩
    · refine de_none ?_
      intro ex hex
      have hm := mem_listed hex
      simp [go_sem, *] at hm
    clear hK K
    try w_num
    refine EndsF.step rfl (fun _ h₁ => ?_)
    replace hF := FB.rely hF h₁
    clear h₁
    rw [stepG_region_end]
    simp only [goes_go]
    refine ⟨de_nil, ?_⟩
    refine EndsF.step rfl (fun _ h₁ => ?_)
    replace hF := FB.rely hF h₁
    clear h₁
    rw [stepG_cond (t := false) rfl]
    simp only [goes_go, if_true, if_false, Bool.false_eq_true, ↓reduceIte]
    refine ⟨de_nil, ?_⟩
    refine EndsF.step rfl (fun _ h₁ => ?_)
    replace hF := FB.rely hF h₁
    clear h₁
    refine goes_exit rfl ?_
    refine ⟨de_nil, ?_⟩
    refine EndsF.step rfl (fun _ h₁ => ?_)
    replace hF := FB.rely hF h₁
    clear h₁
    rw [stepG_seq]
    simp only [goes_go]
    refine ⟨de_nil, ?_⟩
    refine EndsF.step rfl (fun _ h₁ => ?_)
    replace hF := FB.rely hF h₁
    clear h₁
    rw [stepG_region]
    simp only [goes_go, List.size_toArray, List.length_cons, List.length_nil, Nat.reduceAdd, Nat.zero_add, List.range, List.range.loop]
    refine ⟨de_nil, ?_⟩
    refine EndsF.step rfl (fun _ h₁ => ?_)
    replace hF := FB.rely hF h₁
    clear h₁
    refine goes_oper_k rfl rfl (by k_ne) (fun K hK => ?_)
    go_simp
    refine hK _ _ ⟨?_, ?_⟩
    · refine de_none ?_
      intro ex hex
      have hm := mem_listed hex
      simp [go_sem, *] at hm
    clear hK K
    refine EndsF.step rfl (fun _ h₁ => ?_)
    replace hF := FB.rely hF h₁
    clear h₁
    refine goes_oper_k rfl rfl (by k_ne) (fun K hK => ?_)
    go_simp
    refine hK _ _ ⟨?_, ?_⟩
    · refine de_none ?_
      intro ex hex
      have hm := mem_listed hex
      simp [go_sem, *] at hm
    clear hK K
    refine EndsF.step rfl (fun _ h₁ => ?_)
    replace hF := FB.rely hF h₁
    clear h₁
    refine goes_oper_k rfl rfl (by k_ne) (fun K hK => ?_)
    go_simp
    refine hK _ _ ⟨?_, ?_⟩
    · refine de_none ?_
      intro ex hex
      have hm := mem_listed hex
      simp [go_sem, *] at hm
    clear hK K
    refine EndsF.step rfl (fun _ h₁ => ?_)
    replace hF := FB.rely hF h₁
    clear h₁
    refine goes_oper_k rfl rfl (by k_ne) (fun K hK => ?_)
    go_simp
    refine hK _ _ ⟨?_, ?_⟩
    · refine de_none ?_
      intro ex hex
      have hm := mem_listed hex
      simp [go_sem, *] at hm
    clear hK K
    refine EndsF.step rfl (fun _ h₁ => ?_)
    replace hF := FB.rely hF h₁
    clear h₁
    refine goes_oper_k rfl rfl (by k_ne) (fun K hK => ?_)
    go_simp
    refine hK _ _ ⟨?_, ?_⟩
    · refine de_none ?_
      intro ex hex
      have hm := mem_listed hex
      simp [go_sem, *] at hm
    clear hK K
    refine EndsF.step rfl (fun _ h₁ => ?_)
    replace hF := FB.rely hF h₁
    clear h₁
    refine goes_call rfl rfl (by k_ne) rfl Try.func31 nm31 rfl ⟨de_nil, ?_⟩
    walk_nrmf Try.f31
    rename_i w5
    refine same_ends (a := some ⟨Ob, 0, none⟩) (a' := some ⟨H, 0, none⟩) (xs := idN) (w := w5) (by omega) (fun _ ad e => by cases e; exact ⟨fun x hx => hSO x hx, hOb⟩) (fun _ ad e => by cases e; exact ⟨fun x hx => hS3 x (by have : x.block = H := hx; omega) (by have : x.block = H := hx; omega), by show H < K; omega⟩) ⟨hF.ro, hF.ri, ?_⟩
    unfold Back
    walk_nrm
    refine EndsF.step rfl (fun _ h₁ => ?_)
    replace hF := FB.rely hF h₁
    clear h₁
    refine goes_oper_k rfl rfl (by k_ne) (fun K hK => ?_)
    go_simp
    refine hK _ _ ⟨?_, ?_⟩
    · refine de_none ?_
      intro ex hex
      have hm := mem_listed hex
      simp [go_sem, *] at hm
    clear hK K
    refine EndsF.step rfl (fun _ h₁ => ?_)
    replace hF := FB.rely hF h₁
    clear h₁
    refine goes_oper_k rfl rfl (by k_ne) (fun K hK => ?_)
    go_simp
    refine hK _ _ ⟨?_, ?_⟩
    · refine de_none ?_
      intro ex hex
      have hm := mem_listed hex
      simp [go_sem, *] at hm
    clear hK K
    refine EndsF.step rfl (fun _ h₁ => ?_)
    replace hF := FB.rely hF h₁
    clear h₁
    refine goes_call rfl rfl (by k_ne) rfl Try.func30 nm30 rfl ⟨de_nil, ?_⟩
    walk_nrmf Try.f30
    rename_i w6
    refine awake_ends (H := K) (w0 := w6) hF.size (Nat.le_refl _) hSc hSo ?_
    intro Shun' w7 hS7 hb7 hs7
    have hF4 : Below W.heap.size W w7 ∧ w7.heap.size = K + 12 := ⟨hF.below.trans (hb7.mono hW), hs7⟩
    clear hF hb7 hs7
    unfold Back
    walk_nrm
    refine EndsF.step rfl (fun _ h₁ => ?_)
    replace hF4 := sz_rely hF4 h₁
    clear h₁
    refine goes_oper_k rfl rfl (by k_ne) (fun K hK => ?_)
    go_simp
    refine hK _ _ ⟨?_, ?_⟩
    · refine de_none ?_
      intro ex hex
      have hm := mem_listed hex
      simp [go_sem, *] at hm
    clear hK K
    refine EndsF.step rfl (fun _ h₁ => ?_)
    replace hF4 := sz_rely hF4 h₁
    clear h₁
    refine goes_oper_k rfl rfl (by k_ne) (fun K hK => ?_)
    go_simp
    refine hK _ _ ⟨?_, ?_⟩
    · refine de_none ?_
      intro ex hex
      have hm := mem_listed hex
      simp [go_sem, *] at hm
    clear hK K
    refine EndsF.step rfl (fun _ h₁ => ?_)
    replace hF4 := sz_rely hF4 h₁
    clear h₁
    rw [stepG_region_end]
    simp only [goes_go]
    refine ⟨de_nil, ?_⟩
    refine EndsF.step rfl (fun _ h₁ => ?_)
    replace hF4 := sz_rely hF4 h₁
    clear h₁
    rw [stepG_ret']
    simp only [goes_go]
    refine ⟨de_nil, ?_⟩
    refine postL_end rfl (fun w => ?_) hF4.1
    simp [Go.Conc.G, stepG, unwind, doReturn, results, Frame.at, base, b9, Try.func9, Try.f9, seen, GStep.after]
  | succ r ih =>
    intro i hi T w ⟨hs, t5, t6, t7, t9, t10, t11⟩ hF
    obtain ⟨v0, v1, v2, v3, v4, v5, v6, v7, v8, v9, v10, v11, v12, v13, v14, v15, v16, v17, v18, v19, v20, v21, v22, v23, v24, v25, v26, v27, v28, v29, v30, v31, v32, v33, v34, v35, v36, v37, v38, v39, v40, v41, v42, v43, v44, v45, v46, v47, v48, v49, v50, v51, v52, v53, v54, v55, v56, v57, v58, v59, v60, v61, rfl⟩ := array62 T hs
    simp only [List.getElem?_toArray, List.getElem?_cons_zero, List.getElem?_cons_succ, Option.some.injEq] at t5 t6 t7 t9 t10 t11
    subst t5 t6 t7 t9 t10 t11
    have ih' := ih (i + 1) (by omega)
    clear ih
    simp only [L9b, K9b, K9, Try.f9] at ih' ⊢
    have hlt : (i : Int) < (n : Int) := by omega
    have hltn : i < n := by omega
    have hw : IntKind.i64.wrap ((i : Int) + 1) = ((i + 1 : Nat) : Int) := by rw [IntKind.wrap_i64]; omega
    refine EndsF.step rfl (fun _ h₁ => ?_)
    replace hF := FB.rely hF h₁
    clear h₁
    rw [stepG_seq]
    simp only [goes_go]
    refine ⟨de_nil, ?_⟩
    refine EndsF.step rfl (fun _ h₁ => ?_)
    replace hF := FB.rely hF h₁
    clear h₁
    rw [stepG_seq]
    simp only [goes_go]
    refine ⟨de_nil, ?_⟩
    refine EndsF.step rfl (fun _ h₁ => ?_)
    replace hF := FB.rely hF h₁
    clear h₁
    rw [stepG_region]
    simp only [goes_go, List.size_toArray, List.length_cons, List.length_nil, Nat.reduceAdd, Nat.zero_add, List.range, List.range.loop]
    refine ⟨de_nil, ?_⟩
    refine EndsF.step rfl (fun _ h₁ => ?_)
    replace hF := FB.rely hF h₁
    clear h₁
    refine goes_oper_k rfl rfl (by k_ne) (fun K hK => ?_)
    go_simp
    refine hK _ _ ⟨?_, ?_⟩
    · refine de_none ?_
      intro ex hex
      have hm := mem_listed hex
      simp [go_sem, *] at hm
    clear hK K
    try w_num
    refine EndsF.step rfl (fun _ h₁ => ?_)
    replace hF := FB.rely hF h₁
    clear h₁
    refine goes_oper_k rfl rfl (by k_ne) (fun K hK => ?_)
    go_simp
    refine hK _ _ ⟨?_, ?_⟩
    · refine de_none ?_
      intro ex hex
      have hm := mem_listed hex
      simp [go_sem, *] at hm
    clear hK K
    try w_num
    refine EndsF.step rfl (fun _ h₁ => ?_)
    replace hF := FB.rely hF h₁
    clear h₁
    refine goes_oper_k rfl rfl (by k_ne) (fun K hK => ?_)
    go_simp
    refine hK _ _ ⟨?_, ?_⟩
    · refine de_none ?_
      intro ex hex
      have hm := mem_listed hex
      simp [go_sem, *] at hm
    clear hK K
    try w_num
    refine EndsF.step rfl (fun _ h₁ => ?_)
    replace hF := FB.rely hF h₁
    clear h₁
    rw [stepG_region_end]
    simp only [goes_go]
    refine ⟨de_nil, ?_⟩
    refine EndsF.step rfl (fun _ h₁ => ?_)
    replace hF := FB.rely hF h₁
    clear h₁
    rw [stepG_cond (t := true) rfl]
    simp only [goes_go, if_true, if_false, Bool.false_eq_true, ↓reduceIte]
    refine ⟨de_nil, ?_⟩
    refine EndsF.step rfl (fun _ h₁ => ?_)
    replace hF := FB.rely hF h₁
    clear h₁
    rw [stepG_skip]
    simp only [goes_go]
    refine ⟨de_nil, ?_⟩
    refine EndsF.step rfl (fun _ h₁ => ?_)
    replace hF := FB.rely hF h₁
    clear h₁
    rw [stepG_seq]
    simp only [goes_go]
    refine ⟨de_nil, ?_⟩
    refine EndsF.step rfl (fun _ h₁ => ?_)
    replace hF := FB.rely hF h₁
    clear h₁
    rw [stepG_block]
    simp only [goes_go]
    refine ⟨de_nil, ?_⟩
    refine EndsF.step rfl (fun _ h₁ => ?_)
    replace hF := FB.rely hF h₁
    clear h₁
    rw [stepG_seq]
    simp only [goes_go]
    refine ⟨de_nil, ?_⟩
    refine EndsF.step rfl (fun _ h₁ => ?_)
    replace hF := FB.rely hF h₁
    clear h₁
    rw [stepG_region]
    simp only [goes_go, List.size_toArray, List.length_cons, List.length_nil, Nat.reduceAdd, Nat.zero_add, List.range, List.range.loop]
    refine ⟨de_nil, ?_⟩
    refine EndsF.step rfl (fun _ h₁ => ?_)
    replace hF := FB.rely hF h₁
    clear h₁
    refine goes_oper_k rfl rfl (by k_ne) (fun K hK => ?_)
    have hcv := hF.cv
    go_simp
    refine hK _ _ ⟨fun ex hex => ?_, ?_⟩
    · have hm := mem_listed hex
      simp [go_sem, *] at hm
      subst hm
      exact evL_cell _ _ (hS3 _ (by show H ≤ H + 2; omega) (by show H + 2 < H + 3; omega)) (by show H + 2 < _; omega)
    clear hK K
    clear hcv
    refine EndsF.step rfl (fun _ h₁ => ?_)
    replace hF := FB.rely hF h₁
    clear h₁
    refine goes_oper_k rfl rfl (by k_ne) (fun K hK => ?_)
    go_simp
    refine hK _ _ ⟨?_, ?_⟩
    · refine de_none ?_
      intro ex hex
      have hm := mem_listed hex
      simp [go_sem, *] at hm
    clear hK K
    try w_num
    refine EndsF.step rfl (fun _ h₁ => ?_)
    replace hF := FB.rely hF h₁
    clear h₁
    refine goes_oper_k rfl rfl (by k_ne) (fun K hK => ?_)
    go_simp
    refine hK _ _ ⟨?_, ?_⟩
    · refine de_none ?_
      intro ex hex
      have hm := mem_listed hex
      simp [go_sem, *] at hm
    clear hK K
    try w_num
    refine EndsF.step rfl (fun _ h₁ => ?_)
    replace hF := FB.rely hF h₁
    clear h₁
    refine goes_oper_k rfl rfl (by k_ne) (fun K hK => ?_)
    have hcc := hF.cc i hltn
    go_simp
    refine hK _ _ ⟨fun ex hex => ?_, ?_⟩
    · have hm := mem_listed hex
      simp [go_sem, *] at hm
      subst hm
      exact evL_cell _ _ (hS3 _ (by show H ≤ H + 1; omega) (by show H + 1 < H + 3; omega)) (by show H + 1 < _; omega)
    clear hK K
    clear hcc
    refine EndsF.step rfl (fun _ h₁ => ?_)
    replace hF := FB.rely hF h₁
    clear h₁
    refine goes_oper_k rfl rfl (by k_ne) (fun K hK => ?_)
    go_simp
    refine hK _ _ ⟨?_, ?_⟩
    · refine de_none ?_
      intro ex hex
      have hm := mem_listed hex
      simp [go_sem, *] at hm
    clear hK K
    try w_num
    refine EndsF.step rfl (fun _ h₁ => ?_)
    replace hF := FB.rely hF h₁
    clear h₁
    rw [stepG_region_end]
    simp only [goes_go]
    refine ⟨de_nil, ?_⟩
    refine EndsF.step rfl (fun _ h₁ => ?_)
    replace hF := FB.rely hF h₁
    clear h₁
    rw [stepG_cond (t := false) rfl]
    simp only [goes_go, if_true, if_false, Bool.false_eq_true, ↓reduceIte]
    refine ⟨de_nil, ?_⟩
    refine EndsF.step rfl (fun _ h₁ => ?_)
    replace hF := FB.rely hF h₁
    clear h₁
    rw [stepG_skip]
    simp only [goes_go]
    refine ⟨de_nil, ?_⟩
    refine EndsF.step rfl (fun _ h₁ => ?_)
    replace hF := FB.rely hF h₁
    clear h₁
    rw [stepG_inBlock]
    simp only [goes_go]
    refine ⟨de_nil, ?_⟩
    refine EndsF.step rfl (fun _ h₁ => ?_)
    replace hF := FB.rely hF h₁
    clear h₁
    rw [stepG_region]
    simp only [goes_go, List.size_toArray, List.length_cons, List.length_nil, Nat.reduceAdd, Nat.zero_add, List.range, List.range.loop]
    refine ⟨de_nil, ?_⟩
    refine EndsF.step rfl (fun _ h₁ => ?_)
    replace hF := FB.rely hF h₁
    clear h₁
    refine goes_oper_k rfl rfl (by k_ne) (fun K hK => ?_)
    go_simp
    refine hK _ _ ⟨?_, ?_⟩
    · refine de_none ?_
      intro ex hex
      have hm := mem_listed hex
      simp [go_sem, *] at hm
    clear hK K
    try w_num
    refine EndsF.step rfl (fun _ h₁ => ?_)
    replace hF := FB.rely hF h₁
    clear h₁
    refine goes_oper_k rfl rfl (by k_ne) (fun K hK => ?_)
    go_simp
    refine hK _ _ ⟨?_, ?_⟩
    · refine de_none ?_
      intro ex hex
      have hm := mem_listed hex
      simp [go_sem, *] at hm
    clear hK K
    try w_num
    refine EndsF.step rfl (fun _ h₁ => ?_)
    replace hF := FB.rely hF h₁
    clear h₁
    refine goes_oper_k rfl rfl (by k_ne) (fun K hK => ?_)
    go_simp
    refine hK _ _ ⟨?_, ?_⟩
    · refine de_none ?_
      intro ex hex
      have hm := mem_listed hex
      simp [go_sem, *] at hm
    clear hK K
    try w_num
    refine EndsF.step rfl (fun _ h₁ => ?_)
    replace hF := FB.rely hF h₁
    clear h₁
    rw [stepG_region_end]
    simp only [goes_go]
    refine ⟨de_nil, ?_⟩
    refine EndsF.step rfl (fun _ h₁ => ?_)
    replace hF := FB.rely hF h₁
    clear h₁
    rw [stepG_inLoop]
    simp only [goes_go]
    refine ⟨de_nil, ?_⟩
    exact ih' _ _ ⟨by simp, by simp, by simp, by simp, by simp, by simp, by simp⟩ hF

/-- From its entry: one block more, two, three. -/
structure P2 (W : World) (H n : Nat) (w : World) : Prop where
  below : Below H W w
  size : w.heap.size = H + 2
  h0 : w.heap[H]? = some (.cells (madeCells #[.int .i64 0] n) 3)
  h1 : w.heap[H + 1]? = some (.cells (madeCells #[.int .i64 0] n) 3)
structure P3 (W : World) (H n : Nat) (w : World) : Prop where
  below : Below H W w
  size : w.heap.size = H + 3
  h0 : w.heap[H]? = some (.cells (madeCells #[.int .i64 0] n) 3)
  h1 : w.heap[H + 1]? = some (.cells (madeCells #[.int .i64 0] n) 3)
  h2 : w.heap[H + 2]? = some (.cells #[.slice none 0 0] 43)
theorem P2.rely {w w₁ : World} (h : P2 W H n w) (r : AtRel w w₁) : P2 W H n w₁ := by
  obtain ⟨d, rfl⟩ := r
  exact ⟨⟨h.below.os, h.below.tape, h.below.output, h.below.size, h.below.block⟩, h.size, h.h0, h.h1⟩
theorem P3.rely {w w₁ : World} (h : P3 W H n w) (r : AtRel w w₁) : P3 W H n w₁ := by
  obtain ⟨d, rfl⟩ := r
  exact ⟨⟨h.below.os, h.below.tape, h.below.output, h.below.size, h.below.block⟩, h.size, h.h0, h.h1, h.h2⟩
theorem p2_of {w : World} (h : Below H W w ∧ w.heap.size = H + 1 ∧ w.heap[H]? = some (.cells (madeCells #[.int .i64 0] n) 3)) : P2 W H n (w.alloc (.cells (madeCells #[.int .i64 0] n) 3)) :=
  ⟨h.1.alloc (by omega) _, by rw [World.size_alloc, h.2.1], (Below.heap_alloc _ _ _ (by omega)).trans h.2.2, by have := heap_alloc_new w (.cells (madeCells #[.int .i64 0] n) 3); rwa [h.2.1] at this⟩
theorem P2.p3 {w : World} (h : P2 W H n w) : P3 W H n (w.alloc (.cells #[.slice none 0 0] 43)) :=
  ⟨h.below.alloc (by have := h.size; omega) _, by rw [World.size_alloc, h.size], (Below.heap_alloc _ _ _ (by have := h.size; omega)).trans h.h0, (Below.heap_alloc _ _ _ (by have := h.size; omega)).trans h.h1, by have := heap_alloc_new w (.cells #[.slice none 0 0] 43); rwa [h.size] at this⟩
theorem P3.o1 {w : World} (h : P3 W H n w) : O1 W H n 0 (w.setCell ⟨H + 2, 0, none⟩ (.slice (some ⟨H + 1, 0, none⟩) n n)) := by
  have A := aside_setCell w ⟨H + 2, 0, none⟩ (.slice (some ⟨H + 1, 0, none⟩) n n)
  refine ⟨h.below.setCell (by show H ≤ H + 2; omega) _, A.size.trans h.size, ⟨_, (A.block _ (by show H ≠ H + 2; omega)).trans h.h0, size_madeCells _ _, fun j hj => absurd hj (by omega)⟩, (A.block _ (by show H + 1 ≠ H + 2; omega)).trans h.h1, ?_⟩
  rw [heap_setCell_at h.h2]
  rfl

set_option maxRecDepth 100000 in
set_option maxHeartbeats 8000000 in
/-- BEHIND THE FIRST LOOP. -/
theorem rest9 (hH : W.heap.size = H) (hn : n ≤ 127) (T : Array Value) (w : World) (hT : TA wv H n n T) (hF : O1 W H n n w) : EndsF Try.prog (PostL W) (fun _ => False) (H + 3) (Go.Conc.G (b9.at ⟨T, []⟩ [.code K9]) []) w := by
  obtain ⟨hs, t1, t5, t6, t7, t8⟩ := hT
  obtain ⟨v0, v1, v2, v3, v4, v5, v6, v7, v8, v9, v10, v11, v12, v13, v14, v15, v16, v17, v18, v19, v20, v21, v22, v23, v24, v25, v26, v27, v28, v29, v30, v31, v32, v33, v34, v35, v36, v37, v38, v39, v40, v41, v42, v43, v44, v45, v46, v47, v48, v49, v50, v51, v52, v53, v54, v55, v56, v57, v58, v59, v60, v61, rfl⟩ := array62 T hs
  simp only [List.getElem?_toArray, List.getElem?_cons_zero, List.getElem?_cons_succ, Option.some.injEq] at t1 t5 t6 t7 t8
  subst t1 t5 t6 t7 t8
  have hHd := fun (Shun : Loc → Prop) (K Ob : Nat) h2 h3 h4 h5 h6 h7 h8 => head9b (W := W) (Shun := Shun) (H := H) (K := K) (Ob := Ob) (n := n) hn h2 h3 h4 h5 h6 h7 h8 n 0 (by omega)
  simp only [L9b, K9b, K9, Try.f9] at hHd
  simp only [K9, Try.f9]
  refine EndsF.step rfl (fun _ h₁ => ?_)
  replace hF := O1.rely hF h₁
  clear h₁
  rw [stepG_seq]
  simp only [goes_go]
  refine ⟨de_nil, ?_⟩
  refine EndsF.step rfl (fun _ h₁ => ?_)
  replace hF := O1.rely hF h₁
  clear h₁
  rw [stepG_region]
  simp only [goes_go, List.size_toArray, List.length_cons, List.length_nil, Nat.reduceAdd, Nat.zero_add, List.range, List.range.loop]
  refine ⟨de_nil, ?_⟩
  refine EndsF.step rfl (fun _ h₁ => ?_)
  replace hF := O1.rely hF h₁
  clear h₁
  refine goes_oper_k rfl rfl (by k_ne) (fun K hK => ?_)
  go_simp
  refine hK _ _ ⟨?_, ?_⟩
  · refine de_none ?_
    intro ex hex
    have hm := mem_listed hex
    simp [go_sem, *] at hm
  clear hK K
  refine EndsF.step rfl (fun _ h₁ => ?_)
  replace hF := O1.rely hF h₁
  clear h₁
  refine goes_oper_k rfl rfl (by k_ne) (fun K hK => ?_)
  go_simp
  refine hK _ _ ⟨?_, ?_⟩
  · refine de_none ?_
    intro ex hex
    have hm := mem_listed hex
    simp [go_sem, *] at hm
  clear hK K
  refine EndsF.step rfl (fun _ h₁ => ?_)
  replace hF := O1.rely hF h₁
  clear h₁
  refine goes_oper_k rfl rfl (by k_ne) (fun K hK => ?_)
  go_simp
  refine hK _ _ ⟨?_, ?_⟩
  · refine de_none ?_
    intro ex hex
    have hm := mem_listed hex
    simp [go_sem, Instr.makeFunc] at hm
  clear hK K
  refine EndsF.step rfl (fun _ h₁ => ?_)
  replace hF := O1.rely hF h₁
  clear h₁
  refine goes_call rfl rfl (by k_ne) rfl Try.func27 nm27 rfl ⟨de_nil, ?_⟩
  walk_nrmf Try.f27
  rename_i w1
  by_cases ha : 1 ≤ wv ∧ wv ≤ 64
  · obtain ⟨ci, hi1, hi2, hi3⟩ := hF.hin
    refine map_ends (H := H + 3) (w0 := w1) (n := n) (pbx := fun b => b = H + 1) (X0 := CallsAt H 0) (X1 := CallsAt H 1) (xs := idN) (ys := idN) hF.size (Nat.le_refl _) (by omega) (fun _ _ => id) (fun _ => id) ha (fun b e => by omega) (fun _ _ => id) ?_ ?_ ?_ ?_ (fun32 (fun _ _ => id) hF.hv ⟨_, hF.hca, size_madeCells _ _⟩) ?_
    · exact fun k hk => ⟨H, 0, rfl, by omega, (fun e => by omega), fun _ _ => id, by simp [World.cell?, hi1, hi3 k hk, idN]⟩
    · exact fun k w w' h hx => (h (H + 1) rfl).trans hx
    · exact fun k w w' h hx => (h (H + 1) rfl).trans hx
    · exact fun k hk => by simp [CallsAt, World.cell?, hF.hca, made_get n k hk]
    intro Shun1 w1' hS1 hK1 hs1 _ hD1
    have hS : ∀ z : Addr, z.block ≠ H + 12 → ¬ Shun1 (.cell z) := fun z hz h => (hS1 _ h).elim id fun ⟨x, e1, e2⟩ => by cases e1; omega
    have hSo1 : ∀ r, ¬ Shun1 (.obj r) := fun r h => (hS1 _ h).elim id fun ⟨x, e1, e2⟩ => by cases e1
    have hF1 : FB W H (H + 5) (H + 13) n w1' := by
      refine ⟨?_, hs1, ?_, fun k hk => (hD1 k hk).2, fun k hk => ⟨H, 0, rfl, ?_⟩, fun k hk => ⟨H + 5, 0, rfl, by rw [Nat.zero_add]; exact (hD1 k hk).1⟩⟩
      · rw [hH]
        exact hF.below.trans ⟨hK1.os, hK1.tape, hK1.output, hK1.size, fun b hb => hK1.block b (by omega) (by omega)⟩
      · rw [cell_block (hK1.block (H + 2) (by omega) (by omega)) 0]
        simp [World.cell?, hF.hv]
      · rw [cell_block (hK1.block H (by omega) (by omega)) _]
        simp [World.cell?, hi1, hi3 k hk, idN]
    clear hF hi1 hi2 hi3 hK1 hD1 hs1
    unfold Back
    walk_nrm
    refine EndsF.step rfl (fun _ h₁ => ?_)
    replace hF1 := FB.rely hF1 h₁
    clear h₁
    refine goes_oper_k rfl rfl (by k_ne) (fun K hK => ?_)
    go_simp
    refine hK _ _ ⟨?_, ?_⟩
    · refine de_none ?_
      intro ex hex
      have hm := mem_listed hex
      simp [go_sem, *] at hm
    clear hK K
    refine EndsF.step rfl (fun _ h₁ => ?_)
    replace hF1 := FB.rely hF1 h₁
    clear h₁
    refine goes_oper_k rfl rfl (by k_ne) (fun K hK => ?_)
    go_simp
    refine hK _ _ ⟨?_, ?_⟩
    · refine de_none ?_
      intro ex hex
      have hm := mem_listed hex
      simp [go_sem, *] at hm
    clear hK K
    refine EndsF.step rfl (fun _ h₁ => ?_)
    replace hF1 := FB.rely hF1 h₁
    clear h₁
    refine goes_oper_k rfl rfl (by k_ne) (fun K hK => ?_)
    go_simp
    refine hK _ _ ⟨?_, ?_⟩
    · refine de_none ?_
      intro ex hex
      have hm := mem_listed hex
      simp [go_sem, *] at hm
    clear hK K
    refine EndsF.step rfl (fun _ h₁ => ?_)
    replace hF1 := FB.rely hF1 h₁
    clear h₁
    refine goes_oper_k rfl rfl (by k_ne) (fun K hK => ?_)
    go_simp
    refine hK _ _ ⟨?_, ?_⟩
    · refine de_none ?_
      intro ex hex
      have hm := mem_listed hex
      simp [go_sem, *] at hm
    clear hK K
    refine EndsF.step rfl (fun _ h₁ => ?_)
    replace hF1 := FB.rely hF1 h₁
    clear h₁
    refine goes_oper_k rfl rfl (by k_ne) (fun K hK => ?_)
    go_simp
    refine hK _ _ ⟨?_, ?_⟩
    · refine de_none ?_
      intro ex hex
      have hm := mem_listed hex
      simp [go_sem, *] at hm
    clear hK K
    refine EndsF.step rfl (fun _ h₁ => ?_)
    replace hF1 := FB.rely hF1 h₁
    clear h₁
    rw [stepG_region_end]
    simp only [goes_go]
    refine ⟨de_nil, ?_⟩
    refine EndsF.step rfl (fun _ h₁ => ?_)
    replace hF1 := FB.rely hF1 h₁
    clear h₁
    rw [stepG_seq]
    simp only [goes_go]
    refine ⟨de_nil, ?_⟩
    refine EndsF.step rfl (fun _ h₁ => ?_)
    replace hF1 := FB.rely hF1 h₁
    clear h₁
    rw [stepG_seq]
    simp only [goes_go]
    refine ⟨de_nil, ?_⟩
    refine EndsF.step rfl (fun _ h₁ => ?_)
    replace hF1 := FB.rely hF1 h₁
    clear h₁
    rw [stepG_region]
    simp only [goes_go, List.size_toArray, List.length_cons, List.length_nil, Nat.reduceAdd, Nat.zero_add, List.range, List.range.loop]
    refine ⟨de_nil, ?_⟩
    refine EndsF.step rfl (fun _ h₁ => ?_)
    replace hF1 := FB.rely hF1 h₁
    clear h₁
    refine goes_oper_k rfl rfl (by k_ne) (fun K hK => ?_)
    go_simp
    refine hK _ _ ⟨?_, ?_⟩
    · refine de_none ?_
      intro ex hex
      have hm := mem_listed hex
      simp [go_sem, *] at hm
    clear hK K
    refine EndsF.step rfl (fun _ h₁ => ?_)
    replace hF1 := FB.rely hF1 h₁
    clear h₁
    refine goes_call rfl rfl (by k_ne) rfl Try.func29 nm29 rfl ⟨de_nil, ?_⟩
    walk_nrmf Try.f29
    rename_i w3
    refine fine29_ends (w := w3) ?_
    unfold Back
    walk_nrm
    have ea : (decide (1 ≤ wv) && decide (wv ≤ 64)) = true := by simpa [Bool.and_eq_true] using ha
    rw [ea]
    clear ea
    refine EndsF.step rfl (fun _ h₁ => ?_)
    replace hF1 := FB.rely hF1 h₁
    clear h₁
    refine goes_oper_k rfl rfl (by k_ne) (fun K hK => ?_)
    go_simp
    refine hK _ _ ⟨?_, ?_⟩
    · refine de_none ?_
      intro ex hex
      have hm := mem_listed hex
      simp [go_sem, *] at hm
    clear hK K
    refine EndsF.step rfl (fun _ h₁ => ?_)
    replace hF1 := FB.rely hF1 h₁
    clear h₁
    rw [stepG_region_end]
    simp only [goes_go]
    refine ⟨de_nil, ?_⟩
    refine EndsF.step rfl (fun _ h₁ => ?_)
    replace hF1 := FB.rely hF1 h₁
    clear h₁
    rw [stepG_cond (t := false) rfl]
    simp only [goes_go, if_true, if_false, Bool.false_eq_true, ↓reduceIte]
    refine ⟨de_nil, ?_⟩
    refine EndsF.step rfl (fun _ h₁ => ?_)
    replace hF1 := FB.rely hF1 h₁
    clear h₁
    rw [stepG_skip]
    simp only [goes_go]
    refine ⟨de_nil, ?_⟩
    refine EndsF.step rfl (fun _ h₁ => ?_)
    replace hF1 := FB.rely hF1 h₁
    clear h₁
    rw [stepG_seq]
    simp only [goes_go]
    refine ⟨de_nil, ?_⟩
    refine EndsF.step rfl (fun _ h₁ => ?_)
    replace hF1 := FB.rely hF1 h₁
    clear h₁
    rw [stepG_seq]
    simp only [goes_go]
    refine ⟨de_nil, ?_⟩
    refine EndsF.step rfl (fun _ h₁ => ?_)
    replace hF1 := FB.rely hF1 h₁
    clear h₁
    rw [stepG_region]
    simp only [goes_go, List.size_toArray, List.length_cons, List.length_nil, Nat.reduceAdd, Nat.zero_add, List.range, List.range.loop]
    refine ⟨de_nil, ?_⟩
    refine EndsF.step rfl (fun _ h₁ => ?_)
    replace hF1 := FB.rely hF1 h₁
    clear h₁
    refine goes_oper_k rfl rfl (by k_ne) (fun K hK => ?_)
    go_simp
    refine hK _ _ ⟨?_, ?_⟩
    · refine de_none ?_
      intro ex hex
      have hm := mem_listed hex
      simp [go_sem, *] at hm
    clear hK K
    refine EndsF.step rfl (fun _ h₁ => ?_)
    replace hF1 := FB.rely hF1 h₁
    clear h₁
    rw [stepG_region_end]
    simp only [goes_go]
    refine ⟨de_nil, ?_⟩
    refine EndsF.step rfl (fun _ h₁ => ?_)
    replace hF1 := FB.rely hF1 h₁
    clear h₁
    rw [stepG_block]
    simp only [goes_go]
    refine ⟨de_nil, ?_⟩
    refine EndsF.step rfl (fun _ h₁ => ?_)
    replace hF1 := FB.rely hF1 h₁
    clear h₁
    rw [stepG_loop]
    simp only [goes_go]
    refine ⟨de_nil, ?_⟩
    exact hHd Shun1 (H + 13) (H + 5) (by omega) (fun z hz => hS z (by omega)) hSo1 (fun z h1 h2 => hS z (by omega)) (fun z h1 => hS z (by omega)) (by omega) (by omega) _ _ ⟨by simp, by simp, by simp, by simp, by simp, by simp, by simp⟩ hF1
  · refine map_fails (H := H + 3) (w0 := w1) (.inr ⟨_, _, rfl⟩) hF.size (Nat.le_refl _) ha ?_
    intro w1' hb1 hs1
    have hF1 : Below W.heap.size W w1' ∧ w1'.heap.size = H + 5 := ⟨by rw [hH]; exact hF.below.trans (hb1.mono (by omega)), hs1⟩
    clear hF hb1 hs1
    unfold Back
    walk_nrm
    refine EndsF.step rfl (fun _ h₁ => ?_)
    replace hF1 := sz_rely hF1 h₁
    clear h₁
    refine goes_oper_k rfl rfl (by k_ne) (fun K hK => ?_)
    go_simp
    refine hK _ _ ⟨?_, ?_⟩
    · refine de_none ?_
      intro ex hex
      have hm := mem_listed hex
      simp [go_sem, *] at hm
    clear hK K
    refine EndsF.step rfl (fun _ h₁ => ?_)
    replace hF1 := sz_rely hF1 h₁
    clear h₁
    refine goes_oper_k rfl rfl (by k_ne) (fun K hK => ?_)
    go_simp
    refine hK _ _ ⟨?_, ?_⟩
    · refine de_none ?_
      intro ex hex
      have hm := mem_listed hex
      simp [go_sem, *] at hm
    clear hK K
    refine EndsF.step rfl (fun _ h₁ => ?_)
    replace hF1 := sz_rely hF1 h₁
    clear h₁
    refine goes_oper_k rfl rfl (by k_ne) (fun K hK => ?_)
    go_simp
    refine hK _ _ ⟨?_, ?_⟩
    · refine de_none ?_
      intro ex hex
      have hm := mem_listed hex
      simp [go_sem, *] at hm
    clear hK K
    refine EndsF.step rfl (fun _ h₁ => ?_)
    replace hF1 := sz_rely hF1 h₁
    clear h₁
    refine goes_oper_k rfl rfl (by k_ne) (fun K hK => ?_)
    go_simp
    refine hK _ _ ⟨?_, ?_⟩
    · refine de_none ?_
      intro ex hex
      have hm := mem_listed hex
      simp [go_sem, *] at hm
    clear hK K
    refine EndsF.step rfl (fun _ h₁ => ?_)
    replace hF1 := sz_rely hF1 h₁
    clear h₁
    refine goes_oper_k rfl rfl (by k_ne) (fun K hK => ?_)
    go_simp
    refine hK _ _ ⟨?_, ?_⟩
    · refine de_none ?_
      intro ex hex
      have hm := mem_listed hex
      simp [go_sem, *] at hm
    clear hK K
    refine EndsF.step rfl (fun _ h₁ => ?_)
    replace hF1 := sz_rely hF1 h₁
    clear h₁
    rw [stepG_region_end]
    simp only [goes_go]
    refine ⟨de_nil, ?_⟩
    refine EndsF.step rfl (fun _ h₁ => ?_)
    replace hF1 := sz_rely hF1 h₁
    clear h₁
    rw [stepG_seq]
    simp only [goes_go]
    refine ⟨de_nil, ?_⟩
    refine EndsF.step rfl (fun _ h₁ => ?_)
    replace hF1 := sz_rely hF1 h₁
    clear h₁
    rw [stepG_seq]
    simp only [goes_go]
    refine ⟨de_nil, ?_⟩
    refine EndsF.step rfl (fun _ h₁ => ?_)
    replace hF1 := sz_rely hF1 h₁
    clear h₁
    rw [stepG_region]
    simp only [goes_go, List.size_toArray, List.length_cons, List.length_nil, Nat.reduceAdd, Nat.zero_add, List.range, List.range.loop]
    refine ⟨de_nil, ?_⟩
    refine EndsF.step rfl (fun _ h₁ => ?_)
    replace hF1 := sz_rely hF1 h₁
    clear h₁
    refine goes_oper_k rfl rfl (by k_ne) (fun K hK => ?_)
    go_simp
    refine hK _ _ ⟨?_, ?_⟩
    · refine de_none ?_
      intro ex hex
      have hm := mem_listed hex
      simp [go_sem, *] at hm
    clear hK K
    refine EndsF.step rfl (fun _ h₁ => ?_)
    replace hF1 := sz_rely hF1 h₁
    clear h₁
    refine goes_call rfl rfl (by k_ne) rfl Try.func29 nm29 rfl ⟨de_nil, ?_⟩
    walk_nrmf Try.f29
    rename_i w3
    refine fine29_ends (w := w3) ?_
    unfold Back
    walk_nrm
    have ea : (decide (1 ≤ wv) && decide (wv ≤ 64)) = false := by simpa [Bool.and_eq_true] using ha
    rw [ea]
    clear ea
    refine EndsF.step rfl (fun _ h₁ => ?_)
    replace hF1 := sz_rely hF1 h₁
    clear h₁
    refine goes_oper_k rfl rfl (by k_ne) (fun K hK => ?_)
    go_simp
    refine hK _ _ ⟨?_, ?_⟩
    · refine de_none ?_
      intro ex hex
      have hm := mem_listed hex
      simp [go_sem, *] at hm
    clear hK K
    refine EndsF.step rfl (fun _ h₁ => ?_)
    replace hF1 := sz_rely hF1 h₁
    clear h₁
    rw [stepG_region_end]
    simp only [goes_go]
    refine ⟨de_nil, ?_⟩
    refine EndsF.step rfl (fun _ h₁ => ?_)
    replace hF1 := sz_rely hF1 h₁
    clear h₁
    rw [stepG_cond (t := true) rfl]
    simp only [goes_go, if_true, if_false, Bool.false_eq_true, ↓reduceIte]
    refine ⟨de_nil, ?_⟩
    refine EndsF.step rfl (fun _ h₁ => ?_)
    replace hF1 := sz_rely hF1 h₁
    clear h₁
    rw [stepG_seq]
    simp only [goes_go]
    refine ⟨de_nil, ?_⟩
    refine EndsF.step rfl (fun _ h₁ => ?_)
    replace hF1 := sz_rely hF1 h₁
    clear h₁
    rw [stepG_region]
    simp only [goes_go, List.size_toArray, List.length_cons, List.length_nil, Nat.reduceAdd, Nat.zero_add, List.range, List.range.loop]
    refine ⟨de_nil, ?_⟩
    refine EndsF.step rfl (fun _ h₁ => ?_)
    replace hF1 := sz_rely hF1 h₁
    clear h₁
    refine goes_oper_k rfl rfl (by k_ne) (fun K hK => ?_)
    go_simp
    refine hK _ _ ⟨?_, ?_⟩
    · refine de_none ?_
      intro ex hex
      have hm := mem_listed hex
      simp [go_sem, *] at hm
    clear hK K
    refine EndsF.step rfl (fun _ h₁ => ?_)
    replace hF1 := sz_rely hF1 h₁
    clear h₁
    refine goes_oper_k rfl rfl (by k_ne) (fun K hK => ?_)
    go_simp
    refine hK _ _ ⟨?_, ?_⟩
    · refine de_none ?_
      intro ex hex
      have hm := mem_listed hex
      simp [go_sem, *] at hm
    clear hK K
    refine EndsF.step rfl (fun _ h₁ => ?_)
    replace hF1 := sz_rely hF1 h₁
    clear h₁
    refine goes_oper_k rfl rfl (by k_ne) (fun K hK => ?_)
    go_simp
    refine hK _ _ ⟨?_, ?_⟩
    · refine de_none ?_
      intro ex hex
      have hm := mem_listed hex
      simp [go_sem, *] at hm
    clear hK K
    refine EndsF.step rfl (fun _ h₁ => ?_)
    replace hF1 := sz_rely hF1 h₁
    clear h₁
    refine goes_call rfl rfl (by k_ne) rfl Try.func30 nm30 rfl ⟨de_nil, ?_⟩
    walk_nrmf Try.f30
    rename_i w5
    refine awake_ends (H := H + 5) (w0 := w5) hF1.2 (Nat.le_refl _) (fun _ _ => id) (fun _ => id) ?_
    intro Shun' w6 hS6 hb6 hs6
    have hF4 : Below W.heap.size W w6 ∧ w6.heap.size = H + 17 := ⟨hF1.1.trans (hb6.mono (by omega)), by omega⟩
    clear hF1 hb6 hs6
    unfold Back
    walk_nrm
    refine EndsF.step rfl (fun _ h₁ => ?_)
    replace hF4 := sz_rely hF4 h₁
    clear h₁
    refine goes_oper_k rfl rfl (by k_ne) (fun K hK => ?_)
    go_simp
    refine hK _ _ ⟨?_, ?_⟩
    · refine de_none ?_
      intro ex hex
      have hm := mem_listed hex
      simp [go_sem, *] at hm
    clear hK K
    refine EndsF.step rfl (fun _ h₁ => ?_)
    replace hF4 := sz_rely hF4 h₁
    clear h₁
    refine goes_oper_k rfl rfl (by k_ne) (fun K hK => ?_)
    go_simp
    refine hK _ _ ⟨?_, ?_⟩
    · refine de_none ?_
      intro ex hex
      have hm := mem_listed hex
      simp [go_sem, *] at hm
    clear hK K
    refine EndsF.step rfl (fun _ h₁ => ?_)
    replace hF4 := sz_rely hF4 h₁
    clear h₁
    rw [stepG_region_end]
    simp only [goes_go]
    refine ⟨de_nil, ?_⟩
    refine EndsF.step rfl (fun _ h₁ => ?_)
    replace hF4 := sz_rely hF4 h₁
    clear h₁
    rw [stepG_ret']
    simp only [goes_go]
    refine ⟨de_nil, ?_⟩
    refine postL_end rfl (fun w => ?_) hF4.1
    simp [Go.Conc.G, stepG, unwind, doReturn, results, Frame.at, base, b9, Try.func9, Try.f9, seen, GStep.after]

set_option maxRecDepth 100000 in
set_option maxHeartbeats 8000000 in
/-- ████ CrewOnce. ████ -/
theorem once_law {many : Int} : EndsF Try.prog (PostL W) (fun _ => False) 0 (Go.Conc.G (b9.at ⟨#[.int .i64 many, .int .i64 wv, undef, undef, undef, undef, undef, undef, undef, undef, undef, undef, undef, undef, undef, undef, undef, undef, undef, undef, undef, undef, undef, undef, undef, undef, undef, undef, undef, undef, undef, undef, undef, undef, undef, undef, undef, undef, undef, undef, undef, undef, undef, undef, undef, undef, undef, undef, undef, undef, undef, undef, undef, undef, undef, undef, undef, undef, undef, undef, undef, undef], []⟩ [.code body9]) []) W := by
  obtain ⟨H, hH⟩ : ∃ H, W.heap.size = H := ⟨_, rfl⟩
  obtain ⟨n, hnb, hn⟩ : ∃ n : Nat, bits .and .i64 many 127 = n ∧ n ≤ 127 := ⟨(many % 128).toNat, by rw [i64_and127]; omega, by omega⟩
  have hHd := head9a (W := W) (Shun := fun _ => False) (B := H + 3) (H := H) (n := n) (wv := wv) (Post := PostL W) hn (fun _ _ => id) (by omega) (fun T w hT hF => rest9 hH hn T w hT hF) n 0 (by omega)
  simp only [L9a, K9, Try.f9] at hHd
  refine EndsF.mono (Nat.zero_le (H + 3)) ?_
  have hmk := mks n (by omega)
  have hme := mkse n (by omega)
  have hss := store_slice_ev
  simp only [body9, Try.f9, Option.getD_some]
  have hF : Below H W W ∧ W.heap.size = H := ⟨Below.refl _ W, hH⟩
  refine EndsF.step rfl (fun _ h₁ => ?_)
  replace hF := below_rely hF h₁
  clear h₁
  rw [stepG_seq]
  simp only [goes_go]
  refine ⟨de_nil, ?_⟩
  refine EndsF.step rfl (fun _ h₁ => ?_)
  replace hF := below_rely hF h₁
  clear h₁
  rw [stepG_region]
  simp only [goes_go, List.size_toArray, List.length_cons, List.length_nil, Nat.reduceAdd, Nat.zero_add, List.range, List.range.loop]
  refine ⟨de_nil, ?_⟩
  refine EndsF.step rfl (fun _ h₁ => ?_)
  replace hF := below_rely hF h₁
  clear h₁
  refine goes_oper_k rfl rfl (by k_ne) (fun K hK => ?_)
  go_simp
  refine hK _ _ ⟨?_, ?_⟩
  · refine de_none ?_
    intro ex hex
    have hm := mem_listed hex
    simp [go_sem, *] at hm
  clear hK K
  refine EndsF.step rfl (fun _ h₁ => ?_)
  replace hF := below_rely hF h₁
  clear h₁
  rw [stepG_region_end]
  simp only [goes_go]
  refine ⟨de_nil, ?_⟩
  refine EndsF.step rfl (fun _ h₁ => ?_)
  replace hF := below_rely hF h₁
  clear h₁
  rw [stepG_seq]
  simp only [goes_go]
  refine ⟨de_nil, ?_⟩
  refine EndsF.step rfl (fun _ h₁ => ?_)
  replace hF := below_rely hF h₁
  clear h₁
  rw [stepG_region]
  simp only [goes_go, List.size_toArray, List.length_cons, List.length_nil, Nat.reduceAdd, Nat.zero_add, List.range, List.range.loop]
  refine ⟨de_nil, ?_⟩
  refine EndsF.step rfl (fun _ h₁ => ?_)
  replace hF := below_rely hF h₁
  clear h₁
  refine goes_oper_k rfl rfl (by k_ne) (fun K hK => ?_)
  go_simp
  refine hK _ _ ⟨?_, ?_⟩
  · refine de_none ?_
    intro ex hex
    have hm := mem_listed hex
    simp [go_sem, *] at hm
  clear hK K
  refine EndsF.step rfl (fun _ h₁ => ?_)
  replace hF := below_rely hF h₁
  clear h₁
  refine goes_oper_k rfl rfl (by k_ne) (fun K hK => ?_)
  go_simp
  refine hK _ _ ⟨?_, ?_⟩
  · refine de_none ?_
    intro ex hex
    have hm := mem_listed hex
    simp [go_sem, *] at hm
  clear hK K
  try w_num
  refine EndsF.step rfl (fun _ h₁ => ?_)
  replace hF := below_rely hF h₁
  clear h₁
  refine goes_oper_k rfl rfl (by k_ne) (fun K hK => ?_)
  go_simp
  refine hK _ _ ⟨?_, ?_⟩
  · refine de_none ?_
    intro ex hex
    have hm := mem_listed hex
    simp [go_sem, *] at hm
  clear hK K
  refine EndsF.step rfl (fun _ h₁ => ?_)
  replace hF := below_rely hF h₁
  clear h₁
  rw [stepG_region_end]
  simp only [goes_go]
  refine ⟨de_nil, ?_⟩
  refine EndsF.step rfl (fun _ h₁ => ?_)
  replace hF := below_rely hF h₁
  clear h₁
  rw [stepG_seq]
  simp only [goes_go]
  refine ⟨de_nil, ?_⟩
  refine EndsF.step rfl (fun _ h₁ => ?_)
  replace hF := below_rely hF h₁
  clear h₁
  rw [stepG_region]
  simp only [goes_go, List.size_toArray, List.length_cons, List.length_nil, Nat.reduceAdd, Nat.zero_add, List.range, List.range.loop]
  refine ⟨de_nil, ?_⟩
  refine EndsF.step rfl (fun _ h₁ => ?_)
  replace hF := below_rely hF h₁
  clear h₁
  refine goes_oper_k rfl rfl (by k_ne) (fun K hK => ?_)
  go_simp
  refine hK _ _ ⟨?_, ?_⟩
  · refine de_none ?_
    intro ex hex
    have hm := mem_listed hex
    simp [go_sem, *] at hm
  clear hK K
  refine EndsF.step rfl (fun w1 h₁ => ?_)
  replace hF := below_rely hF h₁
  clear h₁
  refine goes_oper_k rfl rfl (by k_ne) (fun K hK => ?_)
  go_simp
  refine hK _ _ ⟨?_, ?_⟩
  · intro ex hex
    have hm := mem_listed hex
    simp [go_sem, *] at hm
  clear hK K
  replace hF := alloc_facts hF (.cells (madeCells #[.int .i64 0] n) 3)
  refine EndsF.step rfl (fun _ h₁ => ?_)
  replace hF := one_rely hF h₁
  clear h₁
  refine goes_oper_k rfl rfl (by k_ne) (fun K hK => ?_)
  go_simp
  refine hK _ _ ⟨?_, ?_⟩
  · refine de_none ?_
    intro ex hex
    have hm := mem_listed hex
    simp [go_sem, *] at hm
  clear hK K
  refine EndsF.step rfl (fun _ h₁ => ?_)
  replace hF := one_rely hF h₁
  clear h₁
  rw [stepG_region_end]
  simp only [goes_go]
  refine ⟨de_nil, ?_⟩
  refine EndsF.step rfl (fun _ h₁ => ?_)
  replace hF := one_rely hF h₁
  clear h₁
  rw [stepG_seq]
  simp only [goes_go]
  refine ⟨de_nil, ?_⟩
  refine EndsF.step rfl (fun _ h₁ => ?_)
  replace hF := one_rely hF h₁
  clear h₁
  rw [stepG_region]
  simp only [goes_go, List.size_toArray, List.length_cons, List.length_nil, Nat.reduceAdd, Nat.zero_add, List.range, List.range.loop]
  refine ⟨de_nil, ?_⟩
  refine EndsF.step rfl (fun _ h₁ => ?_)
  replace hF := one_rely hF h₁
  clear h₁
  refine goes_oper_k rfl rfl (by k_ne) (fun K hK => ?_)
  go_simp
  refine hK _ _ ⟨?_, ?_⟩
  · refine de_none ?_
    intro ex hex
    have hm := mem_listed hex
    simp [go_sem, *] at hm
  clear hK K
  refine EndsF.step rfl (fun w2 h₁ => ?_)
  replace hF := one_rely hF h₁
  clear h₁
  have hz := hF.2.1
  refine goes_oper_k rfl rfl (by k_ne) (fun K hK => ?_)
  go_simp
  refine hK _ _ ⟨?_, ?_⟩
  · intro ex hex
    have hm := mem_listed hex
    simp [go_sem, *] at hm
  clear hK K
  clear hz
  replace hF := p2_of hF
  refine EndsF.step rfl (fun w3 h₁ => ?_)
  replace hF := P2.rely hF h₁
  clear h₁
  have hz := hF.size
  refine goes_oper_k rfl rfl (by k_ne) (fun K hK => ?_)
  go_simp
  refine hK _ _ ⟨?_, ?_⟩
  · intro ex hex
    have hm := mem_listed hex
    simp [go_sem, *] at hm
  clear hK K
  clear hz
  replace hF := hF.p3
  refine EndsF.step rfl (fun w5 h₁ => ?_)
  replace hF := P3.rely hF h₁
  clear h₁
  refine goes_oper_k rfl rfl (by k_ne) (fun K hK => ?_)
  have hcell : w5.cell? ⟨H + 2, 0, none⟩ = some (.slice none 0 0) := by simp [World.cell?, hF.h2]
  have hfr : w5.frozen? ⟨H + 2, 0, none⟩ = false := by simp [World.frozen?, hF.h2]
  go_simp
  try (unfold stored; go_simp)
  refine hK _ _ ⟨?_, ?_⟩
  · intro ex hex
    have hm := mem_listed hex
    simp [go_sem, *] at hm
    subst hm
    exact evL_cell _ _ id (by show H + 2 < H + 3; omega)
  clear hK K hcell hfr
  replace hF := hF.o1
  refine EndsF.step rfl (fun _ h₁ => ?_)
  replace hF := O1.rely hF h₁
  clear h₁
  rw [stepG_region_end]
  simp only [goes_go]
  refine ⟨de_nil, ?_⟩
  refine EndsF.step rfl (fun _ h₁ => ?_)
  replace hF := O1.rely hF h₁
  clear h₁
  rw [stepG_seq]
  simp only [goes_go]
  refine ⟨de_nil, ?_⟩
  refine EndsF.step rfl (fun _ h₁ => ?_)
  replace hF := O1.rely hF h₁
  clear h₁
  rw [stepG_seq]
  simp only [goes_go]
  refine ⟨de_nil, ?_⟩
  refine EndsF.step rfl (fun _ h₁ => ?_)
  replace hF := O1.rely hF h₁
  clear h₁
  rw [stepG_region]
  simp only [goes_go, List.size_toArray, List.length_cons, List.length_nil, Nat.reduceAdd, Nat.zero_add, List.range, List.range.loop]
  refine ⟨de_nil, ?_⟩
  refine EndsF.step rfl (fun _ h₁ => ?_)
  replace hF := O1.rely hF h₁
  clear h₁
  refine goes_oper_k rfl rfl (by k_ne) (fun K hK => ?_)
  go_simp
  refine hK _ _ ⟨?_, ?_⟩
  · refine de_none ?_
    intro ex hex
    have hm := mem_listed hex
    simp [go_sem, *] at hm
  clear hK K
  refine EndsF.step rfl (fun _ h₁ => ?_)
  replace hF := O1.rely hF h₁
  clear h₁
  rw [stepG_region_end]
  simp only [goes_go]
  refine ⟨de_nil, ?_⟩
  refine EndsF.step rfl (fun _ h₁ => ?_)
  replace hF := O1.rely hF h₁
  clear h₁
  rw [stepG_block]
  simp only [goes_go]
  refine ⟨de_nil, ?_⟩
  refine EndsF.step rfl (fun _ h₁ => ?_)
  replace hF := O1.rely hF h₁
  clear h₁
  rw [stepG_loop]
  simp only [goes_go]
  refine ⟨de_nil, ?_⟩
  exact hHd _ _ ⟨by simp, by simp, by simp, by simp, by simp, by simp⟩ hF
end
end Go.Pool
