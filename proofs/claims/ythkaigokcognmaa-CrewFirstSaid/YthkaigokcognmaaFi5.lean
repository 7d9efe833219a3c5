/-
  FIRST 5: CrewFirst, walked.
-/
import Derived.Test.YthkaigokcognmaaFi4
import Derived.Test.YthkaigokcognmaaCr15
set_option linter.unusedSimpArgs false
namespace Go.Pool
open Go.Conc Go.RowKit Go.Proofs Go.ConcN Go.Conc.Lib Go.ConcR.Gen Go.ConcN.Gen
open Go.ConcR (KK wgBlock WgAt stA smA rd wr mk DC0)

theorem isFirst_unique {n r r' : Nat} {bs : Nat → Bool} (h : IsFirst n bs r) (h' : IsFirst n bs r') : r' = r := by
  rcases Nat.lt_trichotomy r r' with hlt | he | hlt
  · have h1 := h'.before r hlt
    have := h.at_ (by have := h'.le; omega)
    rw [h1] at this; cases this
  · exact he.symm
  · have h1 := h.before r' hlt
    have := h'.at_ (by have := h.le; omega)
    rw [h1] at this; cases this
theorem isFirst_exists (bs : Nat → Bool) : ∀ n, ∃ r, IsFirst n bs r
  | 0 => ⟨0, Nat.le_refl _, fun k hk => by omega, fun h => by omega⟩
  | n + 1 => by
    obtain ⟨r, h⟩ := isFirst_exists bs n
    by_cases hr : r = n
    · subst hr
      cases hb : bs r with
      | true => exact ⟨r, by omega, h.before, fun _ => hb⟩
      | false => exact ⟨r + 1, Nat.le_refl _, fun k hk => by
          by_cases e : k = r
          · rw [e]; exact hb
          · exact h.before k (by omega), fun h => by omega⟩
    · have := h.le
      exact ⟨r, by omega, h.before, fun _ => h.at_ (by omega)⟩

noncomputable def body10 : Code := Try.f10.body.getD .skip
noncomputable def L10 : Code := match Try.f10.body with
  | some (.seq _ (.seq _ (.seq _ (.seq (.seq _ (.block _ (.loop c))) _)))) => c
  | _ => .skip
noncomputable def K10 : Code := match Try.f10.body with
  | some (.seq _ (.seq _ (.seq _ (.seq _ c)))) => c
  | _ => .skip
noncomputable def ops10 : Array Oper := match L10 with
  | .seq _ (.seq (.block _ (.seq (.region _ ops _) _)) _) => ops
  | _ => #[]
def b10 : Frame := base 10

theorem array60 (T : Array Value) (h : T.size = 60) : ∃ v0 v1 v2 v3 v4 v5 v6 v7 v8 v9 v10 v11 v12 v13 v14 v15 v16 v17 v18 v19 v20 v21 v22 v23 v24 v25 v26 v27 v28 v29 v30 v31 v32 v33 v34 v35 v36 v37 v38 v39 v40 v41 v42 v43 v44 v45 v46 v47 v48 v49 v50 v51 v52 v53 v54 v55 v56 v57 v58 v59, T = #[v0, v1, v2, v3, v4, v5, v6, v7, v8, v9, v10, v11, v12, v13, v14, v15, v16, v17, v18, v19, v20, v21, v22, v23, v24, v25, v26, v27, v28, v29, v30, v31, v32, v33, v34, v35, v36, v37, v38, v39, v40, v41, v42, v43, v44, v45, v46, v47, v48, v49, v50, v51, v52, v53, v54, v55, v56, v57, v58, v59] :=
  ⟨T[0], T[1], T[2], T[3], T[4], T[5], T[6], T[7], T[8], T[9], T[10], T[11], T[12], T[13], T[14], T[15], T[16], T[17], T[18], T[19], T[20], T[21], T[22], T[23], T[24], T[25], T[26], T[27], T[28], T[29], T[30], T[31], T[32], T[33], T[34], T[35], T[36], T[37], T[38], T[39], T[40], T[41], T[42], T[43], T[44], T[45], T[46], T[47], T[48], T[49], T[50], T[51], T[52], T[53], T[54], T[55], T[56], T[57], T[58], T[59], by
    apply Array.ext (by simp [h])
    intro i h1 h2
    have hi : i < 60 := by omega
    iterate 60 (rcases i with _ | i; · rfl)
    omega⟩

structure S10 (b o Hb i n : Nat) (x y : Int) (a : Option Addr) (xs : Nat → Int) (E : World → Prop) (w : World) : Prop where
  r : RowIn a n xs w
  c : w.cell? ⟨b, o + i, none⟩ = some (.int .i64 x)
  cy : w.cell? ⟨Hb, 0, none⟩ = some (.int .i64 y)
  e : E w
theorem S10.rely {b o Hb i n : Nat} {x y : Int} {a : Option Addr} {xs : Nat → Int} {E : World → Prop} (hE : ∀ w w₁, E w → AtRel w w₁ → E w₁) {w w₁ : World} (h : S10 b o Hb i n x y a xs E w) (r : AtRel w w₁) : S10 b o Hb i n x y a xs E w₁ := by
  have he := hE _ _ h.e r
  obtain ⟨d, rfl⟩ := r
  exact ⟨h.r, h.c, h.cy, he⟩

section
variable {W w : World} {Shun : Loc → Prop} {B H n : Nat} {a : Option Addr} {xs : Nat → Int}

set_option maxRecDepth 100000 in
set_option maxHeartbeats 4000000 in
theorem first_region {E : World → Prop} (hE : ∀ w w₁, E w → AtRel w w₁ → E w₁) {b o Hb i cap : Nat} {x y : Int} (hi : i < n) (h1 : ∀ z : Addr, z.block = b → ¬ Shun (.cell z)) (h2 : b < B) (h5 : ∀ z : Addr, z.block = Hb → ¬ Shun (.cell z)) (h6 : Hb < B)
    {v1 v2 v3 v4 v6 v7 v8 v10 v11 v12 v13 v14 v15 v16 v17 v18 v19 v20 v21 v22 v23 v24 v25 v26 v27 v28 v29 v30 v31 v32 v33 v34 v35 v36 v37 v38 v39 v40 v41 v42 v43 v44 v45 v46 v47 v48 v49 v50 v51 v52 v53 v54 v55 v56 v57 v58 v59 : Value} {id : Nat} :
    ∃ m, ∀ w, S10 b o Hb i n x y a xs E w → (Code.region id ops10 true).wpC Try.prog true AtRel (DE (EvL Shun B)) 10 m
      (fun ex ac w' => ex = .normal ∧ ac = ⟨#[.slice (some ⟨b, o, none⟩) n cap, v1, v2, v3, v4, .pointer (some ⟨Hb, 0, none⟩), v6, v7, v8, .int .i64 i, v10, v11, v12, v13, v14, v15, v16, v17, v18, v19, v20, v21, v22, v23, v24, v25, v26, v27, v28, v29, v30, v31, v32, v33, v34, .slice (some ⟨b, o, none⟩) n cap, .int .i64 i, .pointer (some ⟨b, o + i, none⟩), .int .i64 x, .int .i64 y, .bool (decide (y < x)), v41, v42, v43, v44, v45, v46, v47, v48, v49, v50, v51, v52, v53, v54, v55, v56, v57, v58, v59], []⟩ ∧ S10 b o Hb i n x y a xs E w')
      ⟨#[.slice (some ⟨b, o, none⟩) n cap, v1, v2, v3, v4, .pointer (some ⟨Hb, 0, none⟩), v6, v7, v8, .int .i64 i, v10, v11, v12, v13, v14, v15, v16, v17, v18, v19, v20, v21, v22, v23, v24, v25, v26, v27, v28, v29, v30, v31, v32, v33, v34, v35, v36, v37, v38, v39, v40, v41, v42, v43, v44, v45, v46, v47, v48, v49, v50, v51, v52, v53, v54, v55, v56, v57, v58, v59], []⟩ w := by
  co_apply Exists.intro
  intro w hF
  simp only [ops10, L10, Try.f10]
  have hlt : (i : Int) < (n : Int) := by omega
  co_held (termsL Shun B) (drawL Shun B) ownDrawL (S10 b o Hb i n x y a xs E) (S10.rely hE) hF
  co_applyP anyCH_take (termsL Shun B) (fun _ _ h r => (S10.rely hE) h r) (fun _ _ _ h r => ⟨h.1, h.2.1, h.2.2.rely hE r⟩) (i := 0) rfl (by first | kernel_rfl | decide +kernel) (by first | kernel_rfl | decide +kernel) (by first | kernel_rfl | decide +kernel) (.inl ⟨by rfl, fun _ hw => ⟨run_eq_of ?run1, ?guar1⟩⟩) hF ?rest1
  case run1 =>
    intro K hK
    go_simp
    exact hK
  case guar1 =>
    co_quiet (termsL Shun B)
  try walk_nrm
  co_applyP anyCH_take (termsL Shun B) (fun _ _ h r => (S10.rely hE) h r) (fun _ _ _ h r => ⟨h.1, h.2.1, h.2.2.rely hE r⟩) (i := 1) rfl (by first | kernel_rfl | decide +kernel) (by first | kernel_rfl | decide +kernel) (by first | kernel_rfl | decide +kernel) (.inl ⟨by rfl, fun _ hw => ⟨run_eq_of ?run2, ?guar2⟩⟩) hF ?rest2
  case run2 =>
    intro K hK
    go_simp
    exact hK
  case guar2 =>
    co_quiet (termsL Shun B)
  try walk_nrm
  co_applyP anyCH_take (termsL Shun B) (fun _ _ h r => (S10.rely hE) h r) (fun _ _ _ h r => ⟨h.1, h.2.1, h.2.2.rely hE r⟩) (i := 2) rfl (by first | kernel_rfl | decide +kernel) (by first | kernel_rfl | decide +kernel) (by first | kernel_rfl | decide +kernel) (.inl ⟨by rfl, fun _ hw => ⟨run_eq_of ?run3, ?guar3⟩⟩) hF ?rest3
  case run3 =>
    intro K hK
    go_simp
    exact hK
  case guar3 =>
    co_still (termsL Shun B)
  try walk_nrm
  co_applyP anyCH_take (termsL Shun B) (fun _ _ h r => (S10.rely hE) h r) (fun _ _ _ h r => ⟨h.1, h.2.1, h.2.2.rely hE r⟩) (i := 3) rfl (by first | kernel_rfl | decide +kernel) (by first | kernel_rfl | decide +kernel) (by first | kernel_rfl | decide +kernel) (.inl ⟨by rfl, fun _ hw => ⟨run_eq_of ?run4, ?guar4⟩⟩) hF ?rest4
  case run4 =>
    intro K hK
    have hc := hw.c
    go_simp
    exact hK
  case guar4 =>
    have hc := hw.c
    co_evs (exact evL_cell _ _ (h1 _ rfl) h2)
  try walk_nrm
  co_applyP anyCH_take (termsL Shun B) (fun _ _ h r => (S10.rely hE) h r) (fun _ _ _ h r => ⟨h.1, h.2.1, h.2.2.rely hE r⟩) (i := 4) rfl (by first | kernel_rfl | decide +kernel) (by first | kernel_rfl | decide +kernel) (by first | kernel_rfl | decide +kernel) (.inl ⟨by rfl, fun _ hw => ⟨run_eq_of ?run5, ?guar5⟩⟩) hF ?rest5
  case run5 =>
    intro K hK
    have hc := hw.cy
    go_simp
    exact hK
  case guar5 =>
    have hc := hw.cy
    co_evs (exact evL_cell _ _ (h5 _ rfl) h6)
  try walk_nrm
  co_applyP anyCH_take (termsL Shun B) (fun _ _ h r => (S10.rely hE) h r) (fun _ _ _ h r => ⟨h.1, h.2.1, h.2.2.rely hE r⟩) (i := 5) rfl (by first | kernel_rfl | decide +kernel) (by first | kernel_rfl | decide +kernel) (by first | kernel_rfl | decide +kernel) (.inl ⟨by rfl, fun _ hw => ⟨run_eq_of ?run6, ?guar6⟩⟩) hF ?rest6
  case run6 =>
    intro K hK
    go_simp
    exact hK
  case guar6 =>
    co_quiet (termsL Shun B)
  try walk_nrm
  co_done
  exact ⟨trivial, by simp, hF⟩

theorem l10_rely {W : World} {K Hb n : Nat} {y : Int} {a : Option Addr} {xs : Nat → Int} {w w₁ : World} (h : (Below W.heap.size W w ∧ w.heap.size = K) ∧ RowIn a n xs w ∧ w.cell? ⟨Hb, 0, none⟩ = some (.int .i64 y)) (r : AtRel w w₁) :
    (Below W.heap.size W w₁ ∧ w₁.heap.size = K) ∧ RowIn a n xs w₁ ∧ w₁.cell? ⟨Hb, 0, none⟩ = some (.int .i64 y) := by
  have h1 := sz_rely h.1 r
  obtain ⟨d, rfl⟩ := r
  exact ⟨h1, h.2⟩

/-- Whether it is more. -/
abbrev bsF (xs : Nat → Int) (y : Int) (k : Nat) : Bool := decide (y < xs k)

set_option maxRecDepth 100000 in
set_option maxHeartbeats 4000000 in
theorem head10 {K Hb cap rr : Nat} {y pp ee : Int} (hn : n < 9223372036854775808) (hW : W.heap.size ≤ K) (hSc : ∀ z : Addr, K ≤ z.block → ¬ Shun (.cell z)) (hSo : ∀ r, ¬ Shun (.obj r)) (ho : OkRow Shun K a n) (h5 : ∀ z : Addr, z.block = Hb → ¬ Shun (.cell z)) (h6 : Hb < K)
    (hR : IsFirst n (bsF xs y) rr) (hpe : (rr < n ∧ pp = rr ∧ ee = 0) ∨ (rr = n ∧ pp = 0 ∧ ee = 3)) :
    ∀ r i, i + r = n → (∀ k, k < i → bsF xs y k = false) → ∀ (T : Array Value) (w : World), T.size = 60 → T[0]? = some (.slice a n cap) → T[5]? = some (.pointer (some ⟨Hb, 0, none⟩)) → T[7]? = some (.int .i64 pp) → T[8]? = some (.int .i64 ee) → T[9]? = some (.int .i64 i) →
      ((Below W.heap.size W w ∧ w.heap.size = K) ∧ RowIn a n xs w ∧ w.cell? ⟨Hb, 0, none⟩ = some (.int .i64 y)) →
      EndsF Try.prog (PostL W) Shun K (Go.Conc.G (b10.at ⟨T, []⟩ [.code L10, .inLoop L10, .inBlock 0, .code K10]) []) w := by
  intro r
  induction r with
  | zero =>
    intro i hi hno T w hs t0 t5 t7 t8 t9 hF
    obtain rfl : i = n := by omega
    obtain ⟨rfl, rfl, rfl⟩ : rr = i ∧ pp = 0 ∧ ee = 3 := by
      rcases hpe with ⟨h, _, _⟩ | h
      · have := hR.at_ h
        rw [hno _ h] at this; cases this
      · exact h
    obtain ⟨v0, v1, v2, v3, v4, v5, v6, v7, v8, v9, v10, v11, v12, v13, v14, v15, v16, v17, v18, v19, v20, v21, v22, v23, v24, v25, v26, v27, v28, v29, v30, v31, v32, v33, v34, v35, v36, v37, v38, v39, v40, v41, v42, v43, v44, v45, v46, v47, v48, v49, v50, v51, v52, v53, v54, v55, v56, v57, v58, v59, rfl⟩ := array60 T hs
    simp only [List.getElem?_toArray, List.getElem?_cons_zero, List.getElem?_cons_succ, Option.some.injEq] at t0 t5 t7 t8 t9
    subst t0 t5 t7 t8 t9
    simp only [L10, K10, Try.f10]
    have hlt : ¬ (rr : Int) < (rr : Int) := by omega
    refine EndsF.step rfl (fun _ h₁ => ?_)
    replace hF := l10_rely hF h₁
    clear h₁
    rw [stepG_seq]
    simp only [goes_go]
    refine ⟨de_nil, ?_⟩
    refine EndsF.step rfl (fun _ h₁ => ?_)
    replace hF := l10_rely hF h₁
    clear h₁
    rw [stepG_seq]
    simp only [goes_go]
    refine ⟨de_nil, ?_⟩
    refine EndsF.step rfl (fun _ h₁ => ?_)
    replace hF := l10_rely hF h₁
    clear h₁
    rw [stepG_region]
    simp only [goes_go, List.size_toArray, List.length_cons, List.length_nil, Nat.reduceAdd, Nat.zero_add, List.range, List.range.loop]
    refine ⟨de_nil, ?_⟩
    refine EndsF.step rfl (fun _ h₁ => ?_)
    replace hF := l10_rely hF h₁
    clear h₁
    refine goes_oper_k rfl rfl (by k_ne) (fun K hK => ?_)
    go_simp
    refine hK _ _ ⟨?_, ?_⟩
    · refine de_none ?_
      intro ex hex
      have hm := mem_listed hex
      simp [go_sem, *] at hm
    clear hK K
    try w_num
    refine EndsF.step rfl (fun _ h₁ => ?_)
    replace hF := l10_rely hF h₁
    clear h₁
    refine goes_oper_k rfl rfl (by k_ne) (fun K hK => ?_)
    go_simp
    refine hK _ _ ⟨?_, ?_⟩
    · refine de_none ?_
      intro ex hex
      have hm := mem_listed hex
      simp [go_sem, *] at hm
    clear hK K
    try w_num
    refine EndsF.step rfl (fun _ h₁ => ?_)
    replace hF := l10_rely hF h₁
    clear h₁
    refine goes_oper_k rfl rfl (by k_ne) (fun K hK => ?_)
    go_simp
    refine hK _ _ ⟨?_, ?_⟩
    · refine de_none ?_
      intro ex hex
      have hm := mem_listed hex
      simp [go_sem, *] at hm
    clear hK K
    try w_num
    refine EndsF.step rfl (fun _ h₁ => ?_)
    replace hF := l10_rely hF h₁
    clear h₁
    refine goes_oper_k rfl rfl (by k_ne) (fun K hK => ?_)
    go_simp
    refine hK _ _ ⟨?_, ?_⟩
    · refine de_none ?_
      intro ex hex
      have hm := mem_listed hex
      simp [go_sem, *] at hm
    clear hK K
    try w_num
    refine EndsF.step rfl (fun _ h₁ => ?_)
    replace hF := l10_rely hF h₁
    clear h₁
    rw [stepG_region_end]
    simp only [goes_go]
    refine ⟨de_nil, ?_⟩
    refine EndsF.step rfl (fun _ h₁ => ?_)
    replace hF := l10_rely hF h₁
    clear h₁
    rw [stepG_cond (t := false) rfl]
    simp only [goes_go, if_true, if_false, Bool.false_eq_true, ↓reduceIte]
    refine ⟨de_nil, ?_⟩
    refine EndsF.step rfl (fun _ h₁ => ?_)
    replace hF := l10_rely hF h₁
    clear h₁
    refine goes_exit rfl ?_
    refine ⟨de_nil, ?_⟩
    refine EndsF.step rfl (fun _ h₁ => ?_)
    replace hF := l10_rely hF h₁
    clear h₁
    rw [stepG_seq]
    simp only [goes_go]
    refine ⟨de_nil, ?_⟩
    refine EndsF.step rfl (fun _ h₁ => ?_)
    replace hF := l10_rely hF h₁
    clear h₁
    rw [stepG_region]
    simp only [goes_go, List.size_toArray, List.length_cons, List.length_nil, Nat.reduceAdd, Nat.zero_add, List.range, List.range.loop]
    refine ⟨de_nil, ?_⟩
    refine EndsF.step rfl (fun _ h₁ => ?_)
    replace hF := l10_rely hF h₁
    clear h₁
    refine goes_oper_k rfl rfl (by k_ne) (fun K hK => ?_)
    go_simp
    refine hK _ _ ⟨?_, ?_⟩
    · refine de_none ?_
      intro ex hex
      have hm := mem_listed hex
      simp [go_sem, *] at hm
    clear hK K
    refine EndsF.step rfl (fun _ h₁ => ?_)
    replace hF := l10_rely hF h₁
    clear h₁
    refine goes_oper_k rfl rfl (by k_ne) (fun K hK => ?_)
    go_simp
    refine hK _ _ ⟨?_, ?_⟩
    · refine de_none ?_
      intro ex hex
      have hm := mem_listed hex
      simp [go_sem, *] at hm
    clear hK K
    refine EndsF.step rfl (fun _ h₁ => ?_)
    replace hF := l10_rely hF h₁
    clear h₁
    refine goes_oper_k rfl rfl (by k_ne) (fun K hK => ?_)
    go_simp
    refine hK _ _ ⟨?_, ?_⟩
    · refine de_none ?_
      intro ex hex
      have hm := mem_listed hex
      simp [go_sem, *] at hm
    clear hK K
    refine EndsF.step rfl (fun _ h₁ => ?_)
    replace hF := l10_rely hF h₁
    clear h₁
    refine goes_oper_k rfl rfl (by k_ne) (fun K hK => ?_)
    go_simp
    refine hK _ _ ⟨?_, ?_⟩
    · refine de_none ?_
      intro ex hex
      have hm := mem_listed hex
      simp [go_sem, *] at hm
    clear hK K
    refine EndsF.step rfl (fun _ h₁ => ?_)
    replace hF := l10_rely hF h₁
    clear h₁
    refine goes_oper_k rfl rfl (by k_ne) (fun K hK => ?_)
    go_simp
    refine hK _ _ ⟨?_, ?_⟩
    · refine de_none ?_
      intro ex hex
      have hm := mem_listed hex
      simp [go_sem, *] at hm
    clear hK K
    refine EndsF.step rfl (fun _ h₁ => ?_)
    replace hF := l10_rely hF h₁
    clear h₁
    refine goes_oper_k rfl rfl (by k_ne) (fun K hK => ?_)
    go_simp
    refine hK _ _ ⟨?_, ?_⟩
    · refine de_none ?_
      intro ex hex
      have hm := mem_listed hex
      simp [go_sem, *] at hm
    clear hK K
    refine EndsF.step rfl (fun _ h₁ => ?_)
    replace hF := l10_rely hF h₁
    clear h₁
    refine goes_oper_k rfl rfl (by k_ne) (fun K hK => ?_)
    go_simp
    refine hK _ _ ⟨?_, ?_⟩
    · refine de_none ?_
      intro ex hex
      have hm := mem_listed hex
      simp [go_sem, *] at hm
    clear hK K
    refine EndsF.step rfl (fun _ h₁ => ?_)
    replace hF := l10_rely hF h₁
    clear h₁
    refine goes_call rfl rfl (by k_ne) rfl Try.func30 nm30 rfl ⟨de_nil, ?_⟩
    walk_nrmf Try.f30
    rename_i w1
    refine awake_ends (H := K) (w0 := w1) hF.1.2 (Nat.le_refl _) hSc hSo ?_
    intro Shun' w2 hS2 hb2 hs2
    have hF2 : Below W.heap.size W w2 ∧ w2.heap.size = K + 12 := ⟨hF.1.1.trans (hb2.mono hW), hs2⟩
    clear hF hb2 hs2
    unfold Back
    walk_nrm
    refine EndsF.step rfl (fun _ h₁ => ?_)
    replace hF2 := sz_rely hF2 h₁
    clear h₁
    refine goes_oper_k rfl rfl (by k_ne) (fun K hK => ?_)
    go_simp
    refine hK _ _ ⟨?_, ?_⟩
    · refine de_none ?_
      intro ex hex
      have hm := mem_listed hex
      simp [go_sem, *] at hm
    clear hK K
    refine EndsF.step rfl (fun _ h₁ => ?_)
    replace hF2 := sz_rely hF2 h₁
    clear h₁
    refine goes_oper_k rfl rfl (by k_ne) (fun K hK => ?_)
    go_simp
    refine hK _ _ ⟨?_, ?_⟩
    · refine de_none ?_
      intro ex hex
      have hm := mem_listed hex
      simp [go_sem, *] at hm
    clear hK K
    refine EndsF.step rfl (fun _ h₁ => ?_)
    replace hF2 := sz_rely hF2 h₁
    clear h₁
    rw [stepG_region_end]
    simp only [goes_go]
    refine ⟨de_nil, ?_⟩
    refine EndsF.step rfl (fun _ h₁ => ?_)
    replace hF2 := sz_rely hF2 h₁
    clear h₁
    rw [stepG_ret']
    simp only [goes_go]
    refine ⟨de_nil, ?_⟩
    refine postL_end rfl (fun w => ?_) hF2.1
    simp [Go.Conc.G, stepG, unwind, doReturn, results, Frame.at, base, b10, Try.func10, Try.f10, seen, GStep.after]
  | succ r ih =>
    intro i hi hno T w hs t0 t5 t7 t8 t9 hF
    obtain ⟨v0, v1, v2, v3, v4, v5, v6, v7, v8, v9, v10, v11, v12, v13, v14, v15, v16, v17, v18, v19, v20, v21, v22, v23, v24, v25, v26, v27, v28, v29, v30, v31, v32, v33, v34, v35, v36, v37, v38, v39, v40, v41, v42, v43, v44, v45, v46, v47, v48, v49, v50, v51, v52, v53, v54, v55, v56, v57, v58, v59, rfl⟩ := array60 T hs
    simp only [List.getElem?_toArray, List.getElem?_cons_zero, List.getElem?_cons_succ, Option.some.injEq] at t0 t5 t7 t8 t9
    subst t0 t5 t7 t8 t9
    have ih' := ih (i + 1) (by omega)
    clear ih
    obtain ⟨b, o, rfl, hc⟩ := hF.2.1 i (by omega)
    clear hc
    simp only [L10, K10, Try.f10] at ih' ⊢
    have hlt : (i : Int) < (n : Int) := by omega
    have hw : IntKind.i64.wrap ((i : Int) + 1) = ((i + 1 : Nat) : Int) := by rw [IntKind.wrap_i64]; omega
    refine EndsF.step rfl (fun _ h₁ => ?_)
    replace hF := l10_rely hF h₁
    clear h₁
    rw [stepG_seq]
    simp only [goes_go]
    refine ⟨de_nil, ?_⟩
    refine EndsF.step rfl (fun _ h₁ => ?_)
    replace hF := l10_rely hF h₁
    clear h₁
    rw [stepG_seq]
    simp only [goes_go]
    refine ⟨de_nil, ?_⟩
    refine EndsF.step rfl (fun _ h₁ => ?_)
    replace hF := l10_rely hF h₁
    clear h₁
    rw [stepG_region]
    simp only [goes_go, List.size_toArray, List.length_cons, List.length_nil, Nat.reduceAdd, Nat.zero_add, List.range, List.range.loop]
    refine ⟨de_nil, ?_⟩
    refine EndsF.step rfl (fun _ h₁ => ?_)
    replace hF := l10_rely hF h₁
    clear h₁
    refine goes_oper_k rfl rfl (by k_ne) (fun K hK => ?_)
    go_simp
    refine hK _ _ ⟨?_, ?_⟩
    · refine de_none ?_
      intro ex hex
      have hm := mem_listed hex
      simp [go_sem, *] at hm
    clear hK K
    try w_num
    refine EndsF.step rfl (fun _ h₁ => ?_)
    replace hF := l10_rely hF h₁
    clear h₁
    refine goes_oper_k rfl rfl (by k_ne) (fun K hK => ?_)
    go_simp
    refine hK _ _ ⟨?_, ?_⟩
    · refine de_none ?_
      intro ex hex
      have hm := mem_listed hex
      simp [go_sem, *] at hm
    clear hK K
    try w_num
    refine EndsF.step rfl (fun _ h₁ => ?_)
    replace hF := l10_rely hF h₁
    clear h₁
    refine goes_oper_k rfl rfl (by k_ne) (fun K hK => ?_)
    go_simp
    refine hK _ _ ⟨?_, ?_⟩
    · refine de_none ?_
      intro ex hex
      have hm := mem_listed hex
      simp [go_sem, *] at hm
    clear hK K
    try w_num
    refine EndsF.step rfl (fun _ h₁ => ?_)
    replace hF := l10_rely hF h₁
    clear h₁
    refine goes_oper_k rfl rfl (by k_ne) (fun K hK => ?_)
    go_simp
    refine hK _ _ ⟨?_, ?_⟩
    · refine de_none ?_
      intro ex hex
      have hm := mem_listed hex
      simp [go_sem, *] at hm
    clear hK K
    try w_num
    refine EndsF.step rfl (fun _ h₁ => ?_)
    replace hF := l10_rely hF h₁
    clear h₁
    rw [stepG_region_end]
    simp only [goes_go]
    refine ⟨de_nil, ?_⟩
    refine EndsF.step rfl (fun _ h₁ => ?_)
    replace hF := l10_rely hF h₁
    clear h₁
    rw [stepG_cond (t := true) rfl]
    simp only [goes_go, if_true, if_false, Bool.false_eq_true, ↓reduceIte]
    refine ⟨de_nil, ?_⟩
    refine EndsF.step rfl (fun _ h₁ => ?_)
    replace hF := l10_rely hF h₁
    clear h₁
    rw [stepG_skip]
    simp only [goes_go]
    refine ⟨de_nil, ?_⟩
    refine EndsF.step rfl (fun _ h₁ => ?_)
    replace hF := l10_rely hF h₁
    clear h₁
    rw [stepG_seq]
    simp only [goes_go]
    refine ⟨de_nil, ?_⟩
    refine EndsF.step rfl (fun _ h₁ => ?_)
    replace hF := l10_rely hF h₁
    clear h₁
    rw [stepG_block]
    simp only [goes_go]
    refine ⟨de_nil, ?_⟩
    refine EndsF.step rfl (fun _ h₁ => ?_)
    replace hF := l10_rely hF h₁
    clear h₁
    rw [stepG_seq]
    simp only [goes_go]
    refine ⟨de_nil, ?_⟩
    rename_i w1
    obtain ⟨b1, o1, e1, hc⟩ := hF.2.1 i (by omega)
    cases e1
    obtain ⟨m, hm⟩ := first_region (Hb := Hb) (a := some ⟨b, o, none⟩) (xs := xs) (x := xs i) (y := y) (cap := cap) (E := fun w => Below W.heap.size W w ∧ w.heap.size = K) (Shun := Shun) (B := K) (fun _ _ h r => sz_rely h r) (show i < n by omega) (ho (by omega) _ rfl).1 (ho (by omega) _ rfl).2 h5 h6
    refine EndsF.of_goes (D := DE (EvL Shun K)) (n := 0 + m) (fun _ _ _ h => h) (wpC_goes (hm w1 ⟨hF.2.1, hc, hF.2.2, hF.1⟩) rfl (by k_ne) ?_)
    rintro ex ac w2 ⟨rfl, rfl, hS⟩
    clear hF hc hm
    have hF := And.intro hS.e (And.intro hS.r hS.cy)
    clear hS
    refine fun w₁ h₁ => EndsF.rely ?_ h₁
    clear h₁ w₁
    cases hb : decide (y < xs i) with
    | true =>
      obtain ⟨rfl, rfl, rfl⟩ : rr = i ∧ pp = (rr : Int) ∧ ee = 0 := by
        have hri : rr = i := by
          rcases Nat.lt_trichotomy rr i with h | h | h
          · have := hR.at_ (by omega)
            rw [hno _ h] at this; cases this
          · exact h
          · have := hR.before _ h
            rw [show bsF xs y i = true from hb] at this; cases this
        rcases hpe with ⟨h, h2, h3⟩ | ⟨h, _⟩
        · exact ⟨hri, h2, h3⟩
        · omega
      refine EndsF.step rfl (fun _ h₁ => ?_)
      replace hF := l10_rely hF h₁
      clear h₁
      rw [stepG_cond (t := true) rfl]
      simp only [goes_go, if_true, if_false, Bool.false_eq_true, ↓reduceIte]
      refine ⟨de_nil, ?_⟩
      refine EndsF.step rfl (fun _ h₁ => ?_)
      replace hF := l10_rely hF h₁
      clear h₁
      rw [stepG_seq]
      simp only [goes_go]
      refine ⟨de_nil, ?_⟩
      refine EndsF.step rfl (fun _ h₁ => ?_)
      replace hF := l10_rely hF h₁
      clear h₁
      rw [stepG_region]
      simp only [goes_go, List.size_toArray, List.length_cons, List.length_nil, Nat.reduceAdd, Nat.zero_add, List.range, List.range.loop]
      refine ⟨de_nil, ?_⟩
      refine EndsF.step rfl (fun _ h₁ => ?_)
      replace hF := l10_rely hF h₁
      clear h₁
      refine goes_oper_k rfl rfl (by k_ne) (fun K hK => ?_)
      go_simp
      refine hK _ _ ⟨?_, ?_⟩
      · refine de_none ?_
        intro ex hex
        have hm := mem_listed hex
        simp [go_sem, *] at hm
      clear hK K
      refine EndsF.step rfl (fun _ h₁ => ?_)
      replace hF := l10_rely hF h₁
      clear h₁
      refine goes_oper_k rfl rfl (by k_ne) (fun K hK => ?_)
      go_simp
      refine hK _ _ ⟨?_, ?_⟩
      · refine de_none ?_
        intro ex hex
        have hm := mem_listed hex
        simp [go_sem, *] at hm
      clear hK K
      refine EndsF.step rfl (fun _ h₁ => ?_)
      replace hF := l10_rely hF h₁
      clear h₁
      refine goes_oper_k rfl rfl (by k_ne) (fun K hK => ?_)
      go_simp
      refine hK _ _ ⟨?_, ?_⟩
      · refine de_none ?_
        intro ex hex
        have hm := mem_listed hex
        simp [go_sem, *] at hm
      clear hK K
      refine EndsF.step rfl (fun _ h₁ => ?_)
      replace hF := l10_rely hF h₁
      clear h₁
      refine goes_oper_k rfl rfl (by k_ne) (fun K hK => ?_)
      go_simp
      refine hK _ _ ⟨?_, ?_⟩
      · refine de_none ?_
        intro ex hex
        have hm := mem_listed hex
        simp [go_sem, *] at hm
      clear hK K
      refine EndsF.step rfl (fun _ h₁ => ?_)
      replace hF := l10_rely hF h₁
      clear h₁
      refine goes_oper_k rfl rfl (by k_ne) (fun K hK => ?_)
      go_simp
      refine hK _ _ ⟨?_, ?_⟩
      · refine de_none ?_
        intro ex hex
        have hm := mem_listed hex
        simp [go_sem, *] at hm
      clear hK K
      refine EndsF.step rfl (fun _ h₁ => ?_)
      replace hF := l10_rely hF h₁
      clear h₁
      refine goes_oper_k rfl rfl (by k_ne) (fun K hK => ?_)
      go_simp
      refine hK _ _ ⟨?_, ?_⟩
      · refine de_none ?_
        intro ex hex
        have hm := mem_listed hex
        simp [go_sem, *] at hm
      clear hK K
      try w_num
      refine EndsF.step rfl (fun _ h₁ => ?_)
      replace hF := l10_rely hF h₁
      clear h₁
      refine goes_oper_k rfl rfl (by k_ne) (fun K hK => ?_)
      go_simp
      refine hK _ _ ⟨?_, ?_⟩
      · refine de_none ?_
        intro ex hex
        have hm := mem_listed hex
        simp [go_sem, *] at hm
      clear hK K
      refine EndsF.step rfl (fun _ h₁ => ?_)
      replace hF := l10_rely hF h₁
      clear h₁
      refine goes_oper_k rfl rfl (by k_ne) (fun K hK => ?_)
      go_simp
      refine hK _ _ ⟨?_, ?_⟩
      · refine de_none ?_
        intro ex hex
        have hm := mem_listed hex
        simp [go_sem, *] at hm
      clear hK K
      refine EndsF.step rfl (fun _ h₁ => ?_)
      replace hF := l10_rely hF h₁
      clear h₁
      refine goes_call rfl rfl (by k_ne) rfl Try.func30 nm30 rfl ⟨de_nil, ?_⟩
      walk_nrmf Try.f30
      rename_i w3
      refine awake_ends (H := K) (w0 := w3) hF.1.2 (Nat.le_refl _) hSc hSo ?_
      intro Shun' w4 hS2 hb2 hs2
      have hF2 : Below W.heap.size W w4 ∧ w4.heap.size = K + 12 := ⟨hF.1.1.trans (hb2.mono hW), hs2⟩
      clear hF hb2 hs2
      unfold Back
      walk_nrm
      refine EndsF.step rfl (fun _ h₁ => ?_)
      replace hF2 := sz_rely hF2 h₁
      clear h₁
      refine goes_oper_k rfl rfl (by k_ne) (fun K hK => ?_)
      go_simp
      refine hK _ _ ⟨?_, ?_⟩
      · refine de_none ?_
        intro ex hex
        have hm := mem_listed hex
        simp [go_sem, *] at hm
      clear hK K
      refine EndsF.step rfl (fun _ h₁ => ?_)
      replace hF2 := sz_rely hF2 h₁
      clear h₁
      refine goes_oper_k rfl rfl (by k_ne) (fun K hK => ?_)
      go_simp
      refine hK _ _ ⟨?_, ?_⟩
      · refine de_none ?_
        intro ex hex
        have hm := mem_listed hex
        simp [go_sem, *] at hm
      clear hK K
      refine EndsF.step rfl (fun _ h₁ => ?_)
      replace hF2 := sz_rely hF2 h₁
      clear h₁
      rw [stepG_region_end]
      simp only [goes_go]
      refine ⟨de_nil, ?_⟩
      refine EndsF.step rfl (fun _ h₁ => ?_)
      replace hF2 := sz_rely hF2 h₁
      clear h₁
      rw [stepG_ret']
      simp only [goes_go]
      refine ⟨de_nil, ?_⟩
      refine postL_end rfl (fun w => ?_) hF2.1
      simp [Go.Conc.G, stepG, unwind, doReturn, results, Frame.at, base, b10, Try.func10, Try.f10, seen, GStep.after]
    | false =>
      refine EndsF.step rfl (fun _ h₁ => ?_)
      replace hF := l10_rely hF h₁
      clear h₁
      rw [stepG_cond (t := false) rfl]
      simp only [goes_go, if_true, if_false, Bool.false_eq_true, ↓reduceIte]
      refine ⟨de_nil, ?_⟩
      refine EndsF.step rfl (fun _ h₁ => ?_)
      replace hF := l10_rely hF h₁
      clear h₁
      rw [stepG_skip]
      simp only [goes_go]
      refine ⟨de_nil, ?_⟩
      refine EndsF.step rfl (fun _ h₁ => ?_)
      replace hF := l10_rely hF h₁
      clear h₁
      rw [stepG_inBlock]
      simp only [goes_go]
      refine ⟨de_nil, ?_⟩
      refine EndsF.step rfl (fun _ h₁ => ?_)
      replace hF := l10_rely hF h₁
      clear h₁
      rw [stepG_region]
      simp only [goes_go, List.size_toArray, List.length_cons, List.length_nil, Nat.reduceAdd, Nat.zero_add, List.range, List.range.loop]
      refine ⟨de_nil, ?_⟩
      refine EndsF.step rfl (fun _ h₁ => ?_)
      replace hF := l10_rely hF h₁
      clear h₁
      refine goes_oper_k rfl rfl (by k_ne) (fun K hK => ?_)
      go_simp
      refine hK _ _ ⟨?_, ?_⟩
      · refine de_none ?_
        intro ex hex
        have hm := mem_listed hex
        simp [go_sem, *] at hm
      clear hK K
      try w_num
      refine EndsF.step rfl (fun _ h₁ => ?_)
      replace hF := l10_rely hF h₁
      clear h₁
      refine goes_oper_k rfl rfl (by k_ne) (fun K hK => ?_)
      go_simp
      refine hK _ _ ⟨?_, ?_⟩
      · refine de_none ?_
        intro ex hex
        have hm := mem_listed hex
        simp [go_sem, *] at hm
      clear hK K
      try w_num
      refine EndsF.step rfl (fun _ h₁ => ?_)
      replace hF := l10_rely hF h₁
      clear h₁
      refine goes_oper_k rfl rfl (by k_ne) (fun K hK => ?_)
      go_simp
      refine hK _ _ ⟨?_, ?_⟩
      · refine de_none ?_
        intro ex hex
        have hm := mem_listed hex
        simp [go_sem, *] at hm
      clear hK K
      try w_num
      refine EndsF.step rfl (fun _ h₁ => ?_)
      replace hF := l10_rely hF h₁
      clear h₁
      rw [stepG_region_end]
      simp only [goes_go]
      refine ⟨de_nil, ?_⟩
      refine EndsF.step rfl (fun _ h₁ => ?_)
      replace hF := l10_rely hF h₁
      clear h₁
      rw [stepG_inLoop]
      simp only [goes_go]
      refine ⟨de_nil, ?_⟩
      exact ih' (fun k hk => by
        by_cases e : k = i
        · rw [e]; exact hb
        · exact hno k (by omega)) _ _ (by simp) (by simp) (by simp) (by simp) (by simp) (by simp) hF
end
end Go.Pool
