/-
  CREW 17: CrewMaps, walked.
-/
import Derived.Test.YthkaigokcognmaaCr16
set_option linter.unusedSimpArgs false
namespace Go.Pool
open Go.Conc Go.RowKit Go.Proofs Go.ConcN Go.Conc.Lib Go.ConcR.Gen Go.ConcN.Gen
open Go.ConcR (KK wgBlock WgAt stA smA rd wr mk DC0)

noncomputable def body8 : Code := Try.f8.body.getD .skip
noncomputable def tail8 : Code := match Try.f8.body with
  | some (.seq _ (.seq _ (.seq _ (.seq _ (.seq _ (.seq _ c)))))) => c
  | _ => .skip
noncomputable def L8 : Code := match tail8 with
  | .seq (.seq _ (.block _ (.loop c))) _ => c
  | _ => .skip
noncomputable def K8 : Code := match tail8 with
  | .seq _ c => c
  | _ => .skip
noncomputable def ops8m : Array Oper := match L8 with
  | .seq _ (.seq (.block _ (.seq (.region _ ops _) _)) _) => ops
  | _ => #[]
def b8 : Frame := base 8

theorem array68 (T : Array Value) (h : T.size = 68) : ∃ v0 v1 v2 v3 v4 v5 v6 v7 v8 v9 v10 v11 v12 v13 v14 v15 v16 v17 v18 v19 v20 v21 v22 v23 v24 v25 v26 v27 v28 v29 v30 v31 v32 v33 v34 v35 v36 v37 v38 v39 v40 v41 v42 v43 v44 v45 v46 v47 v48 v49 v50 v51 v52 v53 v54 v55 v56 v57 v58 v59 v60 v61 v62 v63 v64 v65 v66 v67, T = #[v0, v1, v2, v3, v4, v5, v6, v7, v8, v9, v10, v11, v12, v13, v14, v15, v16, v17, v18, v19, v20, v21, v22, v23, v24, v25, v26, v27, v28, v29, v30, v31, v32, v33, v34, v35, v36, v37, v38, v39, v40, v41, v42, v43, v44, v45, v46, v47, v48, v49, v50, v51, v52, v53, v54, v55, v56, v57, v58, v59, v60, v61, v62, v63, v64, v65, v66, v67] :=
  ⟨T[0], T[1], T[2], T[3], T[4], T[5], T[6], T[7], T[8], T[9], T[10], T[11], T[12], T[13], T[14], T[15], T[16], T[17], T[18], T[19], T[20], T[21], T[22], T[23], T[24], T[25], T[26], T[27], T[28], T[29], T[30], T[31], T[32], T[33], T[34], T[35], T[36], T[37], T[38], T[39], T[40], T[41], T[42], T[43], T[44], T[45], T[46], T[47], T[48], T[49], T[50], T[51], T[52], T[53], T[54], T[55], T[56], T[57], T[58], T[59], T[60], T[61], T[62], T[63], T[64], T[65], T[66], T[67], by
    apply Array.ext (by simp [h])
    intro i h1 h2
    have hi : i < 68 := by omega
    iterate 68 (rcases i with _ | i; · rfl)
    omega⟩


theorem fun28 {Shun : Loc → Prop} {H n Hb : Nat} {w0 : World} {xs : Nat → Int} {y : Int} (hb : Hb < H) (hS : ∀ a : Addr, a.block = Hb → ¬ Shun (.cell a)) (hy : w0.cell? ⟨Hb, 0, none⟩ = some (.int .i64 y)) :
    FunC Shun H w0 n (fun _ => False) (fun _ _ => True) (fun _ _ => True) 28 #[.pointer (some ⟨Hb, 0, none⟩)] xs (fun k => IntKind.i64.wrap (IntKind.i64.wrap (xs k * 3) + y)) := by
  intro φ hFr k hk V hV _ hK
  have st := hFr.still (b := Hb) (by omega) (fun h => h.elim id fun e => by omega) hS
  refine (f28_c (φ := φ) (k := k) (S := V) hV st (y := y) (fun w hw => (cell_block ((hK w hw).block Hb hb id) 0).trans hy) (xs k)).elim fun m hm => ⟨m, fun w hw _ => ?_⟩
  exact CallsC.mono (hm w hw) fun v w' h => ⟨h.1, h.2, trivial⟩

structure S8 (b o b' o' Hb i n : Nat) (x y : Int) (a a' : Option Addr) (xs ys : Nat → Int) (E : World → Prop) (w : World) : Prop where
  r : RowIn a n ys w
  r' : RowIn a' n xs w
  c : w.cell? ⟨b, o + i, none⟩ = some (.int .i64 (IntKind.i64.wrap (IntKind.i64.wrap (x * 3) + y)))
  c' : w.cell? ⟨b', o' + i, none⟩ = some (.int .i64 x)
  cy : w.cell? ⟨Hb, 0, none⟩ = some (.int .i64 y)
  e : E w
theorem S8.rely {b o b' o' Hb i n : Nat} {x y : Int} {a a' : Option Addr} {xs ys : Nat → Int} {E : World → Prop} (hE : ∀ w w₁, E w → AtRel w w₁ → E w₁) {w w₁ : World} (h : S8 b o b' o' Hb i n x y a a' xs ys E w) (r : AtRel w w₁) : S8 b o b' o' Hb i n x y a a' xs ys E w₁ := by
  have he := hE _ _ h.e r
  obtain ⟨d, rfl⟩ := r
  exact ⟨h.r, h.r', h.c, h.c', h.cy, he⟩

section
variable {W w : World} {Shun : Loc → Prop} {B H n : Nat} {a a' : Option Addr} {xs ys : Nat → Int}

set_option maxRecDepth 100000 in
set_option maxHeartbeats 4000000 in
theorem maps_region {E : World → Prop} (hE : ∀ w w₁, E w → AtRel w w₁ → E w₁) {b o b' o' Hb i cap cap' : Nat} {x y : Int} (hi : i < n) (h1 : ∀ z : Addr, z.block = b → ¬ Shun (.cell z)) (h2 : b < B) (h3 : ∀ z : Addr, z.block = b' → ¬ Shun (.cell z)) (h4 : b' < B) (h5 : ∀ z : Addr, z.block = Hb → ¬ Shun (.cell z)) (h6 : Hb < B)
    {v1 v2 v3 v4 v6 v7 v9 v11 v12 v13 v14 v15 v16 v17 v18 v19 v20 v21 v22 v23 v24 v25 v26 v27 v28 v29 v30 v31 v32 v33 v34 v35 v36 v37 v38 v39 v40 v41 v42 v43 v44 v45 v46 v47 v48 v49 v50 v51 v52 v53 v54 v55 v56 v57 v58 v59 v60 v61 v62 v63 v64 v65 v66 v67 : Value} {id : Nat} :
    ∃ m, ∀ w, S8 b o b' o' Hb i n x y a a' xs ys E w → (Code.region id ops8m true).wpC Try.prog true AtRel (DE (EvL Shun B)) 8 m
      (fun ex ac w' => ex = .normal ∧ ac = ⟨#[.slice (some ⟨b', o', none⟩) n cap', v1, v2, v3, v4, .pointer (some ⟨Hb, 0, none⟩), v6, v7, .slice (some ⟨b, o, none⟩) n cap, v9, .int .i64 i, v11, v12, v13, v14, v15, v16, v17, v18, v19, v20, v21, v22, v23, v24, v25, v26, v27, v28, v29, v30, v31, v32, v33, v34, v35, v36, v37, v38, v39, v40, v41, v42, v43, v44, v45, v46, v47, v48, v49, v50, v51, v52, v53, v54, .slice (some ⟨b, o, none⟩) n cap, .int .i64 i, .pointer (some ⟨b, o + i, none⟩), .int .i64 (IntKind.i64.wrap (IntKind.i64.wrap (x * 3) + y)), .slice (some ⟨b', o', none⟩) n cap', .int .i64 i, .pointer (some ⟨b', o' + i, none⟩), .int .i64 x, .int .i64 (IntKind.i64.wrap (x * 3)), .int .i64 y, .int .i64 (IntKind.i64.wrap (IntKind.i64.wrap (x * 3) + y)), .bool false, v67], []⟩ ∧ S8 b o b' o' Hb i n x y a a' xs ys E w')
      ⟨#[.slice (some ⟨b', o', none⟩) n cap', v1, v2, v3, v4, .pointer (some ⟨Hb, 0, none⟩), v6, v7, .slice (some ⟨b, o, none⟩) n cap, v9, .int .i64 i, v11, v12, v13, v14, v15, v16, v17, v18, v19, v20, v21, v22, v23, v24, v25, v26, v27, v28, v29, v30, v31, v32, v33, v34, v35, v36, v37, v38, v39, v40, v41, v42, v43, v44, v45, v46, v47, v48, v49, v50, v51, v52, v53, v54, v55, v56, v57, v58, v59, v60, v61, v62, v63, v64, v65, v66, v67], []⟩ w := by
  co_apply Exists.intro
  intro w hF
  simp only [ops8m, L8, tail8, Try.f8]
  have hlt : (i : Int) < (n : Int) := by omega
  co_held (termsL Shun B) (drawL Shun B) ownDrawL (S8 b o b' o' Hb i n x y a a' xs ys E) (S8.rely hE) hF
  co_applyP anyCH_take (termsL Shun B) (fun _ _ h r => (S8.rely hE) h r) (fun _ _ _ h r => ⟨h.1, h.2.1, h.2.2.rely hE r⟩) (i := 0) rfl (by first | kernel_rfl | decide +kernel) (by first | kernel_rfl | decide +kernel) (by first | kernel_rfl | decide +kernel) (.inl ⟨by rfl, fun _ hw => ⟨run_eq_of ?run1, ?guar1⟩⟩) hF ?rest1
  case run1 =>
    intro K hK
    go_simp
    exact hK
  case guar1 =>
    co_quiet (termsL Shun B)
  try walk_nrm
  co_applyP anyCH_take (termsL Shun B) (fun _ _ h r => (S8.rely hE) h r) (fun _ _ _ h r => ⟨h.1, h.2.1, h.2.2.rely hE r⟩) (i := 1) rfl (by first | kernel_rfl | decide +kernel) (by first | kernel_rfl | decide +kernel) (by first | kernel_rfl | decide +kernel) (.inl ⟨by rfl, fun _ hw => ⟨run_eq_of ?run2, ?guar2⟩⟩) hF ?rest2
  case run2 =>
    intro K hK
    go_simp
    exact hK
  case guar2 =>
    co_quiet (termsL Shun B)
  try walk_nrm
  co_applyP anyCH_take (termsL Shun B) (fun _ _ h r => (S8.rely hE) h r) (fun _ _ _ h r => ⟨h.1, h.2.1, h.2.2.rely hE r⟩) (i := 2) rfl (by first | kernel_rfl | decide +kernel) (by first | kernel_rfl | decide +kernel) (by first | kernel_rfl | decide +kernel) (.inl ⟨by rfl, fun _ hw => ⟨run_eq_of ?run3, ?guar3⟩⟩) hF ?rest3
  case run3 =>
    intro K hK
    go_simp
    exact hK
  case guar3 =>
    co_still (termsL Shun B)
  try walk_nrm
  co_applyP anyCH_take (termsL Shun B) (fun _ _ h r => (S8.rely hE) h r) (fun _ _ _ h r => ⟨h.1, h.2.1, h.2.2.rely hE r⟩) (i := 3) rfl (by first | kernel_rfl | decide +kernel) (by first | kernel_rfl | decide +kernel) (by first | kernel_rfl | decide +kernel) (.inl ⟨by rfl, fun _ hw => ⟨run_eq_of ?run4, ?guar4⟩⟩) hF ?rest4
  case run4 =>
    intro K hK
    have hc := hw.c
    go_simp
    exact hK
  case guar4 =>
    have hc := hw.c
    co_evs (exact evL_cell _ _ (h1 _ rfl) h2)
  try walk_nrm
  co_applyP anyCH_take (termsL Shun B) (fun _ _ h r => (S8.rely hE) h r) (fun _ _ _ h r => ⟨h.1, h.2.1, h.2.2.rely hE r⟩) (i := 4) rfl (by first | kernel_rfl | decide +kernel) (by first | kernel_rfl | decide +kernel) (by first | kernel_rfl | decide +kernel) (.inl ⟨by rfl, fun _ hw => ⟨run_eq_of ?run5, ?guar5⟩⟩) hF ?rest5
  case run5 =>
    intro K hK
    go_simp
    exact hK
  case guar5 =>
    co_quiet (termsL Shun B)
  try walk_nrm
  co_applyP anyCH_take (termsL Shun B) (fun _ _ h r => (S8.rely hE) h r) (fun _ _ _ h r => ⟨h.1, h.2.1, h.2.2.rely hE r⟩) (i := 5) rfl (by first | kernel_rfl | decide +kernel) (by first | kernel_rfl | decide +kernel) (by first | kernel_rfl | decide +kernel) (.inl ⟨by rfl, fun _ hw => ⟨run_eq_of ?run6, ?guar6⟩⟩) hF ?rest6
  case run6 =>
    intro K hK
    go_simp
    exact hK
  case guar6 =>
    co_quiet (termsL Shun B)
  try walk_nrm
  co_applyP anyCH_take (termsL Shun B) (fun _ _ h r => (S8.rely hE) h r) (fun _ _ _ h r => ⟨h.1, h.2.1, h.2.2.rely hE r⟩) (i := 6) rfl (by first | kernel_rfl | decide +kernel) (by first | kernel_rfl | decide +kernel) (by first | kernel_rfl | decide +kernel) (.inl ⟨by rfl, fun _ hw => ⟨run_eq_of ?run7, ?guar7⟩⟩) hF ?rest7
  case run7 =>
    intro K hK
    go_simp
    exact hK
  case guar7 =>
    co_still (termsL Shun B)
  try walk_nrm
  co_applyP anyCH_take (termsL Shun B) (fun _ _ h r => (S8.rely hE) h r) (fun _ _ _ h r => ⟨h.1, h.2.1, h.2.2.rely hE r⟩) (i := 7) rfl (by first | kernel_rfl | decide +kernel) (by first | kernel_rfl | decide +kernel) (by first | kernel_rfl | decide +kernel) (.inl ⟨by rfl, fun _ hw => ⟨run_eq_of ?run8, ?guar8⟩⟩) hF ?rest8
  case run8 =>
    intro K hK
    have hc := hw.c'
    go_simp
    exact hK
  case guar8 =>
    have hc := hw.c'
    co_evs (exact evL_cell _ _ (h3 _ rfl) h4)
  try walk_nrm
  co_applyP anyCH_take (termsL Shun B) (fun _ _ h r => (S8.rely hE) h r) (fun _ _ _ h r => ⟨h.1, h.2.1, h.2.2.rely hE r⟩) (i := 8) rfl (by first | kernel_rfl | decide +kernel) (by first | kernel_rfl | decide +kernel) (by first | kernel_rfl | decide +kernel) (.inl ⟨by rfl, fun _ hw => ⟨run_eq_of ?run9, ?guar9⟩⟩) hF ?rest9
  case run9 =>
    intro K hK
    go_simp
    exact hK
  case guar9 =>
    co_quiet (termsL Shun B)
  try walk_nrm
  co_applyP anyCH_take (termsL Shun B) (fun _ _ h r => (S8.rely hE) h r) (fun _ _ _ h r => ⟨h.1, h.2.1, h.2.2.rely hE r⟩) (i := 9) rfl (by first | kernel_rfl | decide +kernel) (by first | kernel_rfl | decide +kernel) (by first | kernel_rfl | decide +kernel) (.inl ⟨by rfl, fun _ hw => ⟨run_eq_of ?run10, ?guar10⟩⟩) hF ?rest10
  case run10 =>
    intro K hK
    have hc := hw.cy
    go_simp
    exact hK
  case guar10 =>
    have hc := hw.cy
    co_evs (exact evL_cell _ _ (h5 _ rfl) h6)
  try walk_nrm
  co_applyP anyCH_take (termsL Shun B) (fun _ _ h r => (S8.rely hE) h r) (fun _ _ _ h r => ⟨h.1, h.2.1, h.2.2.rely hE r⟩) (i := 10) rfl (by first | kernel_rfl | decide +kernel) (by first | kernel_rfl | decide +kernel) (by first | kernel_rfl | decide +kernel) (.inl ⟨by rfl, fun _ hw => ⟨run_eq_of ?run11, ?guar11⟩⟩) hF ?rest11
  case run11 =>
    intro K hK
    go_simp
    exact hK
  case guar11 =>
    co_quiet (termsL Shun B)
  try walk_nrm
  co_applyP anyCH_take (termsL Shun B) (fun _ _ h r => (S8.rely hE) h r) (fun _ _ _ h r => ⟨h.1, h.2.1, h.2.2.rely hE r⟩) (i := 11) rfl (by first | kernel_rfl | decide +kernel) (by first | kernel_rfl | decide +kernel) (by first | kernel_rfl | decide +kernel) (.inl ⟨by rfl, fun _ hw => ⟨run_eq_of ?run12, ?guar12⟩⟩) hF ?rest12
  case run12 =>
    intro K hK
    go_simp
    exact hK
  case guar12 =>
    co_quiet (termsL Shun B)
  try walk_nrm
  co_done
  exact ⟨trivial, by simp, hF⟩

theorem l8_rely {W : World} {K Hb n : Nat} {y : Int} {a a' : Option Addr} {xs ys : Nat → Int} {w w₁ : World} (h : (Below W.heap.size W w ∧ w.heap.size = K) ∧ RowIn a n ys w ∧ RowIn a' n xs w ∧ w.cell? ⟨Hb, 0, none⟩ = some (.int .i64 y)) (r : AtRel w w₁) :
    (Below W.heap.size W w₁ ∧ w₁.heap.size = K) ∧ RowIn a n ys w₁ ∧ RowIn a' n xs w₁ ∧ w₁.cell? ⟨Hb, 0, none⟩ = some (.int .i64 y) := by
  have h1 := sz_rely h.1 r
  obtain ⟨d, rfl⟩ := r
  exact ⟨h1, h.2⟩

abbrev ysM (xs : Nat → Int) (y : Int) (k : Nat) : Int := IntKind.i64.wrap (IntKind.i64.wrap (xs k * 3) + y)

set_option maxRecDepth 100000 in
set_option maxHeartbeats 4000000 in
theorem head8 {K Hb cap cap' : Nat} {y : Int} (hn : n < 9223372036854775808) (hW : W.heap.size ≤ K) (hSc : ∀ z : Addr, K ≤ z.block → ¬ Shun (.cell z)) (hSo : ∀ r, ¬ Shun (.obj r)) (ho : OkRow Shun K a n) (ho' : OkRow Shun K a' n) (h5 : ∀ z : Addr, z.block = Hb → ¬ Shun (.cell z)) (h6 : Hb < K) :
    ∀ r i, i + r = n → ∀ (T : Array Value) (w : World), T.size = 68 → T[0]? = some (.slice a' n cap') → T[5]? = some (.pointer (some ⟨Hb, 0, none⟩)) → T[8]? = some (.slice a n cap) → T[10]? = some (.int .i64 i) →
      ((Below W.heap.size W w ∧ w.heap.size = K) ∧ RowIn a n (ysM xs y) w ∧ RowIn a' n xs w ∧ w.cell? ⟨Hb, 0, none⟩ = some (.int .i64 y)) →
      EndsF Try.prog (PostL W) Shun K (Go.Conc.G (b8.at ⟨T, []⟩ [.code L8, .inLoop L8, .inBlock 0, .code K8]) []) w := by
  intro r
  induction r with
  | zero =>
    intro i hi T w hs t0 t5 t8 t10 hF
    obtain rfl : i = n := by omega
    obtain ⟨v0, v1, v2, v3, v4, v5, v6, v7, v8, v9, v10, v11, v12, v13, v14, v15, v16, v17, v18, v19, v20, v21, v22, v23, v24, v25, v26, v27, v28, v29, v30, v31, v32, v33, v34, v35, v36, v37, v38, v39, v40, v41, v42, v43, v44, v45, v46, v47, v48, v49, v50, v51, v52, v53, v54, v55, v56, v57, v58, v59, v60, v61, v62, v63, v64, v65, v66, v67, rfl⟩ := array68 T hs
    simp only [List.getElem?_toArray, List.getElem?_cons_zero, List.getElem?_cons_succ, Option.some.injEq] at t0 t5 t8 t10
    subst t0 t5 t8 t10
    simp only [L8, K8, tail8, Try.f8]
    have hlt : ¬ (i : Int) < (i : Int) := by omega
    refine EndsF.step rfl (fun _ h₁ => ?_)
    replace hF := l8_rely hF h₁
    clear h₁
    rw [stepG_seq]
    simp only [goes_go]
    refine ⟨de_nil, ?_⟩
    refine EndsF.step rfl (fun _ h₁ => ?_)
    replace hF := l8_rely hF h₁
    clear h₁
    rw [stepG_seq]
    simp only [goes_go]
    refine ⟨de_nil, ?_⟩
    refine EndsF.step rfl (fun _ h₁ => ?_)
    replace hF := l8_rely hF h₁
    clear h₁
    rw [stepG_region]
    simp only [goes_go, List.size_toArray, List.length_cons, List.length_nil, Nat.reduceAdd, Nat.zero_add, List.range, List.range.loop]
    refine ⟨de_nil, ?_⟩
    refine EndsF.step rfl (fun _ h₁ => ?_)
    replace hF := l8_rely hF h₁
    clear h₁
    refine goes_oper_k rfl rfl (by k_ne) (fun K hK => ?_)
    go_simp
    refine hK _ _ ⟨?_, ?_⟩
    · refine de_none ?_
      intro ex hex
      have hm := mem_listed hex
      simp [go_sem, *] at hm
    clear hK K
    try w_num
    refine EndsF.step rfl (fun _ h₁ => ?_)
    replace hF := l8_rely hF h₁
    clear h₁
    refine goes_oper_k rfl rfl (by k_ne) (fun K hK => ?_)
    go_simp
    refine hK _ _ ⟨?_, ?_⟩
    · refine de_none ?_
      intro ex hex
      have hm := mem_listed hex
      simp [go_sem, *] at hm
    clear hK K
    try w_num
    refine EndsF.step rfl (fun _ h₁ => ?_)
    replace hF := l8_rely hF h₁
    clear h₁
    refine goes_oper_k rfl rfl (by k_ne) (fun K hK => ?_)
    go_simp
    refine hK _ _ ⟨?_, ?_⟩
    · refine de_none ?_
      intro ex hex
      have hm := mem_listed hex
      simp [go_sem, *] at hm
    clear hK K
    try w_num
    refine EndsF.step rfl (fun _ h₁ => ?_)
    replace hF := l8_rely hF h₁
    clear h₁
    refine goes_oper_k rfl rfl (by k_ne) (fun K hK => ?_)
    go_simp
    refine hK _ _ ⟨?_, ?_⟩
    · refine de_none ?_
      intro ex hex
      have hm := mem_listed hex
      simp [go_sem, *] at hm
    clear hK K
    try w_num
    refine EndsF.step rfl (fun _ h₁ => ?_)
    replace hF := l8_rely hF h₁
    clear h₁
    rw [stepG_region_end]
    simp only [goes_go]
    refine ⟨de_nil, ?_⟩
    refine EndsF.step rfl (fun _ h₁ => ?_)
    replace hF := l8_rely hF h₁
    clear h₁
    rw [stepG_cond (t := false) rfl]
    simp only [goes_go, if_true, if_false, Bool.false_eq_true, ↓reduceIte]
    refine ⟨de_nil, ?_⟩
    refine EndsF.step rfl (fun _ h₁ => ?_)
    replace hF := l8_rely hF h₁
    clear h₁
    refine goes_exit rfl ?_
    refine ⟨de_nil, ?_⟩
    refine EndsF.step rfl (fun _ h₁ => ?_)
    replace hF := l8_rely hF h₁
    clear h₁
    rw [stepG_seq]
    simp only [goes_go]
    refine ⟨de_nil, ?_⟩
    refine EndsF.step rfl (fun _ h₁ => ?_)
    replace hF := l8_rely hF h₁
    clear h₁
    rw [stepG_region]
    simp only [goes_go, List.size_toArray, List.length_cons, List.length_nil, Nat.reduceAdd, Nat.zero_add, List.range, List.range.loop]
    refine ⟨de_nil, ?_⟩
    refine EndsF.step rfl (fun _ h₁ => ?_)
    replace hF := l8_rely hF h₁
    clear h₁
    refine goes_call rfl rfl (by k_ne) rfl Try.func30 nm30 rfl ⟨de_nil, ?_⟩
    walk_nrmf Try.f30
    rename_i w1
    refine awake_ends (H := K) (w0 := w1) hF.1.2 (Nat.le_refl _) hSc hSo ?_
    intro Shun' w2 hS2 hb2 hs2
    have hF2 : Below W.heap.size W w2 ∧ w2.heap.size = K + 12 := ⟨hF.1.1.trans (hb2.mono hW), hs2⟩
    clear hF hb2 hs2
    unfold Back
    walk_nrm
    refine EndsF.step rfl (fun _ h₁ => ?_)
    replace hF2 := sz_rely hF2 h₁
    clear h₁
    refine goes_oper_k rfl rfl (by k_ne) (fun K hK => ?_)
    go_simp
    refine hK _ _ ⟨?_, ?_⟩
    · refine de_none ?_
      intro ex hex
      have hm := mem_listed hex
      simp [go_sem, *] at hm
    clear hK K
    refine EndsF.step rfl (fun _ h₁ => ?_)
    replace hF2 := sz_rely hF2 h₁
    clear h₁
    rw [stepG_region_end]
    simp only [goes_go]
    refine ⟨de_nil, ?_⟩
    refine EndsF.step rfl (fun _ h₁ => ?_)
    replace hF2 := sz_rely hF2 h₁
    clear h₁
    rw [stepG_ret']
    simp only [goes_go]
    refine ⟨de_nil, ?_⟩
    refine postL_end rfl (fun w => ?_) hF2.1
    simp [Go.Conc.G, stepG, unwind, doReturn, results, Frame.at, base, b8, Try.func8, Try.f8, seen, GStep.after]
  | succ r ih =>
    intro i hi T w hs t0 t5 t8 t10 hF
    obtain ⟨v0, v1, v2, v3, v4, v5, v6, v7, v8, v9, v10, v11, v12, v13, v14, v15, v16, v17, v18, v19, v20, v21, v22, v23, v24, v25, v26, v27, v28, v29, v30, v31, v32, v33, v34, v35, v36, v37, v38, v39, v40, v41, v42, v43, v44, v45, v46, v47, v48, v49, v50, v51, v52, v53, v54, v55, v56, v57, v58, v59, v60, v61, v62, v63, v64, v65, v66, v67, rfl⟩ := array68 T hs
    simp only [List.getElem?_toArray, List.getElem?_cons_zero, List.getElem?_cons_succ, Option.some.injEq] at t0 t5 t8 t10
    subst t0 t5 t8 t10
    have ih' := ih (i + 1) (by omega)
    clear ih
    obtain ⟨b, o, rfl, hc⟩ := hF.2.1 i (by omega)
    obtain ⟨b', o', rfl, hc'⟩ := hF.2.2.1 i (by omega)
    clear hc hc'
    simp only [L8, K8, tail8, Try.f8] at ih' ⊢
    have hlt : (i : Int) < (n : Int) := by omega
    have hw : IntKind.i64.wrap ((i : Int) + 1) = ((i + 1 : Nat) : Int) := by rw [IntKind.wrap_i64]; omega
    refine EndsF.step rfl (fun _ h₁ => ?_)
    replace hF := l8_rely hF h₁
    clear h₁
    rw [stepG_seq]
    simp only [goes_go]
    refine ⟨de_nil, ?_⟩
    refine EndsF.step rfl (fun _ h₁ => ?_)
    replace hF := l8_rely hF h₁
    clear h₁
    rw [stepG_seq]
    simp only [goes_go]
    refine ⟨de_nil, ?_⟩
    refine EndsF.step rfl (fun _ h₁ => ?_)
    replace hF := l8_rely hF h₁
    clear h₁
    rw [stepG_region]
    simp only [goes_go, List.size_toArray, List.length_cons, List.length_nil, Nat.reduceAdd, Nat.zero_add, List.range, List.range.loop]
    refine ⟨de_nil, ?_⟩
    refine EndsF.step rfl (fun _ h₁ => ?_)
    replace hF := l8_rely hF h₁
    clear h₁
    refine goes_oper_k rfl rfl (by k_ne) (fun K hK => ?_)
    go_simp
    refine hK _ _ ⟨?_, ?_⟩
    · refine de_none ?_
      intro ex hex
      have hm := mem_listed hex
      simp [go_sem, *] at hm
    clear hK K
    try w_num
    refine EndsF.step rfl (fun _ h₁ => ?_)
    replace hF := l8_rely hF h₁
    clear h₁
    refine goes_oper_k rfl rfl (by k_ne) (fun K hK => ?_)
    go_simp
    refine hK _ _ ⟨?_, ?_⟩
    · refine de_none ?_
      intro ex hex
      have hm := mem_listed hex
      simp [go_sem, *] at hm
    clear hK K
    try w_num
    refine EndsF.step rfl (fun _ h₁ => ?_)
    replace hF := l8_rely hF h₁
    clear h₁
    refine goes_oper_k rfl rfl (by k_ne) (fun K hK => ?_)
    go_simp
    refine hK _ _ ⟨?_, ?_⟩
    · refine de_none ?_
      intro ex hex
      have hm := mem_listed hex
      simp [go_sem, *] at hm
    clear hK K
    try w_num
    refine EndsF.step rfl (fun _ h₁ => ?_)
    replace hF := l8_rely hF h₁
    clear h₁
    refine goes_oper_k rfl rfl (by k_ne) (fun K hK => ?_)
    go_simp
    refine hK _ _ ⟨?_, ?_⟩
    · refine de_none ?_
      intro ex hex
      have hm := mem_listed hex
      simp [go_sem, *] at hm
    clear hK K
    try w_num
    refine EndsF.step rfl (fun _ h₁ => ?_)
    replace hF := l8_rely hF h₁
    clear h₁
    rw [stepG_region_end]
    simp only [goes_go]
    refine ⟨de_nil, ?_⟩
    refine EndsF.step rfl (fun _ h₁ => ?_)
    replace hF := l8_rely hF h₁
    clear h₁
    rw [stepG_cond (t := true) rfl]
    simp only [goes_go, if_true, if_false, Bool.false_eq_true, ↓reduceIte]
    refine ⟨de_nil, ?_⟩
    refine EndsF.step rfl (fun _ h₁ => ?_)
    replace hF := l8_rely hF h₁
    clear h₁
    rw [stepG_skip]
    simp only [goes_go]
    refine ⟨de_nil, ?_⟩
    refine EndsF.step rfl (fun _ h₁ => ?_)
    replace hF := l8_rely hF h₁
    clear h₁
    rw [stepG_seq]
    simp only [goes_go]
    refine ⟨de_nil, ?_⟩
    refine EndsF.step rfl (fun _ h₁ => ?_)
    replace hF := l8_rely hF h₁
    clear h₁
    rw [stepG_block]
    simp only [goes_go]
    refine ⟨de_nil, ?_⟩
    refine EndsF.step rfl (fun _ h₁ => ?_)
    replace hF := l8_rely hF h₁
    clear h₁
    rw [stepG_seq]
    simp only [goes_go]
    refine ⟨de_nil, ?_⟩
    rename_i w1
    obtain ⟨b1, o1, e1, hc⟩ := hF.2.1 i (by omega)
    cases e1
    obtain ⟨b2, o2, e2, hc'⟩ := hF.2.2.1 i (by omega)
    cases e2
    obtain ⟨m, hm⟩ := maps_region (Hb := Hb) (a := some ⟨b, o, none⟩) (a' := some ⟨b', o', none⟩) (xs := xs) (ys := ysM xs y) (x := xs i) (y := y) (cap := cap) (cap' := cap') (E := fun w => Below W.heap.size W w ∧ w.heap.size = K) (Shun := Shun) (B := K) (fun _ _ h r => sz_rely h r) (show i < n by omega) (ho (by omega) _ rfl).1 (ho (by omega) _ rfl).2 (ho' (by omega) _ rfl).1 (ho' (by omega) _ rfl).2 h5 h6
    refine EndsF.of_goes (D := DE (EvL Shun K)) (n := 0 + m) (fun _ _ _ h => h) (wpC_goes (hm w1 ⟨hF.2.1, hF.2.2.1, hc, hc', hF.2.2.2, hF.1⟩) rfl (by k_ne) ?_)
    rintro ex ac w2 ⟨rfl, rfl, hS⟩
    clear hF hc hc' hm
    have hF := And.intro hS.e (And.intro hS.r (And.intro hS.r' hS.cy))
    clear hS
    refine fun w₁ h₁ => EndsF.rely ?_ h₁
    clear h₁ w₁
    refine EndsF.step rfl (fun _ h₁ => ?_)
    replace hF := l8_rely hF h₁
    clear h₁
    rw [stepG_cond (t := false) rfl]
    simp only [goes_go, if_true, if_false, Bool.false_eq_true, ↓reduceIte]
    refine ⟨de_nil, ?_⟩
    refine EndsF.step rfl (fun _ h₁ => ?_)
    replace hF := l8_rely hF h₁
    clear h₁
    rw [stepG_skip]
    simp only [goes_go]
    refine ⟨de_nil, ?_⟩
    refine EndsF.step rfl (fun _ h₁ => ?_)
    replace hF := l8_rely hF h₁
    clear h₁
    rw [stepG_inBlock]
    simp only [goes_go]
    refine ⟨de_nil, ?_⟩
    refine EndsF.step rfl (fun _ h₁ => ?_)
    replace hF := l8_rely hF h₁
    clear h₁
    rw [stepG_region]
    simp only [goes_go, List.size_toArray, List.length_cons, List.length_nil, Nat.reduceAdd, Nat.zero_add, List.range, List.range.loop]
    refine ⟨de_nil, ?_⟩
    refine EndsF.step rfl (fun _ h₁ => ?_)
    replace hF := l8_rely hF h₁
    clear h₁
    refine goes_oper_k rfl rfl (by k_ne) (fun K hK => ?_)
    go_simp
    refine hK _ _ ⟨?_, ?_⟩
    · refine de_none ?_
      intro ex hex
      have hm := mem_listed hex
      simp [go_sem, *] at hm
    clear hK K
    try w_num
    refine EndsF.step rfl (fun _ h₁ => ?_)
    replace hF := l8_rely hF h₁
    clear h₁
    refine goes_oper_k rfl rfl (by k_ne) (fun K hK => ?_)
    go_simp
    refine hK _ _ ⟨?_, ?_⟩
    · refine de_none ?_
      intro ex hex
      have hm := mem_listed hex
      simp [go_sem, *] at hm
    clear hK K
    try w_num
    refine EndsF.step rfl (fun _ h₁ => ?_)
    replace hF := l8_rely hF h₁
    clear h₁
    refine goes_oper_k rfl rfl (by k_ne) (fun K hK => ?_)
    go_simp
    refine hK _ _ ⟨?_, ?_⟩
    · refine de_none ?_
      intro ex hex
      have hm := mem_listed hex
      simp [go_sem, *] at hm
    clear hK K
    try w_num
    refine EndsF.step rfl (fun _ h₁ => ?_)
    replace hF := l8_rely hF h₁
    clear h₁
    rw [stepG_region_end]
    simp only [goes_go]
    refine ⟨de_nil, ?_⟩
    refine EndsF.step rfl (fun _ h₁ => ?_)
    replace hF := l8_rely hF h₁
    clear h₁
    rw [stepG_inLoop]
    simp only [goes_go]
    refine ⟨de_nil, ?_⟩
    exact ih' _ _ (by simp) (by simp) (by simp) (by simp) (by simp) hF
end
end Go.Pool
