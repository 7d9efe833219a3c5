/- A part of the proof of CrewDigestsUpto (no statement of its own): Dg10. -/
import Derived.Test.YthkaigokcognmaaM40
section
set_option linter.unusedSimpArgs false
namespace Go.Pool
open Go.Conc Go.RowKit Go.Proofs Go.ConcN Go.Conc.Lib Go.ConcR.Gen Go.ConcN.Gen
open Go.ConcR (KK wgBlock WgAt stA smA rd wr mk DC0)
noncomputable def body38 : Code := Try.f38.body.getD .skip
theorem nm38 : (Try.f38.name == "runtime.NumGoroutine") = false := by kernel_rfl
noncomputable def L38 : Code := match Try.f38.body with
 | some (.seq _ (.seq _ (.seq (.seq _ (.block _ (.loop c))) _))) => c
 | _ => .skip
noncomputable def K38 : Code := match Try.f38.body with
 | some (.seq _ (.seq _ (.seq _ c))) => c
 | _ => .skip
noncomputable def ops38 : Array Oper := match L38 with
 | .seq _ (.seq (.block _ (.seq (.region _ ops _) _)) _) => ops
 | _ => #[]
def b38 : Frame := base 38
abbrev RowT (a : Option Addr) (n : Nat) (xs : Nat → ByteArray) (w : World) : Prop := ∀ k, k < n → ∃ b o, a = some ⟨b, o, none⟩ ∧ w.cell? ⟨b, o + k, none⟩ = some (.string (xs k))
structure S38 (b o b' o' i n : Nat) (x : ByteArray) (a a' : Option Addr) (xs : Nat → ByteArray) (E : World → Prop) (w : World) : Prop where
 r : RowT a n xs w
 r' : RowT a' n xs w
 c : w.cell? ⟨b, o + i, none⟩ = some (.string x)
 c' : w.cell? ⟨b', o' + i, none⟩ = some (.string x)
 e : E w
theorem S38.rely {b o b' o' i n : Nat} {x : ByteArray} {a a' : Option Addr} {xs : Nat → ByteArray} {E : World → Prop} (hE : ∀ w w₁, E w → AtRel w w₁ → E w₁) {w w₁ : World} (h : S38 b o b' o' i n x a a' xs E w) (r : AtRel w w₁) : S38 b o b' o' i n x a a' xs E w₁ := by
 have he := hE _ _ h.e r
 obtain ⟨d, rfl⟩ := r
 exact ⟨h.r, h.r', h.c, h.c', he⟩
section
variable {Post : Value → World → Prop} {Shun : Loc → Prop} {B : Nat} {w : World} {n : Nat} {a a' : Option Addr} {xs : Nat → ByteArray}
  {b₀ : Frame} {a₀ : Act} {ops₀ : Array Oper} {i₀ : Nat} {rest₀ : List Nat} {k₀ : List Item} {cs : List Frame}
set_option maxRecDepth 100000 in
set_option maxHeartbeats 4000000 in
theorem texts_region {E : World → Prop} (hE : ∀ w w₁, E w → AtRel w w₁ → E w₁) {b o b' o' i cap cap' : Nat} {x : ByteArray} (hi : i < n) (h1 : ∀ y : Addr, y.block = b → ¬ Shun (.cell y)) (h2 : b < B) (h3 : ∀ y : Addr, y.block = b' → ¬ Shun (.cell y)) (h4 : b' < B)
  {v2 v3 v4 v6 v7 v8 v9 v10 v11 v12 v13 v14 v15 v16 v17 v18 v19 v20 v21 v22 v23 v24 v25 : Value} {id : Nat} :
  ∃ m, ∀ w, S38 b o b' o' i n x a a' xs E w → (Code.region id ops38 true).wpC Try.prog true AtRel (DE (EvL Shun B)) 38 m
   (fun ex ac w' => ex = .normal ∧ ac = ⟨#[.slice (some ⟨b, o, none⟩) n cap, .slice (some ⟨b', o', none⟩) n cap', v2, v3, v4, .int .i64 i, v6, v7, v8, v9, v10, v11, v12, v13, v14, v15, v16, .slice (some ⟨b, o, none⟩) n cap, .int .i64 i, .pointer (some ⟨b, o + i, none⟩), .string x, .slice (some ⟨b', o', none⟩) n cap', .int .i64 i, .pointer (some ⟨b', o' + i, none⟩), .string x, .bool false], []⟩ ∧ S38 b o b' o' i n x a a' xs E w')
   ⟨#[.slice (some ⟨b, o, none⟩) n cap, .slice (some ⟨b', o', none⟩) n cap', v2, v3, v4, .int .i64 i, v6, v7, v8, v9, v10, v11, v12, v13, v14, v15, v16, v17, v18, v19, v20, v21, v22, v23, v24, v25], []⟩ w := by
 co_apply Exists.intro
 intro w hF
 simp only [ops38, L38, Try.f38]
 have hlt : (i : Int) < (n : Int) := by omega
 co_held (termsL Shun B) (drawL Shun B) ownDrawL (S38 b o b' o' i n x a a' xs E) (S38.rely hE) hF
 co_applyP anyCH_take (termsL Shun B) (fun _ _ h r => (S38.rely hE) h r) (fun _ _ _ h r => ⟨h.1, h.2.1, h.2.2.rely hE r⟩) (i := 0) rfl (by first | kernel_rfl | decide +kernel) (by first | kernel_rfl | decide +kernel) (by first | kernel_rfl | decide +kernel) (.inl ⟨by rfl, fun _ hw => ⟨run_eq_of ?run1, ?guar1⟩⟩) hF ?rest1
 case run1 =>
  intro K hK
  go_simp
  exact hK
 case guar1 =>
  co_quiet (termsL Shun B)
 try walk_nrm
 co_applyP anyCH_take (termsL Shun B) (fun _ _ h r => (S38.rely hE) h r) (fun _ _ _ h r => ⟨h.1, h.2.1, h.2.2.rely hE r⟩) (i := 1) rfl (by first | kernel_rfl | decide +kernel) (by first | kernel_rfl | decide +kernel) (by first | kernel_rfl | decide +kernel) (.inl ⟨by rfl, fun _ hw => ⟨run_eq_of ?run2, ?guar2⟩⟩) hF ?rest2
 case run2 =>
  intro K hK
  go_simp
  exact hK
 case guar2 =>
  co_quiet (termsL Shun B)
 try walk_nrm
 co_applyP anyCH_take (termsL Shun B) (fun _ _ h r => (S38.rely hE) h r) (fun _ _ _ h r => ⟨h.1, h.2.1, h.2.2.rely hE r⟩) (i := 2) rfl (by first | kernel_rfl | decide +kernel) (by first | kernel_rfl | decide +kernel) (by first | kernel_rfl | decide +kernel) (.inl ⟨by rfl, fun _ hw => ⟨run_eq_of ?run3, ?guar3⟩⟩) hF ?rest3
 case run3 =>
  intro K hK
  go_simp
  exact hK
 case guar3 =>
  co_still (termsL Shun B)
 try walk_nrm
 co_applyP anyCH_take (termsL Shun B) (fun _ _ h r => (S38.rely hE) h r) (fun _ _ _ h r => ⟨h.1, h.2.1, h.2.2.rely hE r⟩) (i := 3) rfl (by first | kernel_rfl | decide +kernel) (by first | kernel_rfl | decide +kernel) (by first | kernel_rfl | decide +kernel) (.inl ⟨by rfl, fun _ hw => ⟨run_eq_of ?run4, ?guar4⟩⟩) hF ?rest4
 case run4 =>
  intro K hK
  have hc := hw.c
  go_simp
  exact hK
 case guar4 =>
  have hc := hw.c
  co_evs (exact evL_cell _ _ (h1 _ rfl) h2)
 try walk_nrm
 co_applyP anyCH_take (termsL Shun B) (fun _ _ h r => (S38.rely hE) h r) (fun _ _ _ h r => ⟨h.1, h.2.1, h.2.2.rely hE r⟩) (i := 4) rfl (by first | kernel_rfl | decide +kernel) (by first | kernel_rfl | decide +kernel) (by first | kernel_rfl | decide +kernel) (.inl ⟨by rfl, fun _ hw => ⟨run_eq_of ?run5, ?guar5⟩⟩) hF ?rest5
 case run5 =>
  intro K hK
  go_simp
  exact hK
 case guar5 =>
  co_quiet (termsL Shun B)
 try walk_nrm
 co_applyP anyCH_take (termsL Shun B) (fun _ _ h r => (S38.rely hE) h r) (fun _ _ _ h r => ⟨h.1, h.2.1, h.2.2.rely hE r⟩) (i := 5) rfl (by first | kernel_rfl | decide +kernel) (by first | kernel_rfl | decide +kernel) (by first | kernel_rfl | decide +kernel) (.inl ⟨by rfl, fun _ hw => ⟨run_eq_of ?run6, ?guar6⟩⟩) hF ?rest6
 case run6 =>
  intro K hK
  go_simp
  exact hK
 case guar6 =>
  co_quiet (termsL Shun B)
 try walk_nrm
 co_applyP anyCH_take (termsL Shun B) (fun _ _ h r => (S38.rely hE) h r) (fun _ _ _ h r => ⟨h.1, h.2.1, h.2.2.rely hE r⟩) (i := 6) rfl (by first | kernel_rfl | decide +kernel) (by first | kernel_rfl | decide +kernel) (by first | kernel_rfl | decide +kernel) (.inl ⟨by rfl, fun _ hw => ⟨run_eq_of ?run7, ?guar7⟩⟩) hF ?rest7
 case run7 =>
  intro K hK
  go_simp
  exact hK
 case guar7 =>
  co_still (termsL Shun B)
 try walk_nrm
 co_applyP anyCH_take (termsL Shun B) (fun _ _ h r => (S38.rely hE) h r) (fun _ _ _ h r => ⟨h.1, h.2.1, h.2.2.rely hE r⟩) (i := 7) rfl (by first | kernel_rfl | decide +kernel) (by first | kernel_rfl | decide +kernel) (by first | kernel_rfl | decide +kernel) (.inl ⟨by rfl, fun _ hw => ⟨run_eq_of ?run8, ?guar8⟩⟩) hF ?rest8
 case run8 =>
  intro K hK
  have hc := hw.c'
  go_simp
  exact hK
 case guar8 =>
  have hc := hw.c'
  co_evs (exact evL_cell _ _ (h3 _ rfl) h4)
 try walk_nrm
 co_applyP anyCH_take (termsL Shun B) (fun _ _ h r => (S38.rely hE) h r) (fun _ _ _ h r => ⟨h.1, h.2.1, h.2.2.rely hE r⟩) (i := 8) rfl (by first | kernel_rfl | decide +kernel) (by first | kernel_rfl | decide +kernel) (by first | kernel_rfl | decide +kernel) (.inl ⟨by rfl, fun _ hw => ⟨run_eq_of ?run9, ?guar9⟩⟩) hF ?rest9
 case run9 =>
  intro K hK
  go_simp
  exact hK
 case guar9 =>
  co_quiet (termsL Shun B)
 try walk_nrm
 co_done
 exact ⟨trivial, by simp, hF⟩
set_option maxRecDepth 100000 in
set_option maxHeartbeats 4000000 in
theorem head38 {cap cap' : Nat} (hn : n < 9223372036854775808) (ho : OkRow Shun B a n) (ho' : OkRow Shun B a' n) :
  ∀ r i, i + r = n → ∀ (T : Array Value) (w : World), T.size = 26 → T[0]? = some (.slice a n cap) → T[1]? = some (.slice a' n cap') → T[5]? = some (.int .i64 i) → (RowT a n xs w ∧ RowT a' n xs w ∧ Back Post Shun B b₀ a₀ ops₀ i₀ rest₀ k₀ cs (.bool true) w) →
   EndsF Try.prog Post Shun B (Go.Conc.G (b38.at ⟨T, []⟩ [.code L38, .inLoop L38, .inBlock 0, .code K38]) (b₀.at a₀ (.inRegion ops₀ (i₀ :: rest₀) :: k₀) :: cs)) w := by
 have rl : ∀ {w w₁ : World}, (RowT a n xs w ∧ RowT a' n xs w ∧ Back Post Shun B b₀ a₀ ops₀ i₀ rest₀ k₀ cs (.bool true) w) → AtRel w w₁ → (RowT a n xs w₁ ∧ RowT a' n xs w₁ ∧ Back Post Shun B b₀ a₀ ops₀ i₀ rest₀ k₀ cs (.bool true) w₁) := fun h r => by
  have := EndsF.rely h.2.2 r
  obtain ⟨d, rfl⟩ := r
  exact ⟨h.1, h.2.1, this⟩
 intro r
 induction r with
 | zero =>
  intro i hi T w hs t0 t1 t5 hF
  obtain rfl : i = n := by omega
  obtain ⟨v0, v1, v2, v3, v4, v5, v6, v7, v8, v9, v10, v11, v12, v13, v14, v15, v16, v17, v18, v19, v20, v21, v22, v23, v24, v25, rfl⟩ := array26 T hs
  simp only [List.getElem?_toArray, List.getElem?_cons_zero, List.getElem?_cons_succ, Option.some.injEq] at t0 t1 t5
  subst t0 t1 t5
  simp only [L38, K38, Try.f38]
  have hlt : ¬ (i : Int) < (i : Int) := by omega
  iterate 2
   refine EndsF.step rfl (fun _ h₁ => ?_)
   replace hF := rl hF h₁
   clear h₁
   rw [stepG_seq]
   simp only [goes_go]
   refine ⟨de_nil, ?_⟩
  refine EndsF.step rfl (fun _ h₁ => ?_)
  replace hF := rl hF h₁
  clear h₁
  rw [stepG_region]
  simp only [goes_go, List.size_toArray, List.length_cons, List.length_nil, Nat.reduceAdd, Nat.zero_add, List.range, List.range.loop]
  refine ⟨de_nil, ?_⟩
  iterate 4
   refine EndsF.step rfl (fun _ h₁ => ?_)
   replace hF := rl hF h₁
   clear h₁
   refine goes_oper_k rfl rfl (by k_ne) (fun K hK => ?_)
   go_simp
   refine hK _ _ ⟨?_, ?_⟩
   ·refine de_none ?_
    intro ex hex
    have hm := mem_listed hex
    simp [go_sem, *] at hm
   clear hK K
   try w_num
  refine EndsF.step rfl (fun _ h₁ => ?_)
  replace hF := rl hF h₁
  clear h₁
  rw [stepG_region_end]
  simp only [goes_go]
  refine ⟨de_nil, ?_⟩
  refine EndsF.step rfl (fun _ h₁ => ?_)
  replace hF := rl hF h₁
  clear h₁
  rw [stepG_cond (t := false) rfl]
  simp only [goes_go, if_true, if_false, Bool.false_eq_true, ↓reduceIte]
  refine ⟨de_nil, ?_⟩
  refine EndsF.step rfl (fun _ h₁ => ?_)
  replace hF := rl hF h₁
  clear h₁
  refine goes_exit rfl ?_
  refine ⟨de_nil, ?_⟩
  refine EndsF.step rfl (fun _ h₁ => ?_)
  replace hF := rl hF h₁
  clear h₁
  rw [stepG_seq]
  simp only [goes_go]
  refine ⟨de_nil, ?_⟩
  refine EndsF.step rfl (fun _ h₁ => ?_)
  replace hF := rl hF h₁
  clear h₁
  rw [stepG_region]
  simp only [goes_go, List.size_toArray, List.length_cons, List.length_nil, Nat.reduceAdd, Nat.zero_add, List.range, List.range.loop]
  refine ⟨de_nil, ?_⟩
  refine EndsF.step rfl (fun _ h₁ => ?_)
  replace hF := rl hF h₁
  clear h₁
  refine goes_oper_k rfl rfl (by k_ne) (fun K hK => ?_)
  go_simp
  refine hK _ _ ⟨?_, ?_⟩
  ·refine de_none ?_
   intro ex hex
   have hm := mem_listed hex
   simp [go_sem, *] at hm
  clear hK K
  try w_num
  refine EndsF.step rfl (fun _ h₁ => ?_)
  replace hF := rl hF h₁
  clear h₁
  rw [stepG_region_end]
  simp only [goes_go]
  refine ⟨de_nil, ?_⟩
  refine EndsF.step rfl (fun _ h₁ => ?_)
  replace hF := rl hF h₁
  clear h₁
  rw [stepG_ret']
  simp only [goes_go]
  refine ⟨de_nil, ?_⟩
  refine EndsF.step rfl (fun _ h₁ => ?_)
  replace hF := rl hF h₁
  clear h₁
  refine goes_leave1 rfl rfl Try.func38 rfl ⟨de_nil, ?_⟩
  walk_nrm
  exact hF.2.2
 | succ r ih =>
  intro i hi T w hs t0 t1 t5 hF
  obtain ⟨v0, v1, v2, v3, v4, v5, v6, v7, v8, v9, v10, v11, v12, v13, v14, v15, v16, v17, v18, v19, v20, v21, v22, v23, v24, v25, rfl⟩ := array26 T hs
  simp only [List.getElem?_toArray, List.getElem?_cons_zero, List.getElem?_cons_succ, Option.some.injEq] at t0 t1 t5
  subst t0 t1 t5
  have ih' := ih (i + 1) (by omega)
  clear ih
  obtain ⟨b, o, rfl, hc⟩ := hF.1 i (by omega)
  obtain ⟨b', o', rfl, hc'⟩ := hF.2.1 i (by omega)
  clear hc hc'
  simp only [L38, K38, Try.f38] at ih' ⊢
  have hlt : (i : Int) < (n : Int) := by omega
  have hw : IntKind.i64.wrap ((i : Int) + 1) = ((i + 1 : Nat) : Int) := by rw [IntKind.wrap_i64]; omega
  iterate 2
   refine EndsF.step rfl (fun _ h₁ => ?_)
   replace hF := rl hF h₁
   clear h₁
   rw [stepG_seq]
   simp only [goes_go]
   refine ⟨de_nil, ?_⟩
  refine EndsF.step rfl (fun _ h₁ => ?_)
  replace hF := rl hF h₁
  clear h₁
  rw [stepG_region]
  simp only [goes_go, List.size_toArray, List.length_cons, List.length_nil, Nat.reduceAdd, Nat.zero_add, List.range, List.range.loop]
  refine ⟨de_nil, ?_⟩
  iterate 4
   refine EndsF.step rfl (fun _ h₁ => ?_)
   replace hF := rl hF h₁
   clear h₁
   refine goes_oper_k rfl rfl (by k_ne) (fun K hK => ?_)
   go_simp
   refine hK _ _ ⟨?_, ?_⟩
   ·refine de_none ?_
    intro ex hex
    have hm := mem_listed hex
    simp [go_sem, *] at hm
   clear hK K
   try w_num
  refine EndsF.step rfl (fun _ h₁ => ?_)
  replace hF := rl hF h₁
  clear h₁
  rw [stepG_region_end]
  simp only [goes_go]
  refine ⟨de_nil, ?_⟩
  refine EndsF.step rfl (fun _ h₁ => ?_)
  replace hF := rl hF h₁
  clear h₁
  rw [stepG_cond (t := true) rfl]
  simp only [goes_go, if_true, if_false, Bool.false_eq_true, ↓reduceIte]
  refine ⟨de_nil, ?_⟩
  refine EndsF.step rfl (fun _ h₁ => ?_)
  replace hF := rl hF h₁
  clear h₁
  rw [stepG_skip]
  simp only [goes_go]
  refine ⟨de_nil, ?_⟩
  refine EndsF.step rfl (fun _ h₁ => ?_)
  replace hF := rl hF h₁
  clear h₁
  rw [stepG_seq]
  simp only [goes_go]
  refine ⟨de_nil, ?_⟩
  refine EndsF.step rfl (fun _ h₁ => ?_)
  replace hF := rl hF h₁
  clear h₁
  rw [stepG_block]
  simp only [goes_go]
  refine ⟨de_nil, ?_⟩
  refine EndsF.step rfl (fun _ h₁ => ?_)
  replace hF := rl hF h₁
  clear h₁
  rw [stepG_seq]
  simp only [goes_go]
  refine ⟨de_nil, ?_⟩
  rename_i w1
  obtain ⟨b1, o1, e1, hc⟩ := hF.1 i (by omega)
  cases e1
  obtain ⟨b2, o2, e2, hc'⟩ := hF.2.1 i (by omega)
  cases e2
  obtain ⟨m, hm⟩ := texts_region (a := some ⟨b, o, none⟩) (a' := some ⟨b', o', none⟩) (xs := xs) (x := xs i) (cap := cap) (cap' := cap') (E := fun w => Back Post Shun B b₀ a₀ ops₀ i₀ rest₀ k₀ cs (.bool true) w) (Shun := Shun) (B := B) (fun _ _ h r => EndsF.rely h r) (show i < n by omega) (ho (by omega) _ rfl).1 (ho (by omega) _ rfl).2 (ho' (by omega) _ rfl).1 (ho' (by omega) _ rfl).2
  refine EndsF.of_goes (D := DE (EvL Shun B)) (n := 0 + m) (fun _ _ _ h => h) (wpC_goes (hm w1 ⟨hF.1, hF.2.1, hc, hc', hF.2.2⟩) rfl (by k_ne) ?_)
  rintro ex ac w2 ⟨rfl, rfl, hS⟩
  clear hF hc hc' hm
  have hF := And.intro hS.r (And.intro hS.r' hS.e)
  clear hS
  refine fun w₁ h₁ => EndsF.rely ?_ h₁
  clear h₁ w₁
  refine EndsF.step rfl (fun _ h₁ => ?_)
  replace hF := rl hF h₁
  clear h₁
  rw [stepG_cond (t := false) rfl]
  simp only [goes_go, if_true, if_false, Bool.false_eq_true, ↓reduceIte]
  refine ⟨de_nil, ?_⟩
  refine EndsF.step rfl (fun _ h₁ => ?_)
  replace hF := rl hF h₁
  clear h₁
  rw [stepG_skip]
  simp only [goes_go]
  refine ⟨de_nil, ?_⟩
  refine EndsF.step rfl (fun _ h₁ => ?_)
  replace hF := rl hF h₁
  clear h₁
  rw [stepG_inBlock]
  simp only [goes_go]
  refine ⟨de_nil, ?_⟩
  refine EndsF.step rfl (fun _ h₁ => ?_)
  replace hF := rl hF h₁
  clear h₁
  rw [stepG_region]
  simp only [goes_go, List.size_toArray, List.length_cons, List.length_nil, Nat.reduceAdd, Nat.zero_add, List.range, List.range.loop]
  refine ⟨de_nil, ?_⟩
  iterate 3
   refine EndsF.step rfl (fun _ h₁ => ?_)
   replace hF := rl hF h₁
   clear h₁
   refine goes_oper_k rfl rfl (by k_ne) (fun K hK => ?_)
   go_simp
   refine hK _ _ ⟨?_, ?_⟩
   ·refine de_none ?_
    intro ex hex
    have hm := mem_listed hex
    simp [go_sem, *] at hm
   clear hK K
   try w_num
  refine EndsF.step rfl (fun _ h₁ => ?_)
  replace hF := rl hF h₁
  clear h₁
  rw [stepG_region_end]
  simp only [goes_go]
  refine ⟨de_nil, ?_⟩
  refine EndsF.step rfl (fun _ h₁ => ?_)
  replace hF := rl hF h₁
  clear h₁
  rw [stepG_inLoop]
  simp only [goes_go]
  refine ⟨de_nil, ?_⟩
  exact ih' _ _ (by simp) (by simp) (by simp) (by simp) hF
set_option maxRecDepth 100000 in
theorem texts_ends {cap cap' : Nat} (hn : n < 9223372036854775808) (ho : OkRow Shun B a n) (ho' : OkRow Shun B a' n) (hF : RowT a n xs w ∧ RowT a' n xs w ∧ Back Post Shun B b₀ a₀ ops₀ i₀ rest₀ k₀ cs (.bool true) w) :
  EndsF Try.prog Post Shun B (Go.Conc.G (b38.at ⟨#[.slice a n cap, .slice a' n cap', undef, undef, undef, undef, undef, undef, undef, undef, undef, undef, undef, undef, undef, undef, undef, undef, undef, undef, undef, undef, undef, undef, undef, undef], []⟩ [.code body38]) (b₀.at a₀ (.inRegion ops₀ (i₀ :: rest₀) :: k₀) :: cs)) w := by
 have rl : ∀ {w w₁ : World}, (RowT a n xs w ∧ RowT a' n xs w ∧ Back Post Shun B b₀ a₀ ops₀ i₀ rest₀ k₀ cs (.bool true) w) → AtRel w w₁ → (RowT a n xs w₁ ∧ RowT a' n xs w₁ ∧ Back Post Shun B b₀ a₀ ops₀ i₀ rest₀ k₀ cs (.bool true) w₁) := fun h r => by
  have := EndsF.rely h.2.2 r
  obtain ⟨d, rfl⟩ := r
  exact ⟨h.1, h.2.1, this⟩
 have hA := head38 (Post := Post) (cap := cap) (cap' := cap') (xs := xs) (b₀ := b₀) (a₀ := a₀) (ops₀ := ops₀) (i₀ := i₀) (rest₀ := rest₀) (k₀ := k₀) (cs := cs) hn ho ho' n 0 (by omega)
 simp only [L38, K38, body38, Try.f38, Option.getD_some] at hA ⊢
 have hne : ¬ ((n : Int) ≠ (n : Int)) := by omega
 refine EndsF.step rfl (fun _ h₁ => ?_)
 replace hF := rl hF h₁
 clear h₁
 rw [stepG_seq]
 simp only [goes_go]
 refine ⟨de_nil, ?_⟩
 refine EndsF.step rfl (fun _ h₁ => ?_)
 replace hF := rl hF h₁
 clear h₁
 rw [stepG_region]
 simp only [goes_go, List.size_toArray, List.length_cons, List.length_nil, Nat.reduceAdd, Nat.zero_add, List.range, List.range.loop]
 refine ⟨de_nil, ?_⟩
 refine EndsF.step rfl (fun _ h₁ => ?_)
 replace hF := rl hF h₁
 clear h₁
 refine goes_oper_k rfl rfl (by k_ne) (fun K hK => ?_)
 go_simp
 refine hK _ _ ⟨?_, ?_⟩
 ·refine de_none ?_
  intro ex hex
  have hm := mem_listed hex
  simp [go_sem, *] at hm
 clear hK K
 try w_num
 refine EndsF.step rfl (fun _ h₁ => ?_)
 replace hF := rl hF h₁
 clear h₁
 rw [stepG_region_end]
 iterate 2
  simp only [goes_go]
  refine ⟨de_nil, ?_⟩
  refine EndsF.step rfl (fun _ h₁ => ?_)
  replace hF := rl hF h₁
  clear h₁
  rw [stepG_seq]
 simp only [goes_go]
 refine ⟨de_nil, ?_⟩
 refine EndsF.step rfl (fun _ h₁ => ?_)
 replace hF := rl hF h₁
 clear h₁
 rw [stepG_region]
 simp only [goes_go, List.size_toArray, List.length_cons, List.length_nil, Nat.reduceAdd, Nat.zero_add, List.range, List.range.loop]
 refine ⟨de_nil, ?_⟩
 iterate 5
  refine EndsF.step rfl (fun _ h₁ => ?_)
  replace hF := rl hF h₁
  clear h₁
  refine goes_oper_k rfl rfl (by k_ne) (fun K hK => ?_)
  go_simp
  refine hK _ _ ⟨?_, ?_⟩
  ·refine de_none ?_
   intro ex hex
   have hm := mem_listed hex
   simp [go_sem, *] at hm
  clear hK K
  try w_num
 refine EndsF.step rfl (fun _ h₁ => ?_)
 replace hF := rl hF h₁
 clear h₁
 rw [stepG_region_end]
 simp only [goes_go]
 refine ⟨de_nil, ?_⟩
 refine EndsF.step rfl (fun _ h₁ => ?_)
 replace hF := rl hF h₁
 clear h₁
 rw [stepG_cond (t := false) rfl]
 simp only [goes_go, if_true, if_false, Bool.false_eq_true, ↓reduceIte]
 refine ⟨de_nil, ?_⟩
 refine EndsF.step rfl (fun _ h₁ => ?_)
 replace hF := rl hF h₁
 clear h₁
 rw [stepG_skip]
 iterate 2
  simp only [goes_go]
  refine ⟨de_nil, ?_⟩
  refine EndsF.step rfl (fun _ h₁ => ?_)
  replace hF := rl hF h₁
  clear h₁
  rw [stepG_seq]
 simp only [goes_go]
 refine ⟨de_nil, ?_⟩
 refine EndsF.step rfl (fun _ h₁ => ?_)
 replace hF := rl hF h₁
 clear h₁
 rw [stepG_region]
 simp only [goes_go, List.size_toArray, List.length_cons, List.length_nil, Nat.reduceAdd, Nat.zero_add, List.range, List.range.loop]
 refine ⟨de_nil, ?_⟩
 refine EndsF.step rfl (fun _ h₁ => ?_)
 replace hF := rl hF h₁
 clear h₁
 refine goes_oper_k rfl rfl (by k_ne) (fun K hK => ?_)
 go_simp
 refine hK _ _ ⟨?_, ?_⟩
 ·refine de_none ?_
  intro ex hex
  have hm := mem_listed hex
  simp [go_sem, *] at hm
 clear hK K
 try w_num
 refine EndsF.step rfl (fun _ h₁ => ?_)
 replace hF := rl hF h₁
 clear h₁
 rw [stepG_region_end]
 simp only [goes_go]
 refine ⟨de_nil, ?_⟩
 refine EndsF.step rfl (fun _ h₁ => ?_)
 replace hF := rl hF h₁
 clear h₁
 rw [stepG_block]
 simp only [goes_go]
 refine ⟨de_nil, ?_⟩
 refine EndsF.step rfl (fun _ h₁ => ?_)
 replace hF := rl hF h₁
 clear h₁
 rw [stepG_loop]
 simp only [goes_go]
 refine ⟨de_nil, ?_⟩
 exact hA _ _ (by simp) (by simp) (by simp) (by simp) hF
end
end Go.Pool
end
