/- A part of the proof of CrewDigestsUpto (no statement of its own): Cr12, Cr13. -/
import Derived.Test.YthkaigokcognmaaM23
section
set_option linter.unusedSimpArgs false
namespace Go.Pool
open Go.Conc Go.RowKit Go.Proofs Go.ConcN Go.Conc.Lib Go.ConcR.Gen Go.ConcN.Gen
open Go.ConcR (KK wgBlock WgAt stA smA rd wr mk DC0)
noncomputable def body31 : Code := Try.f31.body.getD .skip
theorem nm31 : (Try.f31.name == "runtime.NumGoroutine") = false := by kernel_rfl
noncomputable def L31 : Code := match Try.f31.body with
 | some (.seq _ (.seq _ (.seq (.seq _ (.block _ (.loop c))) _))) => c
 | _ => .skip
noncomputable def K31 : Code := match Try.f31.body with
 | some (.seq _ (.seq _ (.seq _ c))) => c
 | _ => .skip
noncomputable def ops31 : Array Oper := match L31 with
 | .seq _ (.seq (.block _ (.seq (.region _ ops _) _)) _) => ops
 | _ => #[]
def b31 : Frame := base 31
abbrev RowIn (a : Option Addr) (n : Nat) (xs : Nat → Int) (w : World) : Prop := ∀ k, k < n → ∃ b o, a = some ⟨b, o, none⟩ ∧ w.cell? ⟨b, o + k, none⟩ = some (.int .i64 (xs k))
abbrev OkRow (Shun : Loc → Prop) (B : Nat) (a : Option Addr) (n : Nat) : Prop := 0 < n → ∀ ad : Addr, a = some ad → (∀ x : Addr, x.block = ad.block → ¬ Shun (.cell x)) ∧ ad.block < B
structure S31 (b o b' o' i n : Nat) (x : Int) (a a' : Option Addr) (xs : Nat → Int) (E : World → Prop) (w : World) : Prop where
 r : RowIn a n xs w
 r' : RowIn a' n xs w
 c : w.cell? ⟨b, o + i, none⟩ = some (.int .i64 x)
 c' : w.cell? ⟨b', o' + i, none⟩ = some (.int .i64 x)
 e : E w
theorem S31.rely {b o b' o' i n : Nat} {x : Int} {a a' : Option Addr} {xs : Nat → Int} {E : World → Prop} (hE : ∀ w w₁, E w → AtRel w w₁ → E w₁) {w w₁ : World} (h : S31 b o b' o' i n x a a' xs E w) (r : AtRel w w₁) : S31 b o b' o' i n x a a' xs E w₁ := by
 have he := hE _ _ h.e r
 obtain ⟨d, rfl⟩ := r
 exact ⟨h.r, h.r', h.c, h.c', he⟩
theorem array26 (T : Array Value) (h : T.size = 26) : ∃ v0 v1 v2 v3 v4 v5 v6 v7 v8 v9 v10 v11 v12 v13 v14 v15 v16 v17 v18 v19 v20 v21 v22 v23 v24 v25, T = #[v0, v1, v2, v3, v4, v5, v6, v7, v8, v9, v10, v11, v12, v13, v14, v15, v16, v17, v18, v19, v20, v21, v22, v23, v24, v25] :=
 ⟨T[0], T[1], T[2], T[3], T[4], T[5], T[6], T[7], T[8], T[9], T[10], T[11], T[12], T[13], T[14], T[15], T[16], T[17], T[18], T[19], T[20], T[21], T[22], T[23], T[24], T[25], by
  apply Array.ext (by simp [h])
  intro i h1 h2
  have hi : i < 26 := by omega
  iterate 26 (rcases i with _ | i; · rfl)
  omega⟩
theorem ownDrawL (w : World) : AtRel w { w with drawn := w.drawn + 1 } := ⟨_, rfl⟩
section
variable {Post : Value → World → Prop} {Shun : Loc → Prop} {B : Nat} {w : World} {n : Nat} {a a' : Option Addr} {xs : Nat → Int}
  {b₀ : Frame} {a₀ : Act} {ops₀ : Array Oper} {i₀ : Nat} {rest₀ : List Nat} {k₀ : List Item} {cs : List Frame}
set_option maxRecDepth 100000 in
set_option maxHeartbeats 4000000 in
theorem same_region {E : World → Prop} (hE : ∀ w w₁, E w → AtRel w w₁ → E w₁) {b o b' o' i cap cap' : Nat} {x : Int} (hi : i < n) (h1 : ∀ y : Addr, y.block = b → ¬ Shun (.cell y)) (h2 : b < B) (h3 : ∀ y : Addr, y.block = b' → ¬ Shun (.cell y)) (h4 : b' < B)
  {v2 v3 v4 v6 v7 v8 v9 v10 v11 v12 v13 v14 v15 v16 v17 v18 v19 v20 v21 v22 v23 v24 v25 : Value} {id : Nat} :
  ∃ m, ∀ w, S31 b o b' o' i n x a a' xs E w → (Code.region id ops31 true).wpC Try.prog true AtRel (DE (EvL Shun B)) 31 m
   (fun ex ac w' => ex = .normal ∧ ac = ⟨#[.slice (some ⟨b, o, none⟩) n cap, .slice (some ⟨b', o', none⟩) n cap', v2, v3, v4, .int .i64 i, v6, v7, v8, v9, v10, v11, v12, v13, v14, v15, v16, .slice (some ⟨b, o, none⟩) n cap, .int .i64 i, .pointer (some ⟨b, o + i, none⟩), .int .i64 x, .slice (some ⟨b', o', none⟩) n cap', .int .i64 i, .pointer (some ⟨b', o' + i, none⟩), .int .i64 x, .bool false], []⟩ ∧ S31 b o b' o' i n x a a' xs E w')
   ⟨#[.slice (some ⟨b, o, none⟩) n cap, .slice (some ⟨b', o', none⟩) n cap', v2, v3, v4, .int .i64 i, v6, v7, v8, v9, v10, v11, v12, v13, v14, v15, v16, v17, v18, v19, v20, v21, v22, v23, v24, v25], []⟩ w := by
 co_apply Exists.intro
 intro w hF
 simp only [ops31, L31, Try.f31]
 have hlt : (i : Int) < (n : Int) := by omega
 co_held (termsL Shun B) (drawL Shun B) ownDrawL (S31 b o b' o' i n x a a' xs E) (S31.rely hE) hF
 co_applyP anyCH_take (termsL Shun B) (fun _ _ h r => (S31.rely hE) h r) (fun _ _ _ h r => ⟨h.1, h.2.1, h.2.2.rely hE r⟩) (i := 0) rfl (by first | kernel_rfl | decide +kernel) (by first | kernel_rfl | decide +kernel) (by first | kernel_rfl | decide +kernel) (.inl ⟨by rfl, fun _ hw => ⟨run_eq_of ?run1, ?guar1⟩⟩) hF ?rest1
 case run1 =>
  intro K hK
  go_simp
  exact hK
 case guar1 =>
  co_quiet (termsL Shun B)
 try walk_nrm
 co_applyP anyCH_take (termsL Shun B) (fun _ _ h r => (S31.rely hE) h r) (fun _ _ _ h r => ⟨h.1, h.2.1, h.2.2.rely hE r⟩) (i := 1) rfl (by first | kernel_rfl | decide +kernel) (by first | kernel_rfl | decide +kernel) (by first | kernel_rfl | decide +kernel) (.inl ⟨by rfl, fun _ hw => ⟨run_eq_of ?run2, ?guar2⟩⟩) hF ?rest2
 case run2 =>
  intro K hK
  go_simp
  exact hK
 case guar2 =>
  co_quiet (termsL Shun B)
 try walk_nrm
 co_applyP anyCH_take (termsL Shun B) (fun _ _ h r => (S31.rely hE) h r) (fun _ _ _ h r => ⟨h.1, h.2.1, h.2.2.rely hE r⟩) (i := 2) rfl (by first | kernel_rfl | decide +kernel) (by first | kernel_rfl | decide +kernel) (by first | kernel_rfl | decide +kernel) (.inl ⟨by rfl, fun _ hw => ⟨run_eq_of ?run3, ?guar3⟩⟩) hF ?rest3
 case run3 =>
  intro K hK
  go_simp
  exact hK
 case guar3 =>
  co_still (termsL Shun B)
 try walk_nrm
 co_applyP anyCH_take (termsL Shun B) (fun _ _ h r => (S31.rely hE) h r) (fun _ _ _ h r => ⟨h.1, h.2.1, h.2.2.rely hE r⟩) (i := 3) rfl (by first | kernel_rfl | decide +kernel) (by first | kernel_rfl | decide +kernel) (by first | kernel_rfl | decide +kernel) (.inl ⟨by rfl, fun _ hw => ⟨run_eq_of ?run4, ?guar4⟩⟩) hF ?rest4
 case run4 =>
  intro K hK
  have hc := hw.c
  go_simp
  exact hK
 case guar4 =>
  have hc := hw.c
  co_evs (exact evL_cell _ _ (h1 _ rfl) h2)
 try walk_nrm
 co_applyP anyCH_take (termsL Shun B) (fun _ _ h r => (S31.rely hE) h r) (fun _ _ _ h r => ⟨h.1, h.2.1, h.2.2.rely hE r⟩) (i := 4) rfl (by first | kernel_rfl | decide +kernel) (by first | kernel_rfl | decide +kernel) (by first | kernel_rfl | decide +kernel) (.inl ⟨by rfl, fun _ hw => ⟨run_eq_of ?run5, ?guar5⟩⟩) hF ?rest5
 case run5 =>
  intro K hK
  go_simp
  exact hK
 case guar5 =>
  co_quiet (termsL Shun B)
 try walk_nrm
 co_applyP anyCH_take (termsL Shun B) (fun _ _ h r => (S31.rely hE) h r) (fun _ _ _ h r => ⟨h.1, h.2.1, h.2.2.rely hE r⟩) (i := 5) rfl (by first | kernel_rfl | decide +kernel) (by first | kernel_rfl | decide +kernel) (by first | kernel_rfl | decide +kernel) (.inl ⟨by rfl, fun _ hw => ⟨run_eq_of ?run6, ?guar6⟩⟩) hF ?rest6
 case run6 =>
  intro K hK
  go_simp
  exact hK
 case guar6 =>
  co_quiet (termsL Shun B)
 try walk_nrm
 co_applyP anyCH_take (termsL Shun B) (fun _ _ h r => (S31.rely hE) h r) (fun _ _ _ h r => ⟨h.1, h.2.1, h.2.2.rely hE r⟩) (i := 6) rfl (by first | kernel_rfl | decide +kernel) (by first | kernel_rfl | decide +kernel) (by first | kernel_rfl | decide +kernel) (.inl ⟨by rfl, fun _ hw => ⟨run_eq_of ?run7, ?guar7⟩⟩) hF ?rest7
 case run7 =>
  intro K hK
  go_simp
  exact hK
 case guar7 =>
  co_still (termsL Shun B)
 try walk_nrm
 co_applyP anyCH_take (termsL Shun B) (fun _ _ h r => (S31.rely hE) h r) (fun _ _ _ h r => ⟨h.1, h.2.1, h.2.2.rely hE r⟩) (i := 7) rfl (by first | kernel_rfl | decide +kernel) (by first | kernel_rfl | decide +kernel) (by first | kernel_rfl | decide +kernel) (.inl ⟨by rfl, fun _ hw => ⟨run_eq_of ?run8, ?guar8⟩⟩) hF ?rest8
 case run8 =>
  intro K hK
  have hc := hw.c'
  go_simp
  exact hK
 case guar8 =>
  have hc := hw.c'
  co_evs (exact evL_cell _ _ (h3 _ rfl) h4)
 try walk_nrm
 co_applyP anyCH_take (termsL Shun B) (fun _ _ h r => (S31.rely hE) h r) (fun _ _ _ h r => ⟨h.1, h.2.1, h.2.2.rely hE r⟩) (i := 8) rfl (by first | kernel_rfl | decide +kernel) (by first | kernel_rfl | decide +kernel) (by first | kernel_rfl | decide +kernel) (.inl ⟨by rfl, fun _ hw => ⟨run_eq_of ?run9, ?guar9⟩⟩) hF ?rest9
 case run9 =>
  intro K hK
  go_simp
  exact hK
 case guar9 =>
  co_quiet (termsL Shun B)
 try walk_nrm
 co_done
 exact ⟨trivial, by simp, hF⟩
set_option maxRecDepth 100000 in
set_option maxHeartbeats 4000000 in
theorem head31 {cap cap' : Nat} (hn : n < 9223372036854775808) (ho : OkRow Shun B a n) (ho' : OkRow Shun B a' n) :
  ∀ r i, i + r = n → ∀ (T : Array Value) (w : World), T.size = 26 → T[0]? = some (.slice a n cap) → T[1]? = some (.slice a' n cap') → T[5]? = some (.int .i64 i) → (RowIn a n xs w ∧ RowIn a' n xs w ∧ Back Post Shun B b₀ a₀ ops₀ i₀ rest₀ k₀ cs (.bool true) w) →
   EndsF Try.prog Post Shun B (Go.Conc.G (b31.at ⟨T, []⟩ [.code L31, .inLoop L31, .inBlock 0, .code K31]) (b₀.at a₀ (.inRegion ops₀ (i₀ :: rest₀) :: k₀) :: cs)) w := by
 have rl : ∀ {w w₁ : World}, (RowIn a n xs w ∧ RowIn a' n xs w ∧ Back Post Shun B b₀ a₀ ops₀ i₀ rest₀ k₀ cs (.bool true) w) → AtRel w w₁ → (RowIn a n xs w₁ ∧ RowIn a' n xs w₁ ∧ Back Post Shun B b₀ a₀ ops₀ i₀ rest₀ k₀ cs (.bool true) w₁) := fun h r => by
  have := EndsF.rely h.2.2 r
  obtain ⟨d, rfl⟩ := r
  exact ⟨h.1, h.2.1, this⟩
 intro r
 induction r with
 | zero =>
  intro i hi T w hs t0 t1 t5 hF
  obtain rfl : i = n := by omega
  obtain ⟨v0, v1, v2, v3, v4, v5, v6, v7, v8, v9, v10, v11, v12, v13, v14, v15, v16, v17, v18, v19, v20, v21, v22, v23, v24, v25, rfl⟩ := array26 T hs
  simp only [List.getElem?_toArray, List.getElem?_cons_zero, List.getElem?_cons_succ, Option.some.injEq] at t0 t1 t5
  subst t0 t1 t5
  simp only [L31, K31, Try.f31]
  have hlt : ¬ (i : Int) < (i : Int) := by omega
  iterate 2
   refine EndsF.step rfl (fun _ h₁ => ?_)
   replace hF := rl hF h₁
   clear h₁
   rw [stepG_seq]
   simp only [goes_go]
   refine ⟨de_nil, ?_⟩
  refine EndsF.step rfl (fun _ h₁ => ?_)
  replace hF := rl hF h₁
  clear h₁
  rw [stepG_region]
  simp only [goes_go, List.size_toArray, List.length_cons, List.length_nil, Nat.reduceAdd, Nat.zero_add, List.range, List.range.loop]
  refine ⟨de_nil, ?_⟩
  iterate 4
   refine EndsF.step rfl (fun _ h₁ => ?_)
   replace hF := rl hF h₁
   clear h₁
   refine goes_oper_k rfl rfl (by k_ne) (fun K hK => ?_)
   go_simp
   refine hK _ _ ⟨?_, ?_⟩
   ·refine de_none ?_
    intro ex hex
    have hm := mem_listed hex
    simp [go_sem, *] at hm
   clear hK K
   try w_num
  refine EndsF.step rfl (fun _ h₁ => ?_)
  replace hF := rl hF h₁
  clear h₁
  rw [stepG_region_end]
  simp only [goes_go]
  refine ⟨de_nil, ?_⟩
  refine EndsF.step rfl (fun _ h₁ => ?_)
  replace hF := rl hF h₁
  clear h₁
  rw [stepG_cond (t := false) rfl]
  simp only [goes_go, if_true, if_false, Bool.false_eq_true, ↓reduceIte]
  refine ⟨de_nil, ?_⟩
  refine EndsF.step rfl (fun _ h₁ => ?_)
  replace hF := rl hF h₁
  clear h₁
  refine goes_exit rfl ?_
  refine ⟨de_nil, ?_⟩
  refine EndsF.step rfl (fun _ h₁ => ?_)
  replace hF := rl hF h₁
  clear h₁
  rw [stepG_seq]
  simp only [goes_go]
  refine ⟨de_nil, ?_⟩
  refine EndsF.step rfl (fun _ h₁ => ?_)
  replace hF := rl hF h₁
  clear h₁
  rw [stepG_region]
  simp only [goes_go, List.size_toArray, List.length_cons, List.length_nil, Nat.reduceAdd, Nat.zero_add, List.range, List.range.loop]
  refine ⟨de_nil, ?_⟩
  refine EndsF.step rfl (fun _ h₁ => ?_)
  replace hF := rl hF h₁
  clear h₁
  refine goes_oper_k rfl rfl (by k_ne) (fun K hK => ?_)
  go_simp
  refine hK _ _ ⟨?_, ?_⟩
  ·refine de_none ?_
   intro ex hex
   have hm := mem_listed hex
   simp [go_sem, *] at hm
  clear hK K
  try w_num
  refine EndsF.step rfl (fun _ h₁ => ?_)
  replace hF := rl hF h₁
  clear h₁
  rw [stepG_region_end]
  simp only [goes_go]
  refine ⟨de_nil, ?_⟩
  refine EndsF.step rfl (fun _ h₁ => ?_)
  replace hF := rl hF h₁
  clear h₁
  rw [stepG_ret']
  simp only [goes_go]
  refine ⟨de_nil, ?_⟩
  refine EndsF.step rfl (fun _ h₁ => ?_)
  replace hF := rl hF h₁
  clear h₁
  refine goes_leave1 rfl rfl Try.func31 rfl ⟨de_nil, ?_⟩
  walk_nrm
  exact hF.2.2
 | succ r ih =>
  intro i hi T w hs t0 t1 t5 hF
  obtain ⟨v0, v1, v2, v3, v4, v5, v6, v7, v8, v9, v10, v11, v12, v13, v14, v15, v16, v17, v18, v19, v20, v21, v22, v23, v24, v25, rfl⟩ := array26 T hs
  simp only [List.getElem?_toArray, List.getElem?_cons_zero, List.getElem?_cons_succ, Option.some.injEq] at t0 t1 t5
  subst t0 t1 t5
  have ih' := ih (i + 1) (by omega)
  clear ih
  obtain ⟨b, o, rfl, hc⟩ := hF.1 i (by omega)
  obtain ⟨b', o', rfl, hc'⟩ := hF.2.1 i (by omega)
  clear hc hc'
  simp only [L31, K31, Try.f31] at ih' ⊢
  have hlt : (i : Int) < (n : Int) := by omega
  have hw : IntKind.i64.wrap ((i : Int) + 1) = ((i + 1 : Nat) : Int) := by rw [IntKind.wrap_i64]; omega
  iterate 2
   refine EndsF.step rfl (fun _ h₁ => ?_)
   replace hF := rl hF h₁
   clear h₁
   rw [stepG_seq]
   simp only [goes_go]
   refine ⟨de_nil, ?_⟩
  refine EndsF.step rfl (fun _ h₁ => ?_)
  replace hF := rl hF h₁
  clear h₁
  rw [stepG_region]
  simp only [goes_go, List.size_toArray, List.length_cons, List.length_nil, Nat.reduceAdd, Nat.zero_add, List.range, List.range.loop]
  refine ⟨de_nil, ?_⟩
  iterate 4
   refine EndsF.step rfl (fun _ h₁ => ?_)
   replace hF := rl hF h₁
   clear h₁
   refine goes_oper_k rfl rfl (by k_ne) (fun K hK => ?_)
   go_simp
   refine hK _ _ ⟨?_, ?_⟩
   ·refine de_none ?_
    intro ex hex
    have hm := mem_listed hex
    simp [go_sem, *] at hm
   clear hK K
   try w_num
  refine EndsF.step rfl (fun _ h₁ => ?_)
  replace hF := rl hF h₁
  clear h₁
  rw [stepG_region_end]
  simp only [goes_go]
  refine ⟨de_nil, ?_⟩
  refine EndsF.step rfl (fun _ h₁ => ?_)
  replace hF := rl hF h₁
  clear h₁
  rw [stepG_cond (t := true) rfl]
  simp only [goes_go, if_true, if_false, Bool.false_eq_true, ↓reduceIte]
  refine ⟨de_nil, ?_⟩
  refine EndsF.step rfl (fun _ h₁ => ?_)
  replace hF := rl hF h₁
  clear h₁
  rw [stepG_skip]
  simp only [goes_go]
  refine ⟨de_nil, ?_⟩
  refine EndsF.step rfl (fun _ h₁ => ?_)
  replace hF := rl hF h₁
  clear h₁
  rw [stepG_seq]
  simp only [goes_go]
  refine ⟨de_nil, ?_⟩
  refine EndsF.step rfl (fun _ h₁ => ?_)
  replace hF := rl hF h₁
  clear h₁
  rw [stepG_block]
  simp only [goes_go]
  refine ⟨de_nil, ?_⟩
  refine EndsF.step rfl (fun _ h₁ => ?_)
  replace hF := rl hF h₁
  clear h₁
  rw [stepG_seq]
  simp only [goes_go]
  refine ⟨de_nil, ?_⟩
  rename_i w1
  obtain ⟨b1, o1, e1, hc⟩ := hF.1 i (by omega)
  cases e1
  obtain ⟨b2, o2, e2, hc'⟩ := hF.2.1 i (by omega)
  cases e2
  obtain ⟨m, hm⟩ := same_region (a := some ⟨b, o, none⟩) (a' := some ⟨b', o', none⟩) (xs := xs) (x := xs i) (cap := cap) (cap' := cap') (E := fun w => Back Post Shun B b₀ a₀ ops₀ i₀ rest₀ k₀ cs (.bool true) w) (Shun := Shun) (B := B) (fun _ _ h r => EndsF.rely h r) (show i < n by omega) (ho (by omega) _ rfl).1 (ho (by omega) _ rfl).2 (ho' (by omega) _ rfl).1 (ho' (by omega) _ rfl).2
  refine EndsF.of_goes (D := DE (EvL Shun B)) (n := 0 + m) (fun _ _ _ h => h) (wpC_goes (hm w1 ⟨hF.1, hF.2.1, hc, hc', hF.2.2⟩) rfl (by k_ne) ?_)
  rintro ex ac w2 ⟨rfl, rfl, hS⟩
  clear hF hc hc' hm
  have hF := And.intro hS.r (And.intro hS.r' hS.e)
  clear hS
  refine fun w₁ h₁ => EndsF.rely ?_ h₁
  clear h₁ w₁
  refine EndsF.step rfl (fun _ h₁ => ?_)
  replace hF := rl hF h₁
  clear h₁
  rw [stepG_cond (t := false) rfl]
  simp only [goes_go, if_true, if_false, Bool.false_eq_true, ↓reduceIte]
  refine ⟨de_nil, ?_⟩
  refine EndsF.step rfl (fun _ h₁ => ?_)
  replace hF := rl hF h₁
  clear h₁
  rw [stepG_skip]
  simp only [goes_go]
  refine ⟨de_nil, ?_⟩
  refine EndsF.step rfl (fun _ h₁ => ?_)
  replace hF := rl hF h₁
  clear h₁
  rw [stepG_inBlock]
  simp only [goes_go]
  refine ⟨de_nil, ?_⟩
  refine EndsF.step rfl (fun _ h₁ => ?_)
  replace hF := rl hF h₁
  clear h₁
  rw [stepG_region]
  simp only [goes_go, List.size_toArray, List.length_cons, List.length_nil, Nat.reduceAdd, Nat.zero_add, List.range, List.range.loop]
  refine ⟨de_nil, ?_⟩
  iterate 3
   refine EndsF.step rfl (fun _ h₁ => ?_)
   replace hF := rl hF h₁
   clear h₁
   refine goes_oper_k rfl rfl (by k_ne) (fun K hK => ?_)
   go_simp
   refine hK _ _ ⟨?_, ?_⟩
   ·refine de_none ?_
    intro ex hex
    have hm := mem_listed hex
    simp [go_sem, *] at hm
   clear hK K
   try w_num
  refine EndsF.step rfl (fun _ h₁ => ?_)
  replace hF := rl hF h₁
  clear h₁
  rw [stepG_region_end]
  simp only [goes_go]
  refine ⟨de_nil, ?_⟩
  refine EndsF.step rfl (fun _ h₁ => ?_)
  replace hF := rl hF h₁
  clear h₁
  rw [stepG_inLoop]
  simp only [goes_go]
  refine ⟨de_nil, ?_⟩
  exact ih' _ _ (by simp) (by simp) (by simp) (by simp) hF
set_option maxRecDepth 100000 in
theorem same_ends {cap cap' : Nat} (hn : n < 9223372036854775808) (ho : OkRow Shun B a n) (ho' : OkRow Shun B a' n) (hF : RowIn a n xs w ∧ RowIn a' n xs w ∧ Back Post Shun B b₀ a₀ ops₀ i₀ rest₀ k₀ cs (.bool true) w) :
  EndsF Try.prog Post Shun B (Go.Conc.G (b31.at ⟨#[.slice a n cap, .slice a' n cap', undef, undef, undef, undef, undef, undef, undef, undef, undef, undef, undef, undef, undef, undef, undef, undef, undef, undef, undef, undef, undef, undef, undef, undef], []⟩ [.code body31]) (b₀.at a₀ (.inRegion ops₀ (i₀ :: rest₀) :: k₀) :: cs)) w := by
 have rl : ∀ {w w₁ : World}, (RowIn a n xs w ∧ RowIn a' n xs w ∧ Back Post Shun B b₀ a₀ ops₀ i₀ rest₀ k₀ cs (.bool true) w) → AtRel w w₁ → (RowIn a n xs w₁ ∧ RowIn a' n xs w₁ ∧ Back Post Shun B b₀ a₀ ops₀ i₀ rest₀ k₀ cs (.bool true) w₁) := fun h r => by
  have := EndsF.rely h.2.2 r
  obtain ⟨d, rfl⟩ := r
  exact ⟨h.1, h.2.1, this⟩
 have hA := head31 (Post := Post) (cap := cap) (cap' := cap') (xs := xs) (b₀ := b₀) (a₀ := a₀) (ops₀ := ops₀) (i₀ := i₀) (rest₀ := rest₀) (k₀ := k₀) (cs := cs) hn ho ho' n 0 (by omega)
 simp only [L31, K31, body31, Try.f31, Option.getD_some] at hA ⊢
 have hne : ¬ ((n : Int) ≠ (n : Int)) := by omega
 refine EndsF.step rfl (fun _ h₁ => ?_)
 replace hF := rl hF h₁
 clear h₁
 rw [stepG_seq]
 simp only [goes_go]
 refine ⟨de_nil, ?_⟩
 refine EndsF.step rfl (fun _ h₁ => ?_)
 replace hF := rl hF h₁
 clear h₁
 rw [stepG_region]
 simp only [goes_go, List.size_toArray, List.length_cons, List.length_nil, Nat.reduceAdd, Nat.zero_add, List.range, List.range.loop]
 refine ⟨de_nil, ?_⟩
 refine EndsF.step rfl (fun _ h₁ => ?_)
 replace hF := rl hF h₁
 clear h₁
 refine goes_oper_k rfl rfl (by k_ne) (fun K hK => ?_)
 go_simp
 refine hK _ _ ⟨?_, ?_⟩
 ·refine de_none ?_
  intro ex hex
  have hm := mem_listed hex
  simp [go_sem, *] at hm
 clear hK K
 try w_num
 refine EndsF.step rfl (fun _ h₁ => ?_)
 replace hF := rl hF h₁
 clear h₁
 rw [stepG_region_end]
 iterate 2
  simp only [goes_go]
  refine ⟨de_nil, ?_⟩
  refine EndsF.step rfl (fun _ h₁ => ?_)
  replace hF := rl hF h₁
  clear h₁
  rw [stepG_seq]
 simp only [goes_go]
 refine ⟨de_nil, ?_⟩
 refine EndsF.step rfl (fun _ h₁ => ?_)
 replace hF := rl hF h₁
 clear h₁
 rw [stepG_region]
 simp only [goes_go, List.size_toArray, List.length_cons, List.length_nil, Nat.reduceAdd, Nat.zero_add, List.range, List.range.loop]
 refine ⟨de_nil, ?_⟩
 iterate 5
  refine EndsF.step rfl (fun _ h₁ => ?_)
  replace hF := rl hF h₁
  clear h₁
  refine goes_oper_k rfl rfl (by k_ne) (fun K hK => ?_)
  go_simp
  refine hK _ _ ⟨?_, ?_⟩
  ·refine de_none ?_
   intro ex hex
   have hm := mem_listed hex
   simp [go_sem, *] at hm
  clear hK K
  try w_num
 refine EndsF.step rfl (fun _ h₁ => ?_)
 replace hF := rl hF h₁
 clear h₁
 rw [stepG_region_end]
 simp only [goes_go]
 refine ⟨de_nil, ?_⟩
 refine EndsF.step rfl (fun _ h₁ => ?_)
 replace hF := rl hF h₁
 clear h₁
 rw [stepG_cond (t := false) rfl]
 simp only [goes_go, if_true, if_false, Bool.false_eq_true, ↓reduceIte]
 refine ⟨de_nil, ?_⟩
 refine EndsF.step rfl (fun _ h₁ => ?_)
 replace hF := rl hF h₁
 clear h₁
 rw [stepG_skip]
 iterate 2
  simp only [goes_go]
  refine ⟨de_nil, ?_⟩
  refine EndsF.step rfl (fun _ h₁ => ?_)
  replace hF := rl hF h₁
  clear h₁
  rw [stepG_seq]
 simp only [goes_go]
 refine ⟨de_nil, ?_⟩
 refine EndsF.step rfl (fun _ h₁ => ?_)
 replace hF := rl hF h₁
 clear h₁
 rw [stepG_region]
 simp only [goes_go, List.size_toArray, List.length_cons, List.length_nil, Nat.reduceAdd, Nat.zero_add, List.range, List.range.loop]
 refine ⟨de_nil, ?_⟩
 refine EndsF.step rfl (fun _ h₁ => ?_)
 replace hF := rl hF h₁
 clear h₁
 refine goes_oper_k rfl rfl (by k_ne) (fun K hK => ?_)
 go_simp
 refine hK _ _ ⟨?_, ?_⟩
 ·refine de_none ?_
  intro ex hex
  have hm := mem_listed hex
  simp [go_sem, *] at hm
 clear hK K
 try w_num
 refine EndsF.step rfl (fun _ h₁ => ?_)
 replace hF := rl hF h₁
 clear h₁
 rw [stepG_region_end]
 simp only [goes_go]
 refine ⟨de_nil, ?_⟩
 refine EndsF.step rfl (fun _ h₁ => ?_)
 replace hF := rl hF h₁
 clear h₁
 rw [stepG_block]
 simp only [goes_go]
 refine ⟨de_nil, ?_⟩
 refine EndsF.step rfl (fun _ h₁ => ?_)
 replace hF := rl hF h₁
 clear h₁
 rw [stepG_loop]
 simp only [goes_go]
 refine ⟨de_nil, ?_⟩
 exact hA _ _ (by simp) (by simp) (by simp) (by simp) hF
end
end Go.Pool
end
section
set_option linter.unusedSimpArgs false
namespace Go.Pool
open Go.Conc Go.RowKit Go.Proofs Go.ConcN Go.Conc.Lib Go.ConcR.Gen Go.ConcN.Gen
open Go.ConcR (KK wgBlock WgAt stA smA rd wr mk DC0)
noncomputable def body30 : Code := Try.f30.body.getD .skip
theorem nm30 : (Try.f30.name == "runtime.NumGoroutine") = false := by kernel_rfl
theorem nm27 : (Try.f27.name == "runtime.NumGoroutine") = false := by kernel_rfl
def b30 : Frame := base 30
def xsA (k : Nat) : Int := k + 1
def ysA (k : Nat) : Int := 2 * (k + 1)
set_option maxRecDepth 100000 in
theorem fun51 {Shun : Loc → Prop} {H : Nat} {w0 : World} : FunC Shun H w0 3 (fun _ => False) (fun _ _ => True) (fun _ _ => True) 51 #[] xsA ysA := by
 intro φ _ k hk V hV _ _
 refine (f51_c (φ := φ) (k := k) (S := V) hV (xsA k)).elim fun m hm => ⟨m, fun w hw _ => ?_⟩
 refine CallsC.mono (hm w hw) fun v w' h => ⟨?_, h.2, trivial⟩
 have e : IntKind.i64.wrap (xsA k + xsA k) = ysA k := by
  rw [IntKind.wrap_i64]
  simp only [xsA, ysA]
  omega
 rw [h.1, e]
section
variable {Post : Value → World → Prop} {Shun : Loc → Prop} {B H : Nat} {w w₁ w0 : World}
  {b₀ : Frame} {a₀ : Act} {ops₀ : Array Oper} {i₀ : Nat} {rest₀ : List Nat} {k₀ : List Item} {cs : List Frame}
set_option maxRecDepth 100000 in
set_option maxHeartbeats 4000000 in
theorem awake_ends (hH : w0.heap.size = H) (hB : B ≤ H) (hSc : ∀ a : Addr, H ≤ a.block → ¬ Shun (.cell a)) (hSo : ∀ r, ¬ Shun (.obj r))
  (hnext : ∀ Shun' w', Shy2 Shun Shun' (H + 10) → Below H w0 w' → w'.heap.size = H + 12 → Back Post Shun' (H + 12) b₀ a₀ ops₀ i₀ rest₀ k₀ cs (.bool true) w') :
  EndsF Try.prog Post Shun B (Go.Conc.G (b30.at ⟨#[undef, undef, undef, undef, undef, undef, undef, undef, undef, undef, undef, undef, undef, undef, undef], []⟩ [.code body30]) (b₀.at a₀ (.inRegion ops₀ (i₀ :: rest₀) :: k₀) :: cs)) w0 := by
 refine EndsF.mono (B' := H + 1) (by omega) ?_
 simp only [body30, Try.f30, Option.getD_some]
 have hF : Below H w0 w0 ∧ w0.heap.size = H := ⟨Below.refl H w0, hH⟩
 refine EndsF.step rfl (fun _ h₁ => ?_)
 replace hF := below_rely hF h₁
 clear h₁
 rw [stepG_seq]
 simp only [goes_go]
 refine ⟨de_nil, ?_⟩
 refine EndsF.step rfl (fun _ h₁ => ?_)
 replace hF := below_rely hF h₁
 clear h₁
 rw [stepG_region]
 simp only [goes_go, List.size_toArray, List.length_cons, List.length_nil, Nat.reduceAdd, Nat.zero_add, List.range, List.range.loop]
 refine ⟨de_nil, ?_⟩
 refine EndsF.step rfl (fun _ h₁ => ?_)
 replace hF := below_rely hF h₁
 clear h₁
 refine goes_oper_k rfl rfl (by k_ne) (fun K hK => ?_)
 go_simp
 refine hK _ _ ⟨?_, ?_⟩
 ·refine de_none ?_
  intro ex hex
  have hm := mem_listed hex
  simp [go_sem, *] at hm
 clear hK K
 refine EndsF.step rfl (fun _ h₁ => ?_)
 replace hF := below_rely hF h₁
 clear h₁
 rw [stepG_region_end]
 simp only [goes_go]
 refine ⟨de_nil, ?_⟩
 refine EndsF.step rfl (fun _ h₁ => ?_)
 replace hF := below_rely hF h₁
 clear h₁
 rw [stepG_seq]
 simp only [goes_go]
 refine ⟨de_nil, ?_⟩
 refine EndsF.step rfl (fun _ h₁ => ?_)
 replace hF := below_rely hF h₁
 clear h₁
 rw [stepG_region]
 simp only [goes_go, List.size_toArray, List.length_cons, List.length_nil, Nat.reduceAdd, Nat.zero_add, List.range, List.range.loop]
 refine ⟨de_nil, ?_⟩
 refine EndsF.step rfl (fun w1 h₁ => ?_)
 replace hF := below_rely hF h₁
 clear h₁
 refine goes_oper_k rfl rfl (by k_ne) (fun K hK => ?_)
 go_simp
 refine hK _ _ ⟨?_, ?_⟩
 ·intro ex hex
  have hm := mem_listed hex
  simp [go_sem, *] at hm
 clear hK K
 replace hF := alloc_facts hF (.cells #[.int .i64 1, .int .i64 2, .int .i64 3] 3)
 refine EndsF.step rfl (fun _ h₁ => ?_)
 replace hF := one_rely hF h₁
 clear h₁
 refine goes_call rfl rfl (by k_ne) rfl Try.func27 nm27 rfl ⟨de_nil, ?_⟩
 walk_nrmf Try.f27
 rename_i w2
 refine map_ends (H := H + 1) (N := 2) (n := 3) (w0 := w2) (pbx := fun _ => False) (X0 := fun _ _ => True) (X1 := fun _ _ => True) (xs := xsA) (ys := ysA) (fcap := #[]) hF.2.1 (Nat.le_refl _) (by omega) (fun a ha => hSc a (by omega)) hSo (by omega) (fun _ h => h.elim) (fun _ h => h.elim) ?_ (fun _ _ _ _ h => h) (fun _ _ _ _ h => h) (fun _ _ => trivial) fun51 ?_
 ·intro k hk
  refine ⟨H, 0, rfl, by omega, id, fun a ha => hSc a (by omega), ?_⟩
  have : k = 0 ∨ k = 1 ∨ k = 2 := by omega
  rcases this with rfl | rfl | rfl <;> simp [World.cell?, hF.2.2, xsA]
 intro Shun' w' hS' hK hsz hout hD
 have hE : Below H w0 w' ∧ w'.heap.size = H + 11 ∧ RowIn (some ⟨H + 3, 0, none⟩) 3 ysA w' :=
  ⟨hF.1.trans ⟨hK.os, hK.tape, hK.output, hK.size, fun b hb => hK.block b (by omega) id⟩, by omega, fun k hk => ⟨H + 3, 0, rfl, by rw [Nat.zero_add]; exact (hD k hk).1⟩⟩
 clear hK hout hD hsz hF
 have rlE : ∀ {w w₁ : World}, Below H w0 w ∧ w.heap.size = H + 11 ∧ RowIn (some ⟨H + 3, 0, none⟩) 3 ysA w → AtRel w w₁ → Below H w0 w₁ ∧ w₁.heap.size = H + 11 ∧ RowIn (some ⟨H + 3, 0, none⟩) 3 ysA w₁ := fun h r => by
  obtain ⟨d, rfl⟩ := r
  exact ⟨⟨h.1.os, h.1.tape, h.1.output, h.1.size, h.1.block⟩, h.2⟩
 have hc' : ∀ a : Addr, H + 11 ≤ a.block ∨ a.block = H + 3 → ¬ Shun' (.cell a) := fun a ha h => (hS' _ h).elim (hSc _ (by omega)) fun ⟨x, e1, e2⟩ => by cases e1; omega
 unfold Back
 refine EndsF.mono (B' := H + 12) (by omega) ?_
 walk_nrm
 iterate 5
  refine EndsF.step rfl (fun _ h₁ => ?_)
  replace hE := rlE hE h₁
  clear h₁
  refine goes_oper_k rfl rfl (by k_ne) (fun K hK => ?_)
  go_simp
  refine hK _ _ ⟨?_, ?_⟩
  ·refine de_none ?_
   intro ex hex
   have hm := mem_listed hex
   simp [go_sem, *] at hm
  clear hK K
 refine EndsF.step rfl (fun _ h₁ => ?_)
 replace hE := rlE hE h₁
 clear h₁
 rw [stepG_region_end]
 simp only [goes_go]
 refine ⟨de_nil, ?_⟩
 refine EndsF.step rfl (fun _ h₁ => ?_)
 replace hE := rlE hE h₁
 clear h₁
 rw [stepG_seq]
 simp only [goes_go]
 refine ⟨de_nil, ?_⟩
 refine EndsF.step rfl (fun _ h₁ => ?_)
 replace hE := rlE hE h₁
 clear h₁
 rw [stepG_region]
 simp only [goes_go, List.size_toArray, List.length_cons, List.length_nil, Nat.reduceAdd, Nat.zero_add, List.range, List.range.loop]
 refine ⟨de_nil, ?_⟩
 iterate 2
  refine EndsF.step rfl (fun _ h₁ => ?_)
  replace hE := rlE hE h₁
  clear h₁
  refine goes_oper_k rfl rfl (by k_ne) (fun K hK => ?_)
  go_simp
  refine hK _ _ ⟨?_, ?_⟩
  ·refine de_none ?_
   intro ex hex
   have hm := mem_listed hex
   simp [go_sem, *] at hm
  clear hK K
 try w_num
 iterate 2
  refine EndsF.step rfl (fun _ h₁ => ?_)
  replace hE := rlE hE h₁
  clear h₁
  refine goes_oper_k rfl rfl (by k_ne) (fun K hK => ?_)
  go_simp
  refine hK _ _ ⟨?_, ?_⟩
  ·refine de_none ?_
   intro ex hex
   have hm := mem_listed hex
   simp [go_sem, *] at hm
  clear hK K
 refine EndsF.step rfl (fun w3 h₁ => ?_)
 replace hE := rlE hE h₁
 clear h₁
 refine goes_oper_k rfl rfl (by k_ne) (fun K hK => ?_)
 go_simp
 refine hK _ _ ⟨?_, ?_⟩
 ·intro ex hex
  have hm := mem_listed hex
  simp [go_sem, *] at hm
 clear hK K
 have hnew := heap_alloc_new w3 (.cells #[.int .i64 2, .int .i64 4, .int .i64 6] 3)
 rw [hE.2.1] at hnew
 have hE2 : Below H w0 (w3.alloc (.cells #[.int .i64 2, .int .i64 4, .int .i64 6] 3)) ∧ (w3.alloc (.cells #[.int .i64 2, .int .i64 4, .int .i64 6] 3)).heap.size = H + 12 ∧ RowIn (some ⟨H + 3, 0, none⟩) 3 ysA (w3.alloc (.cells #[.int .i64 2, .int .i64 4, .int .i64 6] 3)) ∧
   RowIn (some ⟨H + 11, 0, none⟩) 3 ysA (w3.alloc (.cells #[.int .i64 2, .int .i64 4, .int .i64 6] 3)) := by
  refine ⟨hE.1.alloc (by omega) _, by rw [World.size_alloc, hE.2.1], fun k hk => ?_, fun k hk => ⟨H + 11, 0, rfl, ?_⟩⟩
  ·obtain ⟨b, o, e, h⟩ := hE.2.2 k hk
   cases e
   exact ⟨H + 3, 0, rfl, (cell_block (Below.heap_alloc _ _ _ (by omega)) _).trans h⟩
  ·have : k = 0 ∨ k = 1 ∨ k = 2 := by omega
   rcases this with rfl | rfl | rfl <;> simp [World.cell?, hnew, ysA]
 clear hE hnew
 have rlF : ∀ {w w₁ : World}, Below H w0 w ∧ w.heap.size = H + 12 ∧ RowIn (some ⟨H + 3, 0, none⟩) 3 ysA w ∧ RowIn (some ⟨H + 11, 0, none⟩) 3 ysA w → AtRel w w₁ → Below H w0 w₁ ∧ w₁.heap.size = H + 12 ∧ RowIn (some ⟨H + 3, 0, none⟩) 3 ysA w₁ ∧ RowIn (some ⟨H + 11, 0, none⟩) 3 ysA w₁ := fun h r => by
  obtain ⟨d, rfl⟩ := r
  exact ⟨⟨h.1.os, h.1.tape, h.1.output, h.1.size, h.1.block⟩, h.2⟩
 refine EndsF.step rfl (fun _ h₁ => ?_)
 replace hE2 := rlF hE2 h₁
 clear h₁
 refine goes_call rfl rfl (by k_ne) rfl Try.func31 nm31 rfl ⟨de_nil, ?_⟩
 walk_nrmf Try.f31
 rename_i w4
 refine same_ends (a := some ⟨H + 1 + 2, 0, none⟩) (a' := some ⟨H + 11, 0, none⟩) (xs := ysA) (w := w4) (by omega) (fun _ ad e => by cases e; exact ⟨fun x hx => hc' x (.inr hx), by show H + 1 + 2 < H + 12; omega⟩) (fun _ ad e => by cases e; exact ⟨fun x hx => hc' x (.inl (by rw [hx]; exact Nat.le_refl _)), by show H + 11 < H + 12; omega⟩) ⟨hE2.2.2.1, hE2.2.2.2, ?_⟩
 unfold Back
 walk_nrm
 iterate 2
  refine EndsF.step rfl (fun _ h₁ => ?_)
  replace hE2 := rlF hE2 h₁
  clear h₁
  refine goes_oper_k rfl rfl (by k_ne) (fun K hK => ?_)
  go_simp
  refine hK _ _ ⟨?_, ?_⟩
  ·refine de_none ?_
   intro ex hex
   have hm := mem_listed hex
   simp [go_sem, *] at hm
  clear hK K
 refine EndsF.step rfl (fun _ h₁ => ?_)
 replace hE2 := rlF hE2 h₁
 clear h₁
 rw [stepG_region_end]
 simp only [goes_go]
 refine ⟨de_nil, ?_⟩
 refine EndsF.step rfl (fun _ h₁ => ?_)
 replace hE2 := rlF hE2 h₁
 clear h₁
 rw [stepG_ret']
 simp only [goes_go]
 refine ⟨de_nil, ?_⟩
 refine EndsF.step rfl (fun _ h₁ => ?_)
 replace hE2 := rlF hE2 h₁
 clear h₁
 refine goes_leave1 rfl rfl Try.func30 rfl ⟨de_nil, ?_⟩
 walk_nrm
 exact hnext Shun' _ hS' hE2.1 hE2.2.1
end
end Go.Pool
end
