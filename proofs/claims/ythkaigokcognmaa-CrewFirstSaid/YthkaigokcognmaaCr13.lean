/-
  CREW 13: cloisterlaw05.awake, beside leavers.
-/
import Derived.Test.YthkaigokcognmaaCr12
set_option linter.unusedSimpArgs false
namespace Go.Pool
open Go.Conc Go.RowKit Go.Proofs Go.ConcN Go.Conc.Lib Go.ConcR.Gen Go.ConcN.Gen
open Go.ConcR (KK wgBlock WgAt stA smA rd wr mk DC0)

noncomputable def body30 : Code := Try.f30.body.getD .skip
theorem nm30 : (Try.f30.name == "runtime.NumGoroutine") = false := by kernel_rfl
theorem nm27 : (Try.f27.name == "runtime.NumGoroutine") = false := by kernel_rfl
def b30 : Frame := base 30

def xsA (k : Nat) : Int := k + 1
def ysA (k : Nat) : Int := 2 * (k + 1)

set_option maxRecDepth 100000 in
/-- awake's function, as Map asks it. -/
theorem fun51 {Shun : Loc → Prop} {H : Nat} {w0 : World} : FunC Shun H w0 3 (fun _ => False) (fun _ _ => True) (fun _ _ => True) 51 #[] xsA ysA := by
  intro φ _ k hk V hV _ _
  refine (f51_c (φ := φ) (k := k) (S := V) hV (xsA k)).elim fun m hm => ⟨m, fun w hw _ => ?_⟩
  refine CallsC.mono (hm w hw) fun v w' h => ⟨?_, h.2, trivial⟩
  have e : IntKind.i64.wrap (xsA k + xsA k) = ysA k := by
    rw [IntKind.wrap_i64]
    simp only [xsA, ysA]
    omega
  rw [h.1, e]

section
variable {Post : Value → World → Prop} {Shun : Loc → Prop} {B H : Nat} {w w₁ w0 : World}
  {b₀ : Frame} {a₀ : Act} {ops₀ : Array Oper} {i₀ : Nat} {rest₀ : List Nat} {k₀ : List Item} {cs : List Frame}

set_option maxRecDepth 100000 in
set_option maxHeartbeats 4000000 in
theorem awake_ends (hH : w0.heap.size = H) (hB : B ≤ H) (hSc : ∀ a : Addr, H ≤ a.block → ¬ Shun (.cell a)) (hSo : ∀ r, ¬ Shun (.obj r))
    (hnext : ∀ Shun' w', Shy2 Shun Shun' (H + 10) → Below H w0 w' → w'.heap.size = H + 12 → Back Post Shun' (H + 12) b₀ a₀ ops₀ i₀ rest₀ k₀ cs (.bool true) w') :
    EndsF Try.prog Post Shun B (Go.Conc.G (b30.at ⟨#[undef, undef, undef, undef, undef, undef, undef, undef, undef, undef, undef, undef, undef, undef, undef], []⟩ [.code body30]) (b₀.at a₀ (.inRegion ops₀ (i₀ :: rest₀) :: k₀) :: cs)) w0 := by
  refine EndsF.mono (B' := H + 1) (by omega) ?_
  simp only [body30, Try.f30, Option.getD_some]
  have hF : Below H w0 w0 ∧ w0.heap.size = H := ⟨Below.refl H w0, hH⟩
  refine EndsF.step rfl (fun _ h₁ => ?_)
  replace hF := below_rely hF h₁
  clear h₁
  rw [stepG_seq]
  simp only [goes_go]
  refine ⟨de_nil, ?_⟩
  refine EndsF.step rfl (fun _ h₁ => ?_)
  replace hF := below_rely hF h₁
  clear h₁
  rw [stepG_region]
  simp only [goes_go, List.size_toArray, List.length_cons, List.length_nil, Nat.reduceAdd, Nat.zero_add, List.range, List.range.loop]
  refine ⟨de_nil, ?_⟩
  refine EndsF.step rfl (fun _ h₁ => ?_)
  replace hF := below_rely hF h₁
  clear h₁
  refine goes_oper_k rfl rfl (by k_ne) (fun K hK => ?_)
  go_simp
  refine hK _ _ ⟨?_, ?_⟩
  · refine de_none ?_
    intro ex hex
    have hm := mem_listed hex
    simp [go_sem, *] at hm
  clear hK K
  refine EndsF.step rfl (fun _ h₁ => ?_)
  replace hF := below_rely hF h₁
  clear h₁
  rw [stepG_region_end]
  simp only [goes_go]
  refine ⟨de_nil, ?_⟩
  refine EndsF.step rfl (fun _ h₁ => ?_)
  replace hF := below_rely hF h₁
  clear h₁
  rw [stepG_seq]
  simp only [goes_go]
  refine ⟨de_nil, ?_⟩
  refine EndsF.step rfl (fun _ h₁ => ?_)
  replace hF := below_rely hF h₁
  clear h₁
  rw [stepG_region]
  simp only [goes_go, List.size_toArray, List.length_cons, List.length_nil, Nat.reduceAdd, Nat.zero_add, List.range, List.range.loop]
  refine ⟨de_nil, ?_⟩
  refine EndsF.step rfl (fun w1 h₁ => ?_)
  replace hF := below_rely hF h₁
  clear h₁
  refine goes_oper_k rfl rfl (by k_ne) (fun K hK => ?_)
  go_simp
  refine hK _ _ ⟨?_, ?_⟩
  · intro ex hex
    have hm := mem_listed hex
    simp [go_sem, *] at hm
  clear hK K
  replace hF := alloc_facts hF (.cells #[.int .i64 1, .int .i64 2, .int .i64 3] 3)
  refine EndsF.step rfl (fun _ h₁ => ?_)
  replace hF := one_rely hF h₁
  clear h₁
  refine goes_call rfl rfl (by k_ne) rfl Try.func27 nm27 rfl ⟨de_nil, ?_⟩
  walk_nrmf Try.f27
  rename_i w2
  refine map_ends (H := H + 1) (N := 2) (n := 3) (w0 := w2) (pbx := fun _ => False) (X0 := fun _ _ => True) (X1 := fun _ _ => True) (xs := xsA) (ys := ysA) (fcap := #[]) hF.2.1 (Nat.le_refl _) (by omega) (fun a ha => hSc a (by omega)) hSo (by omega) (fun _ h => h.elim) (fun _ h => h.elim) ?_ (fun _ _ _ _ h => h) (fun _ _ _ _ h => h) (fun _ _ => trivial) fun51 ?_
  · intro k hk
    refine ⟨H, 0, rfl, by omega, id, fun a ha => hSc a (by omega), ?_⟩
    have : k = 0 ∨ k = 1 ∨ k = 2 := by omega
    rcases this with rfl | rfl | rfl <;> simp [World.cell?, hF.2.2, xsA]
  intro Shun' w' hS' hK hsz hout hD
  have hE : Below H w0 w' ∧ w'.heap.size = H + 11 ∧ RowIn (some ⟨H + 3, 0, none⟩) 3 ysA w' :=
    ⟨hF.1.trans ⟨hK.os, hK.tape, hK.output, hK.size, fun b hb => hK.block b (by omega) id⟩, by omega, fun k hk => ⟨H + 3, 0, rfl, by rw [Nat.zero_add]; exact (hD k hk).1⟩⟩
  clear hK hout hD hsz hF
  have rlE : ∀ {w w₁ : World}, Below H w0 w ∧ w.heap.size = H + 11 ∧ RowIn (some ⟨H + 3, 0, none⟩) 3 ysA w → AtRel w w₁ → Below H w0 w₁ ∧ w₁.heap.size = H + 11 ∧ RowIn (some ⟨H + 3, 0, none⟩) 3 ysA w₁ := fun h r => by
    obtain ⟨d, rfl⟩ := r
    exact ⟨⟨h.1.os, h.1.tape, h.1.output, h.1.size, h.1.block⟩, h.2⟩
  have hc' : ∀ a : Addr, H + 11 ≤ a.block ∨ a.block = H + 3 → ¬ Shun' (.cell a) := fun a ha h => (hS' _ h).elim (hSc _ (by omega)) fun ⟨x, e1, e2⟩ => by cases e1; omega
  unfold Back
  refine EndsF.mono (B' := H + 12) (by omega) ?_
  walk_nrm
  refine EndsF.step rfl (fun _ h₁ => ?_)
  replace hE := rlE hE h₁
  clear h₁
  refine goes_oper_k rfl rfl (by k_ne) (fun K hK => ?_)
  go_simp
  refine hK _ _ ⟨?_, ?_⟩
  · refine de_none ?_
    intro ex hex
    have hm := mem_listed hex
    simp [go_sem, *] at hm
  clear hK K
  refine EndsF.step rfl (fun _ h₁ => ?_)
  replace hE := rlE hE h₁
  clear h₁
  refine goes_oper_k rfl rfl (by k_ne) (fun K hK => ?_)
  go_simp
  refine hK _ _ ⟨?_, ?_⟩
  · refine de_none ?_
    intro ex hex
    have hm := mem_listed hex
    simp [go_sem, *] at hm
  clear hK K
  refine EndsF.step rfl (fun _ h₁ => ?_)
  replace hE := rlE hE h₁
  clear h₁
  refine goes_oper_k rfl rfl (by k_ne) (fun K hK => ?_)
  go_simp
  refine hK _ _ ⟨?_, ?_⟩
  · refine de_none ?_
    intro ex hex
    have hm := mem_listed hex
    simp [go_sem, *] at hm
  clear hK K
  refine EndsF.step rfl (fun _ h₁ => ?_)
  replace hE := rlE hE h₁
  clear h₁
  refine goes_oper_k rfl rfl (by k_ne) (fun K hK => ?_)
  go_simp
  refine hK _ _ ⟨?_, ?_⟩
  · refine de_none ?_
    intro ex hex
    have hm := mem_listed hex
    simp [go_sem, *] at hm
  clear hK K
  refine EndsF.step rfl (fun _ h₁ => ?_)
  replace hE := rlE hE h₁
  clear h₁
  refine goes_oper_k rfl rfl (by k_ne) (fun K hK => ?_)
  go_simp
  refine hK _ _ ⟨?_, ?_⟩
  · refine de_none ?_
    intro ex hex
    have hm := mem_listed hex
    simp [go_sem, *] at hm
  clear hK K
  refine EndsF.step rfl (fun _ h₁ => ?_)
  replace hE := rlE hE h₁
  clear h₁
  rw [stepG_region_end]
  simp only [goes_go]
  refine ⟨de_nil, ?_⟩
  refine EndsF.step rfl (fun _ h₁ => ?_)
  replace hE := rlE hE h₁
  clear h₁
  rw [stepG_seq]
  simp only [goes_go]
  refine ⟨de_nil, ?_⟩
  refine EndsF.step rfl (fun _ h₁ => ?_)
  replace hE := rlE hE h₁
  clear h₁
  rw [stepG_region]
  simp only [goes_go, List.size_toArray, List.length_cons, List.length_nil, Nat.reduceAdd, Nat.zero_add, List.range, List.range.loop]
  refine ⟨de_nil, ?_⟩
  refine EndsF.step rfl (fun _ h₁ => ?_)
  replace hE := rlE hE h₁
  clear h₁
  refine goes_oper_k rfl rfl (by k_ne) (fun K hK => ?_)
  go_simp
  refine hK _ _ ⟨?_, ?_⟩
  · refine de_none ?_
    intro ex hex
    have hm := mem_listed hex
    simp [go_sem, *] at hm
  clear hK K
  refine EndsF.step rfl (fun _ h₁ => ?_)
  replace hE := rlE hE h₁
  clear h₁
  refine goes_oper_k rfl rfl (by k_ne) (fun K hK => ?_)
  go_simp
  refine hK _ _ ⟨?_, ?_⟩
  · refine de_none ?_
    intro ex hex
    have hm := mem_listed hex
    simp [go_sem, *] at hm
  clear hK K
  try w_num
  refine EndsF.step rfl (fun _ h₁ => ?_)
  replace hE := rlE hE h₁
  clear h₁
  refine goes_oper_k rfl rfl (by k_ne) (fun K hK => ?_)
  go_simp
  refine hK _ _ ⟨?_, ?_⟩
  · refine de_none ?_
    intro ex hex
    have hm := mem_listed hex
    simp [go_sem, *] at hm
  clear hK K
  refine EndsF.step rfl (fun _ h₁ => ?_)
  replace hE := rlE hE h₁
  clear h₁
  refine goes_oper_k rfl rfl (by k_ne) (fun K hK => ?_)
  go_simp
  refine hK _ _ ⟨?_, ?_⟩
  · refine de_none ?_
    intro ex hex
    have hm := mem_listed hex
    simp [go_sem, *] at hm
  clear hK K
  refine EndsF.step rfl (fun w3 h₁ => ?_)
  replace hE := rlE hE h₁
  clear h₁
  refine goes_oper_k rfl rfl (by k_ne) (fun K hK => ?_)
  go_simp
  refine hK _ _ ⟨?_, ?_⟩
  · intro ex hex
    have hm := mem_listed hex
    simp [go_sem, *] at hm
  clear hK K
  have hnew := heap_alloc_new w3 (.cells #[.int .i64 2, .int .i64 4, .int .i64 6] 3)
  rw [hE.2.1] at hnew
  have hE2 : Below H w0 (w3.alloc (.cells #[.int .i64 2, .int .i64 4, .int .i64 6] 3)) ∧ (w3.alloc (.cells #[.int .i64 2, .int .i64 4, .int .i64 6] 3)).heap.size = H + 12 ∧ RowIn (some ⟨H + 3, 0, none⟩) 3 ysA (w3.alloc (.cells #[.int .i64 2, .int .i64 4, .int .i64 6] 3)) ∧
      RowIn (some ⟨H + 11, 0, none⟩) 3 ysA (w3.alloc (.cells #[.int .i64 2, .int .i64 4, .int .i64 6] 3)) := by
    refine ⟨hE.1.alloc (by omega) _, by rw [World.size_alloc, hE.2.1], fun k hk => ?_, fun k hk => ⟨H + 11, 0, rfl, ?_⟩⟩
    · obtain ⟨b, o, e, h⟩ := hE.2.2 k hk
      cases e
      exact ⟨H + 3, 0, rfl, (cell_block (Below.heap_alloc _ _ _ (by omega)) _).trans h⟩
    · have : k = 0 ∨ k = 1 ∨ k = 2 := by omega
      rcases this with rfl | rfl | rfl <;> simp [World.cell?, hnew, ysA]
  clear hE hnew
  have rlF : ∀ {w w₁ : World}, Below H w0 w ∧ w.heap.size = H + 12 ∧ RowIn (some ⟨H + 3, 0, none⟩) 3 ysA w ∧ RowIn (some ⟨H + 11, 0, none⟩) 3 ysA w → AtRel w w₁ → Below H w0 w₁ ∧ w₁.heap.size = H + 12 ∧ RowIn (some ⟨H + 3, 0, none⟩) 3 ysA w₁ ∧ RowIn (some ⟨H + 11, 0, none⟩) 3 ysA w₁ := fun h r => by
    obtain ⟨d, rfl⟩ := r
    exact ⟨⟨h.1.os, h.1.tape, h.1.output, h.1.size, h.1.block⟩, h.2⟩
  refine EndsF.step rfl (fun _ h₁ => ?_)
  replace hE2 := rlF hE2 h₁
  clear h₁
  refine goes_call rfl rfl (by k_ne) rfl Try.func31 nm31 rfl ⟨de_nil, ?_⟩
  walk_nrmf Try.f31
  rename_i w4
  refine same_ends (a := some ⟨H + 1 + 2, 0, none⟩) (a' := some ⟨H + 11, 0, none⟩) (xs := ysA) (w := w4) (by omega) (fun _ ad e => by cases e; exact ⟨fun x hx => hc' x (.inr hx), by show H + 1 + 2 < H + 12; omega⟩) (fun _ ad e => by cases e; exact ⟨fun x hx => hc' x (.inl (by rw [hx]; exact Nat.le_refl _)), by show H + 11 < H + 12; omega⟩) ⟨hE2.2.2.1, hE2.2.2.2, ?_⟩
  unfold Back
  walk_nrm
  refine EndsF.step rfl (fun _ h₁ => ?_)
  replace hE2 := rlF hE2 h₁
  clear h₁
  refine goes_oper_k rfl rfl (by k_ne) (fun K hK => ?_)
  go_simp
  refine hK _ _ ⟨?_, ?_⟩
  · refine de_none ?_
    intro ex hex
    have hm := mem_listed hex
    simp [go_sem, *] at hm
  clear hK K
  refine EndsF.step rfl (fun _ h₁ => ?_)
  replace hE2 := rlF hE2 h₁
  clear h₁
  refine goes_oper_k rfl rfl (by k_ne) (fun K hK => ?_)
  go_simp
  refine hK _ _ ⟨?_, ?_⟩
  · refine de_none ?_
    intro ex hex
    have hm := mem_listed hex
    simp [go_sem, *] at hm
  clear hK K
  refine EndsF.step rfl (fun _ h₁ => ?_)
  replace hE2 := rlF hE2 h₁
  clear h₁
  rw [stepG_region_end]
  simp only [goes_go]
  refine ⟨de_nil, ?_⟩
  refine EndsF.step rfl (fun _ h₁ => ?_)
  replace hE2 := rlF hE2 h₁
  clear h₁
  rw [stepG_ret']
  simp only [goes_go]
  refine ⟨de_nil, ?_⟩
  refine EndsF.step rfl (fun _ h₁ => ?_)
  replace hE2 := rlF hE2 h₁
  clear h₁
  refine goes_leave1 rfl rfl Try.func30 rfl ⟨de_nil, ?_⟩
  walk_nrm
  exact hnext Shun' _ hS' hE2.1 hE2.2.1
end
end Go.Pool
