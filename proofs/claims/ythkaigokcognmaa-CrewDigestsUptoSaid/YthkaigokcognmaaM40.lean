/- A part of the proof of CrewDigestsUpto (no statement of its own): Dg9. -/
import Derived.Test.YthkaigokcognmaaM39
section
set_option linter.unusedSimpArgs false
namespace Go.Pool
open Go.Conc Go.RowKit Go.Proofs Go.ConcN Go.Conc.Lib Go.ConcR.Gen Go.ConcN.Gen
open Go.ConcR (KK wgBlock WgAt stA smA rd wr mk DC0)
open Go.Proofs.Ythkaigokcognmaa.Sha (dg c54)
section
variable {Post : Value → World → Prop} {Shun : Loc → Prop} {H n1 n2 : Nat} {w0 : World} {sa1 sa2 : Option Addr} {c1 c2 : Nat} {S T : Nat → ByteArray} {N : Int}
  {b₀ : Frame} {a₀ : Act} {ops₀ : Array Oper} {i₀ : Nat} {rest₀ : List Nat} {k₀ : List Item} {cs : List Frame}
set_option maxRecDepth 100000 in
set_option maxHeartbeats 4000000 in
theorem digests_ends (hH : w0.heap.size = H) (hn1 : n1 ≤ 1048576) (hT : ∀ k, k < n2 → (T k).size ≤ 140737488355000) (hSc : ∀ a : Addr, H ≤ a.block → ¬ Shun (.cell a)) (hSo : ∀ r, ¬ Shun (.obj r)) (h1 : StrIn Shun H w0 n1 sa1 S) (h2 : StrIn Shun H w0 n2 sa2 T)
  (hbad : ∀ w', Below H w0 w' → ¬ ((1 ≤ N ∧ N ≤ 64) ∧ n1 = n2 ∧ ∀ j, j < n1 → (S j).size ≤ 32) → Back Post Shun w'.heap.size b₀ a₀ ops₀ i₀ rest₀ k₀ cs (.tuple #[.slice none 0 0, .int .i64 1]) w')
  (hgood : ∀ Shun' w' O, ShyH Shun Shun' H w'.heap.size → (∀ a : Addr, a.block = O → ¬ Shun' (.cell a)) → Below H w0 w' → H ≤ O → O < w'.heap.size → (∀ k, k < n1 → w'.cell? ⟨O, k, none⟩ = some (.string (dgs S T k))) → ((1 ≤ N ∧ N ≤ 64) ∧ n1 = n2 ∧ ∀ j, j < n1 → (S j).size ≤ 32) →
   Back Post Shun' w'.heap.size b₀ a₀ ops₀ i₀ rest₀ k₀ cs (.tuple #[.slice (some ⟨O, 0, none⟩) n1 n1, .int .i64 0]) w') :
  EndsF Try.prog Post Shun H (Go.Conc.G (b37.at ⟨#[.slice sa1 n1 c1, .slice sa2 n2 c2, .int .i64 N, undef, undef, undef, undef, undef, undef, undef, undef, undef, undef, undef, undef, undef, undef, undef, undef, undef, undef, undef, undef, undef, undef, undef, undef, undef, undef, undef, undef, undef, undef, undef, undef, undef, undef, undef, undef, undef, undef, undef, undef, undef, undef, undef], []⟩ [.code body37]) (b₀.at a₀ (.inRegion ops₀ (i₀ :: rest₀) :: k₀) :: cs)) w0 := by
 have hF : Below H w0 w0 ∧ w0.heap.size = H := ⟨Below.refl H w0, hH⟩
 by_cases hf : 1 ≤ N ∧ N ≤ 64
 ·have ea : (decide (1 ≤ N) && decide (N ≤ 64)) = true := by simpa [Bool.and_eq_true] using hf
  by_cases hnn : n1 = n2
  ·subst hnn
   have hHd := head37 (Post := Post) (Shun := Shun) (b₀ := b₀) (a₀ := a₀) (ops₀ := ops₀) (i₀ := i₀) (rest₀ := rest₀) (k₀ := k₀) (cs := cs) (c1 := c1) (c2 := c2) hH hn1 hf hT hSc hSo h1 h2 (fun w' hb ⟨j, hj, hs⟩ => hbad w' hb fun h => hs (h.2.2 j hj)) (fun Shun' w' O e1 e2 e3 e4 e5 e6 e7 => hgood Shun' w' O e1 e2 e3 e4 e5 e6 ⟨hf, rfl, e7⟩) n1 0 (by omega) (fun j h => absurd h (Nat.not_lt_zero j))
   simp only [L37, K37, tail37, Try.f37] at hHd
   clear hgood hbad
   simp only [body37, Try.f37, Option.getD_some]
   refine EndsF.step rfl (fun _ h₁ => ?_)
   replace hF := below_rely hF h₁
   clear h₁
   rw [stepG_seq]
   simp only [goes_go]
   refine ⟨de_nil, ?_⟩
   refine EndsF.step rfl (fun _ h₁ => ?_)
   replace hF := below_rely hF h₁
   clear h₁
   rw [stepG_region]
   simp only [goes_go, List.size_toArray, List.length_cons, List.length_nil, Nat.reduceAdd, Nat.zero_add, List.range, List.range.loop]
   refine ⟨de_nil, ?_⟩
   iterate 2
    refine EndsF.step rfl (fun _ h₁ => ?_)
    replace hF := below_rely hF h₁
    clear h₁
    refine goes_oper_k rfl rfl (by k_ne) (fun K hK => ?_)
    go_simp
    refine hK _ _ ⟨?_, ?_⟩
    ·refine de_none ?_
     intro ex hex
     have hm := mem_listed hex
     simp [go_sem, *] at hm
    clear hK K
    try w_num
   refine EndsF.step rfl (fun _ h₁ => ?_)
   replace hF := below_rely hF h₁
   clear h₁
   rw [stepG_region_end]
   iterate 2
    simp only [goes_go]
    refine ⟨de_nil, ?_⟩
    refine EndsF.step rfl (fun _ h₁ => ?_)
    replace hF := below_rely hF h₁
    clear h₁
    rw [stepG_seq]
   simp only [goes_go]
   refine ⟨de_nil, ?_⟩
   refine EndsF.step rfl (fun _ h₁ => ?_)
   replace hF := below_rely hF h₁
   clear h₁
   rw [stepG_region]
   simp only [goes_go, List.size_toArray, List.length_cons, List.length_nil, Nat.reduceAdd, Nat.zero_add, List.range, List.range.loop]
   refine ⟨de_nil, ?_⟩
   refine EndsF.step rfl (fun _ h₁ => ?_)
   replace hF := below_rely hF h₁
   clear h₁
   refine goes_oper_k rfl rfl (by k_ne) (fun K hK => ?_)
   go_simp
   refine hK _ _ ⟨?_, ?_⟩
   ·refine de_none ?_
    intro ex hex
    have hm := mem_listed hex
    simp [go_sem, *] at hm
   clear hK K
   try w_num
   refine EndsF.step rfl (fun _ h₁ => ?_)
   replace hF := below_rely hF h₁
   clear h₁
   refine goes_call rfl rfl (by k_ne) rfl Try.func48 nm48 rfl ⟨de_nil, ?_⟩
   walk_nrmf Try.f48
   rename_i wc
   refine fine_ends (w := wc) ?_
   rw [ea]
   clear ea
   unfold Back
   walk_nrm
   iterate 8
    refine EndsF.step rfl (fun _ h₁ => ?_)
    replace hF := below_rely hF h₁
    clear h₁
    refine goes_oper_k rfl rfl (by k_ne) (fun K hK => ?_)
    go_simp
    refine hK _ _ ⟨?_, ?_⟩
    ·refine de_none ?_
     intro ex hex
     have hm := mem_listed hex
     simp [go_sem, *] at hm
    clear hK K
    try w_num
   refine EndsF.step rfl (fun _ h₁ => ?_)
   replace hF := below_rely hF h₁
   clear h₁
   rw [stepG_region_end]
   simp only [goes_go]
   refine ⟨de_nil, ?_⟩
   refine EndsF.step rfl (fun _ h₁ => ?_)
   replace hF := below_rely hF h₁
   clear h₁
   rw [stepG_cond (t := false) rfl]
   simp only [goes_go, if_true, if_false, Bool.false_eq_true, ↓reduceIte]
   refine ⟨de_nil, ?_⟩
   refine EndsF.step rfl (fun _ h₁ => ?_)
   replace hF := below_rely hF h₁
   clear h₁
   rw [stepG_skip]
   simp only [goes_go]
   refine ⟨de_nil, ?_⟩
   refine EndsF.step rfl (fun _ h₁ => ?_)
   replace hF := below_rely hF h₁
   clear h₁
   rw [stepG_seq]
   simp only [goes_go]
   refine ⟨de_nil, ?_⟩
   refine EndsF.step rfl (fun _ h₁ => ?_)
   replace hF := below_rely hF h₁
   clear h₁
   rw [stepG_region]
   simp only [goes_go, List.size_toArray, List.length_cons, List.length_nil, Nat.reduceAdd, Nat.zero_add, List.range, List.range.loop]
   refine ⟨de_nil, ?_⟩
   refine EndsF.step rfl (fun _ h₁ => ?_)
   replace hF := below_rely hF h₁
   clear h₁
   refine goes_oper_k rfl rfl (by k_ne) (fun K hK => ?_)
   go_simp
   refine hK _ _ ⟨?_, ?_⟩
   ·refine de_none ?_
    intro ex hex
    have hm := mem_listed hex
    simp [go_sem, *] at hm
   clear hK K
   try w_num
   refine EndsF.step rfl (fun _ h₁ => ?_)
   replace hF := below_rely hF h₁
   clear h₁
   rw [stepG_region_end]
   iterate 2
    simp only [goes_go]
    refine ⟨de_nil, ?_⟩
    refine EndsF.step rfl (fun _ h₁ => ?_)
    replace hF := below_rely hF h₁
    clear h₁
    rw [stepG_seq]
   simp only [goes_go]
   refine ⟨de_nil, ?_⟩
   refine EndsF.step rfl (fun _ h₁ => ?_)
   replace hF := below_rely hF h₁
   clear h₁
   rw [stepG_region]
   simp only [goes_go, List.size_toArray, List.length_cons, List.length_nil, Nat.reduceAdd, Nat.zero_add, List.range, List.range.loop]
   refine ⟨de_nil, ?_⟩
   iterate 3
    refine EndsF.step rfl (fun _ h₁ => ?_)
    replace hF := below_rely hF h₁
    clear h₁
    refine goes_oper_k rfl rfl (by k_ne) (fun K hK => ?_)
    go_simp
    refine hK _ _ ⟨?_, ?_⟩
    ·refine de_none ?_
     intro ex hex
     have hm := mem_listed hex
     simp [go_sem, *] at hm
    clear hK K
    try w_num
   refine EndsF.step rfl (fun _ h₁ => ?_)
   replace hF := below_rely hF h₁
   clear h₁
   rw [stepG_region_end]
   simp only [goes_go]
   refine ⟨de_nil, ?_⟩
   refine EndsF.step rfl (fun _ h₁ => ?_)
   replace hF := below_rely hF h₁
   clear h₁
   rw [stepG_block]
   simp only [goes_go]
   refine ⟨de_nil, ?_⟩
   refine EndsF.step rfl (fun _ h₁ => ?_)
   replace hF := below_rely hF h₁
   clear h₁
   rw [stepG_loop]
   simp only [goes_go]
   refine ⟨de_nil, ?_⟩
   rw [← hF.2]
   exact hHd _ (.slice none 0 0) _ (by rfl) (by rfl) (by rfl) (by rfl) (by rfl) (by rfl) (by rfl) (by rfl) ⟨hF.1, rfl, rfl, .inl ⟨rfl, rfl⟩⟩
  ·have hne : ¬ ((n1 : Int) = (n2 : Int)) := by omega
   simp only [body37, Try.f37, Option.getD_some]
   refine EndsF.step rfl (fun _ h₁ => ?_)
   replace hF := below_rely hF h₁
   clear h₁
   rw [stepG_seq]
   simp only [goes_go]
   refine ⟨de_nil, ?_⟩
   refine EndsF.step rfl (fun _ h₁ => ?_)
   replace hF := below_rely hF h₁
   clear h₁
   rw [stepG_region]
   simp only [goes_go, List.size_toArray, List.length_cons, List.length_nil, Nat.reduceAdd, Nat.zero_add, List.range, List.range.loop]
   refine ⟨de_nil, ?_⟩
   iterate 2
    refine EndsF.step rfl (fun _ h₁ => ?_)
    replace hF := below_rely hF h₁
    clear h₁
    refine goes_oper_k rfl rfl (by k_ne) (fun K hK => ?_)
    go_simp
    refine hK _ _ ⟨?_, ?_⟩
    ·refine de_none ?_
     intro ex hex
     have hm := mem_listed hex
     simp [go_sem, *] at hm
    clear hK K
    try w_num
   refine EndsF.step rfl (fun _ h₁ => ?_)
   replace hF := below_rely hF h₁
   clear h₁
   rw [stepG_region_end]
   iterate 2
    simp only [goes_go]
    refine ⟨de_nil, ?_⟩
    refine EndsF.step rfl (fun _ h₁ => ?_)
    replace hF := below_rely hF h₁
    clear h₁
    rw [stepG_seq]
   simp only [goes_go]
   refine ⟨de_nil, ?_⟩
   refine EndsF.step rfl (fun _ h₁ => ?_)
   replace hF := below_rely hF h₁
   clear h₁
   rw [stepG_region]
   simp only [goes_go, List.size_toArray, List.length_cons, List.length_nil, Nat.reduceAdd, Nat.zero_add, List.range, List.range.loop]
   refine ⟨de_nil, ?_⟩
   refine EndsF.step rfl (fun _ h₁ => ?_)
   replace hF := below_rely hF h₁
   clear h₁
   refine goes_oper_k rfl rfl (by k_ne) (fun K hK => ?_)
   go_simp
   refine hK _ _ ⟨?_, ?_⟩
   ·refine de_none ?_
    intro ex hex
    have hm := mem_listed hex
    simp [go_sem, *] at hm
   clear hK K
   try w_num
   refine EndsF.step rfl (fun _ h₁ => ?_)
   replace hF := below_rely hF h₁
   clear h₁
   refine goes_call rfl rfl (by k_ne) rfl Try.func48 nm48 rfl ⟨de_nil, ?_⟩
   walk_nrmf Try.f48
   rename_i wc
   refine fine_ends (w := wc) ?_
   rw [ea]
   clear ea
   unfold Back
   walk_nrm
   iterate 8
    refine EndsF.step rfl (fun _ h₁ => ?_)
    replace hF := below_rely hF h₁
    clear h₁
    refine goes_oper_k rfl rfl (by k_ne) (fun K hK => ?_)
    go_simp
    refine hK _ _ ⟨?_, ?_⟩
    ·refine de_none ?_
     intro ex hex
     have hm := mem_listed hex
     simp [go_sem, *] at hm
    clear hK K
    try w_num
   refine EndsF.step rfl (fun _ h₁ => ?_)
   replace hF := below_rely hF h₁
   clear h₁
   rw [stepG_region_end]
   simp only [goes_go]
   refine ⟨de_nil, ?_⟩
   refine EndsF.step rfl (fun _ h₁ => ?_)
   replace hF := below_rely hF h₁
   clear h₁
   rw [stepG_cond (t := true) (by first | rfl | (simp [Act.eval]; omega))]
   simp only [goes_go, if_true, if_false, Bool.false_eq_true, ↓reduceIte]
   refine ⟨de_nil, ?_⟩
   refine EndsF.step rfl (fun _ h₁ => ?_)
   replace hF := below_rely hF h₁
   clear h₁
   rw [stepG_seq]
   simp only [goes_go]
   refine ⟨de_nil, ?_⟩
   refine EndsF.step rfl (fun _ h₁ => ?_)
   replace hF := below_rely hF h₁
   clear h₁
   rw [stepG_region]
   simp only [goes_go, List.size_toArray, List.length_cons, List.length_nil, Nat.reduceAdd, Nat.zero_add, List.range, List.range.loop]
   refine ⟨de_nil, ?_⟩
   iterate 2
    refine EndsF.step rfl (fun _ h₁ => ?_)
    replace hF := below_rely hF h₁
    clear h₁
    refine goes_oper_k rfl rfl (by k_ne) (fun K hK => ?_)
    go_simp
    refine hK _ _ ⟨?_, ?_⟩
    ·refine de_none ?_
     intro ex hex
     have hm := mem_listed hex
     simp [go_sem, *] at hm
    clear hK K
    try w_num
   refine EndsF.step rfl (fun _ h₁ => ?_)
   replace hF := below_rely hF h₁
   clear h₁
   rw [stepG_region_end]
   simp only [goes_go]
   refine ⟨de_nil, ?_⟩
   refine EndsF.step rfl (fun _ h₁ => ?_)
   replace hF := below_rely hF h₁
   clear h₁
   rw [stepG_ret']
   simp only [goes_go]
   refine ⟨de_nil, ?_⟩
   refine EndsF.step rfl (fun _ h₁ => ?_)
   replace hF := below_rely hF h₁
   clear h₁
   refine goes_leave2 rfl rfl Try.func37 rfl ⟨de_nil, ?_⟩
   walk_nrm
   have := hbad _ hF.1 (fun h => hnn h.2.1)
   rw [hF.2] at this
   exact this
 ·have ea : (decide (1 ≤ N) && decide (N ≤ 64)) = false := by simpa [Bool.and_eq_true] using hf
  simp only [body37, Try.f37, Option.getD_some]
  refine EndsF.step rfl (fun _ h₁ => ?_)
  replace hF := below_rely hF h₁
  clear h₁
  rw [stepG_seq]
  simp only [goes_go]
  refine ⟨de_nil, ?_⟩
  refine EndsF.step rfl (fun _ h₁ => ?_)
  replace hF := below_rely hF h₁
  clear h₁
  rw [stepG_region]
  simp only [goes_go, List.size_toArray, List.length_cons, List.length_nil, Nat.reduceAdd, Nat.zero_add, List.range, List.range.loop]
  refine ⟨de_nil, ?_⟩
  iterate 2
   refine EndsF.step rfl (fun _ h₁ => ?_)
   replace hF := below_rely hF h₁
   clear h₁
   refine goes_oper_k rfl rfl (by k_ne) (fun K hK => ?_)
   go_simp
   refine hK _ _ ⟨?_, ?_⟩
   ·refine de_none ?_
    intro ex hex
    have hm := mem_listed hex
    simp [go_sem, *] at hm
   clear hK K
   try w_num
  refine EndsF.step rfl (fun _ h₁ => ?_)
  replace hF := below_rely hF h₁
  clear h₁
  rw [stepG_region_end]
  iterate 2
   simp only [goes_go]
   refine ⟨de_nil, ?_⟩
   refine EndsF.step rfl (fun _ h₁ => ?_)
   replace hF := below_rely hF h₁
   clear h₁
   rw [stepG_seq]
  simp only [goes_go]
  refine ⟨de_nil, ?_⟩
  refine EndsF.step rfl (fun _ h₁ => ?_)
  replace hF := below_rely hF h₁
  clear h₁
  rw [stepG_region]
  simp only [goes_go, List.size_toArray, List.length_cons, List.length_nil, Nat.reduceAdd, Nat.zero_add, List.range, List.range.loop]
  refine ⟨de_nil, ?_⟩
  refine EndsF.step rfl (fun _ h₁ => ?_)
  replace hF := below_rely hF h₁
  clear h₁
  refine goes_oper_k rfl rfl (by k_ne) (fun K hK => ?_)
  go_simp
  refine hK _ _ ⟨?_, ?_⟩
  ·refine de_none ?_
   intro ex hex
   have hm := mem_listed hex
   simp [go_sem, *] at hm
  clear hK K
  try w_num
  refine EndsF.step rfl (fun _ h₁ => ?_)
  replace hF := below_rely hF h₁
  clear h₁
  refine goes_call rfl rfl (by k_ne) rfl Try.func48 nm48 rfl ⟨de_nil, ?_⟩
  walk_nrmf Try.f48
  rename_i wc
  refine fine_ends (w := wc) ?_
  rw [ea]
  clear ea
  unfold Back
  walk_nrm
  iterate 2
   refine EndsF.step rfl (fun _ h₁ => ?_)
   replace hF := below_rely hF h₁
   clear h₁
   refine goes_oper_k rfl rfl (by k_ne) (fun K hK => ?_)
   go_simp
   refine hK _ _ ⟨?_, ?_⟩
   ·refine de_none ?_
    intro ex hex
    have hm := mem_listed hex
    simp [go_sem, *] at hm
   clear hK K
   try w_num
  iterate 5
   refine EndsF.step rfl (fun _ h₁ => ?_)
   replace hF := below_rely hF h₁
   clear h₁
   rw [stepG_unwanted rfl rfl]
   simp only [goes_go]
   refine ⟨de_nil, ?_⟩
   walk_nrm
  refine EndsF.step rfl (fun _ h₁ => ?_)
  replace hF := below_rely hF h₁
  clear h₁
  refine goes_oper_k rfl rfl (by k_ne) (fun K hK => ?_)
  go_simp
  refine hK _ _ ⟨?_, ?_⟩
  ·refine de_none ?_
   intro ex hex
   have hm := mem_listed hex
   simp [go_sem, *] at hm
  clear hK K
  try w_num
  refine EndsF.step rfl (fun _ h₁ => ?_)
  replace hF := below_rely hF h₁
  clear h₁
  rw [stepG_region_end]
  simp only [goes_go]
  refine ⟨de_nil, ?_⟩
  refine EndsF.step rfl (fun _ h₁ => ?_)
  replace hF := below_rely hF h₁
  clear h₁
  rw [stepG_cond (t := true) rfl]
  simp only [goes_go, if_true, if_false, Bool.false_eq_true, ↓reduceIte]
  refine ⟨de_nil, ?_⟩
  refine EndsF.step rfl (fun _ h₁ => ?_)
  replace hF := below_rely hF h₁
  clear h₁
  rw [stepG_seq]
  simp only [goes_go]
  refine ⟨de_nil, ?_⟩
  refine EndsF.step rfl (fun _ h₁ => ?_)
  replace hF := below_rely hF h₁
  clear h₁
  rw [stepG_region]
  simp only [goes_go, List.size_toArray, List.length_cons, List.length_nil, Nat.reduceAdd, Nat.zero_add, List.range, List.range.loop]
  refine ⟨de_nil, ?_⟩
  iterate 2
   refine EndsF.step rfl (fun _ h₁ => ?_)
   replace hF := below_rely hF h₁
   clear h₁
   refine goes_oper_k rfl rfl (by k_ne) (fun K hK => ?_)
   go_simp
   refine hK _ _ ⟨?_, ?_⟩
   ·refine de_none ?_
    intro ex hex
    have hm := mem_listed hex
    simp [go_sem, *] at hm
   clear hK K
   try w_num
  refine EndsF.step rfl (fun _ h₁ => ?_)
  replace hF := below_rely hF h₁
  clear h₁
  rw [stepG_region_end]
  simp only [goes_go]
  refine ⟨de_nil, ?_⟩
  refine EndsF.step rfl (fun _ h₁ => ?_)
  replace hF := below_rely hF h₁
  clear h₁
  rw [stepG_ret']
  simp only [goes_go]
  refine ⟨de_nil, ?_⟩
  refine EndsF.step rfl (fun _ h₁ => ?_)
  replace hF := below_rely hF h₁
  clear h₁
  refine goes_leave2 rfl rfl Try.func37 rfl ⟨de_nil, ?_⟩
  walk_nrm
  have := hbad _ hF.1 (fun h => hf h.1)
  rw [hF.2] at this
  exact this
end
end Go.Pool
end
