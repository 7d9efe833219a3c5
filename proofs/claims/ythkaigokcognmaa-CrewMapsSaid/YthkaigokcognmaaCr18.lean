/-
  CREW 18: CrewMaps, from its entry to the loop.
-/
import Derived.Test.YthkaigokcognmaaCr17
set_option linter.unusedSimpArgs false
namespace Go.Pool
open Go.Conc Go.RowKit Go.Proofs Go.ConcN Go.Conc.Lib Go.ConcR.Gen Go.ConcN.Gen
open Go.ConcR (KK wgBlock WgAt stA smA rd wr mk DC0)

theorem RowIn.stay {a : Option Addr} {n K : Nat} {xs : Nat → Int} {w w' : World} (h : RowIn a n xs w) (hb : Below K w w') (hlt : ∀ ad, a = some ad → ad.block < K) : RowIn a n xs w' := fun k hk => by
  obtain ⟨b, o, e, hc⟩ := h k hk
  exact ⟨b, o, e, (cell_block (hb.block b (hlt _ e)) _).trans hc⟩

abbrev F18 (W : World) (K Hb n : Nat) (y : Int) (a a' : Option Addr) (xs ys : Nat → Int) (N : Int) (H1 K1 : Nat) (sl : Value) (e : Int) (w : World) : Prop :=
  ((Below W.heap.size W w ∧ w.heap.size = K) ∧ RowIn a n xs w ∧ RowIn a' n xs w ∧ w.cell? ⟨Hb, 0, none⟩ = some (.int .i64 y)) ∧ Out N n ys H1 K1 sl e w
theorem f18_rely {W : World} {K Hb n : Nat} {y : Int} {a a' : Option Addr} {xs ys : Nat → Int} {N : Int} {H1 K1 : Nat} {sl : Value} {e : Int} {w w₁ : World} (h : F18 W K Hb n y a a' xs ys N H1 K1 sl e w) (r : AtRel w w₁) : F18 W K Hb n y a a' xs ys N H1 K1 sl e w₁ :=
  ⟨l8_rely h.1 r, h.2.at r⟩

section
variable {W : World} {sa : Option Addr} {sc n : Nat} {xs : Nat → Int} {av y : Int}

set_option maxRecDepth 100000 in
set_option maxHeartbeats 8000000 in
/-- ████ CrewMaps. ████ -/
theorem maps_law (hn : n * 8 ≤ 140737488351232) (hin : ∀ k, k < n → ∃ Bin oin, sa = some ⟨Bin, oin, none⟩ ∧ Bin < W.heap.size ∧ W.cell? ⟨Bin, oin + k, none⟩ = some (.int .i64 (xs k))) :
    EndsF Try.prog (PostL W) (fun _ => False) 0 (Go.Conc.G (b8.at ⟨#[.slice sa n sc, .int .i64 av, .int .i64 y, undef, undef, undef, undef, undef, undef, undef, undef, undef, undef, undef, undef, undef, undef, undef, undef, undef, undef, undef, undef, undef, undef, undef, undef, undef, undef, undef, undef, undef, undef, undef, undef, undef, undef, undef, undef, undef, undef, undef, undef, undef, undef, undef, undef, undef, undef, undef, undef, undef, undef, undef, undef, undef, undef, undef, undef, undef, undef, undef, undef, undef, undef, undef, undef, undef], []⟩ [.code body8]) []) W := by
  obtain ⟨H, hH⟩ : ∃ H, W.heap.size = H := ⟨_, rfl⟩
  have hrowW : RowIn sa n xs W := fun k hk => by
    obtain ⟨Bin, oin, e, _, hc⟩ := hin k hk
    exact ⟨Bin, oin, e, hc⟩
  have hHd := fun (Shun : Loc → Prop) (K cap cap' : Nat) (a : Option Addr) h2 h3 h4 h5 h6 h7 h8 => head8 (W := W) (Shun := Shun) (K := K) (Hb := H) (n := n) (a := a) (a' := sa) (xs := xs) (y := y) (cap := cap) (cap' := cap') (by omega) h2 h3 h4 h5 h6 h7 h8 n 0 (by omega)
  simp only [L8, K8, tail8, Try.f8] at hHd
  refine EndsF.mono (Nat.zero_le (H + 1)) ?_
  simp only [body8, Try.f8, Option.getD_some]
  have hF : Below H W W ∧ W.heap.size = H := ⟨Below.refl _ W, hH⟩
  refine EndsF.step rfl (fun _ h₁ => ?_)
  replace hF := below_rely hF h₁
  clear h₁
  rw [stepG_seq]
  simp only [goes_go]
  refine ⟨de_nil, ?_⟩
  refine EndsF.step rfl (fun _ h₁ => ?_)
  replace hF := below_rely hF h₁
  clear h₁
  rw [stepG_region]
  simp only [goes_go, List.size_toArray, List.length_cons, List.length_nil, Nat.reduceAdd, Nat.zero_add, List.range, List.range.loop]
  refine ⟨de_nil, ?_⟩
  refine EndsF.step rfl (fun wa h₁ => ?_)
  replace hF := below_rely hF h₁
  clear h₁
  refine goes_oper_k rfl rfl (by k_ne) (fun K hK => ?_)
  go_simp
  refine hK _ _ ⟨?_, ?_⟩
  · intro ex hex
    have hm := mem_listed hex
    simp [go_sem, *] at hm
  clear hK K
  replace hF := alloc_facts hF (.cells #[.int .i64 y] 3)
  refine EndsF.step rfl (fun _ h₁ => ?_)
  replace hF := one_rely hF h₁
  clear h₁
  refine goes_oper_k rfl rfl (by k_ne) (fun K hK => ?_)
  go_simp
  refine hK _ _ ⟨?_, ?_⟩
  · refine de_none ?_
    intro ex hex
    have hm := mem_listed hex
    simp [go_sem, *] at hm
  clear hK K
  refine EndsF.step rfl (fun _ h₁ => ?_)
  replace hF := one_rely hF h₁
  clear h₁
  rw [stepG_region_end]
  simp only [goes_go]
  refine ⟨de_nil, ?_⟩
  refine EndsF.step rfl (fun _ h₁ => ?_)
  replace hF := one_rely hF h₁
  clear h₁
  rw [stepG_seq]
  simp only [goes_go]
  refine ⟨de_nil, ?_⟩
  refine EndsF.step rfl (fun _ h₁ => ?_)
  replace hF := one_rely hF h₁
  clear h₁
  rw [stepG_region]
  simp only [goes_go, List.size_toArray, List.length_cons, List.length_nil, Nat.reduceAdd, Nat.zero_add, List.range, List.range.loop]
  refine ⟨de_nil, ?_⟩
  refine EndsF.step rfl (fun _ h₁ => ?_)
  replace hF := one_rely hF h₁
  clear h₁
  refine goes_oper_k rfl rfl (by k_ne) (fun K hK => ?_)
  go_simp
  refine hK _ _ ⟨?_, ?_⟩
  · refine de_none ?_
    intro ex hex
    have hm := mem_listed hex
    simp [go_sem, *] at hm
  clear hK K
  refine EndsF.step rfl (fun _ h₁ => ?_)
  replace hF := one_rely hF h₁
  clear h₁
  rw [stepG_region_end]
  simp only [goes_go]
  refine ⟨de_nil, ?_⟩
  refine EndsF.step rfl (fun _ h₁ => ?_)
  replace hF := one_rely hF h₁
  clear h₁
  rw [stepG_seq]
  simp only [goes_go]
  refine ⟨de_nil, ?_⟩
  refine EndsF.step rfl (fun _ h₁ => ?_)
  replace hF := one_rely hF h₁
  clear h₁
  rw [stepG_region]
  simp only [goes_go, List.size_toArray, List.length_cons, List.length_nil, Nat.reduceAdd, Nat.zero_add, List.range, List.range.loop]
  refine ⟨de_nil, ?_⟩
  refine EndsF.step rfl (fun _ h₁ => ?_)
  replace hF := one_rely hF h₁
  clear h₁
  refine goes_oper_k rfl rfl (by k_ne) (fun K hK => ?_)
  go_simp
  refine hK _ _ ⟨?_, ?_⟩
  · refine de_none ?_
    intro ex hex
    have hm := mem_listed hex
    simp [go_sem, *] at hm
  clear hK K
  refine EndsF.step rfl (fun _ h₁ => ?_)
  replace hF := one_rely hF h₁
  clear h₁
  refine goes_oper_k rfl rfl (by k_ne) (fun K hK => ?_)
  go_simp
  refine hK _ _ ⟨?_, ?_⟩
  · refine de_none ?_
    intro ex hex
    have hm := mem_listed hex
    simp [go_sem, *] at hm
  clear hK K
  -- the slice of one's own
  refine EndsF.step rfl (fun wb h₁ => ?_)
  replace hF := one_rely hF h₁
  clear h₁
  have hrow : RowIn sa n xs wb := fun k hk => by
    obtain ⟨Bin, oin, e, hlt, hc⟩ := hin k hk
    exact ⟨Bin, oin, e, (cell_block (hF.1.block Bin (by omega)) _).trans hc⟩
  obtain ⟨v', wc, hrun, ⟨a', cap', rfl, hrow', hblk⟩, hgr, hev⟩ := grow_copy (w := wb) (cap := sc) hn hrow
  refine goes_oper_k rfl rfl (by k_ne) (fun K hK => ?_)
  refine uponK_append (.tmp 11) (.tmp 12) 43 rfl rfl rfl hrun ?_
  refine hK _ _ ⟨fun ex hex => ?_, ?_⟩
  · have hm := mem_listed hex
    rw [events_append_op (.tmp 11) (.tmp 12) 43 rfl rfl rfl] at hm
    rcases hev ex hm with ⟨ad, a, h1, h2, h3, h4⟩ | ⟨m, rfl, h⟩
    · have hlt : ad.block < H + 1 := by
        obtain ⟨Bin, oin, e, hl, _⟩ := hin 0 h2
        rw [e] at h3
        cases h3
        rw [h4]
        show Bin < H + 1
        omega
      refine ⟨fun _ _ h => h.elim, by rw [h1]; simp, by rw [h1]; simp, ?_⟩
      obtain ⟨l, wr, sy⟩ := ex
      cases h1
      exact hlt
    · exact evL_neutral h
  clear hK K hev hrun
  obtain ⟨K1, hK1⟩ : ∃ K1, wc.heap.size = K1 := ⟨_, rfl⟩
  have hHK : H + 1 ≤ K1 := by have := hgr.size; omega
  have hF1 : (Below W.heap.size W wc ∧ wc.heap.size = K1) ∧ RowIn a' n xs wc ∧ RowIn sa n xs wc ∧ wc.cell? ⟨H, 0, none⟩ = some (.int .i64 y) := by
    have hbl : ∀ b, b < H + 1 → wc.heap[b]? = wb.heap[b]? := fun b hb => hgr.block b (by omega) (by simp)
    refine ⟨⟨?_, hK1⟩, hrow', fun k hk => ?_, ?_⟩
    · rw [hH]; exact hF.1.grown hgr (by omega) (fun k h => by cases h)
    · obtain ⟨Bin, oin, e, hlt, hc⟩ := hin k hk
      exact ⟨Bin, oin, e, (cell_block ((hbl Bin (by omega)).trans (hF.1.block Bin (by omega))) _).trans hc⟩
    · rw [cell_block (hbl H (by omega)) 0]
      simp [World.cell?, hF.2.2]
  have hbA : ∀ ad, a' = some ad → H + 1 ≤ ad.block ∧ ad.block < K1 := fun ad e => ⟨by have := (hblk ad e).1; omega, by have := (hblk ad e).2; omega⟩
  have hbS : 0 < n → ∀ ad, sa = some ad → ad.block < H := fun h0 ad e => by
    obtain ⟨Bin, oin, e', hlt, _⟩ := hin 0 h0
    rw [e'] at e
    cases e
    show Bin < H
    omega
  clear hF hgr hblk hrow' hrow
  refine EndsF.mono (B' := K1) hHK ?_
  walk_nrm
  refine EndsF.step rfl (fun _ h₁ => ?_)
  replace hF1 := l8_rely hF1 h₁
  clear h₁
  refine goes_oper_k rfl rfl (by k_ne) (fun K hK => ?_)
  go_simp
  refine hK _ _ ⟨?_, ?_⟩
  · refine de_none ?_
    intro ex hex
    have hm := mem_listed hex
    simp [go_sem, *] at hm
  clear hK K
  refine EndsF.step rfl (fun _ h₁ => ?_)
  replace hF1 := l8_rely hF1 h₁
  clear h₁
  rw [stepG_region_end]
  simp only [goes_go]
  refine ⟨de_nil, ?_⟩
  refine EndsF.step rfl (fun _ h₁ => ?_)
  replace hF1 := l8_rely hF1 h₁
  clear h₁
  rw [stepG_seq]
  simp only [goes_go]
  refine ⟨de_nil, ?_⟩
  refine EndsF.step rfl (fun _ h₁ => ?_)
  replace hF1 := l8_rely hF1 h₁
  clear h₁
  rw [stepG_region]
  simp only [goes_go, List.size_toArray, List.length_cons, List.length_nil, Nat.reduceAdd, Nat.zero_add, List.range, List.range.loop]
  refine ⟨de_nil, ?_⟩
  refine EndsF.step rfl (fun _ h₁ => ?_)
  replace hF1 := l8_rely hF1 h₁
  clear h₁
  refine goes_oper_k rfl rfl (by k_ne) (fun K hK => ?_)
  go_simp
  refine hK _ _ ⟨?_, ?_⟩
  · refine de_none ?_
    intro ex hex
    have hm := mem_listed hex
    simp [go_sem, *] at hm
  clear hK K
  refine EndsF.step rfl (fun _ h₁ => ?_)
  replace hF1 := l8_rely hF1 h₁
  clear h₁
  refine goes_oper_k rfl rfl (by k_ne) (fun K hK => ?_)
  go_simp
  refine hK _ _ ⟨?_, ?_⟩
  · refine de_none ?_
    intro ex hex
    have hm := mem_listed hex
    simp [go_sem, *] at hm
  clear hK K
  refine EndsF.step rfl (fun _ h₁ => ?_)
  replace hF1 := l8_rely hF1 h₁
  clear h₁
  refine goes_oper_k rfl rfl (by k_ne) (fun K hK => ?_)
  go_simp
  refine hK _ _ ⟨?_, ?_⟩
  · refine de_none ?_
    intro ex hex
    have hm := mem_listed hex
    simp [go_sem, Instr.makeFunc] at hm
  clear hK K
  refine EndsF.step rfl (fun _ h₁ => ?_)
  replace hF1 := l8_rely hF1 h₁
  clear h₁
  refine goes_call rfl rfl (by k_ne) rfl Try.func27 nm27 rfl ⟨de_nil, ?_⟩
  walk_nrmf Try.f27
  rename_i w1
  refine map_out (H := K1) (w0 := w1) (n := n) (xs := xs) (ys := ysM xs y) hF1.1.2 (Nat.le_refl _) (by omega) (fun _ _ => id) (fun _ => id) ?_ (fun28 (y := y) (by omega) (fun _ _ => id) hF1.2.2.2) ?_
  · intro k hk
    obtain ⟨b, o, e, hc⟩ := hF1.2.1 k hk
    exact ⟨b, o, e, (hbA _ e).2, id, fun _ _ => id, hc⟩
  intro Shun1 w1' K2 sl1 e1 hG1 hb1 hs1 hK2 hO1
  have hc1 := hG1.fresh hK2 (fun _ _ => id)
  have ho1 := hG1.obj (fun _ => id)
  have hFF : F18 W K2 H n y a' sa xs (ysM xs y) av K1 K2 sl1 e1 w1' :=
    ⟨⟨⟨hF1.1.1.trans (hb1.mono (by omega)), hs1⟩, hF1.2.1.stay hb1 (fun ad e => (hbA ad e).2), fun k hk => by
      obtain ⟨b, o, e, hc⟩ := hF1.2.2.1 k hk
      exact ⟨b, o, e, (cell_block (hb1.block b (by have : b < H := hbS (by omega) _ e; omega)) _).trans hc⟩, (cell_block (hb1.block H (by omega)) 0).trans hF1.2.2.2⟩, hO1⟩
  clear hF1 hb1 hs1 hO1
  unfold Back
  walk_nrm
  refine EndsF.step rfl (fun _ h₁ => ?_)
  replace hFF := f18_rely hFF h₁
  clear h₁
  refine goes_oper_k rfl rfl (by k_ne) (fun K hK => ?_)
  go_simp
  refine hK _ _ ⟨?_, ?_⟩
  · refine de_none ?_
    intro ex hex
    have hm := mem_listed hex
    simp [go_sem, *] at hm
  clear hK K
  refine EndsF.step rfl (fun _ h₁ => ?_)
  replace hFF := f18_rely hFF h₁
  clear h₁
  refine goes_oper_k rfl rfl (by k_ne) (fun K hK => ?_)
  go_simp
  refine hK _ _ ⟨?_, ?_⟩
  · refine de_none ?_
    intro ex hex
    have hm := mem_listed hex
    simp [go_sem, *] at hm
  clear hK K
  refine EndsF.step rfl (fun _ h₁ => ?_)
  replace hFF := f18_rely hFF h₁
  clear h₁
  refine goes_oper_k rfl rfl (by k_ne) (fun K hK => ?_)
  go_simp
  refine hK _ _ ⟨?_, ?_⟩
  · refine de_none ?_
    intro ex hex
    have hm := mem_listed hex
    simp [go_sem, *] at hm
  clear hK K
  refine EndsF.step rfl (fun _ h₁ => ?_)
  replace hFF := f18_rely hFF h₁
  clear h₁
  refine goes_oper_k rfl rfl (by k_ne) (fun K hK => ?_)
  go_simp
  refine hK _ _ ⟨?_, ?_⟩
  · refine de_none ?_
    intro ex hex
    have hm := mem_listed hex
    simp [go_sem, *] at hm
  clear hK K
  refine EndsF.step rfl (fun _ h₁ => ?_)
  replace hFF := f18_rely hFF h₁
  clear h₁
  refine goes_oper_k rfl rfl (by k_ne) (fun K hK => ?_)
  go_simp
  refine hK _ _ ⟨?_, ?_⟩
  · refine de_none ?_
    intro ex hex
    have hm := mem_listed hex
    simp [go_sem, *] at hm
  clear hK K
  refine EndsF.step rfl (fun _ h₁ => ?_)
  replace hFF := f18_rely hFF h₁
  clear h₁
  rw [stepG_region_end]
  simp only [goes_go]
  refine ⟨de_nil, ?_⟩
  refine EndsF.step rfl (fun _ h₁ => ?_)
  replace hFF := f18_rely hFF h₁
  clear h₁
  rw [stepG_seq]
  simp only [goes_go]
  refine ⟨de_nil, ?_⟩
  refine EndsF.step rfl (fun _ h₁ => ?_)
  replace hFF := f18_rely hFF h₁
  clear h₁
  rw [stepG_seq]
  simp only [goes_go]
  refine ⟨de_nil, ?_⟩
  refine EndsF.step rfl (fun _ h₁ => ?_)
  replace hFF := f18_rely hFF h₁
  clear h₁
  rw [stepG_region]
  simp only [goes_go, List.size_toArray, List.length_cons, List.length_nil, Nat.reduceAdd, Nat.zero_add, List.range, List.range.loop]
  refine ⟨de_nil, ?_⟩
  refine EndsF.step rfl (fun _ h₁ => ?_)
  replace hFF := f18_rely hFF h₁
  clear h₁
  refine goes_oper_k rfl rfl (by k_ne) (fun K hK => ?_)
  go_simp
  refine hK _ _ ⟨?_, ?_⟩
  · refine de_none ?_
    intro ex hex
    have hm := mem_listed hex
    simp [go_sem, *] at hm
  clear hK K
  refine EndsF.step rfl (fun _ h₁ => ?_)
  replace hFF := f18_rely hFF h₁
  clear h₁
  refine goes_call rfl rfl (by k_ne) rfl Try.func29 nm29 rfl ⟨de_nil, ?_⟩
  walk_nrmf Try.f29
  rename_i w3
  refine fine29_ends (w := w3) ?_
  unfold Back
  walk_nrm
  by_cases ha : 1 ≤ av ∧ av ≤ 64
  · have ea : (decide (1 ≤ av) && decide (av ≤ 64)) = true := by simpa [Bool.and_eq_true] using ha
    rw [ea]
    clear ea
    refine EndsF.step rfl (fun _ h₁ => ?_)
    replace hFF := f18_rely hFF h₁
    clear h₁
    refine goes_oper_k rfl rfl (by k_ne) (fun K hK => ?_)
    go_simp
    refine hK _ _ ⟨?_, ?_⟩
    · refine de_none ?_
      intro ex hex
      have hm := mem_listed hex
      simp [go_sem, *] at hm
    clear hK K
    refine EndsF.step rfl (fun _ h₁ => ?_)
    replace hFF := f18_rely hFF h₁
    clear h₁
    rw [stepG_region_end]
    simp only [goes_go]
    refine ⟨de_nil, ?_⟩
    refine EndsF.step rfl (fun _ h₁ => ?_)
    replace hFF := f18_rely hFF h₁
    clear h₁
    rw [stepG_cond (t := false) rfl]
    simp only [goes_go, if_true, if_false, Bool.false_eq_true, ↓reduceIte]
    refine ⟨de_nil, ?_⟩
    refine EndsF.step rfl (fun _ h₁ => ?_)
    replace hFF := f18_rely hFF h₁
    clear h₁
    rw [stepG_skip]
    simp only [goes_go]
    refine ⟨de_nil, ?_⟩
    obtain ⟨_, rfl, rfl, hk1, hr1⟩ | ⟨hx, _⟩ := hFF.2
    · clear hr1
      have hne : ¬ ((n : Int) ≠ (n : Int)) := by omega
      refine EndsF.step rfl (fun _ h₁ => ?_)
      replace hFF := f18_rely hFF h₁
      clear h₁
      rw [stepG_seq]
      simp only [goes_go]
      refine ⟨de_nil, ?_⟩
      refine EndsF.step rfl (fun _ h₁ => ?_)
      replace hFF := f18_rely hFF h₁
      clear h₁
      rw [stepG_seq]
      simp only [goes_go]
      refine ⟨de_nil, ?_⟩
      refine EndsF.step rfl (fun _ h₁ => ?_)
      replace hFF := f18_rely hFF h₁
      clear h₁
      rw [stepG_region]
      simp only [goes_go, List.size_toArray, List.length_cons, List.length_nil, Nat.reduceAdd, Nat.zero_add, List.range, List.range.loop]
      refine ⟨de_nil, ?_⟩
      refine EndsF.step rfl (fun _ h₁ => ?_)
      replace hFF := f18_rely hFF h₁
      clear h₁
      refine goes_oper_k rfl rfl (by k_ne) (fun K hK => ?_)
      go_simp
      refine hK _ _ ⟨?_, ?_⟩
      · refine de_none ?_
        intro ex hex
        have hm := mem_listed hex
        simp [go_sem, *] at hm
      clear hK K
      refine EndsF.step rfl (fun _ h₁ => ?_)
      replace hFF := f18_rely hFF h₁
      clear h₁
      refine goes_oper_k rfl rfl (by k_ne) (fun K hK => ?_)
      go_simp
      refine hK _ _ ⟨?_, ?_⟩
      · refine de_none ?_
        intro ex hex
        have hm := mem_listed hex
        simp [go_sem, *] at hm
      clear hK K
      refine EndsF.step rfl (fun _ h₁ => ?_)
      replace hFF := f18_rely hFF h₁
      clear h₁
      refine goes_oper_k rfl rfl (by k_ne) (fun K hK => ?_)
      go_simp
      refine hK _ _ ⟨?_, ?_⟩
      · refine de_none ?_
        intro ex hex
        have hm := mem_listed hex
        simp [go_sem, *] at hm
      clear hK K
      refine EndsF.step rfl (fun _ h₁ => ?_)
      replace hFF := f18_rely hFF h₁
      clear h₁
      refine goes_oper_k rfl rfl (by k_ne) (fun K hK => ?_)
      go_simp
      refine hK _ _ ⟨?_, ?_⟩
      · refine de_none ?_
        intro ex hex
        have hm := mem_listed hex
        simp [go_sem, *] at hm
      clear hK K
      refine EndsF.step rfl (fun _ h₁ => ?_)
      replace hFF := f18_rely hFF h₁
      clear h₁
      refine goes_oper_k rfl rfl (by k_ne) (fun K hK => ?_)
      go_simp
      refine hK _ _ ⟨?_, ?_⟩
      · refine de_none ?_
        intro ex hex
        have hm := mem_listed hex
        simp [go_sem, *] at hm
      clear hK K
      refine EndsF.step rfl (fun _ h₁ => ?_)
      replace hFF := f18_rely hFF h₁
      clear h₁
      refine goes_oper_k rfl rfl (by k_ne) (fun K hK => ?_)
      go_simp
      refine hK _ _ ⟨?_, ?_⟩
      · refine de_none ?_
        intro ex hex
        have hm := mem_listed hex
        simp [go_sem, *] at hm
      clear hK K
      refine EndsF.step rfl (fun _ h₁ => ?_)
      replace hFF := f18_rely hFF h₁
      clear h₁
      refine goes_oper_k rfl rfl (by k_ne) (fun K hK => ?_)
      go_simp
      refine hK _ _ ⟨?_, ?_⟩
      · refine de_none ?_
        intro ex hex
        have hm := mem_listed hex
        simp [go_sem, *] at hm
      clear hK K
      refine EndsF.step rfl (fun _ h₁ => ?_)
      replace hFF := f18_rely hFF h₁
      clear h₁
      refine goes_oper_k rfl rfl (by k_ne) (fun K hK => ?_)
      go_simp
      refine hK _ _ ⟨?_, ?_⟩
      · refine de_none ?_
        intro ex hex
        have hm := mem_listed hex
        simp [go_sem, *] at hm
      clear hK K
      try w_num
      refine EndsF.step rfl (fun _ h₁ => ?_)
      replace hFF := f18_rely hFF h₁
      clear h₁
      refine goes_oper_k rfl rfl (by k_ne) (fun K hK => ?_)
      go_simp
      refine hK _ _ ⟨?_, ?_⟩
      · refine de_none ?_
        intro ex hex
        have hm := mem_listed hex
        simp [go_sem, *] at hm
      clear hK K
      refine EndsF.step rfl (fun _ h₁ => ?_)
      replace hFF := f18_rely hFF h₁
      clear h₁
      refine goes_oper_k rfl rfl (by k_ne) (fun K hK => ?_)
      go_simp
      refine hK _ _ ⟨?_, ?_⟩
      · refine de_none ?_
        intro ex hex
        have hm := mem_listed hex
        simp [go_sem, *] at hm
      clear hK K
      refine EndsF.step rfl (fun _ h₁ => ?_)
      replace hFF := f18_rely hFF h₁
      clear h₁
      refine goes_oper_k rfl rfl (by k_ne) (fun K hK => ?_)
      go_simp
      refine hK _ _ ⟨?_, ?_⟩
      · refine de_none ?_
        intro ex hex
        have hm := mem_listed hex
        simp [go_sem, *] at hm
      clear hK K
      refine EndsF.step rfl (fun _ h₁ => ?_)
      replace hFF := f18_rely hFF h₁
      clear h₁
      refine goes_oper_k rfl rfl (by k_ne) (fun K hK => ?_)
      go_simp
      refine hK _ _ ⟨?_, ?_⟩
      · refine de_none ?_
        intro ex hex
        have hm := mem_listed hex
        simp [go_sem, *] at hm
      clear hK K
      refine EndsF.step rfl (fun _ h₁ => ?_)
      replace hFF := f18_rely hFF h₁
      clear h₁
      refine goes_call rfl rfl (by k_ne) rfl Try.func31 nm31 rfl ⟨de_nil, ?_⟩
      walk_nrmf Try.f31
      rename_i w5
      have okA : OkRow Shun1 K2 a' n := fun _ ad e => ⟨fun x hx => hG1.old (.inl (by rw [hx]; exact (hbA ad e).2)) id, by have := (hbA ad e).2; omega⟩
      have okS : OkRow Shun1 K2 sa n := fun h0 ad e => ⟨fun x hx => hG1.old (.inl (by rw [hx]; have := hbS h0 ad e; omega)) id, by have := hbS h0 ad e; omega⟩
      refine same_ends (a := a') (a' := sa) (xs := xs) (w := w5) (by omega) okA okS ⟨hFF.1.2.1, hFF.1.2.2.1, ?_⟩
      unfold Back
      walk_nrm
      refine EndsF.step rfl (fun _ h₁ => ?_)
      replace hFF := f18_rely hFF h₁
      clear h₁
      refine goes_oper_k rfl rfl (by k_ne) (fun K hK => ?_)
      go_simp
      refine hK _ _ ⟨?_, ?_⟩
      · refine de_none ?_
        intro ex hex
        have hm := mem_listed hex
        simp [go_sem, *] at hm
      clear hK K
      refine EndsF.step rfl (fun _ h₁ => ?_)
      replace hFF := f18_rely hFF h₁
      clear h₁
      refine goes_oper_k rfl rfl (by k_ne) (fun K hK => ?_)
      go_simp
      refine hK _ _ ⟨?_, ?_⟩
      · refine de_none ?_
        intro ex hex
        have hm := mem_listed hex
        simp [go_sem, *] at hm
      clear hK K
      refine EndsF.step rfl (fun _ h₁ => ?_)
      replace hFF := f18_rely hFF h₁
      clear h₁
      rw [stepG_region_end]
      simp only [goes_go]
      refine ⟨de_nil, ?_⟩
      refine EndsF.step rfl (fun _ h₁ => ?_)
      replace hFF := f18_rely hFF h₁
      clear h₁
      rw [stepG_cond (t := false) rfl]
      simp only [goes_go, if_true, if_false, Bool.false_eq_true, ↓reduceIte]
      refine ⟨de_nil, ?_⟩
      refine EndsF.step rfl (fun _ h₁ => ?_)
      replace hFF := f18_rely hFF h₁
      clear h₁
      rw [stepG_skip]
      simp only [goes_go]
      refine ⟨de_nil, ?_⟩
      refine EndsF.step rfl (fun _ h₁ => ?_)
      replace hFF := f18_rely hFF h₁
      clear h₁
      rw [stepG_seq]
      simp only [goes_go]
      refine ⟨de_nil, ?_⟩
      refine EndsF.step rfl (fun _ h₁ => ?_)
      replace hFF := f18_rely hFF h₁
      clear h₁
      rw [stepG_seq]
      simp only [goes_go]
      refine ⟨de_nil, ?_⟩
      refine EndsF.step rfl (fun _ h₁ => ?_)
      replace hFF := f18_rely hFF h₁
      clear h₁
      rw [stepG_region]
      simp only [goes_go, List.size_toArray, List.length_cons, List.length_nil, Nat.reduceAdd, Nat.zero_add, List.range, List.range.loop]
      refine ⟨de_nil, ?_⟩
      refine EndsF.step rfl (fun _ h₁ => ?_)
      replace hFF := f18_rely hFF h₁
      clear h₁
      refine goes_oper_k rfl rfl (by k_ne) (fun K hK => ?_)
      go_simp
      refine hK _ _ ⟨?_, ?_⟩
      · refine de_none ?_
        intro ex hex
        have hm := mem_listed hex
        simp [go_sem, *] at hm
      clear hK K
      refine EndsF.step rfl (fun _ h₁ => ?_)
      replace hFF := f18_rely hFF h₁
      clear h₁
      rw [stepG_region_end]
      simp only [goes_go]
      refine ⟨de_nil, ?_⟩
      refine EndsF.step rfl (fun _ h₁ => ?_)
      replace hFF := f18_rely hFF h₁
      clear h₁
      rw [stepG_block]
      simp only [goes_go]
      refine ⟨de_nil, ?_⟩
      refine EndsF.step rfl (fun _ h₁ => ?_)
      replace hFF := f18_rely hFF h₁
      clear h₁
      rw [stepG_loop]
      simp only [goes_go]
      refine ⟨de_nil, ?_⟩
      obtain ⟨_, _, _, _, hr1⟩ | ⟨hx, _⟩ := hFF.2
      · exact hHd Shun1 K2 n sc (some ⟨K1 + 2, 0, none⟩) (by omega) hc1 ho1 (fun _ ad e => by cases e; exact ⟨fun x hx => hG1.old (.inr hx) id, by show K1 + 2 < K2; omega⟩) okS (fun z hz => hG1.old (.inl (by omega)) id) (by omega) _ _ (by simp) (by simp) (by simp) (by simp) (by simp) ⟨hFF.1.1, hr1, hFF.1.2.2.1, hFF.1.2.2.2⟩
      · exact absurd ha hx
    · exact absurd ha hx
  · have ea : (decide (1 ≤ av) && decide (av ≤ 64)) = false := by simpa [Bool.and_eq_true] using ha
    rw [ea]
    clear ea
    obtain ⟨hx, _⟩ | ⟨_, rfl, rfl⟩ := hFF.2
    · exact absurd hx ha
    refine EndsF.step rfl (fun _ h₁ => ?_)
    replace hFF := f18_rely hFF h₁
    clear h₁
    refine goes_oper_k rfl rfl (by k_ne) (fun K hK => ?_)
    go_simp
    refine hK _ _ ⟨?_, ?_⟩
    · refine de_none ?_
      intro ex hex
      have hm := mem_listed hex
      simp [go_sem, *] at hm
    clear hK K
    refine EndsF.step rfl (fun _ h₁ => ?_)
    replace hFF := f18_rely hFF h₁
    clear h₁
    rw [stepG_region_end]
    simp only [goes_go]
    refine ⟨de_nil, ?_⟩
    refine EndsF.step rfl (fun _ h₁ => ?_)
    replace hFF := f18_rely hFF h₁
    clear h₁
    rw [stepG_cond (t := true) rfl]
    simp only [goes_go, if_true, if_false, Bool.false_eq_true, ↓reduceIte]
    refine ⟨de_nil, ?_⟩
    refine EndsF.step rfl (fun _ h₁ => ?_)
    replace hFF := f18_rely hFF h₁
    clear h₁
    rw [stepG_seq]
    simp only [goes_go]
    refine ⟨de_nil, ?_⟩
    refine EndsF.step rfl (fun _ h₁ => ?_)
    replace hFF := f18_rely hFF h₁
    clear h₁
    rw [stepG_region]
    simp only [goes_go, List.size_toArray, List.length_cons, List.length_nil, Nat.reduceAdd, Nat.zero_add, List.range, List.range.loop]
    refine ⟨de_nil, ?_⟩
    refine EndsF.step rfl (fun _ h₁ => ?_)
    replace hFF := f18_rely hFF h₁
    clear h₁
    refine goes_oper_k rfl rfl (by k_ne) (fun K hK => ?_)
    go_simp
    refine hK _ _ ⟨?_, ?_⟩
    · refine de_none ?_
      intro ex hex
      have hm := mem_listed hex
      simp [go_sem, *] at hm
    clear hK K
    refine EndsF.step rfl (fun _ h₁ => ?_)
    replace hFF := f18_rely hFF h₁
    clear h₁
    refine goes_oper_k rfl rfl (by k_ne) (fun K hK => ?_)
    go_simp
    refine hK _ _ ⟨?_, ?_⟩
    · refine de_none ?_
      intro ex hex
      have hm := mem_listed hex
      simp [go_sem, *] at hm
    clear hK K
    refine EndsF.step rfl (fun _ h₁ => ?_)
    replace hFF := f18_rely hFF h₁
    clear h₁
    refine goes_oper_k rfl rfl (by k_ne) (fun K hK => ?_)
    go_simp
    refine hK _ _ ⟨?_, ?_⟩
    · refine de_none ?_
      intro ex hex
      have hm := mem_listed hex
      simp [go_sem, *] at hm
    clear hK K
    refine EndsF.step rfl (fun _ h₁ => ?_)
    replace hFF := f18_rely hFF h₁
    clear h₁
    refine goes_oper_k rfl rfl (by k_ne) (fun K hK => ?_)
    go_simp
    refine hK _ _ ⟨?_, ?_⟩
    · refine de_none ?_
      intro ex hex
      have hm := mem_listed hex
      simp [go_sem, *] at hm
    clear hK K
    refine EndsF.step rfl (fun _ h₁ => ?_)
    replace hFF := f18_rely hFF h₁
    clear h₁
    refine goes_oper_k rfl rfl (by k_ne) (fun K hK => ?_)
    go_simp
    refine hK _ _ ⟨?_, ?_⟩
    · refine de_none ?_
      intro ex hex
      have hm := mem_listed hex
      simp [go_sem, *] at hm
    clear hK K
    refine EndsF.step rfl (fun _ h₁ => ?_)
    replace hFF := f18_rely hFF h₁
    clear h₁
    refine goes_oper_k rfl rfl (by k_ne) (fun K hK => ?_)
    go_simp
    refine hK _ _ ⟨?_, ?_⟩
    · refine de_none ?_
      intro ex hex
      have hm := mem_listed hex
      simp [go_sem, *] at hm
    clear hK K
    refine EndsF.step rfl (fun _ h₁ => ?_)
    replace hFF := f18_rely hFF h₁
    clear h₁
    refine goes_oper_k rfl rfl (by k_ne) (fun K hK => ?_)
    go_simp
    refine hK _ _ ⟨?_, ?_⟩
    · refine de_none ?_
      intro ex hex
      have hm := mem_listed hex
      simp [go_sem, *] at hm
    clear hK K
    refine EndsF.step rfl (fun _ h₁ => ?_)
    replace hFF := f18_rely hFF h₁
    clear h₁
    refine goes_oper_k rfl rfl (by k_ne) (fun K hK => ?_)
    go_simp
    refine hK _ _ ⟨?_, ?_⟩
    · refine de_none ?_
      intro ex hex
      have hm := mem_listed hex
      simp [go_sem, *] at hm
    clear hK K
    refine EndsF.step rfl (fun _ h₁ => ?_)
    replace hFF := f18_rely hFF h₁
    clear h₁
    refine goes_call rfl rfl (by k_ne) rfl Try.func30 nm30 rfl ⟨de_nil, ?_⟩
    walk_nrmf Try.f30
    rename_i w5
    refine awake_ends (H := K2) (w0 := w5) hFF.1.1.2 (Nat.le_refl _) hc1 ho1 ?_
    intro Shun' w6 hS6 hb6 hs6
    have hF4 : Below W.heap.size W w6 ∧ w6.heap.size = K2 + 12 := ⟨hFF.1.1.1.trans (hb6.mono (by omega)), hs6⟩
    clear hFF hb6 hs6
    unfold Back
    walk_nrm
    refine EndsF.step rfl (fun _ h₁ => ?_)
    replace hF4 := sz_rely hF4 h₁
    clear h₁
    refine goes_oper_k rfl rfl (by k_ne) (fun K hK => ?_)
    go_simp
    refine hK _ _ ⟨?_, ?_⟩
    · refine de_none ?_
      intro ex hex
      have hm := mem_listed hex
      simp [go_sem, *] at hm
    clear hK K
    refine EndsF.step rfl (fun _ h₁ => ?_)
    replace hF4 := sz_rely hF4 h₁
    clear h₁
    refine goes_oper_k rfl rfl (by k_ne) (fun K hK => ?_)
    go_simp
    refine hK _ _ ⟨?_, ?_⟩
    · refine de_none ?_
      intro ex hex
      have hm := mem_listed hex
      simp [go_sem, *] at hm
    clear hK K
    refine EndsF.step rfl (fun _ h₁ => ?_)
    replace hF4 := sz_rely hF4 h₁
    clear h₁
    rw [stepG_region_end]
    simp only [goes_go]
    refine ⟨de_nil, ?_⟩
    refine EndsF.step rfl (fun _ h₁ => ?_)
    replace hF4 := sz_rely hF4 h₁
    clear h₁
    rw [stepG_ret']
    simp only [goes_go]
    refine ⟨de_nil, ?_⟩
    refine postL_end rfl (fun w => ?_) hF4.1
    simp [Go.Conc.G, stepG, unwind, doReturn, results, Frame.at, base, b8, Try.func8, Try.f8, seen, GStep.after]
end
end Go.Pool
