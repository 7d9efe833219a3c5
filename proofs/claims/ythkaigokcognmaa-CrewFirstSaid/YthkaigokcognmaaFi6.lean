/-
  FIRST 6: CrewFirst, from its entry to the loop.
-/
import Derived.Test.YthkaigokcognmaaFi5
set_option linter.unusedSimpArgs false
namespace Go.Pool
open Go.Conc Go.RowKit Go.Proofs Go.ConcN Go.Conc.Lib Go.ConcR.Gen Go.ConcN.Gen
open Go.ConcR (KK wgBlock WgAt stA smA rd wr mk DC0)

section
variable {W : World} {sa : Option Addr} {sc n : Nat} {xs : Nat → Int} {av y : Int}

theorem fun34 {Shun : Loc → Prop} {H n Hb : Nat} {w0 : World} {xs : Nat → Int} {y : Int} (hb : Hb < H) (hS : ∀ a : Addr, a.block = Hb → ¬ Shun (.cell a)) (hy : w0.cell? ⟨Hb, 0, none⟩ = some (.int .i64 y)) :
    FunF Shun H w0 n 34 #[.pointer (some ⟨Hb, 0, none⟩)] xs (bsF xs y) := by
  intro φ p hFr F hFb k hk S hSt hSF
  have st := hFr.still (b := Hb) (by omega) id (fun e => by cases e; omega) hS
  exact f34_c (φ := φ) (k := k) (S := S) hSt st (y := y) (fun w hw => (cell_block ((hFb w (hSF w hw)).block Hb hb) 0).trans hy) (xs k)

set_option maxRecDepth 100000 in
set_option maxHeartbeats 8000000 in
/-- ████ CrewFirst. ████ -/
theorem first_law (hn : n * 8 ≤ 140737488351232) (hin : ∀ k, k < n → ∃ Bin oin, sa = some ⟨Bin, oin, none⟩ ∧ Bin < W.heap.size ∧ W.cell? ⟨Bin, oin + k, none⟩ = some (.int .i64 (xs k))) :
    EndsF Try.prog (PostL W) (fun _ => False) 0 (Go.Conc.G (b10.at ⟨#[.slice sa n sc, .int .i64 av, .int .i64 y, undef, undef, undef, undef, undef, undef, undef, undef, undef, undef, undef, undef, undef, undef, undef, undef, undef, undef, undef, undef, undef, undef, undef, undef, undef, undef, undef, undef, undef, undef, undef, undef, undef, undef, undef, undef, undef, undef, undef, undef, undef, undef, undef, undef, undef, undef, undef, undef, undef, undef, undef, undef, undef, undef, undef, undef, undef], []⟩ [.code body10]) []) W := by
  obtain ⟨H, hH⟩ : ∃ H, W.heap.size = H := ⟨_, rfl⟩
  obtain ⟨rr, hR⟩ := isFirst_exists (bsF xs y) n
  have hHd := fun (Shun : Loc → Prop) (K : Nat) (pp ee : Int) h2 h3 h4 h5 h6 h7 hpe => head10 (W := W) (Shun := Shun) (K := K) (Hb := H) (n := n) (a := sa) (xs := xs) (y := y) (cap := sc) (rr := rr) (pp := pp) (ee := ee) (by omega) h2 h3 h4 h5 h6 h7 hR hpe n 0 (by omega) (fun k hk => by omega)
  simp only [L10, K10, Try.f10] at hHd
  refine EndsF.mono (Nat.zero_le (H + 1)) ?_
  simp only [body10, Try.f10, Option.getD_some]
  have hF : Below H W W ∧ W.heap.size = H := ⟨Below.refl _ W, hH⟩
  refine EndsF.step rfl (fun _ h₁ => ?_)
  replace hF := below_rely hF h₁
  clear h₁
  rw [stepG_seq]
  simp only [goes_go]
  refine ⟨de_nil, ?_⟩
  refine EndsF.step rfl (fun _ h₁ => ?_)
  replace hF := below_rely hF h₁
  clear h₁
  rw [stepG_region]
  simp only [goes_go, List.size_toArray, List.length_cons, List.length_nil, Nat.reduceAdd, Nat.zero_add, List.range, List.range.loop]
  refine ⟨de_nil, ?_⟩
  refine EndsF.step rfl (fun wa h₁ => ?_)
  replace hF := below_rely hF h₁
  clear h₁
  refine goes_oper_k rfl rfl (by k_ne) (fun K hK => ?_)
  go_simp
  refine hK _ _ ⟨?_, ?_⟩
  · intro ex hex
    have hm := mem_listed hex
    simp [go_sem, *] at hm
  clear hK K
  replace hF := alloc_facts hF (.cells #[.int .i64 y] 3)
  refine EndsF.step rfl (fun _ h₁ => ?_)
  replace hF := one_rely hF h₁
  clear h₁
  refine goes_oper_k rfl rfl (by k_ne) (fun K hK => ?_)
  go_simp
  refine hK _ _ ⟨?_, ?_⟩
  · refine de_none ?_
    intro ex hex
    have hm := mem_listed hex
    simp [go_sem, *] at hm
  clear hK K
  refine EndsF.step rfl (fun _ h₁ => ?_)
  replace hF := one_rely hF h₁
  clear h₁
  rw [stepG_region_end]
  simp only [goes_go]
  refine ⟨de_nil, ?_⟩
  refine EndsF.step rfl (fun _ h₁ => ?_)
  replace hF := one_rely hF h₁
  clear h₁
  rw [stepG_seq]
  simp only [goes_go]
  refine ⟨de_nil, ?_⟩
  refine EndsF.step rfl (fun _ h₁ => ?_)
  replace hF := one_rely hF h₁
  clear h₁
  rw [stepG_region]
  simp only [goes_go, List.size_toArray, List.length_cons, List.length_nil, Nat.reduceAdd, Nat.zero_add, List.range, List.range.loop]
  refine ⟨de_nil, ?_⟩
  refine EndsF.step rfl (fun _ h₁ => ?_)
  replace hF := one_rely hF h₁
  clear h₁
  refine goes_oper_k rfl rfl (by k_ne) (fun K hK => ?_)
  go_simp
  refine hK _ _ ⟨?_, ?_⟩
  · refine de_none ?_
    intro ex hex
    have hm := mem_listed hex
    simp [go_sem, *] at hm
  clear hK K
  refine EndsF.step rfl (fun _ h₁ => ?_)
  replace hF := one_rely hF h₁
  clear h₁
  refine goes_oper_k rfl rfl (by k_ne) (fun K hK => ?_)
  go_simp
  refine hK _ _ ⟨?_, ?_⟩
  · refine de_none ?_
    intro ex hex
    have hm := mem_listed hex
    simp [go_sem, *] at hm
  clear hK K
  refine EndsF.step rfl (fun _ h₁ => ?_)
  replace hF := one_rely hF h₁
  clear h₁
  refine goes_oper_k rfl rfl (by k_ne) (fun K hK => ?_)
  go_simp
  refine hK _ _ ⟨?_, ?_⟩
  · refine de_none ?_
    intro ex hex
    have hm := mem_listed hex
    simp [go_sem, Instr.makeFunc] at hm
  clear hK K
  refine EndsF.step rfl (fun _ h₁ => ?_)
  replace hF := one_rely hF h₁
  clear h₁
  refine goes_call rfl rfl (by k_ne) rfl Try.func33 nm33 rfl ⟨de_nil, ?_⟩
  walk_nrmf Try.f33
  rename_i wb
  have hyb : wb.cell? ⟨H, 0, none⟩ = some (.int .i64 y) := by simp [World.cell?, hF.2.2]
  have hrow : ∀ k, k < n → ∃ Bin oin, sa = some ⟨Bin, oin, none⟩ ∧ Bin < H ∧ wb.cell? ⟨Bin, oin + k, none⟩ = some (.int .i64 (xs k)) := fun k hk => by
    obtain ⟨Bin, oin, e, hlt, hc⟩ := hin k hk
    exact ⟨Bin, oin, e, by omega, (cell_block (hF.1.block Bin (by omega)) _).trans hc⟩
  by_cases hN : 1 ≤ av ∧ av ≤ 64
  · refine first_ends (H := H + 1) (w0 := wb) (n := n) (sa := sa) (sc := sc) (ff := 34) (fcap := #[.pointer (some ⟨H, 0, none⟩)]) (xs := xs) (bs := bsF xs y) (r := rr) hF.2.1 (Nat.le_refl _) (by omega) (fun _ _ => id) (fun _ => id) hN (fun k hk => ?_) (fun34 (by omega) (fun _ _ => id) hyb) (fun r' h' => isFirst_unique hR h') ?_
    · obtain ⟨Bin, oin, e, hlt, hc⟩ := hrow k hk
      exact ⟨Bin, oin, e, by omega, id, fun _ _ => id, hc⟩
    intro Shun' w' hS' hb' hs'
    have hFF : (Below W.heap.size W w' ∧ w'.heap.size = H + 11) ∧ RowIn sa n xs w' ∧ w'.cell? ⟨H, 0, none⟩ = some (.int .i64 y) :=
      ⟨⟨by rw [hH]; exact hF.1.trans (hb'.mono (by omega)), hs'⟩, fun k hk => by
        obtain ⟨Bin, oin, e, hlt, hc⟩ := hrow k hk
        exact ⟨Bin, oin, e, (cell_block (hb'.block Bin (by omega)) _).trans hc⟩, (cell_block (hb'.block H (by omega)) 0).trans hyb⟩
    have hnS : ∀ z : Addr, z.block ≠ H + 10 → ¬ Shun' (.cell z) := fun z hz h => (hS' _ h).elim id fun ⟨a, e1, e2⟩ => by cases e1; omega
    have hnO : ∀ r, ¬ Shun' (.obj r) := fun r h => (hS' _ h).elim id fun ⟨a, e1, _⟩ => by cases e1
    have okA : OkRow Shun' (H + 11) sa n := fun h0 ad e => by
      obtain ⟨Bin, oin, e', hlt, _⟩ := hrow 0 h0
      rw [e'] at e
      cases e
      exact ⟨fun x hx => hnS x (by rw [hx]; show Bin ≠ H + 10; omega), by show Bin < H + 11; omega⟩
    have ea : (decide (1 ≤ av) && decide (av ≤ 64)) = true := by simpa [Bool.and_eq_true] using hN
    obtain ⟨pp, ee, hpe, htup⟩ : ∃ pp ee : Int, ((rr < n ∧ pp = rr ∧ ee = 0) ∨ (rr = n ∧ pp = 0 ∧ ee = 3)) ∧ (if rr = n then #[Value.int .i64 0, .int .i64 3] else #[.int .i64 rr, .int .i64 0]) = #[.int .i64 pp, .int .i64 ee] := by
      by_cases e : rr = n
      · exact ⟨0, 3, .inr ⟨e, rfl, rfl⟩, by rw [if_pos e]⟩
      · exact ⟨rr, 0, .inl ⟨by have := hR.le; omega, rfl, rfl⟩, by rw [if_neg e]⟩
    rw [htup]
    have hH' := hHd Shun' (H + 11) pp ee (by omega) (fun z hz => hnS z (by omega)) hnO okA (fun z hz => hnS z (by omega)) (by omega) hpe
    clear hF hb' hs' hHd
    unfold Back
    walk_nrm
    refine EndsF.step rfl (fun _ h₁ => ?_)
    replace hFF := l10_rely hFF h₁
    clear h₁
    refine goes_oper_k rfl rfl (by k_ne) (fun K hK => ?_)
    go_simp
    refine hK _ _ ⟨?_, ?_⟩
    · refine de_none ?_
      intro ex hex
      have hm := mem_listed hex
      simp [go_sem, *] at hm
    clear hK K
    refine EndsF.step rfl (fun _ h₁ => ?_)
    replace hFF := l10_rely hFF h₁
    clear h₁
    refine goes_oper_k rfl rfl (by k_ne) (fun K hK => ?_)
    go_simp
    refine hK _ _ ⟨?_, ?_⟩
    · refine de_none ?_
      intro ex hex
      have hm := mem_listed hex
      simp [go_sem, *] at hm
    clear hK K
    refine EndsF.step rfl (fun _ h₁ => ?_)
    replace hFF := l10_rely hFF h₁
    clear h₁
    refine goes_oper_k rfl rfl (by k_ne) (fun K hK => ?_)
    go_simp
    refine hK _ _ ⟨?_, ?_⟩
    · refine de_none ?_
      intro ex hex
      have hm := mem_listed hex
      simp [go_sem, *] at hm
    clear hK K
    refine EndsF.step rfl (fun _ h₁ => ?_)
    replace hFF := l10_rely hFF h₁
    clear h₁
    refine goes_oper_k rfl rfl (by k_ne) (fun K hK => ?_)
    go_simp
    refine hK _ _ ⟨?_, ?_⟩
    · refine de_none ?_
      intro ex hex
      have hm := mem_listed hex
      simp [go_sem, *] at hm
    clear hK K
    refine EndsF.step rfl (fun _ h₁ => ?_)
    replace hFF := l10_rely hFF h₁
    clear h₁
    refine goes_oper_k rfl rfl (by k_ne) (fun K hK => ?_)
    go_simp
    refine hK _ _ ⟨?_, ?_⟩
    · refine de_none ?_
      intro ex hex
      have hm := mem_listed hex
      simp [go_sem, *] at hm
    clear hK K
    refine EndsF.step rfl (fun _ h₁ => ?_)
    replace hFF := l10_rely hFF h₁
    clear h₁
    rw [stepG_region_end]
    simp only [goes_go]
    refine ⟨de_nil, ?_⟩
    refine EndsF.step rfl (fun _ h₁ => ?_)
    replace hFF := l10_rely hFF h₁
    clear h₁
    rw [stepG_seq]
    simp only [goes_go]
    refine ⟨de_nil, ?_⟩
    refine EndsF.step rfl (fun _ h₁ => ?_)
    replace hFF := l10_rely hFF h₁
    clear h₁
    rw [stepG_seq]
    simp only [goes_go]
    refine ⟨de_nil, ?_⟩
    refine EndsF.step rfl (fun _ h₁ => ?_)
    replace hFF := l10_rely hFF h₁
    clear h₁
    rw [stepG_region]
    simp only [goes_go, List.size_toArray, List.length_cons, List.length_nil, Nat.reduceAdd, Nat.zero_add, List.range, List.range.loop]
    refine ⟨de_nil, ?_⟩
    refine EndsF.step rfl (fun _ h₁ => ?_)
    replace hFF := l10_rely hFF h₁
    clear h₁
    refine goes_oper_k rfl rfl (by k_ne) (fun K hK => ?_)
    go_simp
    refine hK _ _ ⟨?_, ?_⟩
    · refine de_none ?_
      intro ex hex
      have hm := mem_listed hex
      simp [go_sem, *] at hm
    clear hK K
    refine EndsF.step rfl (fun _ h₁ => ?_)
    replace hFF := l10_rely hFF h₁
    clear h₁
    refine goes_call rfl rfl (by k_ne) rfl Try.func29 nm29 rfl ⟨de_nil, ?_⟩
    walk_nrmf Try.f29
    rename_i wc
    refine fine29_ends (w := wc) ?_
    rw [ea]
    unfold Back
    walk_nrm
    refine EndsF.step rfl (fun _ h₁ => ?_)
    replace hFF := l10_rely hFF h₁
    clear h₁
    refine goes_oper_k rfl rfl (by k_ne) (fun K hK => ?_)
    go_simp
    refine hK _ _ ⟨?_, ?_⟩
    · refine de_none ?_
      intro ex hex
      have hm := mem_listed hex
      simp [go_sem, *] at hm
    clear hK K
    refine EndsF.step rfl (fun _ h₁ => ?_)
    replace hFF := l10_rely hFF h₁
    clear h₁
    rw [stepG_region_end]
    simp only [goes_go]
    refine ⟨de_nil, ?_⟩
    refine EndsF.step rfl (fun _ h₁ => ?_)
    replace hFF := l10_rely hFF h₁
    clear h₁
    rw [stepG_cond (t := false) rfl]
    simp only [goes_go, if_true, if_false, Bool.false_eq_true, ↓reduceIte]
    refine ⟨de_nil, ?_⟩
    refine EndsF.step rfl (fun _ h₁ => ?_)
    replace hFF := l10_rely hFF h₁
    clear h₁
    rw [stepG_skip]
    simp only [goes_go]
    refine ⟨de_nil, ?_⟩
    refine EndsF.step rfl (fun _ h₁ => ?_)
    replace hFF := l10_rely hFF h₁
    clear h₁
    rw [stepG_seq]
    simp only [goes_go]
    refine ⟨de_nil, ?_⟩
    refine EndsF.step rfl (fun _ h₁ => ?_)
    replace hFF := l10_rely hFF h₁
    clear h₁
    rw [stepG_seq]
    simp only [goes_go]
    refine ⟨de_nil, ?_⟩
    refine EndsF.step rfl (fun _ h₁ => ?_)
    replace hFF := l10_rely hFF h₁
    clear h₁
    rw [stepG_region]
    simp only [goes_go, List.size_toArray, List.length_cons, List.length_nil, Nat.reduceAdd, Nat.zero_add, List.range, List.range.loop]
    refine ⟨de_nil, ?_⟩
    refine EndsF.step rfl (fun _ h₁ => ?_)
    replace hFF := l10_rely hFF h₁
    clear h₁
    refine goes_oper_k rfl rfl (by k_ne) (fun K hK => ?_)
    go_simp
    refine hK _ _ ⟨?_, ?_⟩
    · refine de_none ?_
      intro ex hex
      have hm := mem_listed hex
      simp [go_sem, *] at hm
    clear hK K
    refine EndsF.step rfl (fun _ h₁ => ?_)
    replace hFF := l10_rely hFF h₁
    clear h₁
    rw [stepG_region_end]
    simp only [goes_go]
    refine ⟨de_nil, ?_⟩
    refine EndsF.step rfl (fun _ h₁ => ?_)
    replace hFF := l10_rely hFF h₁
    clear h₁
    rw [stepG_block]
    simp only [goes_go]
    refine ⟨de_nil, ?_⟩
    refine EndsF.step rfl (fun _ h₁ => ?_)
    replace hFF := l10_rely hFF h₁
    clear h₁
    rw [stepG_loop]
    simp only [goes_go]
    refine ⟨de_nil, ?_⟩
    exact hH' _ _ (by simp) (by simp) (by simp) (by simp) (by simp) (by simp) hFF
  · have ea : (decide (1 ≤ av) && decide (av ≤ 64)) = false := by simpa [Bool.and_eq_true] using hN
    refine first_fails (H := H + 1) (w0 := wb) hF.2.1 (Nat.le_refl _) hN ?_
    intro w' hb' hs'
    have hFF : Below W.heap.size W w' ∧ w'.heap.size = H + 3 := ⟨by rw [hH]; exact hF.1.trans (hb'.mono (by omega)), hs'⟩
    clear hF hb' hs' hHd
    unfold Back
    walk_nrm
    refine EndsF.step rfl (fun _ h₁ => ?_)
    replace hFF := sz_rely hFF h₁
    clear h₁
    refine goes_oper_k rfl rfl (by k_ne) (fun K hK => ?_)
    go_simp
    refine hK _ _ ⟨?_, ?_⟩
    · refine de_none ?_
      intro ex hex
      have hm := mem_listed hex
      simp [go_sem, *] at hm
    clear hK K
    refine EndsF.step rfl (fun _ h₁ => ?_)
    replace hFF := sz_rely hFF h₁
    clear h₁
    refine goes_oper_k rfl rfl (by k_ne) (fun K hK => ?_)
    go_simp
    refine hK _ _ ⟨?_, ?_⟩
    · refine de_none ?_
      intro ex hex
      have hm := mem_listed hex
      simp [go_sem, *] at hm
    clear hK K
    refine EndsF.step rfl (fun _ h₁ => ?_)
    replace hFF := sz_rely hFF h₁
    clear h₁
    refine goes_oper_k rfl rfl (by k_ne) (fun K hK => ?_)
    go_simp
    refine hK _ _ ⟨?_, ?_⟩
    · refine de_none ?_
      intro ex hex
      have hm := mem_listed hex
      simp [go_sem, *] at hm
    clear hK K
    refine EndsF.step rfl (fun _ h₁ => ?_)
    replace hFF := sz_rely hFF h₁
    clear h₁
    refine goes_oper_k rfl rfl (by k_ne) (fun K hK => ?_)
    go_simp
    refine hK _ _ ⟨?_, ?_⟩
    · refine de_none ?_
      intro ex hex
      have hm := mem_listed hex
      simp [go_sem, *] at hm
    clear hK K
    refine EndsF.step rfl (fun _ h₁ => ?_)
    replace hFF := sz_rely hFF h₁
    clear h₁
    refine goes_oper_k rfl rfl (by k_ne) (fun K hK => ?_)
    go_simp
    refine hK _ _ ⟨?_, ?_⟩
    · refine de_none ?_
      intro ex hex
      have hm := mem_listed hex
      simp [go_sem, *] at hm
    clear hK K
    refine EndsF.step rfl (fun _ h₁ => ?_)
    replace hFF := sz_rely hFF h₁
    clear h₁
    rw [stepG_region_end]
    simp only [goes_go]
    refine ⟨de_nil, ?_⟩
    refine EndsF.step rfl (fun _ h₁ => ?_)
    replace hFF := sz_rely hFF h₁
    clear h₁
    rw [stepG_seq]
    simp only [goes_go]
    refine ⟨de_nil, ?_⟩
    refine EndsF.step rfl (fun _ h₁ => ?_)
    replace hFF := sz_rely hFF h₁
    clear h₁
    rw [stepG_seq]
    simp only [goes_go]
    refine ⟨de_nil, ?_⟩
    refine EndsF.step rfl (fun _ h₁ => ?_)
    replace hFF := sz_rely hFF h₁
    clear h₁
    rw [stepG_region]
    simp only [goes_go, List.size_toArray, List.length_cons, List.length_nil, Nat.reduceAdd, Nat.zero_add, List.range, List.range.loop]
    refine ⟨de_nil, ?_⟩
    refine EndsF.step rfl (fun _ h₁ => ?_)
    replace hFF := sz_rely hFF h₁
    clear h₁
    refine goes_oper_k rfl rfl (by k_ne) (fun K hK => ?_)
    go_simp
    refine hK _ _ ⟨?_, ?_⟩
    · refine de_none ?_
      intro ex hex
      have hm := mem_listed hex
      simp [go_sem, *] at hm
    clear hK K
    refine EndsF.step rfl (fun _ h₁ => ?_)
    replace hFF := sz_rely hFF h₁
    clear h₁
    refine goes_call rfl rfl (by k_ne) rfl Try.func29 nm29 rfl ⟨de_nil, ?_⟩
    walk_nrmf Try.f29
    rename_i wc
    refine fine29_ends (w := wc) ?_
    rw [ea]
    unfold Back
    walk_nrm
    refine EndsF.step rfl (fun _ h₁ => ?_)
    replace hFF := sz_rely hFF h₁
    clear h₁
    refine goes_oper_k rfl rfl (by k_ne) (fun K hK => ?_)
    go_simp
    refine hK _ _ ⟨?_, ?_⟩
    · refine de_none ?_
      intro ex hex
      have hm := mem_listed hex
      simp [go_sem, *] at hm
    clear hK K
    refine EndsF.step rfl (fun _ h₁ => ?_)
    replace hFF := sz_rely hFF h₁
    clear h₁
    rw [stepG_region_end]
    simp only [goes_go]
    refine ⟨de_nil, ?_⟩
    refine EndsF.step rfl (fun _ h₁ => ?_)
    replace hFF := sz_rely hFF h₁
    clear h₁
    rw [stepG_cond (t := true) rfl]
    simp only [goes_go, if_true, if_false, Bool.false_eq_true, ↓reduceIte]
    refine ⟨de_nil, ?_⟩
    refine EndsF.step rfl (fun _ h₁ => ?_)
    replace hFF := sz_rely hFF h₁
    clear h₁
    rw [stepG_seq]
    simp only [goes_go]
    refine ⟨de_nil, ?_⟩
    refine EndsF.step rfl (fun _ h₁ => ?_)
    replace hFF := sz_rely hFF h₁
    clear h₁
    rw [stepG_region]
    simp only [goes_go, List.size_toArray, List.length_cons, List.length_nil, Nat.reduceAdd, Nat.zero_add, List.range, List.range.loop]
    refine ⟨de_nil, ?_⟩
    refine EndsF.step rfl (fun _ h₁ => ?_)
    replace hFF := sz_rely hFF h₁
    clear h₁
    refine goes_oper_k rfl rfl (by k_ne) (fun K hK => ?_)
    go_simp
    refine hK _ _ ⟨?_, ?_⟩
    · refine de_none ?_
      intro ex hex
      have hm := mem_listed hex
      simp [go_sem, *] at hm
    clear hK K
    refine EndsF.step rfl (fun _ h₁ => ?_)
    replace hFF := sz_rely hFF h₁
    clear h₁
    refine goes_oper_k rfl rfl (by k_ne) (fun K hK => ?_)
    go_simp
    refine hK _ _ ⟨?_, ?_⟩
    · refine de_none ?_
      intro ex hex
      have hm := mem_listed hex
      simp [go_sem, *] at hm
    clear hK K
    refine EndsF.step rfl (fun _ h₁ => ?_)
    replace hFF := sz_rely hFF h₁
    clear h₁
    refine goes_oper_k rfl rfl (by k_ne) (fun K hK => ?_)
    go_simp
    refine hK _ _ ⟨?_, ?_⟩
    · refine de_none ?_
      intro ex hex
      have hm := mem_listed hex
      simp [go_sem, *] at hm
    clear hK K
    refine EndsF.step rfl (fun _ h₁ => ?_)
    replace hFF := sz_rely hFF h₁
    clear h₁
    refine goes_oper_k rfl rfl (by k_ne) (fun K hK => ?_)
    go_simp
    refine hK _ _ ⟨?_, ?_⟩
    · refine de_none ?_
      intro ex hex
      have hm := mem_listed hex
      simp [go_sem, *] at hm
    clear hK K
    refine EndsF.step rfl (fun _ h₁ => ?_)
    replace hFF := sz_rely hFF h₁
    clear h₁
    refine goes_oper_k rfl rfl (by k_ne) (fun K hK => ?_)
    go_simp
    refine hK _ _ ⟨?_, ?_⟩
    · refine de_none ?_
      intro ex hex
      have hm := mem_listed hex
      simp [go_sem, *] at hm
    clear hK K
    refine EndsF.step rfl (fun _ h₁ => ?_)
    replace hFF := sz_rely hFF h₁
    clear h₁
    refine goes_oper_k rfl rfl (by k_ne) (fun K hK => ?_)
    go_simp
    refine hK _ _ ⟨?_, ?_⟩
    · refine de_none ?_
      intro ex hex
      have hm := mem_listed hex
      simp [go_sem, *] at hm
    clear hK K
    refine EndsF.step rfl (fun _ h₁ => ?_)
    replace hFF := sz_rely hFF h₁
    clear h₁
    refine goes_oper_k rfl rfl (by k_ne) (fun K hK => ?_)
    go_simp
    refine hK _ _ ⟨?_, ?_⟩
    · refine de_none ?_
      intro ex hex
      have hm := mem_listed hex
      simp [go_sem, *] at hm
    clear hK K
    refine EndsF.step rfl (fun _ h₁ => ?_)
    replace hFF := sz_rely hFF h₁
    clear h₁
    refine goes_call rfl rfl (by k_ne) rfl Try.func30 nm30 rfl ⟨de_nil, ?_⟩
    walk_nrmf Try.f30
    rename_i w5
    refine awake_ends (H := H + 3) (w0 := w5) hFF.2 (Nat.le_refl _) (fun _ _ => id) (fun _ => id) ?_
    intro Shun' w6 hS6 hb6 hs6
    have hF4 : Below W.heap.size W w6 ∧ w6.heap.size = H + 3 + 12 := ⟨hFF.1.trans (hb6.mono (by omega)), hs6⟩
    clear hFF hb6 hs6
    unfold Back
    walk_nrm
    refine EndsF.step rfl (fun _ h₁ => ?_)
    replace hF4 := sz_rely hF4 h₁
    clear h₁
    refine goes_oper_k rfl rfl (by k_ne) (fun K hK => ?_)
    go_simp
    refine hK _ _ ⟨?_, ?_⟩
    · refine de_none ?_
      intro ex hex
      have hm := mem_listed hex
      simp [go_sem, *] at hm
    clear hK K
    refine EndsF.step rfl (fun _ h₁ => ?_)
    replace hF4 := sz_rely hF4 h₁
    clear h₁
    refine goes_oper_k rfl rfl (by k_ne) (fun K hK => ?_)
    go_simp
    refine hK _ _ ⟨?_, ?_⟩
    · refine de_none ?_
      intro ex hex
      have hm := mem_listed hex
      simp [go_sem, *] at hm
    clear hK K
    refine EndsF.step rfl (fun _ h₁ => ?_)
    replace hF4 := sz_rely hF4 h₁
    clear h₁
    rw [stepG_region_end]
    simp only [goes_go]
    refine ⟨de_nil, ?_⟩
    refine EndsF.step rfl (fun _ h₁ => ?_)
    replace hF4 := sz_rely hF4 h₁
    clear h₁
    rw [stepG_ret']
    simp only [goes_go]
    refine ⟨de_nil, ?_⟩
    refine postL_end rfl (fun w => ?_) hF4.1
    simp [Go.Conc.G, stepG, unwind, doReturn, results, Frame.at, base, b10, Try.func10, Try.f10, seen, GStep.after]
end
end Go.Pool
