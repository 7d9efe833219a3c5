/-
  CREW 16: a slice of one's own by 'append(nil, in...)'.
-/
import Derived.Test.YthkaigokcognmaaCr15
import Derived.Conc.AppendEvents3
set_option linter.unusedSimpArgs false
namespace Go.Pool
open Go.Conc Go.RowKit Go.Proofs Go.ConcN

theorem evL_neutral {Shun : Loc → Prop} {B : Nat} {m : Mark} (h : Neutral m) : EvL Shun B ⟨.mark m, false, true⟩ := by
  unfold Neutral at h
  subst h
  exact ⟨fun x hx => by simp [MemAct.ofEvent, MemAct.touch?] at hx, by simp, by simp, trivial⟩

section
variable {w : World} {sa : Option Addr} {n cap : Nat} {xs : Nat → Int}

theorem grow_copy (hn : n * 8 ≤ 140737488351232) (hr : RowIn sa n xs w) :
    ∃ v' w', (Builtin.append_ #[43, 43] 43 #[.slice none 0 0, .slice sa n cap]).run Try.prog w = .ok v' w' ∧ (∃ a' cap', v' = .slice a' n cap' ∧ RowIn a' n xs w' ∧ ∀ ad, a' = some ad → w.heap.size ≤ ad.block ∧ ad.block < w'.heap.size) ∧ w.grownBy w' none ∧
      ∀ ev ∈ (Builtin.append_ #[43, 43] 43 #[.slice none 0 0, .slice sa n cap]).events Try.prog w #[], (∃ ad a, ev.loc = .cell ad ∧ 0 < n ∧ sa = some a ∧ ad.block = a.block) ∨ ∃ m, ev = ⟨.mark m, false, true⟩ ∧ Neutral m := by
  obtain ⟨i0, hi, hz0, hz1, hz2⟩ := info_parts info3
  have hr' : RowIn none 0 xs w := fun k hk => absurd hk (by omega)
  rcases Nat.eq_zero_or_pos n with h0 | h0
  · subst h0
    cases sa with
    | none =>
      refine ⟨.slice none 0 0, w, ?_, ⟨none, 0, rfl, hr', fun _ h => by cases h⟩, World.grownBy.refl w _, fun ev hev => ?_⟩
      · simp [Builtin.append_, run_underlying Try.underlying43, sizeOf, typeInfo, hi, Builtin.lenOf, Builtin.firstCells]
      · simp [Builtin.append_, run_underlying Try.underlying43, sizeOf, typeInfo, hi, Builtin.lenOf, Builtin.firstCells] at hev
    | some a =>
      refine ⟨.slice none 0 0, w, ?_, ⟨none, 0, rfl, hr', fun _ h => by cases h⟩, World.grownBy.refl w _, fun ev hev => ?_⟩
      · simp [Builtin.append_, run_underlying Try.underlying43, sizeOf, typeInfo, hi, Builtin.lenOf, Builtin.firstCells, loadCells, loadCellsFrom]
      · simp [Builtin.append_, run_underlying Try.underlying43, sizeOf, typeInfo, hi, Builtin.lenOf, Builtin.firstCells, loadCells, loadCellsFrom] at hev
  cases sa with
  | none =>
    obtain ⟨b, o, e, _⟩ := hr 0 h0
    cases e
  | some a =>
    have hnews : ∀ j u, ((List.range n).map fun k => (Value.int .i64 (xs k)))[j]? = some u → w.cell? (a.add j) = some u := by
      intro j u hj
      rw [List.getElem?_map] at hj
      by_cases hjn : j < n
      · rw [List.getElem?_range hjn] at hj
        simp only [Option.map_some, Option.some.injEq] at hj
        subst hj
        obtain ⟨b, o, e, hc⟩ := hr j hjn
        cases e
        have e : (⟨b, o, none⟩ : Addr).add j = ⟨b, o + j, none⟩ := by unfold Addr.add; split <;> simp_all
        rw [e]; exact hc
      · rw [List.getElem?_eq_none (by simp; omega)] at hj
        cases hj
    have h1 : ∀ u ∈ (List.range n).map fun k => (Value.int .i64 (xs k)), u.oneCell' = true := by
      intro u hu
      obtain ⟨k, _, rfl⟩ := List.mem_map.1 hu
      rfl
    have hm : 0 + n ≤ maxLen := by simp only [maxLen]; omega
    obtain ⟨v', w', hrun, hown, hg, _⟩ := run_append_own (P := Try.prog) (w := w) w.heap.size 43 43 3 i0 (.int .i64 0) 1 8 Try.underlying43 hi hz0 hz1 hz2 rfl (by omega) (.slice none 0 0) 0 [] (World.ownsRow_nil w _ 3 1) a n cap ((List.range n).map fun k => (Value.int .i64 (xs k))) (by simp) hnews h1 hm (by omega) (Nat.le_refl _)
    have hev := events_append_where (P := Try.prog) w w.heap.size 43 43 3 i0 (.int .i64 0) 1 8 Try.underlying43 hi hz0 hz1 hz2 (.slice none 0 0) 0 [] (World.ownsRow_nil w _ 3 1) a n cap ((List.range n).map fun k => (Value.int .i64 (xs k))) (by simp) hnews h1 hm (by omega)
    refine ⟨v', w', hrun, ?_, hg, fun ev he => ?_⟩
    · rcases hown.2 with ⟨rfl, h0⟩ | ⟨g, cap', cur, rfl, hbg, hgc, _, _, hcs, htake⟩
      · obtain rfl : n = 0 := by omega
        exact ⟨none, 0, rfl, fun k hk => absurd hk (by omega), fun _ h => by cases h⟩
      · refine ⟨some ⟨g, 0, none⟩, cap', by rw [Nat.zero_add], fun k hk => ⟨g, 0, rfl, ?_⟩, fun ad e => by cases e; exact ⟨hbg, (Array.getElem?_eq_some_iff.1 hgc).1⟩⟩
        have : cur.toList[k]? = some (.int .i64 (xs k)) := by
          have h2 : (cur.toList.take ((0 + n) * 1))[k]? = some (.int .i64 (xs k)) := by rw [htake]; simp [hk]
          rw [List.getElem?_take] at h2
          split at h2
          · exact h2
          · cases h2
        simp [World.cell?, hgc]
        simpa using this
    · rcases hev ev he with ⟨ad, h2, h3 | h3⟩ | h
      · exact .inl ⟨ad, a, h2, h0, rfl, h3.2⟩
      · simp [Value.ownBlock] at h3
      · exact .inr h
end
end Go.Pool
