/- ShaSums: the walk. -/
import Derived.Test.YthkaigokcognmaaRef6
import Derived.Test.YthkaigokcognmaaSha7
namespace Go.Proofs.Ythkaigokcognmaa.Sha
open Go.RowKit

theorem sums_walk (s : ByteArray) (hs : s.size ≤ 140737488351232) {w : World} :
    Calls Try.prog 3 #[.string s] w fun e w' => e = .returned (.bool true) ∧ Below w.heap.size w w' := by
  have key : Calls Try.prog 3 #[.string s] w (LawPost w) := by
    go_enter Try.func3, Try.ntmps3
    go_wp2_with fail
    refine (sumS_any s _ (by omega)).mono ?_
    rintro e w1 ⟨rfl, F1⟩
    go_wp2_with fail
    refine (reckoned_any s (by omega) _).mono ?_
    rintro e w2 ⟨rfl, F2⟩
    generalize hx : strOf (digest (bytesOf s)) = x
    go_wp2_with fail
    refine (rsum_any s (by omega) _).mono ?_
    rintro e w3 ⟨rfl, F3⟩
    rw [hx]
    go_wp2_with fail
    refine (reckoned_any s (by omega) _).mono ?_
    rintro e w4 ⟨rfl, F4⟩
    rw [hx]
    clear hx
    go_wp2_with fail
    refine (awake_any _).mono ?_
    rintro e w5 ⟨rfl, F5⟩
    have hfin : LawPost w (.returned (.bool true)) w5 := ⟨rfl, (((F1.trans F2 (by simp)).trans F3 (by simp)).trans F4 (by simp)).trans F5 (by simp)⟩
    go_wp2_with fail
    go_ret
    exact hfin
  exact key.mono fun e w' h => ⟨h.1, h.2.below (Nat.le_refl _) (by simp)⟩
end Go.Proofs.Ythkaigokcognmaa.Sha
