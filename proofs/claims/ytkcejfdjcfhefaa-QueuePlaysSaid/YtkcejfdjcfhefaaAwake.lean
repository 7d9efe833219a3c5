/- awake: a small run of a queue, told by the contracts. -/
import Derived.Test.YtkcejfdjcfhefaaQi5
import Derived.Test.YtkcejfdjcfhefaaSame
namespace Go.Proofs.Ytkcejfdjcfhefaa.QI
open Go.RowKit

def AwakePost (w : World) (e : Ending) (w' : World) : Prop := e = .returned (.bool true) ∧ Fr [] w w'

theorem len_q {b room : Nat} {xs : List Int} {d : Int} {ls : List Nat} {w : World} (h : QRep 46 3 (Value.int .i64) w b room xs d ls) :
    Calls Try.prog 17 #[.pointer (some ⟨b, 0, none⟩)] w fun e w' => e = .returned (.int .i64 xs.length) ∧ w = w' := by
  obtain ⟨hr1, _, _, _, _, _, _, _, _, hB, _⟩ := h
  exact len_any b room _ w hr1 (hB.cell 0) (hB.cell 3)

theorem drops_q {b room : Nat} {xs : List Int} {d : Int} {ls : List Nat} {w : World} (h : QRep 46 3 (Value.int .i64) w b room xs d ls) :
    Calls Try.prog 18 #[.pointer (some ⟨b, 0, none⟩)] w fun e w' => e = .returned (.int .i64 d) ∧ w = w' := by
  obtain ⟨hr1, _, _, _, _, _, _, _, _, hB, _⟩ := h
  exact drops_any b room _ w hr1 (hB.cell 0) (hB.cell 4)

set_option maxHeartbeats 800000 in
theorem awake_any (w : World) : Calls Try.prog 9 #[] w (AwakePost w) := by
  go_enter Try.func9, Try.ntmps9
  go_wp2_with fail
  refine (new_good 2 _ (by omega) (by omega)).mono ?_
  rintro e w1 ⟨rfl, q1, F1⟩
  go_wp2_with fail
  refine (push_space 1 q1 (by simp)).mono ?_
  rintro e w2 ⟨rfl, l2, q2, L2, F2⟩
  go_wp2_with fail
  refine (push_space 2 q2 (by simp)).mono ?_
  rintro e w3 ⟨rfl, l3, q3, L3, F3⟩
  go_wp2_with fail
  refine (push_full 3 q3 (by simp)).mono ?_
  rintro e w4 ⟨rfl, q4, F4⟩
  go_wp2_with fail
  refine (pop_any q4).mono ?_
  rintro e w5 ⟨rfl, q5, F5⟩
  go_wp2_with fail
  refine (drops_q q5).mono ?_
  rintro e w5 ⟨rfl, rfl⟩
  go_wp2_with fail
  refine (push_space 4 q5 (by simp)).mono ?_
  rintro e w6 ⟨rfl, l6, q6, L6, F6⟩
  go_wp2_with fail
  refine (items_any q6).mono ?_
  rintro e w7 ⟨v, rfl, hown, F7, -⟩
  go_wp2_with fail
  obtain ⟨gs, hs, hge⟩ := Sl.of_own (V := Value.int .i64) (xs := [2, 4]) hown
  have hs' := hs.fr ((Fr.refl [] w7).alloc (.cells #[.int .i64 2, .int .i64 4] 3)) (by simp)
  have ht := Sl.lit (Value.int .i64) w7 3 [2, 4]
  refine (same_any hs' ht (by simp)).mono ?_
  rintro e w8 ⟨rfl, j, rfl⟩
  have s1 := F1.size
  have s2 := F2.size
  have s3 := F3.size
  have s4 := F4.size
  have s5 := F5.size
  have m2 : ∀ k ∈ l2, w.heap.size ≤ k := fun k hk => by rcases L2 k hk with h | h; cases h; omega
  have m3 : ∀ k ∈ l3, w.heap.size ≤ k := fun k hk => by
    rcases L3 k hk with h | h
    · exact m2 k h
    · omega
  have G5 : Fr [] w w5 := ((((F1.step F2 (by simp)).step F3 (by simpa using m2)).step F4 (by simp)).step F5 (by simpa using m3))
  have G7 : Fr [] w w7 := (G5.step F6 (by simpa using m3)).step F7 (by simp)
  have hfin : AwakePost w (.returned (.bool true)) ((w7.alloc (.cells #[.int .i64 2, .int .i64 4] 3)).drewN j) := ⟨rfl, (G7.alloc _).drewN j⟩
  clear q1 q2 q3 q4 q5 q6 hs hs' ht hown
  go_wp2
  go_ret
  exact hfin
end Go.Proofs.Ytkcejfdjcfhefaa.QI
