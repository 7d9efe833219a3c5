/- QueueNobody's walk: a queue that nobody made answers nothing. -/
import Derived.Test.YtkcejfdjcfhefaaCountsWalk
namespace Go.Proofs.Ytkcejfdjcfhefaa.QI
open Go.RowKit

/-- No queue: nil, or one that New did not give. -/
def Not (p : Option Addr) (w : World) : Prop := p = none ∨ ∃ b, p = some ⟨b, 0, none⟩ ∧ w.cell? ⟨b, 0, none⟩ = some (.int .i64 0)

theorem given_not {p : Option Addr} {w : World} (h : Not p w) : Calls Try.prog 24 #[.pointer p] w fun e w' => e = .returned (.bool false) ∧ w = w' := by
  rcases h with rfl | ⟨b, rfl, hc⟩
  · exact given_nil w
  · exact given_zero b w hc

theorem pop_not {p : Option Addr} {w : World} (h : Not p w) : Calls Try.prog 15 #[.pointer p] w fun e w' => e = .returned (.tuple #[.int .i64 0, .bool false]) ∧ w = w' := by
  go_enter Try.func15, Try.ntmps15
  go_wp2_with (go_at_call 24; refine (given_not h).mono ?_; rintro e w' ⟨rfl, rfl⟩)
  go_ret2
  exact ⟨rfl, rfl⟩
theorem push_not {p : Option Addr} {w : World} (x : Int) (h : Not p w) : Calls Try.prog 16 #[.pointer p, .int .i64 x] w fun e w' => e = .returned (.bool false) ∧ w = w' := by
  go_enter Try.func16, Try.ntmps16
  go_wp2_with (go_at_call 24; refine (given_not h).mono ?_; rintro e w' ⟨rfl, rfl⟩)
  go_ret
  exact ⟨rfl, rfl⟩
theorem len_not {p : Option Addr} {w : World} (h : Not p w) : Calls Try.prog 17 #[.pointer p] w fun e w' => e = .returned (.int .i64 0) ∧ w = w' := by
  go_enter Try.func17, Try.ntmps17
  go_wp2_with (go_at_call 24; refine (given_not h).mono ?_; rintro e w' ⟨rfl, rfl⟩)
  go_ret
  exact ⟨rfl, rfl⟩
theorem drops_not {p : Option Addr} {w : World} (h : Not p w) : Calls Try.prog 18 #[.pointer p] w fun e w' => e = .returned (.int .i64 0) ∧ w = w' := by
  go_enter Try.func18, Try.ntmps18
  go_wp2_with (go_at_call 24; refine (given_not h).mono ?_; rintro e w' ⟨rfl, rfl⟩)
  go_ret
  exact ⟨rfl, rfl⟩
theorem items_not {p : Option Addr} {w : World} (h : Not p w) : Calls Try.prog 19 #[.pointer p] w fun e w' => e = .returned (.slice none 0 0) ∧ w = w' := by
  go_enter Try.func19, Try.ntmps19
  go_wp2_with (go_at_call 24; refine (given_not h).mono ?_; rintro e w' ⟨rfl, rfl⟩)
  go_ret
  exact ⟨rfl, rfl⟩
theorem copy_not {p : Option Addr} {w : World} (h : Not p w) : Calls Try.prog 20 #[.pointer p] w fun e w' => e = .returned (.pointer none) ∧ w = w' := by
  go_enter Try.func20, Try.ntmps20
  go_wp2_with (go_at_call 24; refine (given_not h).mono ?_; rintro e w' ⟨rfl, rfl⟩)
  go_ret
  exact ⟨rfl, rfl⟩

set_option maxHeartbeats 1600000 in
theorem nobody_walk (x : Int) (_hb : -9223372036854775808 ≤ x ∧ x ≤ 9223372036854775807) {w : World} :
    Calls Try.prog 7 #[.int .i64 x] w fun e w' => e = .returned (.bool true) ∧ Below w.heap.size w w' := by
  have key : Calls Try.prog 7 #[.int .i64 x] w (LawPost w) := by
    go_enter Try.func7, Try.ntmps7
    go_wp2_with fail
    generalize hW : (World.alloc _ _) = w1
    have F1 : Fr [] w w1 := by rw [← hW]; exact ((Fr.refl _ _).alloc _).alloc _
    have hp : ∀ k : Nat, k < 2 → ∃ p, w1.cell? ⟨w.heap.size + 1, k, none⟩ = some (.pointer p) ∧ Not p w1 := by
      intro k hk
      rcases (show k = 0 ∨ k = 1 by omega) with rfl | rfl
      · refine ⟨none, ?_, .inl rfl⟩
        rw [← hW, World.cell?_alloc_at _ _ _ _ (by simp)]
        rfl
      · refine ⟨some ⟨w.heap.size, 0, none⟩, ?_, .inr ⟨_, rfl, ?_⟩⟩
        · rw [← hW, World.cell?_alloc_at _ _ _ _ (by simp)]
          rfl
        · rw [← hW, World.cell?_alloc_past _ _ _ (by simp), World.cell?_alloc_at _ _ _ _ rfl]
          rfl
    clear hW
    go_loop [4] (fun i => ∃ k : Nat, k ≤ 2 ∧ i = .int .i64 k) (fun i => 2 - (intOf i).toNat)
    case atStart => exact ⟨0, by omega, rfl⟩
    case round =>
      obtain ⟨k, hk, rfl⟩ := hrel
      by_cases hlt : k < 2
      · obtain ⟨p, hc, hn⟩ := hp k hlt
        have i0 : (0 : Int) ≤ (k : Int) := by omega
        have i1 : (k : Int) < 2 := by omega
        clear hp
        go_wp2_with (first
          | (go_at_call 15; refine (pop_not hn).mono ?_; rintro e w' ⟨rfl, rfl⟩)
          | (go_at_call 16; refine (push_not x hn).mono ?_; rintro e w' ⟨rfl, rfl⟩)
          | (go_at_call 17; refine (len_not hn).mono ?_; rintro e w' ⟨rfl, rfl⟩)
          | (go_at_call 18; refine (drops_not hn).mono ?_; rintro e w' ⟨rfl, rfl⟩)
          | (go_at_call 19; refine (items_not hn).mono ?_; rintro e w' ⟨rfl, rfl⟩)
          | (go_at_call 20; refine (copy_not hn).mono ?_; rintro e w' ⟨rfl, rfl⟩))
        go_round
        case rel => exact ⟨k + 1, by omega, by go_num⟩
        case measure => simp [intOf]; omega
      · have hk2 : ¬ (k : Int) < 2 := by omega
        clear hp
        go_wp2_with fail
        refine (awake_any _).mono ?_
        rintro e w4 ⟨rfl, F4⟩
        go_wp2
        go_ret
        exact ⟨rfl, F1.step F4 (by simp)⟩
  exact key.mono fun e w' h => ⟨h.1, h.2.below (Nat.le_refl _) (by simp)⟩
end Go.Proofs.Ytkcejfdjcfhefaa.QI
