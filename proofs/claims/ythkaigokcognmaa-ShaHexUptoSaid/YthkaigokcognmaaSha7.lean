/- sha's law: awake; a hash that nobody made answers nothing. -/
import Derived.Test.YthkaigokcognmaaSha6
import Derived.Test.YthkaigokcognmaaEval
namespace Go.Proofs.Ythkaigokcognmaa.Sha
open Go.RowKit

def LawPost (w : World) (e : Ending) (w' : World) : Prop := e = .returned (.bool true) ∧ Fr [] w w'

theorem hex_abc : strOf (hexL (bytesOf (strOf (digest [97, 98, 99])))) = ⟨#[98, 97, 55, 56, 49, 54, 98, 102, 56, 102, 48, 49, 99, 102, 101, 97, 52, 49, 52, 49, 52, 48, 100, 101, 53, 100, 97, 101, 50, 50, 50, 51, 98, 48, 48, 51, 54, 49, 97, 51, 57, 54, 49, 55, 55, 97, 57, 99, 98, 52, 49, 48, 102, 102, 54, 49, 102, 50, 48, 48, 49, 53, 97, 100]⟩ := by
  rw [bytesOf_strOf (digest_lt _), digest_abc]
  rfl

theorem awake_any (w : World) : Calls Try.prog 16 #[] w (LawPost w) := by
  have hx : strOf (hexL (bytesOf (strOf (digest (bytesOf ⟨#[97, 98, 99]⟩))))) = ⟨#[98, 97, 55, 56, 49, 54, 98, 102, 56, 102, 48, 49, 99, 102, 101, 97, 52, 49, 52, 49, 52, 48, 100, 101, 53, 100, 97, 101, 50, 50, 50, 51, 98, 48, 48, 51, 54, 49, 97, 51, 57, 54, 49, 55, 55, 97, 57, 99, 98, 52, 49, 48, 102, 102, 54, 49, 102, 50, 48, 48, 49, 53, 97, 100]⟩ := hex_abc
  go_enter Try.func16, Try.ntmps16
  go_wp2_with fail
  refine (sumS_any _ _ (by decide)).mono ?_
  rintro e w1 ⟨rfl, F1⟩
  have hsz : (strOf (digest (bytesOf ⟨#[97, 98, 99]⟩))).size ≤ 70368744177664 := by rw [← bytesOf_len, bytesOf_strOf (digest_lt _), digest_len]; omega
  generalize strOf (digest (bytesOf ⟨#[97, 98, 99]⟩)) = x at hx hsz
  go_wp2_with fail
  refine (hex_any _ _ hsz).mono ?_
  rintro e w2 ⟨rfl, F2⟩
  rw [hx]
  have hfin : LawPost w (.returned (.bool true)) w2 := ⟨rfl, F1.step F2 (by simp)⟩
  clear hx
  go_wp2_with fail
  go_ret
  exact hfin

/-- No hash: nil, or one that New did not give. -/
def Not (p : Option Addr) (w : World) : Prop := p = none ∨ ∃ b st left n, p = some ⟨b, 0, none⟩ ∧ Blk w b 40 (hashC false st left n)

theorem given_not {p : Option Addr} {w : World} (h : Not p w) : Calls Try.prog 43 #[.pointer p] w fun e w' => e = .returned (.bool false) ∧ w' = w := by
  rcases h with rfl | ⟨b, st, left, n, rfl, hc⟩
  · exact given_nil w
  · exact given_made false _ _ _ _ _ hc
theorem write_not {p : Option Addr} {w : World} (s : ByteArray) (h : Not p w) : Calls Try.prog 18 #[.pointer p, .string s] w fun e w' => e = .returned (.tuple #[]) ∧ w' = w := by
  go_enter Try.func18, Try.ntmps18
  go_wp2_with (go_at_call 43; refine (given_not h).mono ?_; rintro e w' ⟨rfl, rfl⟩)
  exact ⟨rfl, .tuple #[], results_none (fn := Try.f18) (by rfl) _ _ _, rfl, rfl⟩
theorem sum_none {p : Option Addr} {w : World} (h : Not p w) : Calls Try.prog 20 #[.pointer p] w fun e w' => e = .returned (.string ⟨#[]⟩) ∧ w' = w := by
  rcases h with rfl | ⟨b, st, left, n, rfl, hc⟩
  · exact sum_nil w
  · exact sum_not _ _ _ _ _ hc
theorem len_not {p : Option Addr} {w : World} (h : Not p w) : Calls Try.prog 19 #[.pointer p] w fun e w' => e = .returned (.int .i64 0) ∧ w' = w := by
  rcases h with rfl | ⟨b, st, left, n, rfl, hc⟩
  · exact len_nil w
  · exact len_made false _ _ _ _ _ hc

set_option maxHeartbeats 1600000 in
theorem nobody_walk (s : ByteArray) (_hs : s.size ≤ 140737488351232) {w : World} :
    Calls Try.prog 6 #[.string s] w fun e w' => e = .returned (.bool true) ∧ Below w.heap.size w w' := by
  have key : Calls Try.prog 6 #[.string s] w (LawPost w) := by
    go_enter Try.func6, Try.ntmps6
    go_wp2_with fail
    generalize hW : (World.alloc _ _) = w1
    have F1 : Fr [] w w1 := by rw [← hW]; exact ((Fr.refl _ _).alloc _).alloc _
    have hp : ∀ k : Nat, k < 2 → ∃ p, w1.cell? ⟨w.heap.size + 1, k, none⟩ = some (.pointer p) ∧ Not p w1 := by
      intro k hk
      rcases (show k = 0 ∨ k = 1 by omega) with rfl | rfl
      · refine ⟨none, ?_, .inl rfl⟩
        rw [← hW, World.cell?_alloc_at _ _ _ _ (by simp)]
        rfl
      · refine ⟨some ⟨w.heap.size, 0, none⟩, ?_, .inr ⟨w.heap.size, ⟨0, 0, 0, 0, 0, 0, 0, 0⟩, ⟨#[]⟩, 0, rfl, ?_⟩⟩
        · rw [← hW, World.cell?_alloc_at _ _ _ _ (by simp)]
          rfl
        · rw [← hW]
          exact (Blk.new w 40 _).alloc _
    clear hW
    go_loop [4] (fun i => ∃ k : Nat, k ≤ 2 ∧ i = .int .i64 k) (fun i => 2 - (intOf i).toNat)
    case atStart => exact ⟨0, by omega, rfl⟩
    case round =>
      obtain ⟨k, hk, rfl⟩ := hrel
      by_cases hlt : k < 2
      · obtain ⟨p, hc, hn⟩ := hp k hlt
        have i0 : (0 : Int) ≤ (k : Int) := by omega
        have i1 : (k : Int) < 2 := by omega
        clear hp
        go_wp2_with (first
          | (go_at_call 18; refine (write_not s hn).mono ?_; rintro e w' ⟨rfl, rfl⟩)
          | (go_at_call 20; refine (sum_none hn).mono ?_; rintro e w' ⟨rfl, rfl⟩)
          | (go_at_call 19; refine (len_not hn).mono ?_; rintro e w' ⟨rfl, rfl⟩))
        go_round
        case rel => exact ⟨k + 1, by omega, by go_num⟩
        case measure => simp [intOf]; omega
      · have hk2 : ¬ (k : Int) < 2 := by omega
        clear hp
        go_wp2_with fail
        refine (awake_any _).mono ?_
        rintro e w4 ⟨rfl, F4⟩
        go_wp2
        go_ret
        exact ⟨rfl, F1.step F4 (by simp)⟩
  exact key.mono fun e w' h => ⟨h.1, h.2.below (Nat.le_refl _) (by simp)⟩
end Go.Proofs.Ythkaigokcognmaa.Sha
