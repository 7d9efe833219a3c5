/- The methods of a queue of numbers that only look: given, Len, Drops; New. -/
import Derived.Test.YtkcejfdjcfhefaaRows
import Derived.Test.YtkcejfdjcfhefaaMem
import Derived.WalkKit
import Derived.Outline
import Derived.Deep.QuietTactic
import Derived.BigQuiet
import Derived.BigRegion
import Derived.WalkSpells
import Derived.WalkLawsBesides
import Derived.Lib.Hide
namespace Go.Proofs.Ytkcejfdjcfhefaa.QI
open Go.RowKit

theorem given_any (b room : Nat) (w : World) (hr : 1 ≤ room) (h0 : w.cell? ⟨b, 0, none⟩ = some (.int .i64 room)) :
    Calls Try.prog 24 #[.pointer (some ⟨b, 0, none⟩)] w fun e w' => e = .returned (.bool true) ∧ w = w' := by
  have hd : decide (0 < room) = true := by simp; omega
  go_enter Try.func24, Try.ntmps24
  go_wp2
  go_ret
  exact ⟨rfl, rfl⟩

theorem given_nil (w : World) :
    Calls Try.prog 24 #[.pointer none] w fun e w' => e = .returned (.bool false) ∧ w = w' := by
  go_enter Try.func24, Try.ntmps24
  go_wp2
  go_ret
  exact ⟨rfl, rfl⟩

theorem given_zero (b : Nat) (w : World) (h0 : w.cell? ⟨b, 0, none⟩ = some (.int .i64 0)) :
    Calls Try.prog 24 #[.pointer (some ⟨b, 0, none⟩)] w fun e w' => e = .returned (.bool false) ∧ w = w' := by
  go_enter Try.func24, Try.ntmps24
  go_wp2
  go_ret
  exact ⟨rfl, rfl⟩

theorem len_any (b room n : Nat) (w : World) (hr : 1 ≤ room) (h0 : w.cell? ⟨b, 0, none⟩ = some (.int .i64 room)) (h3 : w.cell? ⟨b, 3, none⟩ = some (.int .i64 n)) :
    Calls Try.prog 17 #[.pointer (some ⟨b, 0, none⟩)] w fun e w' => e = .returned (.int .i64 n) ∧ w = w' := by
  go_enter Try.func17, Try.ntmps17
  go_wp2_with (go_at_call 24; refine (given_any b room _ hr h0).mono ?_; rintro e w' ⟨rfl, rfl⟩)
  go_ret
  exact ⟨rfl, rfl⟩

theorem drops_any (b room : Nat) (d : Int) (w : World) (hr : 1 ≤ room) (h0 : w.cell? ⟨b, 0, none⟩ = some (.int .i64 room)) (h4 : w.cell? ⟨b, 4, none⟩ = some (.int .i64 d)) :
    Calls Try.prog 18 #[.pointer (some ⟨b, 0, none⟩)] w fun e w' => e = .returned (.int .i64 d) ∧ w = w' := by
  go_enter Try.func18, Try.ntmps18
  go_wp2_with (go_at_call 24; refine (given_any b room _ hr h0).mono ?_; rintro e w' ⟨rfl, rfl⟩)
  go_ret
  exact ⟨rfl, rfl⟩

theorem new_bad (room : Int) (w : World) (hr : room < 1 ∨ 65536 < room) :
    Calls Try.prog 14 #[.int .i64 room] w fun e w' => e = .returned (.tuple #[.pointer none, .int .i64 1]) ∧ w = w' := by
  rcases hr with hr | hr
  · go_enter Try.func14, Try.ntmps14
    go_wp2
    go_ret2
    exact ⟨rfl, rfl⟩
  · have h1 : ¬ room < 1 := by omega
    go_enter Try.func14, Try.ntmps14
    go_wp2
    go_ret2
    exact ⟨rfl, rfl⟩

theorem new_good (room : Nat) (w : World) (h1 : 1 ≤ room) (h2 : room ≤ 65536) :
    Calls Try.prog 14 #[.int .i64 room] w fun e w' => e = .returned (.tuple #[.pointer (some ⟨w.heap.size, 0, none⟩), .int .i64 0]) ∧
      QRep 46 3 (Value.int .i64) w' w.heap.size room [] 0 [] ∧ Fr [] w w' := by
  have h1' : ¬ (room : Int) < 1 := by omega
  have h2' : ¬ (65536 : Int) < room := by omega
  go_enter Try.func14, Try.ntmps14
  go_wp2
  go_ret2
  exact ⟨rfl, ⟨h1, h2, by simp, by omega, by omega, by decide, _, 0, 0, Blk.new _ _ _, by omega, .inl ⟨rfl, rfl, rfl, rfl, rfl⟩⟩, (Fr.refl _ _).alloc _⟩
end Go.Proofs.Ytkcejfdjcfhefaa.QI
