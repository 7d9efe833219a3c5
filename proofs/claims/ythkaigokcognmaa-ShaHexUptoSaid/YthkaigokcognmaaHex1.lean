/- Digits as bytes: the walks of both Unhex. -/
import Derived.Test.YthkaigokcognmaaRef7
import Derived.Lib.Bytealg
namespace Go.Proofs.Ythkaigokcognmaa.Sha
open Go.RowKit

def digN (c : Nat) : Int := if 48 ≤ c ∧ c ≤ 57 then (c : Int) - 48 else if 97 ≤ c ∧ c ≤ 102 then (c : Int) - 87 else -1
theorem digN_bd (c : Nat) : -1 ≤ digN c ∧ digN c < 16 := by unfold digN; split <;> (try split) <;> omega
theorem digN_dig : ∀ n : Nat, n < 16 → digN (dig n) = n := by decide
theorem dig_digN (c : Nat) (h : 0 ≤ digN c) : dig (digN c).toNat = c := by
  unfold digN at h ⊢
  by_cases h1 : 48 ≤ c ∧ c ≤ 57
  · rw [if_pos h1]
    obtain ⟨m, rfl⟩ : ∃ m, c = 48 + m := ⟨c - 48, by omega⟩
    rw [show ((48 + m : Nat) : Int) - 48 = (m : Int) by omega, Int.toNat_natCast]
    unfold dig; rw [if_pos (by omega)]
  · rw [if_neg h1] at h ⊢
    by_cases h2 : 97 ≤ c ∧ c ≤ 102
    · rw [if_pos h2]
      obtain ⟨m, rfl⟩ : ∃ m, c = 87 + m := ⟨c - 87, by omega⟩
      rw [show ((87 + m : Nat) : Int) - 87 = (m : Int) by omega, Int.toNat_natCast]
      unfold dig; rw [if_neg (by omega)]
    · rw [if_neg h2] at h; omega
theorem index_digN : ∀ c : Nat, c < 256 → Lib.indexByte [48, 49, 50, 51, 52, 53, 54, 55, 56, 57, 97, 98, 99, 100, 101, 102] c.toUInt8 = digN c := by decide +kernel

theorem index70 (c : Nat) (hc : c < 256) (W : World) : (callFunc 70 #[.string ⟨#[48, 49, 50, 51, 52, 53, 54, 55, 56, 57, 97, 98, 99, 100, 101, 102]⟩, .int .u8 (c : Int)]).run Try.prog W = .ok (.value (.int .i64 (digN c))) W := by
  rw [run_callFunc_extern Try.func70 (by kernel_rfl) (by kernel_rfl) (by kernel_rfl) (e := Extern.BytealgIndexByte.indexByte) (by kernel_rfl), Lib.run_indexByteString]
  have := index_digN c hc
  rw [Int.toNat_natCast]
  show Result.ok (Next.value (.int .i64 (Lib.indexByte [48, 49, 50, 51, 52, 53, 54, 55, 56, 57, 97, 98, 99, 100, 101, 102] c.toUInt8))) W = _
  rw [this]

def IdxPost (c : Nat) (w : World) (e : Ending) (w' : World) : Prop := e = .returned (.int .i64 (digN c)) ∧ w' = w

theorem index61 (c : Nat) (hc : c < 256) (w : World) : Calls Try.prog 61 #[.string ⟨#[48, 49, 50, 51, 52, 53, 54, 55, 56, 57, 97, 98, 99, 100, 101, 102]⟩, .int .u8 (c : Int)] w (IdxPost c w) := by
  have h := index70 c hc
  have hfin : IdxPost c w (.returned (.int .i64 (digN c))) w := ⟨rfl, rfl⟩
  generalize digN c = d at h hfin
  go_enter Try.func61, Try.ntmps61
  go_wp2_with fail
  go_ret
  exact hfin
theorem index46 (c : Nat) (hc : c < 256) (w : World) : Calls Try.prog 46 #[.string ⟨#[48, 49, 50, 51, 52, 53, 54, 55, 56, 57, 97, 98, 99, 100, 101, 102]⟩, .int .u8 (c : Int)] w (IdxPost c w) := by
  go_enter Try.func46, Try.ntmps46
  go_wp2_with fail
  refine (index61 c hc w).mono ?_
  rintro e w' ⟨rfl, rfl⟩
  have hfin : IdxPost c w' (.returned (.int .i64 (digN c))) w' := ⟨rfl, rfl⟩
  generalize digN c = d at hfin ⊢
  go_wp2_with fail
  go_ret
  exact hfin

theorem dig_index64 (n : Nat) (h : n < 16) (W : World) : (Instr.index 9 (.string ⟨#[48, 49, 50, 51, 52, 53, 54, 55, 56, 57, 97, 98, 99, 100, 101, 102]⟩) (.int .i64 (n : Int))).run Try.prog W = .ok (.int .u8 ((dig n : Nat) : Int)) W := by
  rcases (show n = 0 ∨ n = 1 ∨ n = 2 ∨ n = 3 ∨ n = 4 ∨ n = 5 ∨ n = 6 ∨ n = 7 ∨ n = 8 ∨ n = 9 ∨ n = 10 ∨ n = 11 ∨ n = 12 ∨ n = 13 ∨ n = 14 ∨ n = 15 by omega) with rfl | rfl | rfl | rfl | rfl | rfl | rfl | rfl | rfl | rfl | rfl | rfl | rfl | rfl | rfl | rfl <;> kernel_rfl

theorem digit47 (c : Nat) (w : World) : Calls Try.prog 47 #[.int .u8 (c : Int)] w (IdxPost c w) := by
  go_enter Try.func47, Try.ntmps47
  go_wp2_with fail
  go_loop [3] (fun s => ∃ i : Nat, s = .int .i64 (i : Int) ∧ i ≤ 16 ∧ ∀ j, j < i → dig j ≠ c) (fun s => 16 - (intOf s).toNat)
  case atStart => exact ⟨0, rfl, by omega, fun j hj => by omega⟩
  case round =>
    obtain ⟨i, rfl, hi, hne⟩ := hrel
    have HNE := Lib.hid hne
    clear hne
    by_cases hlt : i < 16
    · have hix := dig_index64 i hlt
      have i0 : (i : Int) < 16 := by omega
      by_cases he : dig i = c
      · have hfin : IdxPost c w (.returned (.int .i64 (i : Int))) w := ⟨by rw [← he, digN_dig i hlt], rfl⟩
        rw [he] at hix
        clear he
        go_wp2_with fail
        go_ret
        exact hfin
      · have hb0 : (((dig i : Nat) : Int) == (c : Int)) = false := by
          have : ¬ ((dig i : Nat) : Int) = (c : Int) := by omega
          simpa using this
        have hnx : ∀ j, j < i + 1 → dig j ≠ c := fun j hj => by
          by_cases e : j = i
          · subst e; exact he
          · exact HNE.out j (by omega)
        have HNX := Lib.hid hnx
        clear hnx he
        generalize dig i = d at hix hb0
        go_wp2_with fail
        go_round
        case rel => exact ⟨i + 1, by go_num, by omega, HNX.out⟩
        case measure => simp [intOf]; omega
    · have i0 : ¬ (i : Int) < 16 := by omega
      have hd : digN c = -1 := by
        have hb := digN_bd c
        by_cases h0 : 0 ≤ digN c
        · exact absurd (dig_digN c h0) (HNE.out _ (by omega))
        · omega
      have hfin : IdxPost c w (.returned (.int .i64 (-1))) w := ⟨by rw [hd], rfl⟩
      clear hd
      go_wp2_with fail
      go_ret
      exact hfin
end Go.Proofs.Ythkaigokcognmaa.Sha
