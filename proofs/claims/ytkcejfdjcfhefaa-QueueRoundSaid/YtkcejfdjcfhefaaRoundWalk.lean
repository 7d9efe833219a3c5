/- QueueRound's walk: however long things go in and out, what waits stands in order. -/
import Derived.Test.YtkcejfdjcfhefaaCountsWalk
import Derived.Laws.Bits128
namespace Go.Proofs.Ytkcejfdjcfhefaa.QI
open Go.RowKit

theorem round_bad (room a b : Int) (w : World) (hr : room < 1 ∨ 65536 < room) : Calls Try.prog 5 #[.int .i64 room, .int .i64 a, .int .i64 b] w (LawPost w) := by
  by_cases h1 : room < 1
  · go_enter Try.func5, Try.ntmps5
    go_wp2_with fail
    refine (new_bad room _ hr).mono ?_
    rintro e w1 ⟨rfl, rfl⟩
    go_wp2_with fail
    refine (awake_any _).mono ?_
    rintro e w2 ⟨rfl, F⟩
    go_wp2
    go_ret
    exact ⟨rfl, F⟩
  · have h2 : 65536 < room := by omega
    go_enter Try.func5, Try.ntmps5
    go_wp2_with fail
    refine (new_bad room _ hr).mono ?_
    rintro e w1 ⟨rfl, rfl⟩
    go_wp2_with fail
    refine (awake_any _).mono ?_
    rintro e w2 ⟨rfl, F⟩
    go_wp2
    go_ret
    exact ⟨rfl, F⟩

/-- The numbers from f on, n of them. -/
def from_ (f n : Nat) : List Int := (List.range n).map fun i => ((f + i : Nat) : Int)
theorem from_len (f n : Nat) : (from_ f n).length = n := by simp [from_]
theorem from_snoc (f n : Nat) : from_ f n ++ [((f + n : Nat) : Int)] = from_ f (n + 1) := by simp [from_, List.range_succ]
theorem from_cons (f n : Nat) : from_ f (n + 1) = (f : Int) :: from_ (f + 1) n := by
  simp only [from_, List.range_succ_eq_map, List.map_cons, List.map_map]
  congr 1
  apply List.map_congr_left
  intro i _
  simp; omega

theorem i64_and15 (n : Int) : bits .and .i64 n 15 = n % 16 := by
  have h15 : (BitVec.ofInt 64 15).toNat = 2 ^ 4 - 1 := by decide
  have key : (BitVec.ofInt 64 n &&& BitVec.ofInt 64 15).toNat = (n % ((2 ^ 64 : Nat) : Int)).toNat % 2 ^ 4 := by
    rw [BitVec.toNat_and, BitVec.toNat_ofInt, h15, Nat.and_two_pow_sub_one_eq_mod]
  show IntKind.i64.wrap ((BitVec.ofInt 64 n &&& BitVec.ofInt 64 15).toNat : Nat) = n % 16
  rw [key, IntKind.wrap_i64]
  omega

set_option maxHeartbeats 3200000 in
theorem round_good (room : Nat) (a b : Int) {w : World} (h1 : 1 ≤ room) (h2 : room ≤ 65536) :
    Calls Try.prog 5 #[.int .i64 (room : Int), .int .i64 a, .int .i64 b] w (LawPost w) := by
  go_enter Try.func5, Try.ntmps5
  go_wp2_with fail
  refine (new_good room _ h1 h2).mono ?_
  rintro e w1 ⟨rfl, q1, F1⟩
  have s1 := F1.size
  go_wp2_with fail
  go_loopw [9, 10, 11] (fun sn sf sr wr => ∃ (r p f n dn : Nat) (ls : List Nat), r ≤ 40 ∧ sr = .int .i64 r ∧ sf = .int .i64 f ∧ sn = .int .i64 p ∧ Hid (p = f + n) ∧ p ≤ r * 16 ∧ dn ≤ r * 16 ∧
      QRep 46 3 (Value.int .i64) wr w.heap.size room (from_ f n) (dn : Int) ls ∧ (∀ x ∈ ls, w.heap.size ≤ x) ∧ Fr [] w wr)
    (fun _ _ i _ => 40 - (intOf i).toNat)
  case atStart => exact ⟨0, 0, 0, 0, 0, [], by omega, rfl, rfl, rfl, rfl, by omega, by omega, q1, by simp, F1⟩
  case round =>
    obtain ⟨r, p, f, n, dn, ls, hr, rfl, rfl, rfl, HP, hp, hdn, q, hls, F⟩ := hrel
    by_cases hlt : r < 40
    · have hd : decide ((r : Int) < 40) = true := by simp; omega
      clear q1 F1 s1
      obtain ⟨wo, rfl⟩ : ∃ wo : World, wo = wr := ⟨_, rfl⟩
      go_wp2_with fail
      go_loopw [9, 12] (fun sn si wr => ∃ (i p2 n2 dn2 : Nat) (ls : List Nat), i ≤ 16 ∧ si = .int .i64 i ∧ sn = .int .i64 p2 ∧ Hid (p2 = f + n2) ∧ p2 ≤ r * 16 + i ∧ dn2 ≤ r * 16 + i ∧
          QRep 46 3 (Value.int .i64) wr w.heap.size room (from_ f n2) (dn2 : Int) ls ∧ (∀ x ∈ ls, w.heap.size ≤ x) ∧ Fr [] w wr)
        (fun _ i _ => 16 - (intOf i).toNat)
      case atStart => exact ⟨0, p, n, dn, ls, by omega, rfl, rfl, HP, by omega, by omega, q, hls, F⟩
      case round =>
        clear q hls F HP
        obtain ⟨i, p2, n2, dn2, ls, hi, rfl, rfl, HP, hp2, hdn2, q, hls, F⟩ := hrel
        have hA : bits .and .i64 a 15 = a % 16 := i64_and15 a
        have hA1 : 0 ≤ a % 16 := Int.emod_nonneg _ (by omega)
        have hA2 : a % 16 < 16 := Int.emod_lt_of_pos _ (by omega)
        generalize a % 16 = m at hA hA1 hA2
        by_cases him : (i : Int) < m
        · by_cases hroom : n2 < room
          · go_wp2_with fail
            refine (push_space (p2 : Int) q (by rw [from_len]; exact hroom)).mono ?_
            rintro e w2 ⟨rfl, ls2, q2, L2, F2⟩
            have hls2 : ∀ x ∈ ls2, w.heap.size ≤ x := fun x hx => by
              rcases L2 x hx with h | h
              · exact hls x h
              · have := F.size; omega
            have e1 : from_ f n2 ++ [(p2 : Int)] = from_ f (n2 + 1) := by rw [HP.out]; exact from_snoc f n2
            rw [e1] at q2
            clear e1
            go_wp2_with fail
            go_roundw
            case rel => exact ⟨i + 1, p2 + 1, n2 + 1, dn2, ls2, by omega, by go_num, by go_num, by have : p2 = f + n2 := HP.out; show p2 + 1 = _; omega, by omega, by omega, q2, hls2, F.step F2 (by simpa using hls)⟩
            case measure => simp [intOf]; omega
          · have hfull : (from_ f n2).length = room := by have := q.2.2.1; rw [from_len] at this ⊢; omega
            go_wp2_with fail
            refine (push_full (p2 : Int) q hfull).mono ?_
            rintro e w2 ⟨rfl, q2, F2⟩
            rw [drops_next (by omega)] at q2
            clear hfull
            go_wp2_with fail
            go_roundw
            case rel => exact ⟨i + 1, p2, n2, dn2 + 1, ls, by omega, by go_num, rfl, HP, by omega, by omega, q2, hls, F.step F2 (by simp)⟩
            case measure => simp [intOf]; omega
        · obtain ⟨wp, rfl⟩ : ∃ wp : World, wp = wr := ⟨_, rfl⟩
          go_wp2_with fail
          clear hA hA1 hA2 him
          go_loopw [10, 13] (fun sf si wr => ∃ (i f3 n3 : Nat) (ls : List Nat), i ≤ 16 ∧ si = .int .i64 i ∧ sf = .int .i64 f3 ∧ Hid (p2 = f3 + n3) ∧
              QRep 46 3 (Value.int .i64) wr w.heap.size room (from_ f3 n3) (dn2 : Int) ls ∧ (∀ x ∈ ls, w.heap.size ≤ x) ∧ Fr [] w wr)
            (fun _ i _ => 16 - (intOf i).toNat)
          case atStart => exact ⟨0, f, n2, ls, by omega, rfl, rfl, HP, q, hls, F⟩
          case round =>
            clear q hls F HP
            obtain ⟨i, f3, n3, ls, hi, rfl, rfl, HP, q, hls, F⟩ := hrel
            have hB : bits .and .i64 b 15 = b % 16 := i64_and15 b
            have hB1 : 0 ≤ b % 16 := Int.emod_nonneg _ (by omega)
            have hB2 : b % 16 < 16 := Int.emod_lt_of_pos _ (by omega)
            generalize b % 16 = m2 at hB hB1 hB2
            by_cases him2 : (i : Int) < m2
            · rcases n3 with _ | n3
              · have hle : p2 ≤ f3 := by have : p2 = f3 + 0 := HP.out; omega
                go_wp2_with fail
                refine (pop_empty q).mono ?_
                rintro e w2 ⟨rfl, rfl⟩
                go_wp2_with fail
                go_roundw
                case rel => exact ⟨i + 1, f3, 0, ls, by omega, by go_num, rfl, HP, q, hls, F⟩
                case measure => simp [intOf]; omega
              · have hlt3 : f3 < p2 := by have : p2 = f3 + (n3 + 1) := HP.out; omega
                have hdl : decide ((f3 : Int) < (p2 : Int)) = true := by simp; omega
                rw [from_cons] at q
                go_wp2_with fail
                refine (pop_any q).mono ?_
                rintro e w2 ⟨rfl, q2, F2⟩
                go_wp2_with fail
                go_roundw
                case rel => exact ⟨i + 1, f3 + 1, n3, ls, by omega, by go_num, by go_num, by have : p2 = f3 + (n3 + 1) := HP.out; show p2 = _; omega, q2, hls, F.step F2 (by simpa using hls)⟩
                case measure => simp [intOf]; omega
            · have hn3 : (n3 : Int) = (p2 : Int) - (f3 : Int) := by have : p2 = f3 + n3 := HP.out; omega
              have hnr : n3 ≤ room := by have := q.2.2.1; rwa [from_len] at this
              have hne : ((n3 : Int) != (p2 : Int) - (f3 : Int)) = false := by simp; omega
              have hbnd : f3 ≤ p2 := by omega
              have Hn3 := Lib.hid hn3
              clear hn3
              go_wp2_with fail
              clear hB hB1 hB2 him2
              refine (len_q q).mono ?_
              rw [from_len]
              rintro e w2 ⟨rfl, rfl⟩
              go_wp2_with fail
              refine (len_q q).mono ?_
              rw [from_len]
              rintro e w2 ⟨rfl, rfl⟩
              go_wp2_with fail
              go_roundw
              case rel => exact ⟨r + 1, p2, f3, n3, dn2, ls, by omega, by go_num, rfl, rfl, HP, by omega, by omega, q, hls, F⟩
              case measure => simp [intOf]; omega
    · clear q1 F1
      go_wp2_with fail
      refine (awake_any _).mono ?_
      rintro e w4 ⟨rfl, F4⟩
      go_wp2
      go_ret
      exact ⟨rfl, F.step F4 (by simp)⟩

theorem round_walk (room : Int) (_hb : -9223372036854775808 ≤ room ∧ room ≤ 9223372036854775807) (a : Int) (_ha : -9223372036854775808 ≤ a ∧ a ≤ 9223372036854775807) (b : Int) (_hb : -9223372036854775808 ≤ b ∧ b ≤ 9223372036854775807) {w : World} :
    Calls Try.prog 5 #[.int .i64 room, .int .i64 a, .int .i64 b] w fun e w' => e = .returned (.bool true) ∧ Below w.heap.size w w' := by
  have key : Calls Try.prog 5 #[.int .i64 room, .int .i64 a, .int .i64 b] w (LawPost w) := by
    by_cases hr : room < 1 ∨ 65536 < room
    · exact round_bad room a b w hr
    · obtain ⟨r, rfl⟩ : ∃ r : Nat, room = r := ⟨room.toNat, by omega⟩
      exact round_good r a b (by omega) (by omega)
  exact key.mono fun e w' h => ⟨h.1, h.2.below (Nat.le_refl _) (by simp)⟩
end Go.Proofs.Ytkcejfdjcfhefaa.QI
