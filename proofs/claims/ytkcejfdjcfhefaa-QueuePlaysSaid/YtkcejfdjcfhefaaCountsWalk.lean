/- QueueCounts's walk: as many were pushed as were dropped, came out, and wait. -/
import Derived.Test.YtkcejfdjcfhefaaAwake
namespace Go.Proofs.Ytkcejfdjcfhefaa.QI
open Go.RowKit

def LawPost (w : World) (e : Ending) (w' : World) : Prop := e = .returned (.bool true) ∧ Fr [] w w'

theorem counts_bad (room : Int) (v : Value) (w : World) (hr : room < 1 ∨ 65536 < room) : Calls Try.prog 4 #[.int .i64 room, v] w (LawPost w) := by
  by_cases h1 : room < 1
  · go_enter Try.func4, Try.ntmps4
    go_wp2_with fail
    refine (new_bad room _ hr).mono ?_
    rintro e w1 ⟨rfl, rfl⟩
    go_wp2_with fail
    refine (awake_any _).mono ?_
    rintro e w2 ⟨rfl, F⟩
    go_wp2
    go_ret
    exact ⟨rfl, F⟩
  · have h2 : 65536 < room := by omega
    go_enter Try.func4, Try.ntmps4
    go_wp2_with fail
    refine (new_bad room _ hr).mono ?_
    rintro e w1 ⟨rfl, rfl⟩
    go_wp2_with fail
    refine (awake_any _).mono ?_
    rintro e w2 ⟨rfl, F⟩
    go_wp2
    go_ret
    exact ⟨rfl, F⟩

theorem drops_next {dn : Nat} (h : dn ≤ 4611686018427387000) : (if 4611686018427387904 < (dn : Int) + 1 then (4611686018427387904 : Int) else (dn : Int) + 1) = ((dn + 1 : Nat) : Int) := by
  rw [if_neg (by omega)]; omega

set_option maxHeartbeats 1600000 in
theorem counts_good (room : Nat) {sp : Option Addr} {len cap : Nat} {ss : List Int} {w : World} (h1 : 1 ≤ room) (h2 : room ≤ 65536) (hlen : len = ss.length) (hm : len ≤ 17592186044416)
    (hs : 0 < ss.length → ∃ g o, sp = some ⟨g, o, none⟩ ∧ g < w.heap.size ∧ ∀ i, i < ss.length → w.cell? ⟨g, o + i, none⟩ = (ss[i]?).map (Value.int .i64)) :
    Calls Try.prog 4 #[.int .i64 (room : Int), .slice sp len cap] w (LawPost w) := by
  have HL := Lib.hid hlen
  clear hlen
  go_enter Try.func4, Try.ntmps4
  go_wp2_with fail
  refine (new_good room _ h1 h2).mono ?_
  rintro e w1 ⟨rfl, q1, F1⟩
  have s1 := F1.size
  go_wp2_with fail
  go_loopw [7, 8, 9] (fun sp so si wr => ∃ (k p o dn : Nat) (xs : List Int) (ls : List Nat), k ≤ len ∧ si = .int .i64 k ∧ sp = .int .i64 p ∧ so = .int .i64 o ∧ Hid (p = dn + o + xs.length) ∧ p ≤ k ∧ o ≤ p ∧
      QRep 46 3 (Value.int .i64) wr w.heap.size room xs (dn : Int) ls ∧ (∀ x ∈ ls, w.heap.size ≤ x) ∧ Fr [] w wr)
    (fun _ _ i _ => len - (intOf i).toNat)
  case atStart => exact ⟨0, 0, 0, 0, [], [], Nat.zero_le _, rfl, rfl, rfl, rfl, Nat.le_refl _, Nat.le_refl _, q1, by simp, F1⟩
  case round =>
    obtain ⟨k, p, o, dn, xs, ls, hk, rfl, rfl, rfl, HP, hpk, hop, q, hls, F⟩ := hrel
    have hdn : dn ≤ p := by have : p = dn + o + xs.length := HP.out; omega
    by_cases hlt : k < len
    · have hkx : k < ss.length := by have := HL.out; omega
      obtain ⟨g, o', rfl, hg, hc⟩ := hs (by omega)
      have c1 : wr.cell? ⟨g, o' + k, none⟩ = some (.int .i64 ss[k]) := by
        rw [World.cell?_of_block (F.block g hg (by simp)), hc k hkx, List.getElem?_eq_getElem hkx]; rfl
      obtain ⟨z, ez⟩ : ∃ z, z = ss[k] := ⟨_, rfl⟩
      rw [← ez] at c1
      clear ez hc hs q1 F1
      by_cases hz : z < 0
      · rcases xs with _ | ⟨y, ys⟩
        · go_wp2_with fail
          refine (pop_empty q).mono ?_
          rintro e w2 ⟨rfl, rfl⟩
          go_wp2_with fail
          go_roundw
          case rel => exact ⟨k + 1, p, o, dn, [], ls, by omega, by go_num, rfl, rfl, HP, by omega, hop, q, hls, F⟩
          case measure => simp [intOf]; omega
        · have hop1 : o + 1 ≤ p := by have : p = dn + o + (y :: ys).length := HP.out; simp at this; omega
          go_wp2_with fail
          refine (pop_any q).mono ?_
          rintro e w2 ⟨rfl, q2, F2⟩
          go_wp2_with fail
          go_roundw
          case rel => exact ⟨k + 1, p, o + 1, dn, ys, ls, by omega, by go_num, rfl, by go_num, by have : p = dn + o + (y :: ys).length := HP.out; simp at this; show p = _; omega, by omega, by omega, q2, hls, F.step F2 (by simpa using hls)⟩
          case measure => simp [intOf]; omega
      · by_cases hroom : xs.length < room
        · go_wp2_with fail
          refine (push_space z q hroom).mono ?_
          rintro e w2 ⟨rfl, ls2, q2, L2, F2⟩
          have F3 : Fr [] w w2 := F.step F2 (by simpa using hls)
          have hx2 : ((xs ++ [z]).length : Int) ≤ room := by have := q2.2.2.1; omega
          have hls2 : ∀ x ∈ ls2, w.heap.size ≤ x := fun x hx => by
            rcases L2 x hx with h | h
            · exact hls x h
            · have := F.size; omega
          go_wp2_with fail
          refine (len_q q2).mono ?_
          rintro e w3 ⟨rfl, rfl⟩
          generalize hxs : (xs ++ [z]).length = m at hx2 ⊢
          have Hxs := Lib.hid hxs
          clear hxs
          go_wp2_with fail
          go_roundw
          case rel => exact ⟨k + 1, p + 1, o, dn, xs ++ [z], ls2, by omega, by go_num, by go_num, rfl, by have : p = dn + o + xs.length := HP.out; show p + 1 = _; simp; omega, by omega, by omega, q2, hls2, F3⟩
          case measure => simp [intOf]; omega
        · have hfull : xs.length = room := by have := q.2.2.1; omega
          go_wp2_with fail
          refine (push_full z q hfull).mono ?_
          rintro e w2 ⟨rfl, q2, F2⟩
          rw [drops_next (by omega)] at q2
          have F3 : Fr [] w w2 := F.step F2 (by simp)
          go_wp2_with fail
          refine (len_q q2).mono ?_
          rintro e w3 ⟨rfl, rfl⟩
          rw [hfull]
          have Hfull := Lib.hid hfull
          clear hfull
          go_wp2_with fail
          go_roundw
          case rel => exact ⟨k + 1, p + 1, o, dn + 1, xs, ls, by omega, by go_num, by go_num, rfl, by have : p = dn + o + xs.length := HP.out; show p + 1 = _; omega, by omega, by omega, q2, hls, F3⟩
          case measure => simp [intOf]; omega
    · have hxn : xs.length ≤ 65536 := by have := q.2.2.1; omega
      have hsum : ((p : Int) == (dn : Int) + (o : Int) + (xs.length : Int)) = true := by have : p = dn + o + xs.length := HP.out; simp; omega
      clear hs q1 F1
      go_wp2_with fail
      refine (drops_q q).mono ?_
      rintro e w2 ⟨rfl, rfl⟩
      go_wp2_with fail
      refine (len_q q).mono ?_
      rintro e w2 ⟨rfl, rfl⟩
      go_wp2_with fail
      refine (items_any q).mono ?_
      rintro e w2 ⟨v, rfl, hown, F2, -⟩
      obtain ⟨sp2, cap2, rfl, -⟩ := own_slice hown
      have q2 := q.fr F2 (by simp) (by simp)
      go_wp2_with fail
      refine (len_q q2).mono ?_
      rintro e w3 ⟨rfl, rfl⟩
      go_wp2_with fail
      refine (awake_any _).mono ?_
      rintro e w4 ⟨rfl, F4⟩
      go_wp2
      go_ret
      exact ⟨rfl, (F.step F2 (by simp)).step F4 (by simp)⟩

theorem counts_walk (room : Int) (_hb : -9223372036854775808 ≤ room ∧ room ≤ 9223372036854775807) {v : Value} {ss : List Int} {gs : List Nat} {w : World} (hv : Sl (Value.int .i64) w v ss gs) (hg : ∀ k ∈ gs, k < w.heap.size) (hm : ss.length * 8 ≤ 140737488351232)
    (_hs : ∀ x ∈ ss, -9223372036854775808 ≤ x ∧ x ≤ 9223372036854775807) :
    Calls Try.prog 4 #[.int .i64 room, v] w fun e w' => e = .returned (.bool true) ∧ Below w.heap.size w w' := by
  have key : Calls Try.prog 4 #[.int .i64 room, v] w (LawPost w) := by
    by_cases hr : room < 1 ∨ 65536 < room
    · exact counts_bad room v w hr
    · obtain ⟨r, rfl⟩ : ∃ r : Nat, room = r := ⟨room.toNat, by omega⟩
      obtain ⟨sp, cap, rfl, hc, hx⟩ := hv
      refine counts_good r (by omega) (by omega) rfl (by omega) fun hp => ?_
      obtain ⟨g, o, e, rfl, hcell⟩ := hx hp
      exact ⟨g, o, e, hg g (by simp), hcell⟩
  exact key.mono fun e w' h => ⟨h.1, h.2.below (Nat.le_refl _) (by simp)⟩
end Go.Proofs.Ytkcejfdjcfhefaa.QI
