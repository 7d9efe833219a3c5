/- QueueOrder's walk: what is pushed comes out in that order, but for what found no room. -/
import Derived.Test.YtkcejfdjcfhefaaQs5
import Derived.Test.YtkcejfdjcfhefaaAwake
namespace Go.Proofs.Ytkcejfdjcfhefaa.QS
open Go.RowKit

theorem len_q {b room : Nat} {xs : List ByteArray} {d : Int} {ls : List Nat} {w : World} (h : QRep 49 9 Value.string w b room xs d ls) :
    Calls Try.prog 12 #[.pointer (some ⟨b, 0, none⟩)] w fun e w' => e = .returned (.int .i64 xs.length) ∧ w = w' := by
  obtain ⟨hr1, _, _, _, _, _, _, _, _, hB, _⟩ := h
  exact len_any b room _ w hr1 (hB.cell 0) (hB.cell 3)

theorem drops_q {b room : Nat} {xs : List ByteArray} {d : Int} {ls : List Nat} {w : World} (h : QRep 49 9 Value.string w b room xs d ls) :
    Calls Try.prog 13 #[.pointer (some ⟨b, 0, none⟩)] w fun e w' => e = .returned (.int .i64 d) ∧ w = w' := by
  obtain ⟨hr1, _, _, _, _, _, _, _, _, hB, _⟩ := h
  exact drops_any b room _ w hr1 (hB.cell 0) (hB.cell 4)

def LawPost (w : World) (e : Ending) (w' : World) : Prop := e = .returned (.bool true) ∧ Fr [] w w'

theorem order_bad (room : Int) (v : Value) (w : World) (hr : room < 1 ∨ 65536 < room) : Calls Try.prog 3 #[.int .i64 room, v] w (LawPost w) := by
  by_cases h1 : room < 1
  · go_enter Try.func3, Try.ntmps3
    go_wp2_with fail
    refine (new_bad room _ hr).mono ?_
    rintro e w1 ⟨rfl, rfl⟩
    go_wp2_with fail
    refine (QI.awake_any _).mono ?_
    rintro e w2 ⟨rfl, F⟩
    go_wp2
    go_ret
    exact ⟨rfl, F⟩
  · have h2 : 65536 < room := by omega
    go_enter Try.func3, Try.ntmps3
    go_wp2_with fail
    refine (new_bad room _ hr).mono ?_
    rintro e w1 ⟨rfl, rfl⟩
    go_wp2_with fail
    refine (QI.awake_any _).mono ?_
    rintro e w2 ⟨rfl, F⟩
    go_wp2
    go_ret
    exact ⟨rfl, F⟩

set_option maxHeartbeats 1600000 in
theorem order_good (room : Nat) {sp : Option Addr} {len cap : Nat} {ss : List ByteArray} {w : World} (h1 : 1 ≤ room) (h2 : room ≤ 65536) (hlen : len = ss.length) (hm : len ≤ 8796093022208)
    (hs : 0 < ss.length → ∃ g o, sp = some ⟨g, o, none⟩ ∧ g < w.heap.size ∧ ∀ i, i < ss.length → w.cell? ⟨g, o + i, none⟩ = (ss[i]?).map Value.string) :
    Calls Try.prog 3 #[.int .i64 (room : Int), .slice sp len cap] w (LawPost w) := by
  have HL := Lib.hid hlen
  clear hlen
  go_enter Try.func3, Try.ntmps3
  go_wp2_with fail
  refine (new_good room _ h1 h2).mono ?_
  rintro e w1 ⟨rfl, q1, F1⟩
  have s1 := F1.size
  go_wp2_with fail
  go_loopw [7] (fun i wr => ∃ (k : Nat) (ls : List Nat), k ≤ len ∧ i = .int .i64 k ∧ QRep 49 9 Value.string wr w.heap.size room (ss.take (min k room)) ((k - min k room : Nat) : Int) ls ∧ (∀ x ∈ ls, w.heap.size ≤ x) ∧ Fr [] w wr)
    (fun i _ => len - (intOf i).toNat)
  case atStart => exact ⟨0, [], Nat.zero_le _, rfl, by simpa using q1, by simp, F1⟩
  case round =>
    obtain ⟨k, ls, hk, rfl, q, hls, F⟩ := hrel
    by_cases hlt : k < len
    · have hkx : k < ss.length := by have := HL.out; omega
      obtain ⟨g, o, rfl, hg, hc⟩ := hs (by omega)
      have c1 : wr.cell? ⟨g, o + k, none⟩ = some (.string ss[k]) := by
        rw [World.cell?_of_block (F.block g hg (by simp)), hc k hkx, List.getElem?_eq_getElem hkx]; rfl
      obtain ⟨x, ex⟩ : ∃ x, x = ss[k] := ⟨_, rfl⟩
      rw [← ex] at c1
      have Hx := Lib.hid ex
      clear ex hc hs q1 F1
      by_cases hkr : k < room
      · have e1 : ss.take (min k room) = ss.take k := by rw [Nat.min_eq_left (by omega)]
        have hl2 : (ss.take (min k room)).length < room := by simp; omega
        go_wp2_with fail
        refine (push_space x q hl2).mono ?_
        rintro e w2 ⟨rfl, ls2, q2, L2, F2⟩
        go_wp2
        go_roundw
        case rel =>
          refine ⟨k + 1, ls2, by omega, by go_num, ?_, fun y hy => ?_, F.step F2 (by simpa using hls)⟩
          · rw [Nat.min_eq_left (by omega), Nat.sub_self] at q2
            rw [Nat.min_eq_left (by omega), Nat.sub_self, List.take_succ_eq_append_getElem hkx, ← Hx.out]
            exact q2
          · rcases L2 y hy with h | h
            · exact hls y h
            · have := F.size; omega
        case measure => simp [intOf]; omega
      · have hl2 : (ss.take (min k room)).length = room := by simp; omega
        go_wp2_with fail
        refine (push_full x q hl2).mono ?_
        rintro e w2 ⟨rfl, q2, F2⟩
        go_wp2
        go_roundw
        case rel =>
          refine ⟨k + 1, ls, by omega, by go_num, ?_, hls, F.step F2 (by simp)⟩
          rw [Nat.min_eq_right (by omega), if_neg (by omega)] at q2
          rw [Nat.min_eq_right (by omega)]
          rw [show ((k + 1 - room : Nat) : Int) = ((k - room : Nat) : Int) + 1 from by omega]
          exact q2
        case measure => simp [intOf]; omega
    · have hkn : k = len := by omega
      subst hkn
      have hw0 := F.size
      obtain ⟨wo, rfl⟩ : ∃ wo : World, wo = wr := ⟨_, rfl⟩
      clear q1 F1 s1
      obtain ⟨D, hD⟩ : ∃ D : Int, D = ((k - min k room : Nat) : Int) := ⟨_, rfl⟩
      rw [← hD] at q
      have hD0 := Lib.hid hD
      clear hD
      rcases Nat.lt_or_ge room k with hrk | hrk
      · rw [Nat.min_eq_right (by omega)] at q hD0
        have hb : ((k : Int) - (room : Int)) = D := by have := hD0.out; omega
        have Hb := Lib.hid hb
        clear hb hD0
        go_wp2_with fail
        go_loopw [9] (fun i wx => ∃ (j : Nat) (lx : List Nat), j ≤ room ∧ i = .int .i64 j ∧ QRep 49 9 Value.string wx w.heap.size room ((ss.take room).drop j) D lx ∧ (∀ x ∈ lx, w.heap.size ≤ x) ∧ Fr [] w wx)
          (fun i _ => room - (intOf i).toNat)
        case atStart => exact ⟨0, ls, Nat.zero_le _, rfl, by simpa using q, hls, F⟩
        case round =>
          obtain ⟨j, lx, hj, rfl, qx, hlx, FX⟩ := hrel
          by_cases hjl : j < room
          · have hjx : j < ss.length := by have := HL.out; omega
            have hjt : j < (ss.take room).length := by simp; omega
            obtain ⟨g, o, rfl, hg, hc⟩ := hs (by omega)
            have c1 : wr.cell? ⟨g, o + j, none⟩ = some (.string ss[j]) := by
              rw [World.cell?_of_block (FX.block g hg (by simp)), hc j hjx, List.getElem?_eq_getElem hjx]; rfl
            have ed : (ss.take room).drop j = ss[j] :: (ss.take room).drop (j + 1) := by rw [List.drop_eq_getElem_cons hjt]; simp
            rw [ed] at qx
            obtain ⟨x, ex⟩ : ∃ x, x = ss[j] := ⟨_, rfl⟩
            rw [← ex] at c1 qx
            clear ex ed hc hs q
            have i1 : (j : Int) < (k : Int) := by omega
            go_wp2_with fail
            refine (pop_any qx).mono ?_
            rintro e w2 ⟨rfl, q2, F2⟩
            have c2 : w2.cell? ⟨g, o + j, none⟩ = some (.string x) := by
              have hgx : g < wr.heap.size := by have := FX.size; omega
              rw [World.cell?_of_block (F2.block g hgx (by intro hm; rcases List.mem_cons.1 hm with h | h; omega; have := hlx g h; omega))]; exact c1
            have hxx : (x.toList != x.toList) = false := by simp
            go_wp2_with fail
            go_roundw
            case rel => exact ⟨j + 1, lx, by omega, by go_num, q2, hlx, FX.step F2 (by simpa using hlx)⟩
            case measure => simp [intOf]; omega
          · have hjn : room ≤ j := by omega
            rw [show (ss.take room).drop j = [] from List.drop_of_length_le (by simp; omega)] at qx
            have hDD : (D == (k : Int) - (room : Int)) = true := by rw [Hb.out]; simp
            clear q hs
            go_wp2_with fail
            refine (pop_empty qx).mono ?_
            rintro e w2 ⟨rfl, rfl⟩
            go_wp2_with fail
            refine (len_q qx).mono ?_
            rintro e w2 ⟨rfl, rfl⟩
            go_wp2_with fail
            refine (drops_q qx).mono ?_
            rintro e w2 ⟨rfl, rfl⟩
            go_wp2_with fail
            refine (QI.awake_any _).mono ?_
            rintro e w3 ⟨rfl, F3⟩
            go_wp2
            go_ret
            exact ⟨rfl, FX.step F3 (by simp)⟩
      · have hrk' : ¬ (room : Int) < (k : Int) := by omega
        rw [Nat.min_eq_left (by omega)] at q hD0
        obtain rfl : D = 0 := by have := hD0.out; omega
        clear hD0
        go_wp2_with fail
        go_loopw [9] (fun i wx => ∃ (j : Nat) (lx : List Nat), j ≤ k ∧ i = .int .i64 j ∧ QRep 49 9 Value.string wx w.heap.size room ((ss.take k).drop j) 0 lx ∧ (∀ x ∈ lx, w.heap.size ≤ x) ∧ Fr [] w wx)
          (fun i _ => k - (intOf i).toNat)
        case atStart => exact ⟨0, ls, Nat.zero_le _, rfl, by simpa using q, hls, F⟩
        case round =>
          obtain ⟨j, lx, hj, rfl, qx, hlx, FX⟩ := hrel
          by_cases hjl : j < k
          · have hjx : j < ss.length := by have := HL.out; omega
            have hjt : j < (ss.take k).length := by simp; omega
            obtain ⟨g, o, rfl, hg, hc⟩ := hs (by omega)
            have c1 : wr.cell? ⟨g, o + j, none⟩ = some (.string ss[j]) := by
              rw [World.cell?_of_block (FX.block g hg (by simp)), hc j hjx, List.getElem?_eq_getElem hjx]; rfl
            have ed : (ss.take k).drop j = ss[j] :: (ss.take k).drop (j + 1) := by rw [List.drop_eq_getElem_cons hjt]; simp
            rw [ed] at qx
            obtain ⟨x, ex⟩ : ∃ x, x = ss[j] := ⟨_, rfl⟩
            rw [← ex] at c1 qx
            clear ex ed hc hs q
            have i1 : (j : Int) < (k : Int) := by omega
            go_wp2_with fail
            refine (pop_any qx).mono ?_
            rintro e w2 ⟨rfl, q2, F2⟩
            have c2 : w2.cell? ⟨g, o + j, none⟩ = some (.string x) := by
              have hgx : g < wr.heap.size := by have := FX.size; omega
              rw [World.cell?_of_block (F2.block g hgx (by intro hm; rcases List.mem_cons.1 hm with h | h; omega; have := hlx g h; omega))]; exact c1
            have hxx : (x.toList != x.toList) = false := by simp
            go_wp2_with fail
            go_roundw
            case rel => exact ⟨j + 1, lx, by omega, by go_num, q2, hlx, FX.step F2 (by simpa using hlx)⟩
            case measure => simp [intOf]; omega
          · have hjn : k ≤ j := by omega
            rw [show (ss.take k).drop j = [] from List.drop_of_length_le (by simp; omega)] at qx
            clear q hs
            go_wp2_with fail
            refine (pop_empty qx).mono ?_
            rintro e w2 ⟨rfl, rfl⟩
            go_wp2_with fail
            refine (len_q qx).mono ?_
            rintro e w2 ⟨rfl, rfl⟩
            go_wp2_with fail
            refine (drops_q qx).mono ?_
            rintro e w2 ⟨rfl, rfl⟩
            go_wp2_with fail
            refine (QI.awake_any _).mono ?_
            rintro e w3 ⟨rfl, F3⟩
            go_wp2
            go_ret
            exact ⟨rfl, FX.step F3 (by simp)⟩

theorem order_walk (room : Int) (_hb : -9223372036854775808 ≤ room ∧ room ≤ 9223372036854775807) {v : Value} {ss : List ByteArray} {gs : List Nat} {w : World} (hv : Sl Value.string w v ss gs) (hg : ∀ k ∈ gs, k < w.heap.size) (hm : ss.length * 16 ≤ 140737488351232) (_hs : ∀ x ∈ ss, x.size ≤ 9223372036854775807) :
    Calls Try.prog 3 #[.int .i64 room, v] w fun e w' => e = .returned (.bool true) ∧ Below w.heap.size w w' := by
  have key : Calls Try.prog 3 #[.int .i64 room, v] w (LawPost w) := by
    by_cases hr : room < 1 ∨ 65536 < room
    · exact order_bad room v w hr
    · obtain ⟨r, rfl⟩ : ∃ r : Nat, room = r := ⟨room.toNat, by omega⟩
      obtain ⟨sp, cap, rfl, hc, hx⟩ := hv
      refine order_good r (by omega) (by omega) rfl (by omega) fun hp => ?_
      obtain ⟨g, o, e, rfl, hcell⟩ := hx hp
      exact ⟨g, o, e, hg g (by simp), hcell⟩
  exact key.mono fun e w' h => ⟨h.1, h.2.below (Nat.le_refl _) (by simp)⟩

end Go.Proofs.Ytkcejfdjcfhefaa.QS
