/- grow of a queue of numbers: a longer list, what waits standing from its first place on. -/
import Derived.Test.YtkcejfdjcfhefaaQi2
import Derived.Laws.CopyOwn
import Derived.WalkLawsBesides
namespace Go.Proofs.Ytkcejfdjcfhefaa.QI
open Go.RowKit

def GrowPost (w : World) (b room : Nat) (xs : List Int) (d : Int) (e : Ending) (w' : World) : Prop :=
  e = .returned (.tuple #[]) ∧ ∃ (g M : Nat) (cur : Array Value), xs.length < M ∧ M ≤ room ∧
    Blk w' b 46 #[.int .i64 (room : Int), .slice (some ⟨g, 0, none⟩) M M, .int .i64 0, .int .i64 (xs.length : Int), .int .i64 d] ∧
    Blk w' g 3 cur ∧ cur.size = M ∧ (∀ i, i < xs.length → cur[i]? = (xs[i]?).map (Value.int .i64)) ∧ w.heap.size ≤ g ∧ Fr [b] w w'

set_option maxHeartbeats 800000 in
theorem grow_any {b room : Nat} {xs : List Int} {d : Int} {ls : List Nat} {w : World} {sl : Value} {fr L : Nat} (h : QRep 46 3 (Value.int .i64) w b room xs d ls)
    (hB : Blk w b 46 #[.int .i64 (room : Int), sl, .int .i64 (fr : Int), .int .i64 (xs.length : Int), .int .i64 d]) (hsl : ∃ ad cap, sl = .slice ad L cap) (hL : L = xs.length) (hlt : xs.length < room) :
    Calls Try.prog 25 #[.pointer (some ⟨b, 0, none⟩)] w (GrowPost w b room xs d) := by
  have hr1 := h.1
  have hr2 := h.2.1
  obtain ⟨ad, cap, rfl⟩ := hsl
  obtain ⟨i0, hi, hz0, hz1, hz2⟩ := info_parts info3
  have h0 : w.cell? ⟨b, 0, none⟩ = some (.int .i64 room) := hB.cell 0
  have h1 : w.cell? ⟨b, 1, none⟩ = some (.slice ad L cap) := hB.cell 1
  have HL := Lib.hid hL
  have hLr : L < room := by omega
  clear hL hlt
  have hbl := hB.lt
  have hxL : xs.length ≤ L := by have := HL.out; omega
  obtain ⟨M, hM, hM1, hM2⟩ : ∃ M : Nat, (if (if 4 < 2 * (L : Int) then 2 * (L : Int) else 4) < (room : Int) then if 4 < 2 * (L : Int) then 2 * (L : Int) else 4 else (room : Int)) = (M : Int) ∧ L < M ∧ M ≤ room := by
    by_cases c1 : 4 < 2 * (L : Int)
    · by_cases c2 : 2 * (L : Int) < (room : Int)
      · exact ⟨2 * L, by rw [if_pos c1, if_pos c2]; omega, by omega, by omega⟩
      · exact ⟨room, by rw [if_pos c1, if_neg c2], by omega, by omega⟩
    · by_cases c2 : (4 : Int) < (room : Int)
      · exact ⟨4, by rw [if_neg c1, if_pos c2]; rfl, by omega, by omega⟩
      · exact ⟨room, by rw [if_neg c1, if_neg c2], by omega, by omega⟩
  have HM := Lib.hid hM
  clear hM
  have e1 : IntKind.i64.wrap (2 * (L : Int)) = 2 * (L : Int) := IntWalk.i64_in _ (by omega)
  go_enter Try.func25, Try.ntmps25
  go_wp2_with fail
  go_still_tail 12, (by kernel_rfl)
  clear e1
  change wpList _ _ _ _ _ w.drew
  rw [HM.out]
  generalize (if 4 < 2 * (L : Int) then 2 * (L : Int) else (4 : Int)) = m13
  have hF2 : Fr [] w w.drew := (Fr.refl _ _).drew
  generalize w.drew = w2 at hF2 ⊢
  refine wpList_make_full w2 rfl (.tmp 14) (.tmp 14) 33 rfl w.heap.size 3 i0 (.int .i64 0) 1 Try.underlying33 hi hz0 hz1 .i64 .i64 _ _ M rfl rfl rfl rfl (by rw [hz2]; omega) (by unfold maxLen; omega) hF2.size ?_
  intro w3 hown3 hgrow3
  have hF3 : Fr [] w w3 := hF2.grown hgrow3 (by simp)
  have hQ3 := h.fr hF3 (by simp) (by simp)
  obtain ⟨cur, hG3, hcs, -, -, hgw⟩ := own_blk hown3
  have hcs' := Lib.hid hcs
  clear hcs hown3 h0 h1
  go_wp2_with (first
    | (go_at_call 19; refine (items_any hQ3).mono ?_; rintro e w4 ⟨v, rfl, hown4, hF4, -⟩; obtain ⟨sp, cap4, rfl, hsrc⟩ := own_slice hown4)
    | (with_reducible refine wpList_copy_splice rfl (.tmp 16) (.tmp 18) 33 33 rfl 3 Try.underlying33 (by kernel_rfl) _ _ M M xs.length cap4 rfl rfl w2.heap.size 0 cur.toList 3 ?hg (xs.map (Value.int .i64)) ?hn ?hpos ?hfit ?h1 w.heap.size w ?hb ?hBg ?_))
  case hg => rw [Array.toArray_toList]; exact hG3.fr hF4 (by simp)
  case hn => have := HL.out; simp only [List.length_map]; exact (Nat.min_eq_left (by omega)).symm
  case hpos =>
    intro hp
    obtain ⟨ad', e1, e2⟩ := hsrc hp
    exact ⟨ad', e1, fun j a hj => e2 j _ (by rw [List.getElem?_map, hj]; rfl)⟩
  case hfit => have := hcs'.out; simp only [List.length_map, Array.length_toList]; omega
  case h1 => exact ints_oneCell _ _
  case hb => exact (hF3.trans hF4 (by simp)).below (Nat.le_refl _) (by simp)
  case hBg => exact hgw
  intro w5 HG5 hB5
  have hF5 : Fr [] w w5 := Fr.ofBelow hB5
  have hb5 := hB.fr hF5 (by simp)
  have k1 : w5.cell? ⟨b, 1, none⟩ = some (.slice ad L cap) := hb5.cell 1
  have k2 : w5.cell? ⟨b, 2, none⟩ = some (.int .i64 fr) := hb5.cell 2
  have f1 := hb5.frozen 1
  have f2 := hb5.frozen 2
  have hfin : GrowPost w b room xs d (.returned (.tuple #[])) ((w5.setCell ⟨b, 1, none⟩ (.slice (some ⟨w2.heap.size, 0, none⟩) M M)).setCell ⟨b, 2, none⟩ (.int .i64 0)) := by
    have hne : w2.heap.size ≠ b := by omega
    refine ⟨rfl, w2.heap.size, M, _, by omega, hM2, (hb5.set_ 1 _).set_ 2 _, ((show Blk w5 _ 3 _ from HG5.out).far hne _).far hne _, ?_, ?_, hgw, (hF5.mono (by simp)).setCell (.inl (by simp)) _ |>.setCell (.inl (by simp)) _⟩
    · have := hcs'.out
      simp only [List.size_toArray]
      rw [length_splice _ _ _ (by simp only [List.length_map, Array.length_toList]; omega)]
      simpa using this
    · intro i hi
      simp [splice, List.getElem?_append, hi]
  clear hb5 hB hG3 h
  go_wp2
  go_end0
  exact hfin
end Go.Proofs.Ytkcejfdjcfhefaa.QI
