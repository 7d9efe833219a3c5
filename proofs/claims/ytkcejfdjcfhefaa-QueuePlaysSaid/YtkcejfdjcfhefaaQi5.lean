/- Pop and Copy of a queue of numbers. -/
import Derived.Test.YtkcejfdjcfhefaaQi4
namespace Go.Proofs.Ytkcejfdjcfhefaa.QI
open Go.RowKit

def PopPost (w : World) (b room : Nat) (x : Int) (xs : List Int) (d : Int) (ls : List Nat) (e : Ending) (w' : World) : Prop :=
  e = .returned (.tuple #[.int .i64 x, .bool true]) ∧ QRep 46 3 (Value.int .i64) w' b room xs d ls ∧ Fr (b :: ls) w w'

theorem pop_empty {b room : Nat} {d : Int} {ls : List Nat} {w : World} (h : QRep 46 3 (Value.int .i64) w b room [] d ls) :
    Calls Try.prog 15 #[.pointer (some ⟨b, 0, none⟩)] w fun e w' => e = .returned (.tuple #[.int .i64 0, .bool false]) ∧ w = w' := by
  obtain ⟨hr1, hr2, hxr, hd0, hd1, hT, sl, fr, L, hB, hL, hR⟩ := h
  have h0 : w.cell? ⟨b, 0, none⟩ = some (.int .i64 room) := hB.cell 0
  have h3 : w.cell? ⟨b, 3, none⟩ = some (.int .i64 0) := hB.cell 3
  clear hB
  go_enter Try.func15, Try.ntmps15
  go_wp2_with (go_at_call 24; refine (given_any b room _ hr1 h0).mono ?_; rintro e w' ⟨rfl, rfl⟩)
  go_wp2
  go_ret2
  exact ⟨rfl, rfl⟩

set_option maxHeartbeats 800000 in
theorem pop_any {b room : Nat} {x : Int} {xs : List Int} {d : Int} {ls : List Nat} {w : World} (h : QRep 46 3 (Value.int .i64) w b room (x :: xs) d ls) :
    Calls Try.prog 15 #[.pointer (some ⟨b, 0, none⟩)] w (PopPost w b room x xs d ls) := by
  obtain ⟨hr1, hr2, hxr, hd0, hd1, hT, sl, fr, L, hB, hL, hR⟩ := h
  have h0 : w.cell? ⟨b, 0, none⟩ = some (.int .i64 room) := hB.cell 0
  have h3 : w.cell? ⟨b, 3, none⟩ = some (.int .i64 ((xs.length : Int) + 1)) := by rw [hB.cell 3]; simp
  rcases hR with ⟨_, _, _, hx, _⟩ | ⟨g, cap, cur, rfl, rfl, hG, hL0, hLc, hfr, hxL, hcur⟩
  · cases hx
  obtain ⟨n, hn⟩ : ∃ n, n = xs.length := ⟨_, rfl⟩
  have Hn := Lib.hid hn
  rw [← hn] at h3
  have hnL : n + 1 ≤ L := by simp at hxL; omega
  have hneb : ((n : Int) + 1 == 0) = false := beq_eq_false_iff_ne.2 (by omega)
  have h1 : w.cell? ⟨b, 1, none⟩ = some (.slice (some ⟨g, 0, none⟩) L cap) := hB.cell 1
  have h2 : w.cell? ⟨b, 2, none⟩ = some (.int .i64 fr) := hB.cell 2
  have hc : w.cell? ⟨g, fr, none⟩ = some (.int .i64 x) := by
    have := hcur 0 (by simp)
    rw [Nat.add_zero, Nat.mod_eq_of_lt hfr] at this
    rw [hG.cell, this]; simp
  have fg := hG.frozen fr
  have i1 : (0 : Int) ≤ (fr : Int) := by omega
  have i2 : (fr : Int) < (L : Int) := by omega
  clear hn
  go_enter Try.func15, Try.ntmps15
  go_wp2_with (go_at_call 24; refine (given_any b room _ hr1 h0).mono ?_; rintro e w' ⟨rfl, rfl⟩)
  go_still_tail 21, (by kernel_rfl)
  change wpList _ _ _ _ _ (World.drew _)
  have hF1 : Fr [] w w.drew := (Fr.refl _ _).drew
  have hB1 : Blk w.drew b _ _ := hB
  have hG1 : Blk w.drew g _ _ := hG
  clear hB hG h0 h1 h2 h3 hc fg
  generalize w.drew = w1 at hF1 hB1 hG1 ⊢
  have hne1 : ¬ g = b := hG1.ne_ hB1 (by decide)
  have hne2 : ¬ b = g := fun e => hne1 e.symm
  have hc1 : w1.cell? ⟨g, fr, none⟩ = some (.int .i64 x) := by
    have := hcur 0 (by simp)
    rw [Nat.add_zero, Nat.mod_eq_of_lt hfr] at this
    rw [hG1.cell, this]; simp
  have fg1 := hG1.frozen fr
  have hR := Ring.pop (V := Value.int .i64) (cap := cap) (.int .i64 0) hG1 hL0 hLc hfr hxL hcur
  have hB2 := hB1.far (p := ⟨g, fr, none⟩) hne2 (.int .i64 0)
  have hF2 : Fr (b :: [g]) w (w1.setCell ⟨g, fr, none⟩ (.int .i64 0)) := (hF1.mono (by simp)).setCell (.inl (by simp)) _
  go_wp2_with fail
  clear hB1 hG1 hF1 hc1 fg1 hcur
  generalize w1.setCell ⟨g, fr, none⟩ (.int .i64 0) = w2 at hR hB2 hF2 ⊢
  have k1 : w2.cell? ⟨b, 1, none⟩ = some (.slice (some ⟨g, 0, none⟩) L cap) := hB2.cell 1
  have k2 : w2.cell? ⟨b, 2, none⟩ = some (.int .i64 fr) := hB2.cell 2
  have hzn : ¬ L = 0 := by omega
  have e1 : IntKind.i64.wrap ((fr : Int) + 1) = (fr : Int) + 1 := IntWalk.i64_in _ (by omega)
  have e2 : ((fr : Int) + 1).tmod L = ((fr : Int) + 1) % L := Int.tmod_eq_emod_of_nonneg (by omega)
  go_still_tail 14, (by kernel_rfl)
  clear e1 e2 k1 k2
  change wpList _ _ _ _ _ (World.drew _)
  have hR3 : Ring 3 (Value.int .i64) w2.drew _ _ _ _ _ := hR
  have hB3 : Blk w2.drew b _ _ := hB2
  have hF3 := hF2.drew
  clear hR hB2 hF2
  generalize w2.drew = w3 at hR3 hB3 hF3 ⊢
  have m2 : w3.cell? ⟨b, 2, none⟩ = some (.int .i64 fr) := hB3.cell 2
  have m3 : w3.cell? ⟨b, 3, none⟩ = some (.int .i64 ((n : Int) + 1)) := by rw [hB3.cell 3, Hn.out]; simp
  have f2 := hB3.frozen 2
  have f3 := hB3.frozen 3
  have hfin : PopPost w b room x xs d [g] (.returned (.tuple #[.int .i64 x, .bool true])) ((w3.setCell ⟨b, 2, none⟩ (.int .i64 (((fr : Int) + 1) % L))).setCell ⟨b, 3, none⟩ (.int .i64 n)) := by
    have hF4 := (hF3.setCell (p := ⟨b, 2, none⟩) (.inl (by simp)) (.int .i64 (((fr : Int) + 1) % L))).setCell (p := ⟨b, 3, none⟩) (.inl (by simp)) (.int .i64 n)
    refine ⟨rfl, ⟨hr1, hr2, by simp at hxr; omega, hd0, hd1, hT, .slice (some ⟨g, 0, none⟩) L cap, (fr + 1) % L, L, ?_, hL, ?_⟩, hF4⟩
    · have := (hB3.set_ 2 (.int .i64 (((fr : Int) + 1) % L))).set_ 3 (.int .i64 n)
      rw [Hn.out] at this ⊢
      simpa using this
    · exact hR3.fr (S := [b]) (((Fr.refl _ _).setCell (p := ⟨b, 2, none⟩) (.inl (by simp)) _).setCell (p := ⟨b, 3, none⟩) (.inl (by simp)) _) (by simpa using hne1)
  clear hB3 hR3 hF3
  go_wp2
  go_ret2
  exact hfin

def CopyPost (w : World) (room : Nat) (xs : List Int) (d : Int) (e : Ending) (w' : World) : Prop :=
  ∃ c lsc, e = .returned (.pointer (some ⟨c, 0, none⟩)) ∧ QRep 46 3 (Value.int .i64) w' c room xs d lsc ∧ w.heap.size ≤ c ∧ (∀ k ∈ lsc, w.heap.size ≤ k) ∧ Fr [] w w'

theorem copy_fin {room : Nat} {xs : List Int} {d : Int} {w w1 : World} {sp : Option Addr} {cap : Nat} (hr1 : 1 ≤ room) (hr2 : room ≤ 65536) (hxr : xs.length ≤ room) (hd0 : 0 ≤ d) (hd1 : d ≤ 4611686018427387904)
    (hown : w1.ownsRow w.heap.size 3 1 (.slice sp xs.length cap) xs.length (xs.map (Value.int .i64))) (hF : Fr [] w w1) (hnil : xs = [] → Value.slice sp xs.length cap = .slice none 0 0) :
    CopyPost w room xs d (.returned (.pointer (some ⟨w1.heap.size, 0, none⟩)))
      (w1.alloc (.cells #[.int .i64 (room : Int), .slice sp xs.length cap, .int .i64 0, .int .i64 (xs.length : Int), .int .i64 d] 46)) := by
  have hF2 := hF.alloc (.cells #[.int .i64 (room : Int), .slice sp xs.length cap, .int .i64 0, .int .i64 (xs.length : Int), .int .i64 d] 46)
  by_cases hx : xs = []
  · have e := hnil hx
    exact ⟨w1.heap.size, [], rfl, ⟨hr1, hr2, hxr, hd0, hd1, by decide, _, 0, 0, Blk.new _ _ _, by omega, .inl ⟨e, rfl, rfl, hx, rfl⟩⟩, hF.size, by simp, hF2⟩
  · have hpos : 0 < xs.length := List.length_pos_iff.2 hx
    rcases hown.2 with ⟨_, h0⟩ | ⟨g, cap', cur', e, _⟩
    · omega
    · injection e with e1 _ e2
      subst e1 e2
      obtain ⟨cur, hG, hcs, hnc, htk, hgw⟩ := own_blk hown
      refine ⟨w1.heap.size, [g], rfl, ⟨hr1, hr2, hxr, hd0, hd1, by decide, .slice (some ⟨g, 0, none⟩) xs.length cap, 0, xs.length, Blk.new _ _ _, hxr,
        .inr ⟨g, cap, cur, rfl, rfl, hG.alloc _, hpos, by omega, hpos, Nat.le_refl _, fun i hi => ?_⟩⟩, hF.size, by simpa using hgw, hF2⟩
      rw [Nat.zero_add, Nat.mod_eq_of_lt hi, ← List.getElem?_map, ← htk, List.getElem?_take, if_pos hi, Array.getElem?_toList]

set_option maxHeartbeats 800000 in
theorem copy_any {b room : Nat} {xs : List Int} {d : Int} {ls : List Nat} {w : World} (h : QRep 46 3 (Value.int .i64) w b room xs d ls) :
    Calls Try.prog 20 #[.pointer (some ⟨b, 0, none⟩)] w (CopyPost w room xs d) := by
  have hq := h
  obtain ⟨hr1, hr2, hxr, hd0, hd1, hT, sl, fr, L, hB, hL, hR⟩ := h
  obtain ⟨n, hn⟩ : ∃ n, n = xs.length := ⟨_, rfl⟩
  have Hn := Lib.hid hn
  have h0 : w.cell? ⟨b, 0, none⟩ = some (.int .i64 room) := hB.cell 0
  have h3 : w.cell? ⟨b, 3, none⟩ = some (.int .i64 n) := by rw [hn]; exact hB.cell 3
  have h4 : w.cell? ⟨b, 4, none⟩ = some (.int .i64 d) := hB.cell 4
  have hbl := hB.lt
  clear hn
  go_enter Try.func20, Try.ntmps20
  go_wp2_with (go_at_call 24; refine (given_any b room _ hr1 h0).mono ?_; rintro e w' ⟨rfl, rfl⟩)
  go_region_held3 (fun w' => w'.cell? ⟨b, 0, none⟩ = some (.int .i64 room) ∧ w'.cell? ⟨b, 3, none⟩ = some (.int .i64 n) ∧ w'.cell? ⟨b, 4, none⟩ = some (.int .i64 d))
    (first
      | go_keep
      | (go_split_ands
         refine ⟨?_, ?_, ?_⟩ <;>
         · (rw [World.cell?_of_block (hF1.block b (by simpa using hbl) (by simp))]; assumption)))
    ((go_at_call 19; refine (items_any (w := w.drew) hq).mono ?_; rintro e w1 ⟨v, rfl, hown1, hF1, hnil1⟩; obtain ⟨sp, cap1, rfl, -⟩ := own_slice hown1))
  have hfin := copy_fin (w := w) hr1 hr2 hxr hd0 hd1 hown1 (((Fr.refl [] w).drew).trans hF1 (by simp)) hnil1
  rw [← Hn.out] at hfin ⊢
  clear hown1 hnil1
  go_wp2
  go_ret
  exact hfin
end Go.Proofs.Ytkcejfdjcfhefaa.QI
