/- Push of a queue of numbers. -/
import Derived.Test.YtkcejfdjcfhefaaQi3
namespace Go.Proofs.Ytkcejfdjcfhefaa.QI
open Go.RowKit

def PushFull (w : World) (b room : Nat) (xs : List Int) (d : Int) (ls : List Nat) (e : Ending) (w' : World) : Prop :=
  e = .returned (.bool false) ∧ QRep 46 3 (Value.int .i64) w' b room xs (if 4611686018427387904 < d + 1 then 4611686018427387904 else d + 1) ls ∧ Fr [b] w w'

def PushRoom (w : World) (b room : Nat) (xs : List Int) (d : Int) (ls : List Nat) (x : Int) (e : Ending) (w' : World) : Prop :=
  e = .returned (.bool true) ∧ ∃ ls', QRep 46 3 (Value.int .i64) w' b room (xs ++ [x]) d ls' ∧ (∀ k ∈ ls', k ∈ ls ∨ w.heap.size ≤ k) ∧ Fr (b :: ls) w w'

set_option maxHeartbeats 800000 in
theorem push_full {b room : Nat} {xs : List Int} {d : Int} {ls : List Nat} {w : World} (x : Int) (h : QRep 46 3 (Value.int .i64) w b room xs d ls) (hf : xs.length = room) :
    Calls Try.prog 16 #[.pointer (some ⟨b, 0, none⟩), .int .i64 x] w (PushFull w b room xs d ls) := by
  have hq := h
  obtain ⟨hr1, hr2, hxr, hd0, hd1, hT, sl, fr, L, hB, hL, hR⟩ := h
  have h0 : w.cell? ⟨b, 0, none⟩ = some (.int .i64 room) := hB.cell 0
  have h3 : w.cell? ⟨b, 3, none⟩ = some (.int .i64 room) := by rw [← hf]; exact hB.cell 3
  have h4 : w.cell? ⟨b, 4, none⟩ = some (.int .i64 d) := hB.cell 4
  have f4 := hB.frozen 4
  have hfin : ∀ n, PushFull w b room xs d ls (.returned (.bool false)) ((w.drewN n).setCell ⟨b, 4, none⟩ (.int .i64 (if 4611686018427387904 < d + 1 then 4611686018427387904 else d + 1))) := by
    intro n
    refine ⟨rfl, ⟨hr1, hr2, hxr, by split <;> omega, by split <;> omega, hT, sl, fr, L, (hB.drewN n).set_ 4 _, hL, ?_⟩, ((Fr.refl _ _).drewN n).setCell (.inl (by simp)) _⟩
    refine hR.fr (S := [b]) (((Fr.refl _ _).drewN n).setCell (.inl (by simp)) _) ?_
    rcases hR with ⟨_, _, _, _, rfl⟩ | ⟨g, cap, cur, _, rfl, hG, _⟩
    · simp
    · have := hG.ne_ hB (Ne.symm hT)
      simpa using this
  clear hf hB hR hq
  by_cases hd : ¬ 4611686018427387904 < d + 1
  · have hfin' : ∀ n, PushFull w b room xs d ls (.returned (.bool false)) ((w.drewN n).setCell ⟨b, 4, none⟩ (.int .i64 (d + 1))) := fun n => by
      have := hfin n; rwa [if_neg hd] at this
    clear hfin
    go_enter Try.func16, Try.ntmps16
    go_wp2_with (go_at_call 24; refine (given_any b room _ hr1 h0).mono ?_; rintro e w' ⟨rfl, rfl⟩)
    go_quiet (fail)
    go_wp2
    go_ret
    exact hfin' _
  · have hfin' : ∀ n, PushFull w b room xs d ls (.returned (.bool false)) ((w.drewN n).setCell ⟨b, 4, none⟩ (.int .i64 4611686018427387904)) := fun n => by
      have := hfin n; rwa [if_pos (by omega)] at this
    clear hfin
    go_enter Try.func16, Try.ntmps16
    go_wp2_with (go_at_call 24; refine (given_any b room _ hr1 h0).mono ?_; rintro e w' ⟨rfl, rfl⟩)
    go_quiet (fail)
    go_wp2
    go_ret
    exact hfin' _

theorem push_fin {b room g L cap fr : Nat} {xs : List Int} {d : Int} {ls : List Nat} {w w1 : World} {cur : Array Value} (x : Int) (hr1 : 1 ≤ room) (hr2 : room ≤ 65536) (hd0 : 0 ≤ d) (hd1 : d ≤ 4611686018427387904)
    (hx : xs.length < L) (hLr : L ≤ room) (hF : Fr (b :: ls) w w1)
    (hB : Blk w1 b 46 #[.int .i64 (room : Int), .slice (some ⟨g, 0, none⟩) L cap, .int .i64 (fr : Int), .int .i64 (xs.length : Int), .int .i64 d])
    (hG : Blk w1 g 3 cur) (hLc : L ≤ cur.size) (hfr : fr < L) (hcur : ∀ i, i < xs.length → cur[(fr + i) % L]? = (xs[i]?).map (Value.int .i64)) (hg : g ∈ ls ∨ w.heap.size ≤ g) :
    PushRoom w b room xs d ls x (.returned (.bool true)) ((w1.setCell ⟨g, (((fr : Int) + xs.length) % L).toNat, none⟩ (.int .i64 x)).setCell ⟨b, 3, none⟩ (.int .i64 ((xs.length : Int) + 1))) := by
  have e : (((fr : Int) + xs.length) % L).toNat = (fr + xs.length) % L := by
    rw [show ((fr : Int) + xs.length) % L = (((fr + xs.length) % L : Nat) : Int) from by simp]; rfl
  rw [e]
  have hne : g ≠ b := hG.ne_ hB (by decide)
  have hR := Ring.push (V := Value.int .i64) (xs := xs) (cap := cap) x hG (by omega) hLc hfr hx hcur
  refine ⟨rfl, [g], ⟨hr1, hr2, by simp; omega, hd0, hd1, by decide, .slice (some ⟨g, 0, none⟩) L cap, fr, L, ?_, hLr, ?_⟩, by simpa using hg, (hF.setCell (by simpa using hg.imp_left .inr) _).setCell (.inl (by simp)) _⟩
  · have := (hB.far (p := ⟨g, (fr + xs.length) % L, none⟩) hne.symm (.int .i64 x)).set_ 3 (.int .i64 ((xs.length : Int) + 1))
    simpa using this
  · exact hR.fr (S := [b]) ((Fr.refl _ _).setCell (p := ⟨b, 3, none⟩) (.inl (by simp)) _) (by simpa using hne)

set_option maxHeartbeats 800000 in
theorem push_space {b room : Nat} {xs : List Int} {d : Int} {ls : List Nat} {w : World} (x : Int) (h : QRep 46 3 (Value.int .i64) w b room xs d ls) (hf : xs.length < room) :
    Calls Try.prog 16 #[.pointer (some ⟨b, 0, none⟩), .int .i64 x] w (PushRoom w b room xs d ls x) := by
  have hq := h
  obtain ⟨hr1, hr2, hxr, hd0, hd1, hT, sl, fr, L, hB, hL, hR⟩ := h
  obtain ⟨n, hn⟩ : ∃ n, n = xs.length := ⟨_, rfl⟩
  have Hn := Lib.hid hn
  have h0 : w.cell? ⟨b, 0, none⟩ = some (.int .i64 room) := hB.cell 0
  have h3 : w.cell? ⟨b, 3, none⟩ = some (.int .i64 n) := by rw [hn]; exact hB.cell 3
  have hnr : n < room := by omega
  have hneb : ((n : Int) == (room : Int)) = false := beq_eq_false_iff_ne.2 (by omega)
  by_cases hfull : n = L
  · have hsl : ∃ ad cap, sl = .slice ad L cap := by
      rcases hR with ⟨rfl, rfl, _⟩ | ⟨g, cap, cur, rfl, _⟩
      · exact ⟨none, 0, rfl⟩
      · exact ⟨_, cap, rfl⟩
    have hgrow : ∀ W, Fr [] w W → Calls Try.prog 25 #[.pointer (some ⟨b, 0, none⟩)] W (GrowPost W b room xs d) := fun W hW =>
      grow_any (hq.fr hW (by simp) (by simp)) (hB.fr hW (by simp)) hsl (by omega) hf
    obtain ⟨ad, cap, rfl⟩ := hsl
    subst hfull
    have h1 : w.cell? ⟨b, 1, none⟩ = some (.slice ad n cap) := hB.cell 1
    have Hgrow := Lib.hid hgrow
    clear hn hf hxr hgrow hR
    go_enter Try.func16, Try.ntmps16
    go_wp2_with (go_at_call 24; refine (given_any b room _ hr1 h0).mono ?_; rintro e w' ⟨rfl, rfl⟩)
    go_quiet (fail)
    go_wp2_with fail
    go_quiet (fail)
    go_wp2_with fail
    generalize hW2 : w.drewN _ = w2
    have hF2 : Fr [] w w2 := by rw [← hW2]; exact (Fr.refl _ _).drewN _
    clear hW2
    refine (Hgrow.out w2 hF2).mono ?_
    rintro e w3 ⟨rfl, g, M, cur, hM1, hM2, hB3, hG3, hcs, hcur, hgw, hF3⟩
    have hF4 : Fr [b] w w3 := (hF2.mono (by simp)).trans hF3 (by simp)
    have Hcs := Lib.hid hcs
    have k1 : w3.cell? ⟨b, 1, none⟩ = some (.slice (some ⟨g, 0, none⟩) M M) := hB3.cell 1
    have k2 : w3.cell? ⟨b, 2, none⟩ = some (.int .i64 0) := hB3.cell 2
    have k3 : w3.cell? ⟨b, 3, none⟩ = some (.int .i64 n) := by rw [hB3.cell 3, Hn.out]; rfl
    have hnM : n < M := by have := Hn.out; omega
    have hb1 : (n : Int) % M = n := Int.emod_eq_of_lt (by omega) (by omega)
    have hzn : ¬ M = 0 := by omega
    have e2 : (n : Int).tmod M = n := by rw [Int.tmod_eq_emod_of_nonneg (by omega), hb1]
    have e3 : IntKind.i64.wrap (n : Int) = (n : Int) := IntWalk.i64_in _ (by omega)
    clear hcs hF3 h0 h1 h3 hb1
    go_wp2_with fail
    go_still_tail 21, (by kernel_rfl)
    clear e2 e3
    change wpList _ _ _ _ _ (World.drew _)
    have hF5 : Fr [b] w w3.drew := hF4.drew
    have hB5 : Blk w3.drew b _ _ := hB3
    have hG5 : Blk w3.drew g _ _ := hG3
    clear hB3 hG3 k1 k2 k3 hF4
    generalize w3.drew = w4 at hF5 hB5 hG5 ⊢
    have hne1 : ¬ g = b := hG5.ne_ hB5 (by decide)
    have hne2 : ¬ b = g := fun e => hne1 e.symm
    have m3 : w4.cell? ⟨b, 3, none⟩ = some (.int .i64 n) := by rw [hB5.cell 3, Hn.out]; rfl
    have f3 := hB5.frozen 3
    have fg := hG5.frozen n
    obtain ⟨v, hv⟩ : ∃ v, w4.cell? ⟨g, n, none⟩ = some v := by
      have := Hcs.out
      rw [hG5.cell]
      exact ⟨_, Array.getElem?_eq_getElem (show n < cur.size by omega)⟩
    have hfin : PushRoom w b room xs d ls x (.returned (.bool true)) ((w4.setCell ⟨g, n, none⟩ (.int .i64 x)).setCell ⟨b, 3, none⟩ (.int .i64 ((n : Int) + 1))) := by
      have ea : (((0 : Nat) : Int) + n) % M = n := by rw [show ((0 : Nat) : Int) + n = n from by omega]; exact Int.emod_eq_of_lt (by omega) (by omega)
      have key := push_fin (fr := 0) (L := M) (cap := M) (ls := ls) x hr1 hr2 hd0 hd1 (by have := Hn.out; omega) hM2 (hF5.mono (by simp)) hB5 hG5 (by have := Hcs.out; omega) (by omega)
        (fun i hi => by rw [Nat.zero_add, Nat.mod_eq_of_lt (by omega)]; exact hcur i hi) (.inr (by have := hF2.size; omega))
      have e := Hn.out
      rw [← e] at key
      rw [ea] at key
      exact key
    clear hB5 hG5 hF5 hB hcur hq
    go_wp2
    go_ret
    exact hfin
  · rcases hR with ⟨_, rfl, _, rfl, _⟩ | ⟨g, cap, cur, rfl, rfl, hG, hL0, hLc, hfr, hxL, hcur⟩
    · simp at hn; omega
    have hnL : ((n : Int) == (L : Int)) = false := beq_eq_false_iff_ne.2 (by omega)
    have hltL : n < L := by omega
    have h1 : w.cell? ⟨b, 1, none⟩ = some (.slice (some ⟨g, 0, none⟩) L cap) := hB.cell 1
    have h2 : w.cell? ⟨b, 2, none⟩ = some (.int .i64 fr) := hB.cell 2
    clear hfull hn hf hxL hxr
    go_enter Try.func16, Try.ntmps16
    go_wp2_with (go_at_call 24; refine (given_any b room _ hr1 h0).mono ?_; rintro e w' ⟨rfl, rfl⟩)
    go_quiet (fail)
    go_wp2_with fail
    go_quiet (fail)
    go_wp2_with fail
    have hb2 : ((fr : Int) + n) % L < L := Int.emod_lt_of_pos _ (by omega)
    have hb3 : (0 : Int) ≤ ((fr : Int) + n) % L := Int.emod_nonneg _ (by omega)
    have hzn : ¬ L = 0 := by omega
    have e1 : IntKind.i64.wrap ((fr : Int) + n) = (fr : Int) + n := IntWalk.i64_in _ (by omega)
    have e2 : ((fr : Int) + n).tmod L = ((fr : Int) + n) % L := Int.tmod_eq_emod_of_nonneg (by omega)
    have e3 : IntKind.i64.wrap (((fr : Int) + n) % L) = ((fr : Int) + n) % L := IntWalk.i64_in _ (by omega)
    generalize hW2 : (w.drewN _).drewN _ = w2
    have hF2 : Fr [] w w2 := by rw [← hW2]; exact ((Fr.refl _ _).drewN _).drewN _
    clear hW2
    have hB2 := hB.fr hF2 (by simp)
    have hG2 := hG.fr hF2 (by simp)
    have k1 : w2.cell? ⟨b, 1, none⟩ = some (.slice (some ⟨g, 0, none⟩) L cap) := hB2.cell 1
    have k2 : w2.cell? ⟨b, 2, none⟩ = some (.int .i64 fr) := hB2.cell 2
    have k3 : w2.cell? ⟨b, 3, none⟩ = some (.int .i64 n) := by rw [hB2.cell 3, Hn.out]; rfl
    go_still_tail 21, (by kernel_rfl)
    clear e1 e2 e3
    change wpList _ _ _ _ _ (World.drew _)
    have hF3 : Fr [] w w2.drew := hF2.drew
    have hB3 : Blk w2.drew b _ _ := hB2
    have hG3 : Blk w2.drew g _ _ := hG2
    clear hB2 hG2 k1 k2 k3 hF2 h0 h1 h2 h3
    generalize w2.drew = w3 at hF3 hB3 hG3 ⊢
    have hne1 : ¬ g = b := hG3.ne_ hB3 (by decide)
    have hne2 : ¬ b = g := fun e => hne1 e.symm
    have m3 : w3.cell? ⟨b, 3, none⟩ = some (.int .i64 n) := by rw [hB3.cell 3, Hn.out]; rfl
    have f3 := hB3.frozen 3
    have fg := hG3.frozen (((fr : Int) + n) % L).toNat
    obtain ⟨v, hv⟩ : ∃ v, w3.cell? ⟨g, (((fr : Int) + n) % L).toNat, none⟩ = some v := by
      rw [hG3.cell]
      exact ⟨_, Array.getElem?_eq_getElem (show (((fr : Int) + n) % L).toNat < cur.size by omega)⟩
    have hfin : PushRoom w b room xs d [g] x (.returned (.bool true)) ((w3.setCell ⟨g, (((fr : Int) + n) % L).toNat, none⟩ (.int .i64 x)).setCell ⟨b, 3, none⟩ (.int .i64 ((n : Int) + 1))) := by
      have e := Hn.out
      subst e
      exact push_fin x hr1 hr2 hd0 hd1 hltL hL (hF3.mono (by simp)) hB3 hG3 hLc hfr hcur (by simp)
    clear hB3 hG3 hF3 hB hG hcur hq
    go_wp2
    go_ret
    exact hfin
end Go.Proofs.Ytkcejfdjcfhefaa.QI
