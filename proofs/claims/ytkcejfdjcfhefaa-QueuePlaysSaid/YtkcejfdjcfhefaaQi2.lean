/- Items of a queue of numbers: a new list of all that wait, in order; nothing that was there is turned. -/
import Derived.Test.YtkcejfdjcfhefaaQi1
import Derived.StillTailTactics
import Derived.Deep.RegionHeld3
import Derived.Deep.AppendLies
namespace Go.Proofs.Ytkcejfdjcfhefaa.QI
open Go.RowKit

theorem info3 : (Try.prog.info? 3).map (fun i => (i.zero, i.size, i.bytes)) = some (some (.int .i64 0), 1, 8) := by kernel_rfl

def ItemsPost (w : World) (xs : List Int) (e : Ending) (w' : World) : Prop :=
  ∃ v, e = .returned v ∧ w'.ownsRow w.heap.size 3 1 v xs.length (xs.map (Value.int .i64)) ∧ Fr [] w w' ∧ (xs = [] → v = .slice none 0 0)

set_option maxHeartbeats 800000 in
theorem items_any {b room : Nat} {xs : List Int} {d : Int} {ls : List Nat} {w : World} (h : QRep 46 3 (Value.int .i64) w b room xs d ls) :
    Calls Try.prog 19 #[.pointer (some ⟨b, 0, none⟩)] w (ItemsPost w xs) := by
  obtain ⟨hr1, hr2, hxr, hd0, hd1, -, sl, fr, L, hB, hL, hR⟩ := h
  obtain ⟨i0, hi, hz0, hz1, hz2⟩ := info_parts info3
  have h0 : w.cell? ⟨b, 0, none⟩ = some (.int .i64 room) := hB.cell 0
  have h3 : w.cell? ⟨b, 3, none⟩ = some (.int .i64 xs.length) := hB.cell 3
  obtain ⟨n, hn⟩ : ∃ n, n = xs.length := ⟨_, rfl⟩
  rw [← hn] at h3 hxr
  have Hn := Lib.hid hn
  clear hn
  go_enter Try.func19, Try.ntmps19
  go_wp2_with (go_at_call 24; refine (given_any b room _ hr1 h0).mono ?_; rintro e w' ⟨rfl, rfl⟩)
  go_loopw [3, 12] (fun v i wr => ∃ k : Nat, k ≤ n ∧ i = .int .i64 k ∧ wr.ownsRow w.heap.size 3 1 v k ((xs.take k).map (Value.int .i64)) ∧ Fr [] w wr ∧ (k = 0 → v = .slice none 0 0))
    (fun _ i _ => n - (intOf i).toNat)
  case atStart => exact ⟨0, Nat.zero_le _, rfl, World.ownsRow_nil _ _ _ _, Fr.refl _ _, fun _ => rfl⟩
  case round =>
    obtain ⟨k, hk, rfl, hown, hF, hnil⟩ := hrel
    have Hnil := Lib.hid hnil
    clear hnil
    have hB' := hB.fr hF (by simp)
    have h1 : wr.cell? ⟨b, 1, none⟩ = some sl := hB'.cell 1
    have h2 : wr.cell? ⟨b, 2, none⟩ = some (.int .i64 fr) := hB'.cell 2
    by_cases hlt : k < n
    · have hkx : k < xs.length := by have := Hn.out; omega
      rcases hR with ⟨_, _, _, rfl, _⟩ | ⟨g, cap, cur, rfl, rfl, hG, hL0, hLc, hfr, hxL, hcur⟩
      · simp at hkx
      have hG' := hG.fr hF (by simp)
      have hc : wr.cell? ⟨g, (fr + k) % L, none⟩ = some (.int .i64 (xs[k]'hkx)) := by rw [hG'.cell, hcur k hkx]; simp [hkx]
      obtain ⟨x, hx⟩ : ∃ x, x = xs[k]'hkx := ⟨_, rfl⟩
      rw [← hx] at hc
      have Hx := Lib.hid hx
      have hb1 : (fr + k) % L < L := Nat.mod_lt _ hL0
      have hcast : (((fr + k) % L : Nat) : Int) = ((fr : Int) + k) % L := by simp
      have hb2 : ((fr : Int) + k) % L < L := by rw [← hcast]; omega
      have hb3 : (0 : Int) ≤ ((fr : Int) + k) % L := by rw [← hcast]; omega
      have hz : ¬ (L : Int) = 0 := by omega
      have hzn : ¬ L = 0 := by omega
      have hz' : ((L : Int) == 0) = false := by simp; omega
      rw [show (fr + k) % L = (((fr : Int) + k) % L).toNat from by rw [← hcast]; rfl] at hc
      have hlo : wr.heap.size ≥ w.heap.size := hF.size
      have hbl := hB'.lt
      have hgl := hG'.lt
      have hbw := hB.lt
      have hgw := hG.lt
      have ob1 := own_ne hown hbw
      have ob2 := own_ne hown hgw
      clear hx hcur hG hG' hB hB' h0 h3 hcast
      go_wp2_with fail
      have e1 : IntKind.i64.wrap ((fr : Int) + k) = (fr : Int) + k := IntWalk.i64_in _ (by omega)
      have e2 : ((fr : Int) + k).tmod L = ((fr : Int) + k) % L := Int.tmod_eq_emod_of_nonneg (by omega)
      have e3 : IntKind.i64.wrap (((fr : Int) + k) % L) = ((fr : Int) + k) % L := IntWalk.i64_in _ (by omega)
      go_region_held3 (fun w' => w'.cell? ⟨b, 1, none⟩ = some (.slice (some ⟨g, 0, none⟩) L cap) ∧ w'.cell? ⟨b, 2, none⟩ = some (.int .i64 fr) ∧ w'.cell? ⟨g, (((fr : Int) + k) % L).toNat, none⟩ = some (.int .i64 x))
        (first
          | go_keep
          | (go_split_ands
             refine ⟨?_, ?_, ?_⟩
             · (rw [hgrow.cell_far _ (by simp; omega) (Ne.symm ob1)]; assumption)
             · (rw [hgrow.cell_far _ (by simp; omega) (Ne.symm ob1)]; assumption)
             · (rw [hgrow.cell_far _ (by simp; omega) (Ne.symm ob2)]; assumption)))
        ((refine step_append_lies _ (by rfl) _ _ _ (by rfl) w.heap.size 3 i0 _ 1 8 Try.underlying33 hi hz0 hz1 hz2 rfl (by omega) u3 k _ (by rfl) ((hown.alloc _).drew)
            ⟨wr.heap.size, 0, none⟩ 1 1 [.int .i64 x] (by rfl) (by rfl) (World.news_of_block (cs := #[.int .i64 x]) (t := 3) (fr := (0, 0)) (heap_alloc_new wr _)) (by simp [Value.oneCell'])
            (by omega) (by unfold maxLen; omega) (by omega) (by simp; omega) (wr.heap.size + 1) (by simp) ?_; intro gg cap w1 hown1 hgrow hat hlt))
      have hF1 : Fr [] w w1 := ((hF.alloc _).drew).grown hgrow (fun j hj => .inr (own_ge hown j hj))
      clear e1 e2 e3 hgrow hat
      go_wp2
      go_roundw
      case rel => exact ⟨k + 1, by omega, by go_num, by rw [List.take_succ_eq_append_getElem hkx, ← Hx.out]; simpa using hown1, hF1, fun h => absurd h (by omega)⟩
      case measure => simp [intOf]; omega
    · have hkn : k = n := by omega
      subst hkn
      have hout : ItemsPost w xs (.returned u3) wr := ⟨u3, rfl, by
        have e := Hn.out
        subst e
        simpa using hown, hF, fun e => Hnil.out (by rw [Hn.out, e]; rfl)⟩
      go_wp2
      go_ret
      exact hout
end Go.Proofs.Ytkcejfdjcfhefaa.QI
