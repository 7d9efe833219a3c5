/- Same: are two lists of numbers the same? It only looks. -/
import Derived.Test.YtkcejfdjcfhefaaRows
import Derived.Test.YtkcejfdjcfhefaaMem
import Derived.WalkKit
import Derived.Outline
import Derived.Deep.QuietTactic
import Derived.BigQuiet
import Derived.WalkSpells
import Derived.Lib.Hide
namespace Go.Proofs.Ytkcejfdjcfhefaa.QI
open Go.RowKit

def SamePost (w : World) (b : Bool) (e : Ending) (w' : World) : Prop := e = .returned (.bool b) ∧ ∃ n, w' = w.drewN n

theorem drewN_zero (w : World) : w.drewN 0 = w := rfl

theorem same_any {w : World} {u v : Value} {xs ys : List Int} {gs hs : List Nat} (hu : Sl (Value.int .i64) w u xs gs) (hv : Sl (Value.int .i64) w v ys hs) (hm : xs.length ≤ 4611686018427387904) :
    Calls Try.prog 21 #[u, v] w (SamePost w (decide (xs = ys))) := by
  obtain ⟨sp, cap, rfl, hc, hx⟩ := hu
  obtain ⟨tp, cap', rfl, hc', hy⟩ := hv
  by_cases hlen : xs.length = ys.length
  · obtain ⟨n, hn⟩ : ∃ n, n = xs.length := ⟨_, rfl⟩
    have hn' : n = ys.length := by omega
    rw [← hn, ← hn']
    rw [← hn] at hm
    have Hn := Lib.hid hn
    have Hn' := Lib.hid hn'
    clear hn hn' hlen hc hc'
    have hfalse : ((n : Int) != (n : Int)) = false := by simp
    go_enter Try.func21, Try.ntmps21
    go_wp2_with fail
    go_loopw [5] (fun i wr => ∃ k : Nat, k ≤ n ∧ i = .int .i64 k ∧ xs.take k = ys.take k ∧ ∃ m, wr = w.drewN m) (fun i _ => n - (intOf i).toNat)
    case atStart => exact ⟨0, Nat.zero_le _, rfl, rfl, 0, rfl⟩
    case round =>
      obtain ⟨k, hk, rfl, htake, m, rfl⟩ := hrel
      have Ht := Lib.hid htake
      clear htake
      by_cases hlt : k < n
      · have hkx : k < xs.length := by have := Hn.out; omega
        have hky : k < ys.length := by have := Hn'.out; omega
        obtain ⟨g, o, rfl, _, hcx⟩ := hx (by omega)
        obtain ⟨g', o', rfl, _, hcy⟩ := hy (by omega)
        have c1 := hcx k hkx
        have c2 := hcy k hky
        rw [List.getElem?_eq_getElem hkx] at c1
        rw [List.getElem?_eq_getElem hky] at c2
        obtain ⟨x, ex⟩ : ∃ x, x = xs[k] := ⟨_, rfl⟩
        obtain ⟨y, ey⟩ : ∃ y, y = ys[k] := ⟨_, rfl⟩
        rw [← ex] at c1
        rw [← ey] at c2
        simp only [Option.map_some] at c1 c2
        have i0 : (0 : Int) ≤ (k : Int) := by omega
        have i1 : (k : Int) < (n : Int) := by omega
        have Hx := Lib.hid ex
        have Hy := Lib.hid ey
        clear ex ey hcx hcy hx hy
        by_cases hxy : x = y
        · subst hxy
          go_wp2_with fail
          go_quiet (fail)
          go_wp2_with fail
          go_roundw
          case rel =>
            exact ⟨k + 1, by omega, by go_num, by rw [List.take_succ_eq_append_getElem hkx, List.take_succ_eq_append_getElem hky, Ht.out, ← Hx.out, ← Hy.out], m + nq, rfl⟩
          case measure => simp [intOf]; omega
        · have hb : (x != y) = true := by simpa using hxy
          have hfin : ∀ j, SamePost w (decide (xs = ys)) (.returned (.bool false)) (w.drewN j) := fun j => ⟨by
            rw [decide_eq_false]
            intro e
            subst e
            exact hxy (by rw [Hx.out, Hy.out]), j, rfl⟩
          go_wp2_with fail
          go_quiet (fail)
          go_wp2
          go_ret
          have hf := hfin (m + nq)
          rw [← World.drewN_drewN] at hf
          exact hf
      · have hkn : k = n := by omega
        subst hkn
        have hfin : ∀ j, SamePost w (decide (xs = ys)) (.returned (.bool true)) (w.drewN j) := fun j => ⟨by
            rw [decide_eq_true]
            have e := Ht.out
            rwa [List.take_of_length_le (by have := Hn.out; omega), List.take_of_length_le (by have := Hn'.out; omega)] at e, j, rfl⟩
        go_wp2
        go_ret
        exact hfin _
  · have hb : ((xs.length : Int) != (ys.length : Int)) = true := by simp; omega
    have hfin : SamePost w (decide (xs = ys)) (.returned (.bool false)) w := ⟨by
      rw [decide_eq_false]
      intro e
      subst e
      exact hlen rfl, 0, rfl⟩
    clear hx hy
    generalize xs.length = p at *
    generalize ys.length = q at *
    go_enter Try.func21, Try.ntmps21
    go_wp2
    go_ret
    exact hfin
end Go.Proofs.Ytkcejfdjcfhefaa.QI
