/- ShaParts: the walk. -/
import Derived.Test.YthkaigokcognmaaRefT
import Derived.Test.YthkaigokcognmaaSha7
namespace Go.Proofs.Ythkaigokcognmaa.Sha
open Go.RowKit

theorem HRep.fr {w w' : World} {b : Nat} {l : List Nat} (h : HRep w b l) (F : Fr [] w w') : HRep w' b l := by
  obtain ⟨left, hB, hl⟩ := h
  exact ⟨left, hB.fr F (by simp), hl⟩
theorem len_h {w : World} {b : Nat} {l : List Nat} (h : HRep w b l) : Calls Try.prog 19 #[.pointer (some ⟨b, 0, none⟩)] w fun e w' => e = .returned (.int .i64 (l.length : Int)) ∧ w' = w := by
  obtain ⟨left, hB, hl⟩ := h
  have := len_made true _ left _ b w hB
  simpa using this

set_option maxRecDepth 100000 in
set_option maxHeartbeats 4000000 in
theorem parts_key {sp : Option Addr} {len cap : Nat} {xs : List ByteArray} {gs : List Nat} {w : World} (sl : Sl Value.string w (.slice sp len cap) xs gs) (gl : ∀ k ∈ gs, k < w.heap.size) (ln : xs.length * 16 ≤ 140737488351232) (wd : ∀ x ∈ xs, x.size ≤ 140737488351232) :
    Calls Try.prog 4 #[.slice sp len cap] w (LawPost w) := by
  obtain ⟨sp', cap', heq, hcap, hcell⟩ := sl
  injection heq with h1 h2 h3
  subst h1; subst h2; subst h3
  have HC := Lib.hid hcell
  have HW := Lib.hid wd
  have HG := Lib.hid gl
  have HN := Lib.hid ln
  clear hcell wd gl ln
  go_enter Try.func4, Try.ntmps4
  go_wp2_with fail
  refine (new_any _).mono ?_
  rintro e w1 ⟨b, rfl, hb, hB, F1⟩
  have hR0 : HRep w1 b (bytesOf ⟨#[]⟩) := ⟨⟨#[]⟩, hB, rfl⟩
  have HBB := Lib.hid hb
  clear hB hb
  go_wp2_with fail
  go_loopw [4, 5] (fun s4 s5 W => ∃ (i : Nat) (all : ByteArray), s5 = .int .i64 (i : Int) ∧ s4 = .string all ∧ i ≤ xs.length ∧ all.size ≤ 4096 ∧ HRep W b (bytesOf all) ∧ Fr [] w W) (fun _ s _ => xs.length - (intOf s).toNat)
  case atStart => exact ⟨0, ⟨#[]⟩, rfl, rfl, by omega, by decide, hR0, F1⟩
  case round =>
    obtain ⟨i, all, rfl, rfl, hil, hall, hR, F⟩ := hrel
    by_cases hlt : i < xs.length
    · obtain ⟨g, o, hsp, hgs, hcl⟩ := HC.out (by omega)
      subst hsp
      have hx := HW.out xs[i] (List.getElem_mem hlt)
      have hc0 : w.cell? ⟨g, o + i, none⟩ = some (.string xs[i]) := by rw [hcl i hlt, List.getElem?_eq_getElem hlt]; rfl
      have hgl : g < w.heap.size := HG.out g (by rw [hgs]; simp)
      have hc := F.cell (by simp) hc0
      generalize xs[i] = x at hx hc0 hc
      have i0 : (0 : Int) ≤ (i : Int) := by omega
      have i1 : (i : Int) < (xs.length : Int) := by omega
      have i2 : xs.length ≤ 8796093022207 := by have := HN.out; omega
      clear hcl hgs
      go_wp2_with fail
      refine (write_any (bytesOf all) x b _ hR (by rw [bytesOf_len]; omega)).mono ?_
      rintro e w2 ⟨rfl, hR2, F2⟩
      have F3 : Fr [] w w2 := F.step F2 (by simp; exact HBB.out)
      have hc2 := F3.cell (by simp) hc0
      rw [← bytesOf_append] at hR2
      clear hc F2 hR
      by_cases hbig : all.size + x.size > 4096
      · have hb1 : (4096 : Int) < (all.size : Int) + (x.size : Int) := by omega
        go_wp2_with fail
        refine (awake_any _).mono ?_
        rintro e w5 ⟨rfl, F6⟩
        have hfin : LawPost w (.returned (.bool true)) w5 := ⟨rfl, F3.trans F6 (by simp)⟩
        go_wp2_with fail
        go_ret
        exact hfin
      · have hb1 : ¬ (4096 : Int) < (all.size : Int) + (x.size : Int) := by omega
        have hsz : (all ++ x).size = all.size + x.size := by simp
        have hszI : ((all ++ x).size : Int) = (all.size : Int) + (x.size : Int) := by rw [hsz]; omega
        have hall2 : (all ++ x).size ≤ 4096 := by omega
        have hlen : ((bytesOf (all ++ x)).length : Int) = (all.size : Int) + (x.size : Int) := by rw [bytesOf_len]; exact hszI
        have hLH := len_h hR2
        rw [hlen] at hLH
        have HLH := Lib.hid hLH
        have hs1 := fun W (F : Fr [] w2 W) => sum_any (bytesOf (all ++ x)) b W (hR2.fr F) (by rw [bytesOf_len]; omega)
        have hs2 := fun W => sumS_any (all ++ x) W (by omega)
        have HS1 := Lib.hid hs1
        have HS2 := Lib.hid hs2
        have hR3 := fun W (F : Fr [] w2 W) => hR2.fr F
        have HR3 := Lib.hid hR3
        clear hs1 hs2 hLH hlen hszI hsz hR3 hR2
        by_cases h3 : i % 3 = 1
        · have h3' : (i : Int) % 3 = 1 := by omega
          have h3b : (((i : Int) % 3) == 1) = true := by simp [h3']
          go_wp2_with fail
          refine HLH.out.mono ?_
          rintro e w3 ⟨rfl, rfl⟩
          go_wp2_with fail
          refine (HS1.out _ (Fr.refl _ _)).mono ?_
          rintro e w4 ⟨rfl, F4⟩
          go_wp2_with fail
          refine (HS2.out _).mono ?_
          rintro e w5 ⟨rfl, F5⟩
          have hend := HR3.out w5 (F4.trans F5 (by simp))
          have F6 := (F3.trans F4 (by simp)).trans F5 (by simp)
          generalize strOf (digest (bytesOf (all ++ x))) = str
          clear h3 h3'
          go_wp2_with fail
          go_roundw
          case rel => exact ⟨i + 1, all ++ x, by go_num, rfl, by omega, hall2, hend, F6⟩
          case measure => simp [intOf]; omega
        · have h3' : ¬ (i : Int) % 3 = 1 := by omega
          have h3b : (((i : Int) % 3) == 1) = false := by simp [h3']
          have hend := HR3.out w2 (Fr.refl _ _)
          clear h3 h3'
          go_wp2_with fail
          refine HLH.out.mono ?_
          rintro e w3 ⟨rfl, rfl⟩
          go_wp2_with fail
          go_roundw
          case rel => exact ⟨i + 1, all ++ x, by go_num, rfl, by omega, hall2, hend, F3⟩
          case measure => simp [intOf]; omega
    · have hi2 : ¬ (i : Int) < (xs.length : Int) := by omega
      have hs1 := fun W (F : Fr [] wr W) => sum_any (bytesOf all) b W (hR.fr F) (by rw [bytesOf_len]; omega)
      have hs2 := fun W => sumS_any all W (by omega)
      have hs3 := fun W => rsum_any all (by omega) W
      unfold SumPost at hs1 hs2
      unfold DigPost at hs3
      have HS1 := Lib.hid hs1
      have HS2 := Lib.hid hs2
      have HS3 := Lib.hid hs3
      clear hs1 hs2 hs3 hR
      generalize strOf (digest (bytesOf all)) = str at HS1 HS2 HS3
      go_wp2_with fail
      refine (HS1.out _ (Fr.refl _ _)).mono ?_
      rintro e w3 ⟨rfl, F3⟩
      go_wp2_with fail
      refine (HS2.out _).mono ?_
      rintro e w4 ⟨rfl, F4⟩
      go_wp2_with fail
      have F5 := F3.trans F4 (by simp)
      refine (HS1.out _ F5).mono ?_
      rintro e w5 ⟨rfl, F6⟩
      go_wp2_with fail
      refine (HS3.out _).mono ?_
      rintro e w6 ⟨rfl, F7⟩
      go_wp2_with fail
      refine (awake_any _).mono ?_
      rintro e w7 ⟨rfl, F8⟩
      have hfin : LawPost w (.returned (.bool true)) w7 := ⟨rfl, (((F.trans F5 (by simp)).trans F6 (by simp)).trans F7 (by simp)).trans F8 (by simp)⟩
      go_wp2_with fail
      go_ret
      exact hfin

theorem parts_walk {sp : Option Addr} {len cap : Nat} {xs : List ByteArray} {gs : List Nat} {w : World} (sl : Sl Value.string w (.slice sp len cap) xs gs) (gl : ∀ k ∈ gs, k < w.heap.size) (ln : xs.length * 16 ≤ 140737488351232) (wd : ∀ x ∈ xs, x.size ≤ 140737488351232) :
    Calls Try.prog 4 #[.slice sp len cap] w fun e w' => e = .returned (.bool true) ∧ Below w.heap.size w w' :=
  (parts_key sl gl ln wd).mono fun e w' h => ⟨h.1, h.2.below (Nat.le_refl _) (by simp)⟩
end Go.Proofs.Ythkaigokcognmaa.Sha
