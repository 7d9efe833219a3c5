/- The reference's table and Sum: the walks. -/
import Derived.Test.YthkaigokcognmaaRef3
import Derived.Test.YthkaigokcognmaaPtablex
namespace Go.Proofs.Ythkaigokcognmaa.Sha
open Go.RowKit
open Go.Proofs.YthkaigokcognmaaW.PrintWords (Kd)

def RootsPost (w : World) (e : Ending) (w' : World) : Prop :=
  ∃ g1 c1 g2 c2 : Nat, e = .returned (.tuple #[.slice (some ⟨g1, 0, none⟩) 8 c1, .slice (some ⟨g2, 0, none⟩) 64 c2]) ∧ 8 ≤ c1 ∧ 64 ≤ c2 ∧ StC w' g1 H0 ∧ Kd.C (Kd.int .i64) w' (some ⟨g2, 0, none⟩) 64 (ints K) ∧ Fr [] w w'

theorem table_any (w : World) : Calls Try.prog 41 #[] w (RootsPost w) := by
  refine (Go.Proofs.Ythkaigokcognmaa.Ptable.cloisterref04_table.calls (ints H0.list) (ints K) w rfl).mono fun e w' ⟨v1, v2, he, hR1, hR2, hB⟩ => ?_
  have hl : (ints H0.list).length = 8 := rfl
  have hk : (ints K).length = 64 := rfl
  obtain ⟨g1, cap1, rfl, _, _, _⟩ := Kd.R_form hR1 (by rw [hl]; omega)
  obtain ⟨g2, cap2, rfl, _, _, _⟩ := Kd.R_form hR2 (by rw [hk]; omega)
  obtain ⟨A, c, e1, h2, h3⟩ := Kd.R_reads hR1
  obtain ⟨A', c', e1', h2', h3'⟩ := Kd.R_reads hR2
  rw [hl] at h2 h3 e1
  rw [hk] at h2' h3' e1'
  rw [hl, hk] at he
  cases e1
  cases e1'
  exact ⟨g1, _, g2, _, he, h2, h2', h3, h3', Fr.ofBelow hB⟩

def DigPost (s : ByteArray) (w : World) (e : Ending) (w' : World) : Prop := e = .returned (.string (strOf (digest (bytesOf s)))) ∧ Fr [] w w'

theorem rsum_any (s : ByteArray) (hn : s.size ≤ 140737488355200) (w : World) : Calls Try.prog 15 #[.string s] w (DigPost s w) := by
  go_enter Try.func15, Try.ntmps15
  go_wp2_with fail
  refine (table_any _).mono ?_
  rintro e w1 ⟨g1, c1, g2, c2, rfl, h1, h2, hS, hK, F1⟩
  go_wp2_with fail
  refine (digest_any H0 H0_ok s hn g1 c1 _ c2 _ hS h1 hK h2).mono ?_
  rintro e w2 ⟨rfl, F2⟩
  have hfin : DigPost s w (.returned (.string (strOf (outB (run ((padded (bytesOf s)).length / 64) (padded (bytesOf s)) H0).list)))) w2 := ⟨rfl, F1.trans F2 (by simp)⟩
  clear hS hK
  go_wp2_with fail
  go_ret
  exact hfin

end Go.Proofs.Ythkaigokcognmaa.Sha
