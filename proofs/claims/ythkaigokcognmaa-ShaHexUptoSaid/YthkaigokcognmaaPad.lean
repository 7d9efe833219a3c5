/- The padding and the digest; no program in sight. -/
import Derived.Test.YthkaigokcognmaaFold
namespace Go.Proofs.Ythkaigokcognmaa.Sha

def zerosN (n : Nat) : Nat := (119 - n % 64) % 64
def lenB (n : Nat) : List Nat := (List.range 8).map fun i => n * 8 / 2 ^ (56 - 8 * i) % 256
/-- What is put behind a text of n bytes. -/
def tail (n : Nat) : List Nat := 128 :: (List.replicate (zerosN n) 0 ++ lenB n)
def outW (w : Nat) : List Nat := [w / 16777216 % 256, w / 65536 % 256, w / 256 % 256, w % 256]
def outB : List Nat → List Nat
  | [] => []
  | w :: l => outW w ++ outB l
def padded (l : List Nat) : List Nat := l ++ tail l.length
def digest (l : List Nat) : List Nat := outB (run ((padded l).length / 64) (padded l) H0).list

theorem lenB_len (n : Nat) : (lenB n).length = 8 := by simp [lenB]
theorem tail_len (n : Nat) : (tail n).length = 9 + zerosN n := by simp [tail, lenB_len]; omega
theorem tail_mod (n : Nat) : (n % 64 + (tail n).length) % 64 = 0 := by rw [tail_len]; unfold zerosN; omega
theorem zerosN_done (n m : Nat) (hm : m = n % 64) (z : Nat) (hz : z ≤ zerosN n) (h : (m + 1 + z) % 64 = 56) : z = zerosN n := by unfold zerosN at *; omega
theorem zerosN_more (n m : Nat) (hm : m = n % 64) (z : Nat) (hz : z ≤ zerosN n) (h : (m + 1 + z) % 64 ≠ 56) : z < zerosN n := by unfold zerosN at *; omega
theorem zerosN_lt (n : Nat) : zerosN n < 64 := by unfold zerosN; omega
theorem lenB_lt (n : Nat) : ∀ x ∈ lenB n, x < 256 := by
  intro x hx
  obtain ⟨i, _, rfl⟩ := List.mem_map.1 hx
  exact Nat.mod_lt _ (by omega)
theorem tail_lt (n : Nat) : ∀ x ∈ tail n, x < 256 := by
  intro x hx
  rcases List.mem_cons.1 hx with rfl | hx
  · omega
  · rcases List.mem_append.1 hx with hx | hx
    · have := List.eq_of_mem_replicate hx; omega
    · exact lenB_lt n x hx
theorem outB_append (a b : List Nat) : outB (a ++ b) = outB a ++ outB b := by
  induction a with
  | nil => rfl
  | cons x a ih => simp [outB, ih]
theorem outB_len (a : List Nat) : (outB a).length = 4 * a.length := by
  induction a with
  | nil => rfl
  | cons x a ih => simp [outB, outW, ih]; omega
theorem outB_lt : ∀ l : List Nat, ∀ x ∈ outB l, x < 256
  | [], x, hx => by cases hx
  | w :: l, x, hx => by
    rcases List.mem_append.1 hx with hx | hx
    · simp only [outW, List.mem_cons, List.not_mem_nil, or_false] at hx
      omega
    · exact outB_lt l x hx
theorem digest_len (l : List Nat) : (digest l).length = 32 := by unfold digest; rw [outB_len]; rfl
theorem digest_lt (l : List Nat) : ∀ x ∈ digest l, x < 256 := outB_lt _
/-- The state behind all, from what was not yet taken. -/
theorem run_tail (all L0 : List Nat) (h : L0 = all.drop (64 * (all.length / 64))) :
    run ((L0 ++ tail all.length).length / 64) (L0 ++ tail all.length) (run (all.length / 64) all H0) = run ((padded all).length / 64) (padded all) H0 := by
  rw [h]; exact run_more all (tail all.length) H0
end Go.Proofs.Ythkaigokcognmaa.Sha
