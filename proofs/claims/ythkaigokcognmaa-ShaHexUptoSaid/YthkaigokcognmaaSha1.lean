/- The small functions of sha: right, begin, adds. -/
import Derived.Test.YthkaigokcognmaaRows
import Derived.Test.YthkaigokcognmaaMem
import Derived.Test.YthkaigokcognmaaSpec
import Derived.StillTailTactics
import Derived.Great.BuildSlice
import Derived.Deep.DeepCutAuto
import Derived.Deep.WholeRow
import Derived.WalkKit
import Derived.Outline
import Derived.Deep.QuietTactic
import Derived.BigQuiet
import Derived.BigRegion
import Derived.WalkSpells
import Derived.WalkLawsBesides
import Derived.Lib.Hide
namespace Go.Proofs.Ythkaigokcognmaa.Sha
open Go.RowKit

def RightPost (x : Nat) (k : Int) (w : World) (e : Ending) (w' : World) : Prop := e = .returned (.int .u32 ((rotr x k.toNat : Nat) : Int)) ∧ ∃ n, w' = w.drewN n

theorem right_any (x : Nat) (k : Int) (w : World) (hx : x < 4294967296) (hk0 : 1 ≤ k) (hk1 : k ≤ 31) : Calls Try.prog 58 #[.int .u32 (x : Int), .int .i64 k] w (RightPost x k w) := by
  have hx0 : (0 : Int) ≤ (x : Int) := by omega
  have hx1 : (x : Int) ≤ 4294967295 := by omega
  have hfin : ∀ n, RightPost x k w (.returned (.int .u32 (bits .or .u32 ((x : Int) / 2 ^ k.toNat) ((x : Int) * 2 ^ (32 - k).toNat % 4294967296)))) (w.drewN n) :=
    fun n => ⟨by rw [rotr_walk x k hx (by omega)], n, rfl⟩
  go_enter Try.func58, Try.ntmps58
  go_wp2_with fail
  go_quiet (fail)
  go_wp2
  go_ret
  exact hfin _

def beginV : Value := .agg #[.int .u32 1779033703, .int .u32 3144134277, .int .u32 1013904242, .int .u32 2773480762, .int .u32 1359893119, .int .u32 2600822924, .int .u32 528734635, .int .u32 1541459225]

theorem begin_any (w : World) : Calls Try.prog 42 #[] w fun e w' => e = .returned beginV ∧ Fr [] w w' := by
  go_enter Try.func42, Try.ntmps42
  go_wp2
  exact bodyPost_ret (v := beginV) (by simp [results, Try.results42, go_sem, beginV]) rfl ⟨rfl, (Fr.refl _ _).alloc _⟩

def ints (l : List Nat) : List Int := l.map fun n : Nat => (n : Int)
def words (l : List Nat) : Array Value := ((ints l).map (Value.int .u32)).toArray
theorem words_get (l : List Nat) (i : Nat) : (words l)[i]? = (l[i]?).map fun n : Nat => Value.int .u32 (n : Int) := by
  simp [words, ints, List.getElem?_map, Function.comp_def]
theorem words_set (l : List Nat) (i n : Nat) : (words l).setIfInBounds i (.int .u32 (n : Int)) = words (l.set i n) := by
  simp [words, ints, List.map_set]
theorem words_cell {w : World} {g : Nat} {t : TypeId} {l : List Nat} (h : Blk w g t (words l)) {i : Nat} (hi : i < l.length) : w.cell? ⟨g, i, none⟩ = some (.int .u32 ((l.getD i 0 : Nat) : Int)) := by
  rw [h.cell, words_get, List.getElem?_eq_getElem hi, List.getD_eq_getElem?_getD, List.getElem?_eq_getElem hi]; rfl
theorem words_store {w : World} {g : Nat} {t : TypeId} {l : List Nat} (h : Blk w g t (words l)) (i n : Nat) : Blk (w.setCell ⟨g, i, none⟩ (.int .u32 (n : Int))) g t (words (l.set i n)) := by
  rw [← words_set]; exact h.set_ i _

theorem K_len : K.length = 64 := by decide
theorem words_len (l : List Nat) : (words l).size = l.length := by simp [words, ints]

set_option maxRecDepth 100000 in
theorem adds_any (w : World) : Calls Try.prog 59 #[] w fun e w' => e = .returned (.agg (words K)) ∧ Fr [] w w' := by
  go_enter Try.func59, Try.ntmps59
  go_upto_region 1 with fail
  rename_i K0 hK0
  apply wp_region_lit
  refine wpList_buildFlatArrTo rfl 75 37 64 _ rfl .u32 (ints K) (some 1) rfl Try.underlying75 (by kernel_rfl) (by kernel_rfl) (by kernel_rfl) ?_
  refine wpList_frame (a' := { tmps := #[.pointer (some ⟨w.heap.size, 0, none⟩), .agg (words K)], defers := [] }) rfl ?_
  refine wpList_store_rowTo rfl 75 _ _ rfl rfl w.heap.size (words K) rfl rfl 75 _ (heap_alloc_new w _) (by kernel_rfl) (by kernel_rfl) (by kernel_rfl) ?_
  rw [World.setRow_alloc_new]
  apply wpList_nil
  refine hK0 _ _ ?_
  go_wp2
  exact bodyPost_ret (v := .agg (words K)) (results_cell_row rfl _ _ w.heap.size 75 (words K) (0, 0) _ rfl (Blk.new w 75 (words K)) Try.underlying75 rfl (by kernel_rfl)) rfl ⟨rfl, (Fr.refl _ _).alloc _⟩
end Go.Proofs.Ythkaigokcognmaa.Sha
