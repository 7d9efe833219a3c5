/- sha: strings.Clone, given, Len, New: what a hash's block holds. -/
import Derived.Test.YthkaigokcognmaaSha2
import Derived.Deep.RegionHeld3
import Derived.Deep.MidRow
import Derived.Lib.Strings
import Derived.Lib.BufferWrite
import Derived.Lib.UnsafeStr
import Derived.Laws.MakeOwn
import Derived.OwnWalk
namespace Go.Proofs.Ythkaigokcognmaa
open Go.RowKit

theorem Fr.freeze {S : List Nat} {a w : World} (h : Fr S a w) {p : Addr} (hp : p.block ∈ S ∨ a.heap.size ≤ p.block) (n : Nat) : Fr S a (w.freeze p n) := by
  unfold World.freeze
  split
  · exact h
  · exact ⟨h.os, h.tape, h.output, by simpa using h.size, fun k hk hn => by
      simp only [Array.getElem?_modify]
      rw [if_neg (fun e => by
        rcases hp with h1 | h1
        · exact hn (e ▸ h1)
        · omega)]
      exact h.block k hk hn⟩

def putAll (cs : Array Value) (o : Nat) : List Value → Array Value
  | [] => cs
  | v :: r => putAll (cs.setIfInBounds o v) (o + 1) r

theorem Blk.setCells {b : Nat} {t : TypeId} : ∀ (vs : List Value) (o : Nat) {w : World} {cs : Array Value}, Blk w b t cs → Blk (w.setCells b o vs) b t (putAll cs o vs)
  | [], _, _, _, h => h
  | v :: r, o, _, _, h => Blk.setCells r (o + 1) (h.set_ o v)

namespace Sha
/-- A hash's cells. -/
def hashC (is : Bool) (st : St) (left : ByteArray) (n : Int) : Array Value :=
  #[.bool is, .int .u32 (st.a : Int), .int .u32 (st.b : Int), .int .u32 (st.c : Int), .int .u32 (st.d : Int), .int .u32 (st.e : Int), .int .u32 (st.f : Int), .int .u32 (st.g : Int), .int .u32 (st.h : Int), .string left, .int .i64 n]

theorem info5 : (Try.prog.info? 5).map (fun i => (i.zero, i.size, i.bytes)) = some (some (.int .u8 0), 1, 1) := by kernel_rfl

set_option maxRecDepth 100000 in
theorem clone60 (s : ByteArray) (w : World) (hlim : s.size ≤ 281474976710656) : Calls Try.prog 60 #[.string s] w fun e w' => e = .returned (.string s) ∧ Fr [] w w' := by
  by_cases h0 : s.size = 0
  · have hs : s = ⟨#[]⟩ := ByteArray.ext (Array.eq_empty_of_size_eq_zero h0)
    subst hs
    go_enter Try.func60, Try.ntmps60
    go_wp2
    go_ret
    exact ⟨rfl, Fr.refl _ _⟩
  · obtain ⟨i0, hi, hz0, hz1, hz2⟩ := info_parts info5
    have hinfo : (Try.prog.info? 5).map (·.size) = some 1 := by rw [hi]; simp [hz1]
    have hco : Try.prog.cellsOf 5 = 1 := by simp [Program.cellsOf, hi, hz1]
    obtain ⟨M, hM⟩ : ∃ M, M = madeCells (Value.int .u8 0).cells (((s.size : Nat) : Int).toNat * i0.size) := ⟨_, rfl⟩
    have hMs : M.size = s.size := by rw [hM, size_madeCells, hz1]; simp
    have hmk : ∀ W : World, (Instr.makeSlice 35 (.int .i64 (s.size : Int)) (.int .i64 (s.size : Int))).run Try.prog W = .ok (.slice (some ⟨W.heap.size, 0, none⟩) s.size s.size) (W.alloc (.cells M 5)) := fun W => by
      have h := run_make (P := Try.prog) W 35 5 i0 (.int .u8 0) Try.underlying35 hi hz0 .i64 .i64 (s.size : Int) (s.size : Int) (by omega) (by omega) (by rw [hz2]; omega) (by omega)
      rw [← hM] at h
      simpa using h
    clear hM
    have hcp := Lib.run_copy_row_string (P := Try.prog) (w.alloc (.cells M 5)) 35 9 3 5 w.heap.size 0 s.size s.size s M 5 Try.underlying35 hinfo (heap_alloc_new w _) (Nat.le_refl _) (by omega)
    obtain ⟨Y, hY⟩ : ∃ Y, Y = (M.toList.take 0 ++ Lib.byteCells s.data.toList ++ M.toList.drop (0 + s.size)).toArray := ⟨_, rfl⟩
    rw [← hY] at hcp
    have hYl : Y.toList = Lib.byteCells s.data.toList := by
      rw [hY, List.toList_toArray, List.take_zero, List.nil_append, List.drop_of_length_le (by rw [Array.length_toList]; omega), List.append_nil]
    have hYs : Y.size = s.size := by rw [← Array.length_toList, hYl, Lib.byteCells_length, ← Lib.size_eq]
    have hgY : ((w.alloc (.cells M 5)).setRow w.heap.size Y).heap[w.heap.size]? = some (.cells Y 5 (0, 0)) := setRow_heap _ _ M _ 5 (0, 0) (heap_alloc_new w _)
    have hne : s.data.toList ≠ [] := fun e => h0 (by rw [Lib.size_eq, e]; rfl)
    have hUS := Lib.run_unsafeString_row (P := Try.prog) ((w.alloc (.cells M 5)).setRow w.heap.size Y) 92 3 9 5 Try.underlying92 hco w.heap.size Y.size (by unfold World.shape?; rw [hgY]) s.data.toList hne (by rw [← Lib.size_eq]; omega) (by rw [← Lib.size_eq]; omega)
      (fun j x hx => Lib.cells_of_row hgY Y.size j _ (by rw [List.take_of_length_le (by rw [Array.length_toList]; exact Nat.le_refl _), hYl]; simp [Lib.byteCells, hx]))
    rw [← Lib.size_eq] at hUS
    clear hY
    have hfr : Fr [] w (((w.alloc (.cells M 5)).setRow w.heap.size Y).freeze ⟨w.heap.size, 0, none⟩ s.size) :=
      (((Fr.refl [] w).alloc _).setRow (.inr (Nat.le_refl _)) _).freeze (.inr (Nat.le_refl _)) _
    go_enter Try.func60, Try.ntmps60
    go_wp2
    go_ret
    exact ⟨rfl, hfr⟩

theorem clone45 (s : ByteArray) (w : World) (hlim : s.size ≤ 281474976710656) : Calls Try.prog 45 #[.string s] w fun e w' => e = .returned (.string s) ∧ Fr [] w w' := by
  go_enter Try.func45, Try.ntmps45
  go_wp2_with (go_at_call 60; refine (clone60 s _ (by omega)).mono ?_; rintro e w' ⟨rfl, hF⟩)
  go_wp2
  go_ret
  exact ⟨rfl, hF⟩

theorem given_nil (w : World) : Calls Try.prog 43 #[.pointer none] w fun e w' => e = .returned (.bool false) ∧ w' = w := by
  go_enter Try.func43, Try.ntmps43
  go_wp2
  go_ret
  exact ⟨rfl, rfl⟩

theorem given_made (is : Bool) (st : St) (left : ByteArray) (n : Int) (b : Nat) (w : World) (h : Blk w b 40 (hashC is st left n)) : Calls Try.prog 43 #[.pointer (some ⟨b, 0, none⟩)] w fun e w' => e = .returned (.bool is) ∧ w' = w := by
  have c0 : w.cell? ⟨b, 0, none⟩ = some (.bool is) := h.cell 0
  go_enter Try.func43, Try.ntmps43
  go_wp2
  go_ret
  exact ⟨rfl, rfl⟩

theorem len_nil (w : World) : Calls Try.prog 19 #[.pointer none] w fun e w' => e = .returned (.int .i64 0) ∧ w' = w := by
  go_enter Try.func19, Try.ntmps19
  go_wp2_with (go_at_call 43; refine (given_nil _).mono ?_; rintro e w' ⟨rfl, rfl⟩)
  go_wp2
  go_ret
  exact ⟨rfl, rfl⟩

theorem len_made (is : Bool) (st : St) (left : ByteArray) (n : Int) (b : Nat) (w : World) (h : Blk w b 40 (hashC is st left n)) : Calls Try.prog 19 #[.pointer (some ⟨b, 0, none⟩)] w fun e w' => e = .returned (.int .i64 (if is then n else 0)) ∧ w' = w := by
  have c0 : w.cell? ⟨b, 10, none⟩ = some (.int .i64 n) := h.cell 10
  cases is
  · go_enter Try.func19, Try.ntmps19
    go_wp2_with (go_at_call 43; refine (given_made false _ _ _ _ _ (by assumption)).mono ?_; rintro e w' ⟨rfl, rfl⟩)
    go_wp2
    go_ret
    exact ⟨rfl, rfl⟩
  · go_enter Try.func19, Try.ntmps19
    go_wp2_with (go_at_call 43; refine (given_made true _ _ _ _ _ (by assumption)).mono ?_; rintro e w' ⟨rfl, rfl⟩)
    go_wp2
    go_ret
    exact ⟨rfl, rfl⟩

theorem new_any (w : World) : Calls Try.prog 17 #[] w fun e w' => ∃ b, e = .returned (.pointer (some ⟨b, 0, none⟩)) ∧ w.heap.size ≤ b ∧ Blk w' b 40 (hashC true H0 ⟨#[]⟩ 0) ∧ Fr [] w w' := by
  go_enter Try.func17, Try.ntmps17
  go_wp2_with (go_at_call 42; refine (begin_any _).mono ?_; rintro e w' ⟨rfl, hF⟩)
  rename_i cs hcs
  have hcs' : #[Value.int .u32 1779033703, .int .u32 3144134277, .int .u32 1013904242, .int .u32 2773480762, .int .u32 1359893119, .int .u32 2600822924, .int .u32 528734635, .int .u32 1541459225] = cs := by injection hcs
  subst hcs'
  go_ret
  refine ⟨w'.heap.size, rfl, hF.size, ?_, hF.alloc _⟩
  exact heap_alloc_new w' _
end Sha
end Go.Proofs.Ythkaigokcognmaa
