/- sha: Sum (the function), Hex. -/
import Derived.Test.YthkaigokcognmaaSha5
import Derived.Deep.RegionLaw
namespace Go.Proofs.Ythkaigokcognmaa.Sha
open Go.RowKit

theorem sumS_any (s : ByteArray) (w : World) (hn : s.size < 288230376151711744) : Calls Try.prog 13 #[.string s] w (SumPost (bytesOf s) w) := by
  go_enter Try.func13, Try.ntmps13
  go_wp2_with fail
  refine (new_any _).mono ?_
  rintro e w1 ⟨b, rfl, hb, hB, F1⟩
  go_wp2_with fail
  refine (write_any [] s b _ ⟨⟨#[]⟩, hB, rfl⟩ (by simp; omega)).mono ?_
  rintro e w2 ⟨rfl, hR, F2⟩
  rw [List.nil_append] at hR
  go_wp2_with fail
  refine (sum_any _ b _ hR (by rw [bytesOf_len]; omega)).mono ?_
  rintro e w3 ⟨rfl, F3⟩
  have hfin : SumPost (bytesOf s) w (.returned (.string (strOf (digest (bytesOf s))))) w3 := ⟨rfl, (F1.step F2 (by simp; exact hb)).step F3 (by simp)⟩
  go_wp2
  go_ret
  exact hfin

def dig (n : Nat) : Nat := if n < 10 then 48 + n else 87 + n
def hexL : List Nat → List Nat
  | [] => []
  | b :: l => dig (b / 16) :: dig (b % 16) :: hexL l
theorem hexL_append (a b : List Nat) : hexL (a ++ b) = hexL a ++ hexL b := by
  induction a with
  | nil => rfl
  | cons x a ih => simp [hexL, ih]
theorem hexL_len (a : List Nat) : (hexL a).length = 2 * a.length := by
  induction a with
  | nil => rfl
  | cons x a ih => simp [hexL, ih]; omega
theorem dig_lt {n : Nat} (h : n < 16) : dig n < 256 := by unfold dig; split <;> omega
theorem hexL_lt : ∀ {l : List Nat}, (∀ x ∈ l, x < 256) → ∀ x ∈ hexL l, x < 256
  | [], _, x, hx => by cases hx
  | b :: l, h, x, hx => by
    have hb := h b (by simp)
    simp only [hexL, List.mem_cons] at hx
    rcases hx with rfl | rfl | hx
    · exact dig_lt (by omega)
    · exact dig_lt (by omega)
    · exact hexL_lt (fun y hy => h y (by simp [hy])) x hx
def D16 : ByteArray := ⟨#[48, 49, 50, 51, 52, 53, 54, 55, 56, 57, 97, 98, 99, 100, 101, 102]⟩
theorem dig_index (n : Nat) (h : n < 16) (W : World) : (Instr.index 9 (.string D16) (.int .u8 (n : Int))).run Try.prog W = .ok (.int .u8 ((dig n : Nat) : Int)) W := by
  rcases (show n = 0 ∨ n = 1 ∨ n = 2 ∨ n = 3 ∨ n = 4 ∨ n = 5 ∨ n = 6 ∨ n = 7 ∨ n = 8 ∨ n = 9 ∨ n = 10 ∨ n = 11 ∨ n = 12 ∨ n = 13 ∨ n = 14 ∨ n = 15 by omega) with rfl | rfl | rfl | rfl | rfl | rfl | rfl | rfl | rfl | rfl | rfl | rfl | rfl | rfl | rfl | rfl <;> kernel_rfl

theorem and15 : ∀ n : Nat, n < 256 → bits .and .u8 (n : Int) 15 = ((n % 16 : Nat) : Int) := by decide +kernel

def HexPost (s : ByteArray) (w : World) (e : Ending) (w' : World) : Prop := e = .returned (.string (strOf (hexL (bytesOf s)))) ∧ Fr [] w w'

theorem bytes_get (s : ByteArray) (k : Nat) (h : k < s.size) : (bytesOf s).take (k + 1) = (bytesOf s).take k ++ [s[k].toNat] := by
  rw [List.take_succ_eq_append_getElem (by rw [bytesOf_len]; exact h)]
  simp [bytesOf]; rfl

set_option maxRecDepth 10000 in
set_option maxHeartbeats 1000000 in
theorem hex_any (s : ByteArray) (w : World) (hn : s.size ≤ 70368744177664) : Calls Try.prog 23 #[.string s] w (HexPost s w) := by
  obtain ⟨i0, hi, hz0, hz1, hz2⟩ := info_parts info5
  obtain ⟨M, hM⟩ : ∃ M, M = madeCells (Value.int .u8 0).cells ((2 * (s.size : Int)).toNat * i0.size) := ⟨_, rfl⟩
  have hmk : ∀ W : World, (Instr.makeSlice 35 (.int .i64 0) (.int .i64 (2 * (s.size : Int)))).run Try.prog W = .ok (.slice (some ⟨W.heap.size, 0, none⟩) 0 (2 * s.size)) (W.alloc (.cells M 5)) := fun W => by
    have h := run_make (P := Try.prog) W 35 5 i0 (.int .u8 0) Try.underlying35 hi hz0 .i64 .i64 0 (2 * (s.size : Int)) (by omega) (by omega) (by rw [hz2]; omega) (by omega)
    rw [← hM] at h
    have e : (2 * (s.size : Int)).toNat = 2 * s.size := by omega
    simpa [e] using h
  have hMs : M.size = 2 * s.size := by rw [hM, size_madeCells, hz1]; simp; omega
  clear hM
  have hrow : GRow U8 (w.alloc (.cells M 5)) w.heap.size (.slice (some ⟨w.heap.size, 0, none⟩) 0 (2 * s.size)) ([] : List Nat) := by
    have hB := Blk.new w 5 M
    refine .inr ⟨w.heap.size, 2 * s.size, rfl, Nat.le_refl _, by simp, by unfold maxLen; omega, by simp, fun j hj => ⟨?_, hB.frozen _⟩, fun j u hu => by simp at hu⟩
    rw [hB.cell, Nat.zero_add, Array.getElem?_eq_getElem (by omega)]; rfl
  have F1 : Fr [] w (w.alloc (.cells M 5)) := (Fr.refl _ _).alloc _
  go_enter Try.func23, Try.ntmps23
  go_wp2_with fail
  go_loopw [3, 11] (fun s3 s11 W => ∃ k g cap : Nat, s11 = .int .i64 k ∧ k ≤ s.size ∧ s3 = .slice (some ⟨g, 0, none⟩) (2 * k) cap ∧ GRow U8 W w.heap.size s3 (hexL ((bytesOf s).take k)) ∧ Fr [] w W) (fun _ i _ => s.size - (intOf i).toNat)
  case atStart => exact ⟨0, w.heap.size, 2 * s.size, rfl, by omega, rfl, hrow, F1⟩
  case round =>
    obtain ⟨k, g, cap, rfl, hk, rfl, hr, F⟩ := hrel
    by_cases hlt : k < s.size
    · have hb := s[k].toNat_lt
      have hd1 : ∀ W, (Instr.index 9 (.string ⟨#[48, 49, 50, 51, 52, 53, 54, 55, 56, 57, 97, 98, 99, 100, 101, 102]⟩) (.int .u8 ((s[k].toNat : Int) / 16))).run Try.prog W = .ok (.int .u8 ((dig (s[k].toNat / 16) : Nat) : Int)) W := fun W => by
        have := dig_index (s[k].toNat / 16) (by omega) W
        rwa [show ((s[k].toNat / 16 : Nat) : Int) = (s[k].toNat : Int) / 16 by omega] at this
      have hd2 : ∀ W, (Instr.index 9 (.string ⟨#[48, 49, 50, 51, 52, 53, 54, 55, 56, 57, 97, 98, 99, 100, 101, 102]⟩) (.int .u8 (bits .and .u8 (s[k].toNat : Int) 15))).run Try.prog W = .ok (.int .u8 ((dig (s[k].toNat % 16) : Nat) : Int)) W := fun W => by
        have := dig_index (s[k].toNat % 16) (by omega) W
        rwa [← and15 _ hb] at this
      have hlt' : (k : Int) < (s.size : Int) := by omega
      have hnx : hexL ((bytesOf s).take (k + 1)) = hexL ((bytesOf s).take k) ++ [dig (s[k].toNat / 16), dig (s[k].toNat % 16)] := by rw [bytes_get s k hlt, hexL_append]; rfl
      have HNX := Lib.hid hnx
      clear hnx
      go_wp2_with fail
      go_region_law (refine step_append_g rfl (.tmp 14) (.tmp 25) 35 rfl (fun _ => rfl) w.heap.size 5 i0 _ 1 Try.underlying35 hi hz0 hz1 hz2 rfl rfl (hr.far ((Fr.refl [] wr).drew.alloc _)) ⟨wr.heap.size, 0, none⟩ 2 2 [dig (s[k].toNat / 16), dig (s[k].toNat % 16)] rfl rfl (World.news_of_block (heap_alloc_new wr.drew _)) (by rw [hexL_len, List.length_take, bytesOf_len]; unfold maxLen; omega) (by rw [hexL_len, List.length_take, bytesOf_len]; omega) (Nat.le_trans F.size (by simp)) ?_; intro v2 w2 hr2 hg2)
      all_goals (
        have hr3 : GRow U8 w2 w.heap.size v2 (hexL ((bytesOf s).take (k + 1))) := by rw [HNX.out]; exact hr2
        have F3 := Fr.step_row (F.drew.alloc _) hg2 (hr.far ((Fr.refl [] wr).drew.alloc _)) (Nat.le_refl _)
        obtain ⟨g2, cap2, rfl, hg3⟩ := hr3.some_ (n := 2 * (k + 1)) (by rw [hexL_len, List.length_take, bytesOf_len]; omega) (by omega)
        clear hg2 hr2 hd1 hd2
        go_wp2_with fail
        go_roundw
        case rel => exact ⟨k + 1, g2, cap2, by go_num, by omega, rfl, hr3, F3⟩
        case measure => simp [intOf]; omega)
    · have hk' : ¬ (k : Int) < (s.size : Int) := by omega
      have hkk : k = s.size := by omega
      have ht : (bytesOf s).take k = bytesOf s := List.take_of_length_le (by rw [bytesOf_len]; omega)
      have hrng := hr.range rfl 0 (2 * k)
      have hl2 : (hexL ((bytesOf s).take k)).length = 2 * k := by rw [hexL_len, List.length_take, bytesOf_len]; omega
      rw [List.drop_zero, List.take_of_length_le (by omega)] at hrng
      have hcv := conv_bytes (P := Try.prog) cap 35 5 9 Try.underlying35 Try.underlying5 Try.underlying9 (by rw [ht]; exact hexL_lt (bytesOf_lt s)) hrng
      rw [hl2] at hcv
      have hres : HexPost s w (.returned (.string (strOf (hexL ((bytesOf s).take k))))) wr := ⟨by rw [ht], F⟩
      clear ht hl2 hkk
      generalize strOf (hexL ((bytesOf s).take k)) = str at hcv hres
      go_wp2_with fail
      go_ret
      exact hres
end Go.Proofs.Ythkaigokcognmaa.Sha
