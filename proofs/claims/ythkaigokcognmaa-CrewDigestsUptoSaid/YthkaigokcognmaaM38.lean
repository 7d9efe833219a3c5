/- A part of the proof of CrewDigestsUpto (no statement of its own): Ref7, Dg3. -/
import Derived.Test.YthkaigokcognmaaM37
section
namespace Go.Proofs.Ythkaigokcognmaa.Sha
open Go.RowKit
set_option maxRecDepth 10000 in
set_option maxHeartbeats 1000000 in
theorem rhex_any (s : ByteArray) (w : World) (hn : s.size ≤ 70368744177664) : Calls Try.prog 26 #[.string s] w (HexPost s w) := by
 obtain ⟨i0, hi, hz0, hz1, hz2⟩ := info_parts info5
 go_enter Try.func26, Try.ntmps26
 go_wp2_with fail
 go_loopw [3, 4] (fun s3 s4 W => ∃ (k : Nat) (v : Value), s4 = .int .i64 k ∧ s3 = v ∧ k ≤ s.size ∧ GRow U8 W w.heap.size s3 (hexL ((bytesOf s).take k)) ∧ Fr [] w W) (fun _ i _ => s.size - (intOf i).toNat)
 case atStart => exact ⟨0, _, rfl, rfl, by omega, GRow.nil_ _ _ _, Fr.refl _ _⟩
 case round =>
  obtain ⟨k, v, rfl, rfl, hk, hr, F⟩ := hrel
  by_cases hlt : k < s.size
  ·have hb := s[k].toNat_lt
   have hd1 : ∀ W, (Instr.index 9 (.string ⟨#[48, 49, 50, 51, 52, 53, 54, 55, 56, 57, 97, 98, 99, 100, 101, 102]⟩) (.int .u8 (IntKind.u8.wrap ((s[k].toNat : Int) / 16)))).run Try.prog W = .ok (.int .u8 ((dig (s[k].toNat / 16) : Nat) : Int)) W := fun W => by
    have := dig_index (s[k].toNat / 16) (by omega) W
    rwa [show ((s[k].toNat / 16 : Nat) : Int) = IntKind.u8.wrap ((s[k].toNat : Int) / 16) by rw [IntKind.wrap_u8]; omega] at this
   have hd2 : ∀ W, (Instr.index 9 (.string ⟨#[48, 49, 50, 51, 52, 53, 54, 55, 56, 57, 97, 98, 99, 100, 101, 102]⟩) (.int .u8 (Int.tmod (s[k].toNat : Int) 16))).run Try.prog W = .ok (.int .u8 ((dig (s[k].toNat % 16) : Nat) : Int)) W := fun W => by
    have := dig_index (s[k].toNat % 16) (by omega) W
    rwa [show ((s[k].toNat % 16 : Nat) : Int) = Int.tmod (s[k].toNat : Int) 16 by rw [Int.tmod_eq_emod_of_nonneg (by omega)]; omega] at this
   have hlt' : (k : Int) < (s.size : Int) := by omega
   have hnx : hexL ((bytesOf s).take (k + 1)) = hexL ((bytesOf s).take k) ++ [dig (s[k].toNat / 16), dig (s[k].toNat % 16)] := by rw [bytes_get s k hlt, hexL_append]; rfl
   have HNX := Lib.hid hnx
   clear hnx
   go_wp2_with fail
   go_region_law (refine step_append_g rfl (.tmp 11) (.tmp 22) 35 rfl (fun _ => rfl) w.heap.size 5 i0 _ 1 Try.underlying35 hi hz0 hz1 hz2 rfl rfl (hr.far ((Fr.refl [] wr).drew.alloc _)) ⟨wr.heap.size, 0, none⟩ 2 2 [dig (s[k].toNat / 16), dig (s[k].toNat % 16)] rfl rfl (World.news_of_block (heap_alloc_new wr.drew _)) (by rw [hexL_len, List.length_take, bytesOf_len]; unfold maxLen; omega) (by rw [hexL_len, List.length_take, bytesOf_len]; omega) (Nat.le_trans F.size (by simp)) ?_; intro v2 w2 hr2 hg2)
   all_goals (
    have hr3 : GRow U8 w2 w.heap.size v2 (hexL ((bytesOf s).take (k + 1))) := by rw [HNX.out]; exact hr2
    have F3 := Fr.step_row (F.drew.alloc _) hg2 (hr.far ((Fr.refl [] wr).drew.alloc _)) (Nat.le_refl _)
    clear hg2 hr2 hd1 hd2
    go_wp2_with fail
    go_roundw
    case rel => exact ⟨k + 1, _, by go_num, rfl, by omega, hr3, F3⟩
    case measure => simp [intOf]; omega)
  ·have hk' : ¬ (k : Int) < (s.size : Int) := by omega
   have ht : (bytesOf s).take k = bytesOf s := List.take_of_length_le (by rw [bytesOf_len]; omega)
   rw [ht] at hr
   have hres : HexPost s w (.returned (.string (strOf (hexL (bytesOf s))))) wr := ⟨rfl, F⟩
   rcases hr with ⟨rfl, he⟩ | ⟨g, cap, rfl, _, _, _, _, _, hrng⟩
   ·rw [he] at hres
    have hcv : ∀ W : World, (convert 35 9 (.slice none 0 0)).run Try.prog W = .ok (.string (strOf [])) W := fun W => by
     simp [convert, run_underlying Try.underlying35, run_underlying Try.underlying9, run_underlying Try.underlying5, strOf, Conv.bytesToString]
     rfl
    clear he ht
    generalize strOf [] = str at hcv hres
    go_wp2_with fail
    go_ret
    exact hres
   ·have hcv := conv_bytes (P := Try.prog) cap 35 5 9 Try.underlying35 Try.underlying5 Try.underlying9 (hexL_lt (bytesOf_lt s)) hrng
    clear ht
    generalize strOf (hexL (bytesOf s)) = str at hcv hres
    go_wp2_with fail
    go_ret
    exact hres
def saltStr (salt word : ByteArray) : ByteArray := strOf [salt.size] ++ salt ++ word
theorem saltStr_size (salt word : ByteArray) : (saltStr salt word).size = 1 + salt.size + word.size := by
 simp [saltStr, strOf]; rfl
def saltHex (salt word : ByteArray) : ByteArray := strOf (hexL (digest (bytesOf (saltStr salt word))))
def SaltPost (salt word : ByteArray) (w : World) (e : Ending) (w' : World) : Prop :=
 e = .returned (if salt.size ≤ 32 then .tuple #[.string (saltHex salt word), .int .i64 0] else .tuple #[.string ⟨#[]⟩, .int .i64 1]) ∧ Fr [] w w'
theorem salt_conv (n : Nat) (hn : n ≤ 32) (w : World) : (convert 35 9 (.slice (some ⟨w.heap.size, 0, none⟩) 1 1)).run Try.prog (w.alloc (.cells #[.int .u8 (n : Int)] 5)) = .ok (.string (strOf [n])) (w.alloc (.cells #[.int .u8 (n : Int)] 5)) := by
 have hB : Blk (w.alloc (.cells #[.int .u8 (n : Int)] 5)) w.heap.size 5 #[.int .u8 (n : Int)] := heap_alloc_new w _
 have := conv_bytes (P := Try.prog) (w := w.alloc (.cells #[.int .u8 (n : Int)] 5)) (g := w.heap.size) (off := 0) (l := [n]) 1 35 5 9 Try.underlying35 Try.underlying5 Try.underlying9 (by simp; omega) (fun j u hu => by
  rw [hB.cell, Nat.zero_add]
  cases j with
  | zero => simpa [U8] using hu
  | succ j => simp at hu)
 exact this
set_option maxRecDepth 10000 in
set_option maxHeartbeats 1000000 in
theorem salted_any (salt word : ByteArray) (hs : word.size ≤ 140737488355000) (w : World) : Calls Try.prog 21 #[.string salt, .string word] w (SaltPost salt word w) := by
 by_cases hn : salt.size ≤ 32
 ·have hc := salt_conv salt.size hn w
  have hb : (salt.size : Int) % 256 = (salt.size : Int) := by omega
  have hg : ¬ (salt.size : Int) > 32 := by omega
  have hsz := saltStr_size salt word
  have hsd : saltStr salt word = strOf [salt.size] ++ salt ++ word := rfl
  have hrx : saltHex salt word = strOf (hexL (digest (bytesOf (saltStr salt word)))) := rfl
  have HR : ∀ W, Fr [] w W → SaltPost salt word w (.returned (.tuple #[.string (saltHex salt word), .int .i64 0])) W := fun W F => ⟨by rw [if_pos hn], F⟩
  have HRX := Lib.hid hrx
  have HSD := Lib.hid hsd
  have hsz2 : (saltStr salt word).size < 288230376151711744 := by omega
  have HS2 := Lib.hid hsz2
  have HRR := Lib.hid HR
  have hps : (strOf [salt.size]).size ≤ 1 := Nat.le_refl _
  clear hsz hrx hsd hsz2 HR
  generalize saltHex salt word = hx at HRX HRR
  generalize strOf [salt.size] = pre at hc HSD hps
  have F1 : Fr [] w (w.alloc (.cells #[.int .u8 (salt.size : Int)] 5)) := (Fr.refl _ _).alloc _
  go_enter Try.func21, Try.ntmps21
  go_wp2_with fail
  rw [← HSD.out]
  refine (sumS_any _ _ HS2.out).mono ?_
  rintro e w2 ⟨rfl, F2⟩
  have hds : (strOf (digest (bytesOf (saltStr salt word)))).size ≤ 70368744177664 := by rw [← bytesOf_len, bytesOf_strOf (digest_lt _), digest_len]; omega
  have hbd : bytesOf (strOf (digest (bytesOf (saltStr salt word)))) = digest (bytesOf (saltStr salt word)) := bytesOf_strOf (digest_lt _)
  rw [← hbd] at HRX
  clear hbd HSD
  generalize strOf (digest (bytesOf (saltStr salt word))) = y at hds HRX ⊢
  go_wp2_with fail
  refine (hex_any y _ hds).mono ?_
  rintro e w3 ⟨rfl, F3⟩
  rw [← HRX.out]
  have hfin := HRR.out w3 ((F1.trans F2 (by simp)).trans F3 (by simp))
  clear HRR HRX hc
  go_wp2_with fail
  go_ret2
  exact hfin
 ·have hg : (salt.size : Int) > 32 := by omega
  have hfin : SaltPost salt word w (.returned (.tuple #[.string ⟨#[]⟩, .int .i64 1])) w := ⟨by rw [if_neg hn], Fr.refl _ _⟩
  go_enter Try.func21, Try.ntmps21
  go_wp2_with fail
  go_ret2
  exact hfin
set_option maxRecDepth 10000 in
set_option maxHeartbeats 1000000 in
theorem rsalted_any (salt word : ByteArray) (hs : word.size ≤ 140737488355000) (w : World) : Calls Try.prog 22 #[.string salt, .string word] w (SaltPost salt word w) := by
 by_cases hn : salt.size ≤ 32
 ·have hc := salt_conv salt.size hn w
  have hb : (salt.size : Int) % 256 = (salt.size : Int) := by omega
  have hg : ¬ (salt.size : Int) > 32 := by omega
  have hsz := saltStr_size salt word
  have hsd : saltStr salt word = strOf [salt.size] ++ salt ++ word := rfl
  have hrx : saltHex salt word = strOf (hexL (digest (bytesOf (saltStr salt word)))) := rfl
  have HR : ∀ W, Fr [] w W → SaltPost salt word w (.returned (.tuple #[.string (saltHex salt word), .int .i64 0])) W := fun W F => ⟨by rw [if_pos hn], F⟩
  have HRX := Lib.hid hrx
  have HSD := Lib.hid hsd
  have hsz2 : (saltStr salt word).size ≤ 140737488355200 := by omega
  have HS2 := Lib.hid hsz2
  have HRR := Lib.hid HR
  have hps : (strOf [salt.size]).size ≤ 1 := Nat.le_refl _
  clear hsz hrx hsd hsz2 HR
  generalize saltHex salt word = hx at HRX HRR
  generalize strOf [salt.size] = pre at hc HSD hps
  have F1 : Fr [] w (w.alloc (.cells #[.int .u8 (salt.size : Int)] 5)) := (Fr.refl _ _).alloc _
  go_enter Try.func22, Try.ntmps22
  go_wp2_with fail
  rw [← HSD.out]
  refine (rsum_any _ HS2.out _).mono ?_
  rintro e w2 ⟨rfl, F2⟩
  have hds : (strOf (digest (bytesOf (saltStr salt word)))).size ≤ 70368744177664 := by rw [← bytesOf_len, bytesOf_strOf (digest_lt _), digest_len]; omega
  have hbd : bytesOf (strOf (digest (bytesOf (saltStr salt word)))) = digest (bytesOf (saltStr salt word)) := bytesOf_strOf (digest_lt _)
  rw [← hbd] at HRX
  clear hbd HSD
  generalize strOf (digest (bytesOf (saltStr salt word))) = y at hds HRX ⊢
  go_wp2_with fail
  refine (rhex_any y _ hds).mono ?_
  rintro e w3 ⟨rfl, F3⟩
  rw [← HRX.out]
  have hfin := HRR.out w3 ((F1.trans F2 (by simp)).trans F3 (by simp))
  clear HRR HRX hc
  go_wp2_with fail
  go_ret2
  exact hfin
 ·have hg : (salt.size : Int) > 32 := by omega
  have hfin : SaltPost salt word w (.returned (.tuple #[.string ⟨#[]⟩, .int .i64 1])) w := ⟨by rw [if_neg hn], Fr.refl _ _⟩
  go_enter Try.func22, Try.ntmps22
  go_wp2_with fail
  go_ret2
  exact hfin
end Go.Proofs.Ythkaigokcognmaa.Sha
end
section
namespace Go.Proofs.Ythkaigokcognmaa.Sha
open Go.RowKit
def dg (salt word : ByteArray) : ByteArray := if salt.size ≤ 32 then saltHex salt word else ⟨#[]⟩
theorem c54 (salt word : ByteArray) (hs : word.size ≤ 140737488355000) (w : World) : Calls Try.prog 54 #[.agg #[.string salt, .string word]] w fun e _ => e = .returned (.string (dg salt word)) := by
 have hsa := fun W => salted_any salt word hs W
 have hd : ∀ W W', SaltPost salt word W (.returned (.tuple #[.string (dg salt word), .int .i64 (if salt.size ≤ 32 then 0 else 1)])) W' ∨ True := fun _ _ => .inr trivial
 clear hd
 have hS : ∀ W, Calls Try.prog 21 #[.string salt, .string word] W fun e w' => ∃ n : Int, e = .returned (.tuple #[.string (dg salt word), .int .i64 n]) := fun W => (hsa W).mono fun e w' ⟨h1, _⟩ => by
  by_cases hn : salt.size ≤ 32
  ·exact ⟨0, by rw [h1, if_pos hn, dg, if_pos hn]⟩
  ·exact ⟨1, by rw [h1, if_neg hn, dg, if_neg hn]⟩
 clear hsa
 generalize dg salt word = y at hS ⊢
 go_enter Try.func54, Try.ntmps54
 go_wp2_with fail
 refine (hS _).mono ?_
 rintro e w1 ⟨n, rfl⟩
 go_wp2_with fail
 go_ret
 exact rfl
theorem c22 (salt word : ByteArray) (hs : word.size ≤ 140737488355000) (hn : salt.size ≤ 32) (w : World) : Calls Try.prog 22 #[.string salt, .string word] w fun e _ => e = .returned (.tuple #[.string (dg salt word), .int .i64 0]) :=
 (rsalted_any salt word hs w).mono fun e w' ⟨h1, _⟩ => by rw [h1, if_pos hn, dg, if_pos hn]
theorem c22_long (salt word : ByteArray) (hs : word.size ≤ 140737488355000) (hn : ¬ salt.size ≤ 32) (w : World) : Calls Try.prog 22 #[.string salt, .string word] w fun e _ => e = .returned (.tuple #[.string ⟨#[]⟩, .int .i64 1]) :=
 (rsalted_any salt word hs w).mono fun e w' ⟨h1, _⟩ => by rw [h1, if_neg hn]
end Go.Proofs.Ythkaigokcognmaa.Sha
end
