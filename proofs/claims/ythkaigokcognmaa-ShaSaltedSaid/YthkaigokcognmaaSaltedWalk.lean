/- ShaSalted: the walk. -/
import Derived.Test.YthkaigokcognmaaRef7
namespace Go.Proofs.Ythkaigokcognmaa.Sha
open Go.RowKit

theorem saltHex_len (salt word : ByteArray) : (saltHex salt word).size = 64 := by
  have h : ∀ x ∈ hexL (digest (bytesOf (saltStr salt word))), x < 256 := hexL_lt (digest_lt _)
  rw [saltHex, ← bytesOf_len, bytesOf_strOf h, hexL_len, digest_len]

set_option maxRecDepth 10000 in
set_option maxHeartbeats 2000000 in
theorem salted_key (salt word : ByteArray) (hs : word.size ≤ 140737488351232) (w : World) : Calls Try.prog 5 #[.string salt, .string word] w (LawPost w) := by
  by_cases hn : salt.size ≤ 32
  · have hg : ¬ (salt.size : Int) > 32 := by omega
    have hb : (salt.size : Int) % 256 = (salt.size : Int) := by omega
    have h1 := fun W => salted_any salt word (by omega) W
    have h2 := fun W => rsalted_any salt word (by omega) W
    unfold SaltPost at h1 h2
    rw [if_pos hn] at h1 h2
    have hl := saltHex_len salt word
    have hsz := saltStr_size salt word
    have hsd : saltStr salt word = strOf [salt.size] ++ salt ++ word := rfl
    have hrx : saltHex salt word = strOf (hexL (digest (bytesOf (saltStr salt word)))) := rfl
    have hps : (strOf [salt.size]).size ≤ 1 := Nat.le_refl _
    have hcv := fun W => salt_conv salt.size hn W
    have HRX := Lib.hid hrx
    have HSD := Lib.hid hsd
    have HS2 := Lib.hid (show (saltStr salt word).size < 288230376151711744 by omega)
    have hl2 : ((saltHex salt word).size : Int) = 64 := by rw [hl]; rfl
    clear hsz hrx hsd hl
    generalize saltHex salt word = hx at HRX h1 h2 hl2
    generalize strOf [salt.size] = pre at hcv HSD hps
    have H1 := Lib.hid h1
    have H2 := Lib.hid h2
    have HCV := Lib.hid hcv
    clear h1 h2 hcv
    go_enter Try.func5, Try.ntmps5
    go_wp2_with fail
    refine (H1.out _).mono ?_
    rintro e w1 ⟨rfl, F1⟩
    go_wp2_with fail
    refine (H2.out _).mono ?_
    rintro e w2 ⟨rfl, F2⟩
    have hc := HCV.out w2
    have F3 : Fr [] w (w2.alloc (.cells #[.int .u8 (salt.size : Int)] 5)) := (F1.trans F2 (by simp)).alloc _
    go_wp2_with fail
    rw [← HSD.out]
    refine (sumS_any _ _ HS2.out).mono ?_
    rintro e w3 ⟨rfl, F4⟩
    have hds : (strOf (digest (bytesOf (saltStr salt word)))).size ≤ 70368744177664 := by rw [← bytesOf_len, bytesOf_strOf (digest_lt _), digest_len]; omega
    have hbd : bytesOf (strOf (digest (bytesOf (saltStr salt word)))) = digest (bytesOf (saltStr salt word)) := bytesOf_strOf (digest_lt _)
    rw [← hbd] at HRX
    clear hbd HSD hc
    generalize strOf (digest (bytesOf (saltStr salt word))) = y at hds HRX ⊢
    go_wp2_with fail
    refine (hex_any y _ hds).mono ?_
    rintro e w4 ⟨rfl, F5⟩
    rw [← HRX.out]
    clear HRX
    go_wp2_with fail
    refine (awake_any _).mono ?_
    rintro e w5 ⟨rfl, F6⟩
    have hfin : LawPost w (.returned (.bool true)) w5 := ⟨rfl, ((F3.trans F4 (by simp)).trans F5 (by simp)).trans F6 (by simp)⟩
    go_wp2_with fail
    go_ret
    exact hfin
  · have hg : (salt.size : Int) > 32 := by omega
    have h1 := fun W => salted_any salt word (by omega) W
    have h2 := fun W => rsalted_any salt word (by omega) W
    unfold SaltPost at h1 h2
    rw [if_neg hn] at h1 h2
    have H1 := Lib.hid h1
    have H2 := Lib.hid h2
    clear h1 h2
    go_enter Try.func5, Try.ntmps5
    go_wp2_with fail
    refine (H1.out _).mono ?_
    rintro e w1 ⟨rfl, F1⟩
    go_wp2_with fail
    refine (H2.out _).mono ?_
    rintro e w2 ⟨rfl, F2⟩
    go_wp2_with fail
    refine (awake_any _).mono ?_
    rintro e w5 ⟨rfl, F6⟩
    have hfin : LawPost w (.returned (.bool true)) w5 := ⟨rfl, (F1.trans F2 (by simp)).trans F6 (by simp)⟩
    go_wp2_with fail
    go_ret
    exact hfin

theorem salted_walk (salt : ByteArray) (_h : salt.size ≤ 140737488351232) (word : ByteArray) (hs : word.size ≤ 140737488351232) {w : World} :
    Calls Try.prog 5 #[.string salt, .string word] w fun e w' => e = .returned (.bool true) ∧ Below w.heap.size w w' :=
  (salted_key salt word hs w).mono fun e w' h => ⟨h.1, h.2.below (Nat.le_refl _) (by simp)⟩
end Go.Proofs.Ythkaigokcognmaa.Sha
