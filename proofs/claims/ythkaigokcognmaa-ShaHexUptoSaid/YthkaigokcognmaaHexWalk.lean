/- ShaHex: the walk (texts of at most 2^20 letters). -/
import Derived.Test.YthkaigokcognmaaHex2
namespace Go.Proofs.Ythkaigokcognmaa.Sha
open Go.RowKit

set_option maxRecDepth 10000 in
set_option maxHeartbeats 2000000 in
theorem hex_key (s t : ByteArray) (hs : s.size ≤ 1048576) (ht : t.size ≤ 1048576) (w : World) : Calls Try.prog 7 #[.string s, .string t] w (LawPost w) := by
  have h24 := fun W => unhex_any t (by omega) W
  have h25 := fun W => runhex_any t (by omega) W
  have hhl : ∀ x ∈ hexL (bytesOf s), x < 256 := hexL_lt (bytesOf_lt s)
  have hsz : (strOf (hexL (bytesOf s))).size ≤ 4194304 := by rw [← bytesOf_len, bytesOf_strOf hhl, hexL_len, bytesOf_len]; omega
  have hb : bytesOf (strOf (hexL (bytesOf s))) = hexL (bytesOf s) := bytesOf_strOf hhl
  have h24b := fun W => unhex_any (strOf (hexL (bytesOf s))) hsz W
  have h23 := fun W => hex_any s W (by omega)
  have h26 := fun W => rhex_any s W (by omega)
  unfold UnhexPost at h24 h25 h24b
  rw [hb, unhex_hex _ (bytesOf_lt s)] at h24b
  have hsb : unhexV (some (bytesOf s)) = .tuple #[.string s, .int .i64 0] := by show Value.tuple #[.string (strOf (bytesOf s)), .int .i64 0] = _; rw [strOf_bytesOf]
  rw [hsb] at h24b
  unfold HexPost at h23 h26
  generalize strOf (hexL (bytesOf s)) = hx at h24b h23 h26
  have H24b := Lib.hid h24b
  have H23 := Lib.hid h23
  have H26 := Lib.hid h26
  obtain ⟨ta, te, hv⟩ : ∃ (ta : ByteArray) (te : Int), unhexV (unhexL (bytesOf t)) = .tuple #[.string ta, .int .i64 te] := by
    cases unhexL (bytesOf t) with
    | none => exact ⟨_, _, rfl⟩
    | some l => exact ⟨_, _, rfl⟩
  rw [hv] at h24 h25
  have H24 := Lib.hid h24
  have H25 := Lib.hid h25
  clear h24 h25 hhl hsz hb h24b h23 h26 hsb hv
  go_enter Try.func7, Try.ntmps7
  go_wp2_with fail
  refine (H24.out _).mono ?_
  rintro e w1 ⟨rfl, F1⟩
  go_wp2_with fail
  refine (H25.out _).mono ?_
  rintro e w2 ⟨rfl, F2⟩
  go_wp2_with fail
  refine (H23.out _).mono ?_
  rintro e w3 ⟨rfl, F3⟩
  go_wp2_with fail
  refine (H24b.out _).mono ?_
  rintro e w4 ⟨rfl, F4⟩
  go_wp2_with fail
  refine (H23.out _).mono ?_
  rintro e w5 ⟨rfl, F5⟩
  go_wp2_with fail
  refine (H26.out _).mono ?_
  rintro e w6 ⟨rfl, F6⟩
  go_wp2_with fail
  refine (awake_any _).mono ?_
  rintro e w7 ⟨rfl, F7⟩
  have hfin : LawPost w (.returned (.bool true)) w7 := ⟨rfl, (((((F1.trans F2 (by simp)).trans F3 (by simp)).trans F4 (by simp)).trans F5 (by simp)).trans F6 (by simp)).trans F7 (by simp)⟩
  go_wp2_with fail
  go_ret
  exact hfin

theorem hex_walk (s : ByteArray) (hs : s.size ≤ 1048576) (t : ByteArray) (ht : t.size ≤ 1048576) {w : World} :
    Calls Try.prog 7 #[.string s, .string t] w fun e w' => e = .returned (.bool true) ∧ Below w.heap.size w w' :=
  (hex_key s t hs ht w).mono fun e w' h => ⟨h.1, h.2.below (Nat.le_refl _) (by simp)⟩
end Go.Proofs.Ythkaigokcognmaa.Sha
