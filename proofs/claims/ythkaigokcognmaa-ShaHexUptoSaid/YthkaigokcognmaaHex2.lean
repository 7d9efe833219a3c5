/- Both Unhex: the walks. -/
import Derived.Test.YthkaigokcognmaaHex1
import Derived.Test.YthkaigokcognmaaRef4
namespace Go.Proofs.Ythkaigokcognmaa.Sha
open Go.RowKit

def unhexL : List Nat → Option (List Nat)
  | [] => some []
  | [_] => none
  | a :: b :: l => if digN a < 0 ∨ digN b < 0 then none else (unhexL l).map fun r => ((digN a).toNat * 16 + (digN b).toNat) :: r
theorem unhex_hex : ∀ l : List Nat, (∀ x ∈ l, x < 256) → unhexL (hexL l) = some l
  | [], _ => rfl
  | b :: l, h => by
    have hb := h b (by simp)
    have h1 := digN_dig (b / 16) (by omega)
    have h2 := digN_dig (b % 16) (by omega)
    simp only [hexL, unhexL]
    rw [if_neg (by rw [h1, h2]; omega), unhex_hex l (fun x hx => h x (by simp [hx])), h1, h2]
    simp only [Option.map_some, Int.toNat_natCast]
    congr 2
    omega
theorem unhex_odd : ∀ l : List Nat, l.length % 2 = 1 → unhexL l = none
  | [], h => by simp at h
  | [_], _ => rfl
  | a :: b :: l, h => by
    unfold unhexL
    split
    · rfl
    · rw [unhex_odd l (by simp at h; omega)]; rfl

def unhexV (o : Option (List Nat)) : Value := match o with | some l => .tuple #[.string (strOf l), .int .i64 0] | none => .tuple #[.string ⟨#[]⟩, .int .i64 40]
def UnhexPost (t : ByteArray) (w : World) (e : Ending) (w' : World) : Prop := e = .returned (unhexV (unhexL (bytesOf t))) ∧ Fr [] w w'

theorem index_at (s : ByteArray) (i : Int) (j : Nat) (e : i = (j : Int)) (h : j < s.size) (W : World) : (Instr.index 9 (.string s) (.int .i64 i)).run Try.prog W = .ok (.int .u8 (((bytesOf s).getD j 0 : Nat) : Int)) W := by
  subst e
  rw [run_index_string W 9 s .i64 _ Try.underlying9, dif_pos ⟨by omega, by omega⟩]
  congr 3
  rw [List.getD_eq_getElem?_getD, List.getElem?_eq_getElem (by rw [bytesOf_len]; exact h)]
  simp [bytesOf]; rfl

theorem drop_two (l : List Nat) (k : Nat) (h : 2 * k + 1 < l.length) : l.drop (2 * k) = l.getD (2 * k) 0 :: l.getD (2 * k + 1) 0 :: l.drop (2 * (k + 1)) := by
  rw [List.drop_eq_getElem_cons (by omega), List.drop_eq_getElem_cons h, List.getD_eq_getElem?_getD, List.getD_eq_getElem?_getD, List.getElem?_eq_getElem h, List.getElem?_eq_getElem (by omega)]
  rfl

theorem conv_nil (W : World) : (convert 35 9 (.slice none 0 0)).run Try.prog W = .ok (.string (strOf [])) W := by
  simp [convert, run_underlying Try.underlying35, run_underlying Try.underlying9, run_underlying Try.underlying5, strOf, Conv.bytesToString]
  rfl

theorem or16 (a b : Nat) (ha : a < 16) (hb : b < 16) : bits .or .i64 ((a : Int) * 16) (b : Int) = ((a * 16 + b : Nat) : Int) := by
  have h : ∀ a : Nat, a < 16 → ∀ b : Nat, b < 16 → bits .or .i64 ((a : Int) * 16) (b : Int) = ((a * 16 + b : Nat) : Int) := by decide +kernel
  exact h a ha b hb

set_option maxRecDepth 100000 in
set_option maxHeartbeats 2000000 in
theorem runhex_any (t : ByteArray) (hn : t.size ≤ 4194304) (w : World) : Calls Try.prog 25 #[.string t] w (UnhexPost t w) := by
  obtain ⟨i0, hi, hz0, hz1, hz2⟩ := info_parts info5
  by_cases hodd : t.size % 2 = 1
  · have hfin : UnhexPost t w (.returned (.tuple #[.string ⟨#[]⟩, .int .i64 40])) w := ⟨by rw [unhex_odd _ (by rw [bytesOf_len]; exact hodd)]; rfl, Fr.refl _ _⟩
    have ho1 : ((t.size : Int) % 2 == 1) = true := by
      have : (t.size : Int) % 2 = 1 := by omega
      simp [this]
    have ho2 : ((t.size : Int) % 2 != 0) = true := by
      have : (t.size : Int) % 2 = 1 := by omega
      simp [this]
    clear hodd
    go_enter Try.func25, Try.ntmps25
    go_wp2_with fail
    go_ret2
    exact hfin
  · have ho1 : ((t.size : Int) % 2 == 1) = false := by
      have : (t.size : Int) % 2 = 0 := by omega
      simp [this]
    have ho2 : ((t.size : Int) % 2 != 0) = false := by
      have : (t.size : Int) % 2 = 0 := by omega
      simp [this]
    have HODD := Lib.hid hodd
    clear hodd
    go_enter Try.func25, Try.ntmps25
    go_wp2_with fail
    clear ho1 ho2
    go_loopw [4, 5] (fun s4 s5 W => ∃ (k : Nat) (v : Value) (out : List Nat), s5 = .int .i64 (2 * (k : Int)) ∧ s4 = v ∧ 2 * k ≤ t.size ∧ GRow U8 W w.heap.size v out ∧ out.length = k ∧ (∀ x ∈ out, x < 256) ∧ unhexL (bytesOf t) = (unhexL ((bytesOf t).drop (2 * k))).map (out ++ ·) ∧ Fr [] w W) (fun _ s _ => t.size - (intOf s).toNat)
    case atStart => exact ⟨0, _, [], rfl, rfl, by omega, GRow.nil_ _ _ _, rfl, by simp, by rw [Nat.mul_zero, List.drop_zero]; cases unhexL (bytesOf t) <;> rfl, Fr.refl _ _⟩
    case round =>
      obtain ⟨k, v, out, rfl, rfl, hk, hrow, hol, hob, hun, F⟩ := hrel
      have HOL := Lib.hid hol
      have HOB := Lib.hid hob
      have HUN := Lib.hid hun
      clear hol hob hun
      by_cases hlt : 2 * k < t.size
      · have hlt2 : 2 * k + 1 < t.size := by have := HODD.out; omega
        have hdr := drop_two (bytesOf t) k (by rw [bytesOf_len]; exact hlt2)
        have ha := get_lt (bytesOf_lt t) (by omega) (2 * k)
        have hb := get_lt (bytesOf_lt t) (by omega) (2 * k + 1)
        have hi1 := fun W => index_at t (2 * (k : Int)) (2 * k) (by omega) hlt W
        have hi2 := fun W => index_at t (2 * (k : Int) + 1) (2 * k + 1) (by omega) hlt2 W
        have HDR := Lib.hid hdr
        clear hdr
        generalize (bytesOf t).getD (2 * k) 0 = a at *
        generalize (bytesOf t).getD (2 * k + 1) 0 = b at *
        have e1 : IntKind.i64.wrap (2 * (k : Int) + 1) = 2 * (k : Int) + 1 := IntWalk.i64_in _ (by omega)
        have e2 : 2 * (k : Int) < (t.size : Int) := by omega
        go_wp2_with fail
        go_quiet ((go_at_call 47; exact Calls.quiet_of_same (digit47 _ _)))
        clear hi1 hi2 e1
        have F2 := F.drewN nq
        have hrow2 := hrow.far ((Fr.refl [] wr).drewN nq)
        generalize wr.drewN nq = w5 at *
        have hda := digN_bd a
        have hdb := digN_bd b
        have hst : unhexL ((bytesOf t).drop (2 * k)) = if digN a < 0 ∨ digN b < 0 then none else (unhexL ((bytesOf t).drop (2 * (k + 1)))).map fun r => ((digN a).toNat * 16 + (digN b).toNat) :: r := by rw [HDR.out]; rfl
        have HST := Lib.hid hst
        clear hst ha hb hrow
        generalize digN a = da at *
        generalize digN b = db at *
        by_cases hneg : da < 0 ∨ db < 0
        · have hnone : unhexL (bytesOf t) = none := by rw [HUN.out, HST.out, if_pos hneg]; rfl
          have hfin : UnhexPost t w (.returned (.tuple #[.string ⟨#[]⟩, .int .i64 40])) w5 := ⟨by rw [hnone]; rfl, F2⟩
          clear hnone
          by_cases h1 : da < 0
          · clear hneg
            go_wp2_with fail
            go_ret2
            exact hfin
          · have h2 : db < 0 := by omega
            clear hneg
            go_wp2_with fail
            go_ret2
            exact hfin
        · have h1 : ¬ da < 0 := by omega
          have h2 : ¬ db < 0 := by omega
          have hs2 := HST.out
          rw [if_neg hneg] at hs2
          obtain ⟨na, rfl⟩ := Int.eq_ofNat_of_zero_le (show 0 ≤ da by omega)
          obtain ⟨nb, rfl⟩ := Int.eq_ofNat_of_zero_le (show 0 ≤ db by omega)
          have hna : na < 16 := by omega
          have hnb : nb < 16 := by omega
          rw [Int.toNat_natCast, Int.toNat_natCast] at hs2
          have hor := or16 na nb hna hnb
          obtain ⟨x, hx⟩ : ∃ x, x = na * 16 + nb := ⟨_, rfl⟩
          rw [← hx] at hor hs2
          have hsum : (16 * (na : Int) + (nb : Int)) % 256 = (x : Int) := by omega
          have hsum2 : IntKind.u8.wrap (16 * (na : Int) + (nb : Int)) = (x : Int) := by rw [IntKind.wrap_u8]; omega
          have hsum3 : 16 * (na : Int) + (nb : Int) = (x : Int) := by omega
          have hx256 : (x : Int) % 256 = (x : Int) := by omega
          have hxl : x < 256 := by omega
          have hun2 : unhexL (bytesOf t) = (unhexL ((bytesOf t).drop (2 * (k + 1)))).map ((out ++ [x]) ++ ·) := by
            rw [HUN.out, hs2]
            cases unhexL ((bytesOf t).drop (2 * (k + 1))) with
            | none => rfl
            | some r => simp
          have HU2 := Lib.hid hun2
          have hob2 : ∀ y ∈ out ++ [x], y < 256 := fun y hy => by
            rcases List.mem_append.1 hy with h | h
            · exact HOB.out y h
            · rw [List.mem_singleton.1 h]; exact hxl
          have HB2 := Lib.hid hob2
          clear hun2 hob2 hs2 hneg HST HUN HOB hx
          go_wp2_with (first
            | (at_builtin; refine wpList_append_g (V := U8) rfl (.tmp 33) (.tmp 39) 35 rfl (fun _ => rfl) w.heap.size 5 i0 _ 1 Try.underlying35 hi hz0 hz1 hz2 rfl rfl (hrow2.far ((Fr.refl [] w5).alloc _)) ⟨w5.heap.size, 0, none⟩ 1 1 [x] rfl rfl
                (World.news_of_block (cs := #[.int .u8 (x : Int)]) (t := 5) (fr := (0, 0)) (heap_alloc_new w5 _)) (by rw [HOL.out]; unfold maxLen; omega) (by rw [HOL.out]; omega) (Nat.le_trans F2.size (by simp)) ?_; intro v6 w6 hrow6 hgr6))
          have F6 := Fr.step_row (F2.alloc (.cells #[Value.int .u8 (x : Int)] 5)) hgr6 (hrow2.far ((Fr.refl [] w5).alloc _)) (Nat.le_refl _)
          clear hgr6 hor hsum hsum2 hsum3 hx256
          go_wp2_with fail
          go_roundw
          case rel => exact ⟨k + 1, _, out ++ [x], by go_num, rfl, by omega, hrow6, by rw [List.length_append, HOL.out]; rfl, HB2.out, HU2.out, F6⟩
          case measure => simp [intOf]; omega
      · have e2 : ¬ 2 * (k : Int) < (t.size : Int) := by omega
        have hall : unhexL (bytesOf t) = some out := by
          rw [HUN.out, List.drop_of_length_le (by rw [bytesOf_len]; omega)]
          simp [unhexL]
        have hfin : UnhexPost t w (.returned (.tuple #[.string (strOf out), .int .i64 0])) wr := ⟨by rw [hall]; rfl, F⟩
        clear hall HUN
        rcases hrow with ⟨rfl, he⟩ | ⟨g, cap, rfl, _, _, _, _, _, hrng⟩
        · subst he
          have hcv := conv_nil
          generalize strOf [] = str at hcv hfin
          go_wp2_with fail
          go_ret2
          exact hfin
        · have hcv := conv_bytes (P := Try.prog) cap 35 5 9 Try.underlying35 Try.underlying5 Try.underlying9 HOB.out hrng
          generalize strOf out = str at hcv hfin
          go_wp2_with fail
          go_ret2
          exact hfin

set_option maxRecDepth 100000 in
set_option maxHeartbeats 2000000 in
theorem unhex_any (t : ByteArray) (hn : t.size ≤ 4194304) (w : World) : Calls Try.prog 24 #[.string t] w (UnhexPost t w) := by
  obtain ⟨i0, hi, hz0, hz1, hz2⟩ := info_parts info5
  by_cases hodd : t.size % 2 = 1
  · have hfin : UnhexPost t w (.returned (.tuple #[.string ⟨#[]⟩, .int .i64 40])) w := ⟨by rw [unhex_odd _ (by rw [bytesOf_len]; exact hodd)]; rfl, Fr.refl _ _⟩
    have ho1 : ((t.size : Int) % 2 == 1) = true := by
      have : (t.size : Int) % 2 = 1 := by omega
      simp [this]
    have ho2 : ((t.size : Int) % 2 != 0) = true := by
      have : (t.size : Int) % 2 = 1 := by omega
      simp [this]
    clear hodd
    go_enter Try.func24, Try.ntmps24
    go_wp2_with fail
    go_ret2
    exact hfin
  · have ho1 : ((t.size : Int) % 2 == 1) = false := by
      have : (t.size : Int) % 2 = 0 := by omega
      simp [this]
    have ho2 : ((t.size : Int) % 2 != 0) = false := by
      have : (t.size : Int) % 2 = 0 := by omega
      simp [this]
    have HODD := Lib.hid hodd
    clear hodd
    go_enter Try.func24, Try.ntmps24
    go_wp2_with fail
    clear ho1 ho2
    go_loopw [4, 5] (fun s4 s5 W => ∃ (k : Nat) (v : Value) (out : List Nat), s5 = .int .i64 (2 * (k : Int)) ∧ s4 = v ∧ 2 * k ≤ t.size ∧ GRow U8 W w.heap.size v out ∧ out.length = k ∧ (∀ x ∈ out, x < 256) ∧ unhexL (bytesOf t) = (unhexL ((bytesOf t).drop (2 * k))).map (out ++ ·) ∧ Fr [] w W) (fun _ s _ => t.size - (intOf s).toNat)
    case atStart => exact ⟨0, _, [], rfl, rfl, by omega, GRow.nil_ _ _ _, rfl, by simp, by rw [Nat.mul_zero, List.drop_zero]; cases unhexL (bytesOf t) <;> rfl, Fr.refl _ _⟩
    case round =>
      obtain ⟨k, v, out, rfl, rfl, hk, hrow, hol, hob, hun, F⟩ := hrel
      have HOL := Lib.hid hol
      have HOB := Lib.hid hob
      have HUN := Lib.hid hun
      clear hol hob hun
      by_cases hlt : 2 * k < t.size
      · have hlt2 : 2 * k + 1 < t.size := by have := HODD.out; omega
        have hdr := drop_two (bytesOf t) k (by rw [bytesOf_len]; exact hlt2)
        have ha := get_lt (bytesOf_lt t) (by omega) (2 * k)
        have hb := get_lt (bytesOf_lt t) (by omega) (2 * k + 1)
        have hi1 := fun W => index_at t (2 * (k : Int)) (2 * k) (by omega) hlt W
        have hi2 := fun W => index_at t (2 * (k : Int) + 1) (2 * k + 1) (by omega) hlt2 W
        have HDR := Lib.hid hdr
        clear hdr
        generalize (bytesOf t).getD (2 * k) 0 = a at *
        generalize (bytesOf t).getD (2 * k + 1) 0 = b at *
        have e1 : IntKind.i64.wrap (2 * (k : Int) + 1) = 2 * (k : Int) + 1 := IntWalk.i64_in _ (by omega)
        have e2 : 2 * (k : Int) < (t.size : Int) := by omega
        go_wp2_with fail
        go_quiet ((go_at_call 46; exact Calls.quiet_of_same (index46 _ (by assumption) _)))
        clear hi1 hi2 e1
        have F2 := F.drewN nq
        have hrow2 := hrow.far ((Fr.refl [] wr).drewN nq)
        generalize wr.drewN nq = w5 at *
        have hda := digN_bd a
        have hdb := digN_bd b
        have hst : unhexL ((bytesOf t).drop (2 * k)) = if digN a < 0 ∨ digN b < 0 then none else (unhexL ((bytesOf t).drop (2 * (k + 1)))).map fun r => ((digN a).toNat * 16 + (digN b).toNat) :: r := by rw [HDR.out]; rfl
        have HST := Lib.hid hst
        clear hst ha hb hrow
        generalize digN a = da at *
        generalize digN b = db at *
        by_cases hneg : da < 0 ∨ db < 0
        · have hnone : unhexL (bytesOf t) = none := by rw [HUN.out, HST.out, if_pos hneg]; rfl
          have hfin : UnhexPost t w (.returned (.tuple #[.string ⟨#[]⟩, .int .i64 40])) w5 := ⟨by rw [hnone]; rfl, F2⟩
          clear hnone
          by_cases h1 : da < 0
          · clear hneg
            go_wp2_with fail
            go_ret2
            exact hfin
          · have h2 : db < 0 := by omega
            clear hneg
            go_wp2_with fail
            go_ret2
            exact hfin
        · have h1 : ¬ da < 0 := by omega
          have h2 : ¬ db < 0 := by omega
          have hs2 := HST.out
          rw [if_neg hneg] at hs2
          obtain ⟨na, rfl⟩ := Int.eq_ofNat_of_zero_le (show 0 ≤ da by omega)
          obtain ⟨nb, rfl⟩ := Int.eq_ofNat_of_zero_le (show 0 ≤ db by omega)
          have hna : na < 16 := by omega
          have hnb : nb < 16 := by omega
          rw [Int.toNat_natCast, Int.toNat_natCast] at hs2
          have hor := or16 na nb hna hnb
          obtain ⟨x, hx⟩ : ∃ x, x = na * 16 + nb := ⟨_, rfl⟩
          rw [← hx] at hor hs2
          have hsum : (16 * (na : Int) + (nb : Int)) % 256 = (x : Int) := by omega
          have hsum2 : IntKind.u8.wrap (16 * (na : Int) + (nb : Int)) = (x : Int) := by rw [IntKind.wrap_u8]; omega
          have hsum3 : 16 * (na : Int) + (nb : Int) = (x : Int) := by omega
          have hx256 : (x : Int) % 256 = (x : Int) := by omega
          have hxl : x < 256 := by omega
          have hun2 : unhexL (bytesOf t) = (unhexL ((bytesOf t).drop (2 * (k + 1)))).map ((out ++ [x]) ++ ·) := by
            rw [HUN.out, hs2]
            cases unhexL ((bytesOf t).drop (2 * (k + 1))) with
            | none => rfl
            | some r => simp
          have HU2 := Lib.hid hun2
          have hob2 : ∀ y ∈ out ++ [x], y < 256 := fun y hy => by
            rcases List.mem_append.1 hy with h | h
            · exact HOB.out y h
            · rw [List.mem_singleton.1 h]; exact hxl
          have HB2 := Lib.hid hob2
          clear hun2 hob2 hs2 hneg HST HUN HOB hx
          go_wp2_with (first
            | (at_builtin; refine wpList_append_g (V := U8) rfl (.tmp 33) (.tmp 39) 35 rfl (fun _ => rfl) w.heap.size 5 i0 _ 1 Try.underlying35 hi hz0 hz1 hz2 rfl rfl (hrow2.far ((Fr.refl [] w5).alloc _)) ⟨w5.heap.size, 0, none⟩ 1 1 [x] rfl rfl
                (World.news_of_block (cs := #[.int .u8 (x : Int)]) (t := 5) (fr := (0, 0)) (heap_alloc_new w5 _)) (by rw [HOL.out]; unfold maxLen; omega) (by rw [HOL.out]; omega) (Nat.le_trans F2.size (by simp)) ?_; intro v6 w6 hrow6 hgr6))
          have F6 := Fr.step_row (F2.alloc (.cells #[Value.int .u8 (x : Int)] 5)) hgr6 (hrow2.far ((Fr.refl [] w5).alloc _)) (Nat.le_refl _)
          clear hgr6 hor hsum hsum2 hsum3 hx256
          go_wp2_with fail
          go_roundw
          case rel => exact ⟨k + 1, _, out ++ [x], by go_num, rfl, by omega, hrow6, by rw [List.length_append, HOL.out]; rfl, HB2.out, HU2.out, F6⟩
          case measure => simp [intOf]; omega
      · have e2 : ¬ 2 * (k : Int) < (t.size : Int) := by omega
        have hall : unhexL (bytesOf t) = some out := by
          rw [HUN.out, List.drop_of_length_le (by rw [bytesOf_len]; omega)]
          simp [unhexL]
        have hfin : UnhexPost t w (.returned (.tuple #[.string (strOf out), .int .i64 0])) wr := ⟨by rw [hall]; rfl, F⟩
        clear hall HUN
        rcases hrow with ⟨rfl, he⟩ | ⟨g, cap, rfl, _, _, _, _, _, hrng⟩
        · subst he
          have hcv := conv_nil
          generalize strOf [] = str at hcv hfin
          go_wp2_with fail
          go_ret2
          exact hfin
        · have hcv := conv_bytes (P := Try.prog) cap 35 5 9 Try.underlying35 Try.underlying5 Try.underlying9 HOB.out hrng
          generalize strOf out = str at hcv hfin
          go_wp2_with fail
          go_ret2
          exact hfin
end Go.Proofs.Ythkaigokcognmaa.Sha
