/- The reference's roots: the walks. -/
import Derived.Test.YthkaigokcognmaaRef5
import Derived.Test.YthkaigokcognmaaRef3
import Derived.Test.YthkaigokcognmaaPrimes
import Derived.Test.YthkaigokcognmaaPtablex
namespace Go.Proofs.Ythkaigokcognmaa.Sha
open Go.RowKit
open Go.Proofs.YthkaigokcognmaaW.PrintWords (Kd)

theorem below_any (p x f : Nat) (cube : Bool) (hx : x < 65536) (hf : f < 4294967296) (w : World) :
    Calls Try.prog 68 #[.int .i64 (p : Int), .int .i64 (x : Int), .int .i64 (f : Int), .bool cube] w (BelowPost p x f cube w) := by
  cases cube
  · exact below_sq p x f hx hf w
  · exact below_cu p x f hx hf w

theorem below_int (p : Nat) {xi fi : Int} (x f : Nat) (cube : Bool) (ex : xi = (x : Int)) (ef : fi = (f : Int)) (hx : x < 65536) (hf : f < 4294967296) (w : World) :
    Calls Try.prog 68 #[.int .i64 (p : Int), .int .i64 xi, .int .i64 fi, .bool cube] w (BelowPost p x f cube w) := by
  subst ex; subst ef; exact below_any p x f cube hx hf w

theorem findX_le {p : Nat} {cube : Bool} {X : Nat} : ∀ n x, findX p cube n x = some X → x ≤ X ∧ X < x + n
  | 0, x, h => by cases h
  | n + 1, x, h => by
    unfold findX at h
    split at h
    · have := findX_le n (x + 1) h; omega
    · injection h with h; omega
theorem bitsN_le (p x : Nat) (cube : Bool) : ∀ n, n ≤ 32 → bitsN p x cube n + 2 ^ (32 - n) ≤ 4294967296
  | 0, _ => by simp [bitsN]
  | n + 1, h => by
    have ih := bitsN_le p x cube n (by omega)
    have e : 2 ^ (32 - n) = 2 ^ (31 - n) + 2 ^ (31 - n) := by rw [show 32 - n = (31 - n) + 1 by omega, Nat.pow_succ]; omega
    rw [show 32 - (n + 1) = 31 - n by omega]
    rw [e] at ih
    show (if belowN p x (bitsN p x cube n + 2 ^ (31 - n)) cube then bitsN p x cube n + 2 ^ (31 - n) else bitsN p x cube n) + 2 ^ (31 - n) ≤ _
    generalize 2 ^ (31 - n) = q at ih ⊢
    split <;> omega

def BehindPost (r : Nat) (w : World) (e : Ending) (w' : World) : Prop := e = .returned (.int .i64 (r : Int)) ∧ Fr [] w w'

set_option maxRecDepth 10000 in
set_option maxHeartbeats 1000000 in
theorem behind_any (p : Nat) (cube : Bool) (r : Nat) (h : behindN p cube = some r) (w : World) : Calls Try.prog 56 #[.int .i64 (p : Int), .bool cube] w (BehindPost r w) := by
  unfold behindN at h
  cases hX : findX p cube 40 1 with
  | none => rw [hX] at h; cases h
  | some X =>
    rw [hX] at h
    injection h with h
    have hXl := findX_le 40 1 hX
    have HR := Lib.hid h
    have HX := Lib.hid hX
    clear h hX
    go_enter Try.func56, Try.ntmps56
    go_wp2_with fail
    go_loopw [5] (fun s W => ∃ x n : Nat, s = .int .i64 (x : Int) ∧ findX p cube n x = some X ∧ 1 ≤ x ∧ x ≤ X ∧ Fr [] w W) (fun s _ => X + 1 - (intOf s).toNat)
    case atStart => exact ⟨1, 40, rfl, HX.out, by omega, hXl.1, Fr.refl _ _⟩
    case round =>
      obtain ⟨x, n, rfl, hf, hx1, hx2, F⟩ := hrel
      cases n with
      | zero => cases hf
      | succ n =>
        have HF := Lib.hid hf
        clear hf
        go_wp2_with fail
        refine (below_int p (x + 1) 0 cube (by omega) rfl (by omega) (by omega) _).mono ?_
        rintro e w2 ⟨rfl, F2⟩
        have hstep : findX p cube (n + 1) x = if belowN p (x + 1) 0 cube then findX p cube n (x + 1) else some x := rfl
        rw [HF.out] at hstep
        have F3 := F.trans F2 (by simp)
        cases hbl : belowN p (x + 1) 0 cube with
        | true =>
          rw [hbl, if_pos rfl] at hstep
          have hx3 := findX_le _ _ hstep.symm
          have HST := Lib.hid hstep
          clear hstep hbl
          go_wp2_with fail
          go_roundw
          case rel => exact ⟨x + 1, n, by go_num, HST.out.symm, by omega, hx3.1, F3⟩
          case measure => simp [intOf]; omega
        | false =>
          rw [hbl, if_neg (by simp)] at hstep
          injection hstep with hxX
          subst hxX
          clear hbl HF HX F2 F
          go_wp2_with fail
          go_loopw [6, 7] (fun s6 s7 W => ∃ n : Nat, n ≤ 32 ∧ s7 = .int .i64 (31 - (n : Int)) ∧ s6 = .int .i64 ((bitsN p X cube n : Nat) : Int) ∧ Fr [] w W) (fun _ s _ => (intOf s + 2).toNat)
          case atStart => exact ⟨0, by omega, rfl, rfl, F3⟩
          case round =>
            obtain ⟨m, hm, rfl, rfl, F5⟩ := hrel
            have hle := bitsN_le p X cube m hm
            by_cases hlt : m < 32
            · have hp2 : 2 ^ (32 - m) = 2 ^ (31 - m) + 2 ^ (31 - m) := by rw [show 32 - m = (31 - m) + 1 by omega, Nat.pow_succ]; omega
              have hp1 : 0 < 2 ^ (31 - m) := Nat.pow_pos (by omega)
              have hnx : bitsN p X cube (m + 1) = if belowN p X (bitsN p X cube m + 2 ^ (31 - m)) cube then bitsN p X cube m + 2 ^ (31 - m) else bitsN p X cube m := rfl
              rw [hp2] at hle
              have hsh : (2 : Int) ^ (31 - m) = ((2 ^ (31 - m) : Nat) : Int) := by simp
              have i0 : (31 : Int) - (m : Int) ≥ 0 := by omega
              have HNX := Lib.hid hnx
              clear hnx hp2
              generalize bitsN p X cube m = f at *
              generalize 2 ^ (31 - m) = q at *
              go_wp2_with fail
              refine (below_int p X (f + q) cube rfl (by omega) (by omega) (by omega) _).mono ?_
              rintro e w6 ⟨rfl, F6⟩
              have F7 := F5.trans F6 (by simp)
              cases hbl : belowN p X (f + q) cube with
              | true =>
                have hnx := HNX.out
                rw [hbl, if_pos rfl] at hnx
                have HN2 := Lib.hid hnx
                clear hnx hbl HNX
                go_wp2_with fail
                go_roundw
                case rel => exact ⟨m + 1, by omega, by go_num, by rw [HN2.out]; go_num, F7⟩
                case measure => simp [intOf]; omega
              | false =>
                have hnx := HNX.out
                rw [hbl, if_neg (by simp)] at hnx
                have HN2 := Lib.hid hnx
                clear hnx hbl HNX
                go_wp2_with fail
                go_roundw
                case rel => exact ⟨m + 1, by omega, by go_num, by rw [HN2.out], F7⟩
                case measure => simp [intOf]; omega
            · have hm2 : m = 32 := by omega
              subst hm2
              have i0 : ¬ (31 : Int) - ((32 : Nat) : Int) ≥ 0 := by omega
              rw [HR.out]
              have hres : BehindPost r w (.returned (.int .i64 (r : Int))) wr := ⟨rfl, F5⟩
              clear hle
              go_wp2_with fail
              go_ret
              exact hres

def I64 (n : Nat) : Value := .int .i64 (n : Int)
def RootsPost (w : World) (e : Ending) (w' : World) : Prop :=
  ∃ g1 c1 g2 c2 : Nat, e = .returned (.tuple #[.slice (some ⟨g1, 0, none⟩) 8 c1, .slice (some ⟨g2, 0, none⟩) 64 c2]) ∧ 8 ≤ c1 ∧ 64 ≤ c2 ∧ StC w' g1 H0 ∧ Kd.C (Kd.int .i64) w' (some ⟨g2, 0, none⟩) 64 (ints K) ∧ Fr [] w w'

theorem C_of_grow {w : World} {base g n cap : Nat} {l : List Nat} (h : GRow I64 w base (.slice (some ⟨g, 0, none⟩) n cap) l) (hl : l.length = n) : Kd.C (Kd.int .i64) w (some ⟨g, 0, none⟩) n (ints l) := by
  have hb := h.bound
  have hm : (ints l).length ≤ 9223372036854775807 := by rw [ints_len]; unfold maxLen at hb; omega
  have := C_of_cells (k := .i64) (w := w) (a := ⟨g, 0, none⟩) (xs := ints l) (fun j x hx => by
    have hj := (List.getElem?_eq_some_iff.1 hx).1
    rw [ints_len] at hj
    have hc := h.cell rfl j hj
    rw [Addr.add_lit, Nat.zero_add, hc]
    unfold ints at hx
    rw [List.getElem?_map, List.getElem?_eq_getElem hj] at hx
    injection hx with hx
    rw [← hx]; rfl) hm
  rwa [ints_len, hl] at this

theorem sq_at (i : Nat) (h : i < 8) : behindN (P64.getD i 0) false = some (H0.list.getD i 0) := by
  have := congrArg (fun l : List (Option Nat) => l[i]?) roots_sq
  simp only [List.getElem?_map] at this
  have hl : H0.list.length = 8 := rfl
  have hp : P64.length = 64 := rfl
  rw [List.getElem?_take, if_pos h, List.getElem?_eq_getElem (show i < H0.list.length by omega), List.getElem?_eq_getElem (show i < P64.length by omega)] at this
  rw [List.getD_eq_getElem?_getD, List.getElem?_eq_getElem (show i < P64.length by omega), List.getD_eq_getElem?_getD, List.getElem?_eq_getElem (show i < H0.list.length by omega)]
  injection this
theorem cu_at (i : Nat) (h : i < 64) : behindN (P64.getD i 0) true = some (K.getD i 0) := by
  have := congrArg (fun l : List (Option Nat) => l[i]?) roots_cube
  simp only [List.getElem?_map] at this
  have hl : K.length = 64 := K_len
  have hp : P64.length = 64 := rfl
  rw [List.getElem?_eq_getElem (show i < K.length by omega), List.getElem?_eq_getElem (show i < P64.length by omega)] at this
  rw [List.getD_eq_getElem?_getD, List.getElem?_eq_getElem (show i < P64.length by omega), List.getD_eq_getElem?_getD, List.getElem?_eq_getElem (show i < K.length by omega)]
  injection this

theorem take_snoc (l : List Nat) (i : Nat) (h : i < l.length) : l.take (i + 1) = l.take i ++ [l.getD i 0] := by
  rw [List.take_succ_eq_append_getElem h, List.getD_eq_getElem?_getD, List.getElem?_eq_getElem h]; rfl

theorem primes_any (w : World) : Calls Try.prog 55 #[.int .i64 64] w fun e w' => ∃ g c : Nat, e = .returned (.slice (some ⟨g, 0, none⟩) 64 c) ∧ (∀ j, j < 64 → w'.cell? ⟨g, j, none⟩ = some (.int .i64 ((P64.getD j 0 : Nat) : Int))) ∧ Fr [] w w' := by
  refine (Go.Proofs.Ythkaigokcognmaa.Pprimes.cloisterref04_primes.calls 20000 64 _ w primes_f).mono fun e w' ⟨v, he, hR, hB⟩ => ?_
  have hl : (P64.map fun n : Nat => (n : Int)).length = 64 := rfl
  obtain ⟨g', cap, rfl, _, _, _⟩ := Kd.R_form hR (by rw [hl]; omega)
  obtain ⟨A, c, e1, h2, h3⟩ := Kd.R_reads hR
  rw [hl] at h2 h3 e1 he
  cases e1
  refine ⟨g', _, he, fun j hj => ?_, Fr.ofBelow hB⟩
  have hp : P64.length = 64 := rfl
  have := C_cell h3 j ((P64.getD j 0 : Nat) : Int) (by rw [List.getElem?_map, List.getD_eq_getElem?_getD, List.getElem?_eq_getElem (by omega)]; rfl)
  rwa [Addr.add_lit, Nat.zero_add] at this

set_option maxRecDepth 10000 in
set_option maxHeartbeats 2000000 in
theorem roots_any (w : World) : Calls Try.prog 39 #[] w (RootsPost w) := by
  obtain ⟨i0, hi, hz0, hz1, hz2⟩ := info_parts info3
  have hl8 : H0.list.length = 8 := rfl
  have HL8 := Lib.hid hl8
  have HK := Lib.hid K_len
  clear hl8
  go_enter Try.func39, Try.ntmps39
  go_wp2_with fail
  refine (primes_any _).mono ?_
  rintro e w1 ⟨gp, cp, rfl, hP, F1⟩
  have HP := Lib.hid hP
  clear hP
  go_wp2_with fail
  go_loopw [3, 5] (fun s3 s5 W => ∃ i : Nat, s5 = .int .i64 (i : Int) ∧ i ≤ 8 ∧ GRow I64 W w1.heap.size s3 (H0.list.take i) ∧ Fr [] w1 W) (fun _ s _ => 8 - (intOf s).toNat)
  case atStart => exact ⟨0, rfl, by omega, GRow.nil_ _ _ _, Fr.refl _ _⟩
  case round =>
    obtain ⟨i, rfl, hi8, hrow, F2⟩ := hrel
    by_cases hlt : i < 8
    · have hc := F2.cell (by simp) (HP.out i (by omega))
      have hb := sq_at i hlt
      have hts := take_snoc H0.list i (by rw [HL8.out]; exact hlt)
      have htl : (H0.list.take i).length = i := by rw [List.length_take, HL8.out]; omega
      have HTS := Lib.hid hts
      have HTL := Lib.hid htl
      have HBH := Lib.hid hb
      clear hts htl hb
      generalize H0.list.getD i 0 = r at HTS HBH
      generalize P64.getD i 0 = q at hc HBH
      have i0' : (i : Int) < 64 := by omega
      have i1 : (0 : Int) ≤ (i : Int) := by omega
      have i2 : (i : Int) < 8 := by omega
      go_wp2_with fail
      refine (behind_any q false r HBH.out _).mono ?_
      rintro e w3 ⟨rfl, F3⟩
      have F4 := F2.trans F3 (by simp)
      have hrow3 := hrow.far F3
      go_wp2_with (first
        | (at_builtin; refine wpList_append_g (V := I64) rfl (.tmp 12) (.tmp 18) 43 rfl (fun _ => rfl) w1.heap.size 3 i0 _ 8 Try.underlying43 hi hz0 hz1 hz2 rfl rfl (hrow3.far ((Fr.refl [] w3).alloc _)) ⟨w3.heap.size, 0, none⟩ 1 1 [r] rfl rfl
            (World.news_of_block (cs := #[.int .i64 (r : Int)]) (t := 3) (fr := (0, 0)) (heap_alloc_new w3 _)) (by rw [HTL.out]; unfold maxLen; omega) (by rw [HTL.out]; omega) (Nat.le_trans F4.size (by simp)) ?_; intro v4 w4 hrow4 hgr4))
      rw [← HTS.out] at hrow4
      go_roundw
      case rel => exact ⟨i + 1, by go_num, by omega, hrow4, Fr.step_row (F4.alloc _) hgr4 (hrow3.far ((Fr.refl [] w3).alloc _)) (Nat.le_refl _)⟩
      case measure => simp [intOf]; omega
    · have hi2 : i = 8 := by omega
      subst hi2
      rw [List.take_of_length_le (by rw [HL8.out]; exact Nat.le_refl _)] at hrow
      obtain ⟨g1, c1, rfl, _⟩ := hrow.some_ HL8.out (by omega)
      have i0' : ¬ ((8 : Nat) : Int) < 8 := by omega
      have hc1 := hrow.cap_le rfl
      rw [HL8.out] at hc1
      have hC1 := C_of_grow hrow HL8.out
      clear hrow
      go_wp2_with fail
      have F5 := F1.trans F2 (by simp)
      generalize wr = w5 at *
      go_loopw [4, 6] (fun s4 s6 W => ∃ i : Nat, s6 = .int .i64 (i : Int) ∧ i ≤ 64 ∧ GRow I64 W w5.heap.size s4 (K.take i) ∧ Fr [] w5 W) (fun _ s _ => 64 - (intOf s).toNat)
      case atStart => exact ⟨0, rfl, by omega, GRow.nil_ _ _ _, Fr.refl _ _⟩
      case round =>
        obtain ⟨j, rfl, hj8, hrow, F6⟩ := hrel
        by_cases hlt : j < 64
        · have hc := (F2.trans F6 (by simp)).cell (by simp) (HP.out j (by omega))
          have hb := cu_at j hlt
          have hts := take_snoc K j (by rw [HK.out]; exact hlt)
          have htl : (K.take j).length = j := by rw [List.length_take, HK.out]; omega
          have HTS := Lib.hid hts
          have HTL := Lib.hid htl
          have HBH := Lib.hid hb
          clear hts htl hb
          generalize K.getD j 0 = r at HTS HBH
          generalize P64.getD j 0 = q at hc HBH
          have i0' : (j : Int) < 64 := by omega
          have i1 : (0 : Int) ≤ (j : Int) := by omega
          go_wp2_with fail
          refine (behind_any q true r HBH.out _).mono ?_
          rintro e w3 ⟨rfl, F3⟩
          have F4 := F6.trans F3 (by simp)
          have hrow3 := hrow.far F3
          go_wp2_with (first
            | (at_builtin; refine wpList_append_g (V := I64) rfl (.tmp 24) (.tmp 30) 43 rfl (fun _ => rfl) w5.heap.size 3 i0 _ 8 Try.underlying43 hi hz0 hz1 hz2 rfl rfl (hrow3.far ((Fr.refl [] w3).alloc _)) ⟨w3.heap.size, 0, none⟩ 1 1 [r] rfl rfl
                (World.news_of_block (cs := #[.int .i64 (r : Int)]) (t := 3) (fr := (0, 0)) (heap_alloc_new w3 _)) (by rw [HTL.out]; unfold maxLen; omega) (by rw [HTL.out]; omega) (Nat.le_trans F4.size (by simp)) ?_; intro v4 w4 hrow4 hgr4))
          rw [← HTS.out] at hrow4
          go_roundw
          case rel => exact ⟨j + 1, by go_num, by omega, hrow4, Fr.step_row (F4.alloc _) hgr4 (hrow3.far ((Fr.refl [] w3).alloc _)) (Nat.le_refl _)⟩
          case measure => simp [intOf]; omega
        · have hj2 : j = 64 := by omega
          subst hj2
          rw [List.take_of_length_le (by rw [HK.out]; exact Nat.le_refl _)] at hrow
          obtain ⟨g2, c2, rfl, _⟩ := hrow.some_ HK.out (by omega)
          have i0' : ¬ ((64 : Nat) : Int) < 64 := by omega
          have hc2 := hrow.cap_le rfl
          rw [HK.out] at hc2
          have hC2 := C_of_grow hrow HK.out
          have hfin : RootsPost w (.returned (.tuple #[.slice (some ⟨g1, 0, none⟩) 8 c1, .slice (some ⟨g2, 0, none⟩) 64 c2])) wr := ⟨g1, c1, g2, c2, rfl, hc1, hc2, C_fr hC1 F6, hC2, F5.trans F6 (by simp)⟩
          clear hrow
          go_wp2_with fail
          go_ret2
          exact hfin

theorem table_any (w : World) : Calls Try.prog 41 #[] w (RootsPost w) := by
  refine (Go.Proofs.Ythkaigokcognmaa.Ptable.cloisterref04_table.calls (ints H0.list) (ints K) w rfl).mono fun e w' ⟨v1, v2, he, hR1, hR2, hB⟩ => ?_
  have hl : (ints H0.list).length = 8 := rfl
  have hk : (ints K).length = 64 := rfl
  obtain ⟨g1, cap1, rfl, _, _, _⟩ := Kd.R_form hR1 (by rw [hl]; omega)
  obtain ⟨g2, cap2, rfl, _, _, _⟩ := Kd.R_form hR2 (by rw [hk]; omega)
  obtain ⟨A, c, e1, h2, h3⟩ := Kd.R_reads hR1
  obtain ⟨A', c', e1', h2', h3'⟩ := Kd.R_reads hR2
  rw [hl] at h2 h3 e1
  rw [hk] at h2' h3' e1'
  rw [hl, hk] at he
  cases e1
  cases e1'
  exact ⟨g1, _, g2, _, he, h2, h2', h3, h3', Fr.ofBelow hB⟩

def DigPost (s : ByteArray) (w : World) (e : Ending) (w' : World) : Prop := e = .returned (.string (strOf (digest (bytesOf s)))) ∧ Fr [] w w'

theorem rsum_any (s : ByteArray) (hn : s.size ≤ 140737488355200) (w : World) : Calls Try.prog 15 #[.string s] w (DigPost s w) := by
  go_enter Try.func15, Try.ntmps15
  go_wp2_with fail
  refine (table_any _).mono ?_
  rintro e w1 ⟨g1, c1, g2, c2, rfl, h1, h2, hS, hK, F1⟩
  go_wp2_with fail
  refine (digest_any H0 H0_ok s hn g1 c1 _ c2 _ hS h1 hK h2).mono ?_
  rintro e w2 ⟨rfl, F2⟩
  have hfin : DigPost s w (.returned (.string (strOf (outB (run ((padded (bytesOf s)).length / 64) (padded (bytesOf s)) H0).list)))) w2 := ⟨rfl, F1.trans F2 (by simp)⟩
  clear hS hK
  go_wp2_with fail
  go_ret
  exact hfin

theorem reckoned_any (s : ByteArray) (hn : s.size ≤ 140737488355200) (w : World) : Calls Try.prog 14 #[.string s] w (DigPost s w) := by
  go_enter Try.func14, Try.ntmps14
  go_wp2_with fail
  refine (roots_any _).mono ?_
  rintro e w1 ⟨g1, c1, g2, c2, rfl, h1, h2, hS, hK, F1⟩
  go_wp2_with fail
  refine (digest_any H0 H0_ok s hn g1 c1 _ c2 _ hS h1 hK h2).mono ?_
  rintro e w2 ⟨rfl, F2⟩
  have hfin : DigPost s w (.returned (.string (strOf (outB (run ((padded (bytesOf s)).length / 64) (padded (bytesOf s)) H0).list)))) w2 := ⟨rfl, F1.trans F2 (by simp)⟩
  clear hS hK
  go_wp2_with fail
  go_ret
  exact hfin
end Go.Proofs.Ythkaigokcognmaa.Sha
