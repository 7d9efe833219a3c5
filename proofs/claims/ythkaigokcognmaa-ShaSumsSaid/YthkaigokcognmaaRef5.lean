/- The reference's comparison of a root with a prime: the walk. -/
import Derived.Test.YthkaigokcognmaaRef4
namespace Go.Proofs.Ythkaigokcognmaa.Sha
open Go.RowKit

theorem lowN_false {a : List Nat} {n : Nat} (h : a.getD n 0 ≠ 0) : ∀ S, n < S → lowN a S = false
  | 0, hs => by omega
  | S + 1, hs => by
    unfold lowN
    by_cases e : n = S
    · subst e
      have : (a.getD n 0 == 0) = false := by simpa using h
      rw [this, Bool.and_false]
    · rw [lowN_false h S (by omega), Bool.false_and]
theorem lowN_true {a : List Nat} {n : Nat} (h : a.getD n 0 = 0) (hl : lowN a n = true) : lowN a (n + 1) = true := by
  unfold lowN; rw [hl, h]; rfl
theorem high_lt {a : List Nat} (ha : ∀ y ∈ a, y < 1073741824) : ∀ n, n ≤ 2 → highN a n ≤ 70369817919488 := by
  intro n hn
  rcases (show n = 0 ∨ n = 1 ∨ n = 2 by omega) with rfl | rfl | rfl
  · simp [highN]
  · have h1 := get_lt ha (by omega) (a.length - 1 - 0)
    simp only [highN]
    omega
  · have h1 := get_lt ha (by omega) (a.length - 1 - 0)
    have h2 := get_lt ha (by omega) (a.length - 1 - 1)
    simp only [highN]
    omega

def BelowPost (p x f : Nat) (cube : Bool) (w : World) (e : Ending) (w' : World) : Prop := e = .returned (.bool (belowN p x f cube)) ∧ Fr [] w w'

theorem vN_len (x f : Nat) : (vN x f).length = 3 := rfl
theorem vN_lt {x f : Nat} (hx : x < 65536) (hf : f < 4294967296) : ∀ y ∈ vN x f, y < 65536 := by
  intro y hy
  simp only [vN, List.mem_cons, List.not_mem_nil, or_false] at hy
  rcases hy with rfl | rfl | rfl <;> omega
theorem vN_cells (x f : Nat) : #[Value.int .i64 ((f : Int) % 65536), .int .i64 ((f : Int) / 65536), .int .i64 (x : Int)] = wordsI (vN x f) := by
  have e1 : ((f % 65536 : Nat) : Int) = (f : Int) % 65536 := by omega
  have e2 : ((f / 65536 : Nat) : Int) = (f : Int) / 65536 := by omega
  simp only [wordsI, ints, vN, List.map_cons, List.map_nil, e1, e2]
theorem sq_lt {v : List Nat} (hv : ∀ y ∈ v, y < 65536) (hl : v.length = 3) : (∀ y ∈ timesN v v, y < 134217728) ∧ (timesN v v).length = 6 := by
  obtain ⟨h1, h2⟩ := outN_ok v v 65536 33624067 (by omega) (by omega) hv (by omega) hv v.length (by omega)
  rw [hl] at h1 h2
  exact ⟨fun y hy => by have := h1 y (by unfold timesN at hy; rwa [hl] at hy); omega, by unfold timesN; rw [hl]; exact h2⟩
theorem cube_lt {u v : List Nat} (hu : ∀ y ∈ u, y < 134217728) (hv : ∀ y ∈ v, y < 65536) (hlu : u.length = 6) (hl : v.length = 3) : (∀ y ∈ timesN u v, y < 1073741824) ∧ (timesN u v).length = 9 := by
  obtain ⟨h1, h2⟩ := outN_ok u v 134217728 168000000 (by omega) (by omega) hu (by omega) hv u.length (by omega)
  rw [hlu] at h1 h2
  exact ⟨fun y hy => by have := h1 y (by unfold timesN at hy; rwa [hlu] at hy); omega, by unfold timesN; rw [hlu, h2, hl]⟩

theorem sq_any (v : List Nat) (hv : ∀ y ∈ v, y < 65536) (hl : v.length = 3) (g : Nat) (w : World) (h : RowI w g v) :
    Calls Try.prog 89 #[.slice (some ⟨g, 0, none⟩) 3 3, .slice (some ⟨g, 0, none⟩) 3 3] w fun e w' => ∃ g' : Nat, e = .returned (.slice (some ⟨g', 0, none⟩) 6 6) ∧ Blk w' g' 3 (wordsI (timesN v v)) ∧ Fr [] w w' := by
  have := times_any v v 65536 33624067 (by omega) (by omega) (by omega) hv hv (by omega) (by omega) g 3 g 3 w h h
  unfold TimesPost at this
  rw [hl] at this
  exact this
theorem cu_any (u v : List Nat) (hu : ∀ y ∈ u, y < 134217728) (hv : ∀ y ∈ v, y < 65536) (hlu : u.length = 6) (hl : v.length = 3) (g0 g : Nat) (w : World) (h0 : RowI w g0 u) (h : RowI w g v) :
    Calls Try.prog 89 #[.slice (some ⟨g0, 0, none⟩) 6 6, .slice (some ⟨g, 0, none⟩) 3 3] w fun e w' => ∃ g' : Nat, e = .returned (.slice (some ⟨g', 0, none⟩) 9 9) ∧ Blk w' g' 3 (wordsI (timesN u v)) ∧ Fr [] w w' := by
  have := times_any u v 134217728 168000000 (by omega) (by omega) (by omega) hu hv (by omega) (by omega) g0 6 g 3 w h0 h
  unfold TimesPost at this
  rw [hlu, hl] at this
  exact this

set_option maxRecDepth 10000 in
set_option maxHeartbeats 2000000 in
theorem below_sq (p x f : Nat) (hx : x < 65536) (hf : f < 4294967296) (w : World) :
    Calls Try.prog 68 #[.int .i64 (p : Int), .int .i64 (x : Int), .int .i64 (f : Int), .bool false] w (BelowPost p x f false w) := by
  have hvc := vN_cells x f
  have hv := vN_lt hx hf
  have hadef : belowN p x f false = cmpN p (timesN (vN x f) (vN x f)) 4 := rfl
  have hvl := vN_len x f
  generalize vN x f = v at hvc hv hadef hvl
  obtain ⟨hs1, hs2⟩ := sq_lt hv hvl
  have had : ∀ y ∈ timesN v v, y < 1073741824 := fun y hy => Nat.lt_trans (hs1 y hy) (by decide)
  have HVC := Lib.hid hvc
  have HV := Lib.hid hv
  have HS := Lib.hid hs2
  have HD := Lib.hid had
  have HAD := Lib.hid hadef
  have HVL := Lib.hid hvl
  clear hvc hv hs1 hs2 had hadef hvl
  go_enter Try.func68, Try.ntmps68
  go_wp2_with fail
  have hB0 : Blk (w.alloc (.cells #[.int .i64 ((f : Int) % 65536), .int .i64 ((f : Int) / 65536), .int .i64 (x : Int)] 3)) w.heap.size 3 (wordsI v) := by
    rw [← HVC.out]; exact heap_alloc_new w _
  refine (sq_any v HV.out HVL.out _ _ (rowI_of hB0)).mono ?_
  rintro e w3 ⟨g, rfl, hB, F2⟩
  have F3 : Fr [] w w3 := ((Fr.refl [] w).alloc _).trans F2 (by simp)
  have hal := HS.out
  have had := HD.out
  have hadef := HAD.out
  clear HS HD HAD HVC HV hB0 F2 HVL
  generalize timesN v v = a at hB hal had hadef
  have HAL := Lib.hid hal
  have HCMP : Hid (belowN p x f false = cmpN p a 4) := Lib.hid hadef
  have hcmp : cmpN p a 4 = if highN a 2 = p then lowN a 4 else decide (highN a 2 < p) := by unfold cmpN; rw [hal]
  have HC2 := Lib.hid (HCMP.out.trans hcmp)
  have HBB : ∀ j, j < 6 → w3.cell? ⟨g, j, none⟩ = some (.int .i64 ((a.getD j 0 : Nat) : Int)) := fun j hj => rowI_of hB j (by rw [HAL.out]; exact hj)
  have HB := Lib.hid HBB
  have HAD := Lib.hid had
  clear hal hcmp hadef HCMP HBB hB had
  go_wp2_with fail
  go_loop [12, 13] (fun h i => ∃ n : Nat, n ≤ 2 ∧ h = .int .i64 ((highN a n : Nat) : Int) ∧ i = .int .i64 ((5 : Int) - (n : Int))) (fun _ i => (intOf i + 2).toNat)
  case atStart => exact ⟨0, by omega, rfl, by rfl⟩
  case round =>
    obtain ⟨n, hn, rfl, rfl⟩ := hrel
    by_cases hlt : n < 2
    · have hh := high_lt HAD.out n (by omega)
      have hc := HB.out (5 - n) (by omega)
      have hd := get_lt HAD.out (by omega) (5 - n)
      have hnx : highN a (n + 1) = highN a n * 65536 + a.getD (5 - n) 0 := by
        show highN a n * 65536 + a.getD (a.length - 1 - n) 0 = _
        rw [HAL.out]
      have HNX := Lib.hid hnx
      clear hnx
      generalize highN a n = h at hh HNX ⊢
      generalize a.getD (5 - n) 0 = d at hc hd HNX
      have j0 : (5 : Int) - (n : Int) ≥ 4 := by omega
      have j1 : (0 : Int) ≤ (5 : Int) - (n : Int) := by omega
      have j2 : (5 : Int) - (n : Int) < 6 := by omega
      have j3 : ((5 : Int) - (n : Int)).toNat = 5 - n := by omega
      go_wp2_with fail
      go_round
      case rel => exact ⟨n + 1, by omega, by rw [HNX.out]; go_num, by go_num⟩
      case measure => simp [intOf]; omega
    · have hnD : n = 2 := by omega
      subst hnD
      have j0 : ¬ (5 : Int) - ((2 : Nat) : Int) ≥ 4 := by omega
      by_cases he : highN a 2 = p
      · have hbl : belowN p x f false = lowN a 4 := by rw [HC2.out, if_pos he]
        have HBL := Lib.hid hbl
        rw [he]
        clear he hbl
        go_wp2_with fail
        go_loop [14] (fun i => ∃ n : Nat, n ≤ 4 ∧ i = .int .i64 (n : Int) ∧ lowN a n = true) (fun i => (20 - intOf i).toNat)
        case atStart => exact ⟨0, by omega, rfl, rfl⟩
        case round =>
          obtain ⟨m, hm, rfl, hlo⟩ := hrel
          have HLO := Lib.hid hlo
          clear hlo
          by_cases hlt2 : m < 4
          · have hc := HB.out m (by omega)
            have i0 : (m : Int) < 4 := by omega
            have i1 : (0 : Int) ≤ (m : Int) := by omega
            have i2 : (m : Int) < 6 := by omega
            by_cases hz : a.getD m 0 = 0
            · have hnx := lowN_true hz HLO.out
              have HNX := Lib.hid hnx
              rw [hz] at hc
              clear hnx hz
              go_wp2_with fail
              go_round
              case rel => exact ⟨m + 1, by omega, by go_num, HNX.out⟩
              case measure => simp [intOf]; omega
            · have hf0 := lowN_false hz 4 hlt2
              have hres : BelowPost p x f false w (.returned (.bool false)) w3 := ⟨by rw [HBL.out, hf0], F3⟩
              clear hf0
              generalize a.getD m 0 = d at hc hz
              have hd0 : ((d : Int) == 0) = false := by simp [hz]
              have hd1 : ((d : Int) != 0) = true := by simp [hz]
              clear hz
              go_wp2_with fail
              go_ret
              exact hres
          · have hmS : m = 4 := by omega
            subst hmS
            have hres : BelowPost p x f false w (.returned (.bool true)) w3 := ⟨by rw [HBL.out, HLO.out], F3⟩
            go_wp2_with fail
            go_ret
            exact hres
      · have hres : BelowPost p x f false w (.returned (.bool (decide (highN a 2 < p)))) w3 := ⟨by rw [HC2.out, if_neg he], F3⟩
        have hd0 : (((highN a 2 : Nat) : Int) == (p : Int)) = false := by simp; omega
        have hd1 : (((highN a 2 : Nat) : Int) != (p : Int)) = true := by simp; omega
        clear he
        generalize highN a 2 = h at hres hd0 hd1 ⊢
        by_cases hlt3 : h < p
        · rw [decide_eq_true hlt3] at hres
          have hlt4 : (h : Int) < (p : Int) := by omega
          go_wp2_with fail
          go_ret
          exact hres
        · rw [decide_eq_false hlt3] at hres
          have hlt4 : ¬ (h : Int) < (p : Int) := by omega
          go_wp2_with fail
          go_ret
          exact hres

set_option maxRecDepth 10000 in
set_option maxHeartbeats 2000000 in
theorem below_cu (p x f : Nat) (hx : x < 65536) (hf : f < 4294967296) (w : World) :
    Calls Try.prog 68 #[.int .i64 (p : Int), .int .i64 (x : Int), .int .i64 (f : Int), .bool true] w (BelowPost p x f true w) := by
  have hvc := vN_cells x f
  have hv := vN_lt hx hf
  have hadef : belowN p x f true = cmpN p (timesN (timesN (vN x f) (vN x f)) (vN x f)) 6 := rfl
  have hvl := vN_len x f
  generalize vN x f = v at hvc hv hadef hvl
  obtain ⟨hs1, hs2⟩ := sq_lt hv hvl
  obtain ⟨had, hs3⟩ := cube_lt hs1 hv hs2 hvl
  have HVC := Lib.hid hvc
  have HV := Lib.hid hv
  have HS1 := Lib.hid hs1
  have HS2 := Lib.hid hs2
  have HS := Lib.hid hs3
  have HD := Lib.hid had
  have HAD := Lib.hid hadef
  have HVL := Lib.hid hvl
  clear hvc hv hs1 hs2 hs3 had hadef hvl
  go_enter Try.func68, Try.ntmps68
  go_wp2_with fail
  have hB0 : Blk (w.alloc (.cells #[.int .i64 ((f : Int) % 65536), .int .i64 ((f : Int) / 65536), .int .i64 (x : Int)] 3)) w.heap.size 3 (wordsI v) := by
    rw [← HVC.out]; exact heap_alloc_new w _
  refine (sq_any v HV.out HVL.out _ _ (rowI_of hB0)).mono ?_
  rintro e w2 ⟨g2, rfl, hB2, F2⟩
  go_wp2_with fail
  refine (cu_any _ v HS1.out HV.out HS2.out HVL.out _ _ _ (rowI_of hB2) ((rowI_of hB0).fr F2)).mono ?_
  rintro e w3 ⟨g, rfl, hB, F4⟩
  have F3 : Fr [] w w3 := (((Fr.refl [] w).alloc _).trans F2 (by simp)).trans F4 (by simp)
  have hal := HS.out
  have had := HD.out
  have hadef := HAD.out
  clear HS HS1 HS2 HD HAD HVC HV hB0 F2 F4 HVL hB2
  generalize timesN (timesN v v) v = a at hB hal had hadef
  have HAL := Lib.hid hal
  have HCMP : Hid (belowN p x f true = cmpN p a 6) := Lib.hid hadef
  have hcmp : cmpN p a 6 = if highN a 3 = p then lowN a 6 else decide (highN a 3 < p) := by unfold cmpN; rw [hal]
  have HC2 := Lib.hid (HCMP.out.trans hcmp)
  have HBB : ∀ j, j < 9 → w3.cell? ⟨g, j, none⟩ = some (.int .i64 ((a.getD j 0 : Nat) : Int)) := fun j hj => rowI_of hB j (by rw [HAL.out]; exact hj)
  have HB := Lib.hid HBB
  have HAD := Lib.hid had
  clear hal hcmp hadef HCMP HBB hB had
  go_wp2_with fail
  go_loop [12, 13] (fun h i => ∃ n : Nat, n ≤ 3 ∧ h = .int .i64 ((highN a n : Nat) : Int) ∧ i = .int .i64 ((8 : Int) - (n : Int))) (fun _ i => (intOf i + 2).toNat)
  case atStart => exact ⟨0, by omega, rfl, by rfl⟩
  case round =>
    obtain ⟨n, hn, rfl, rfl⟩ := hrel
    by_cases hlt : n < 3
    · have hh := high_lt HAD.out n (by omega)
      have hc := HB.out (8 - n) (by omega)
      have hd := get_lt HAD.out (by omega) (8 - n)
      have hnx : highN a (n + 1) = highN a n * 65536 + a.getD (8 - n) 0 := by
        show highN a n * 65536 + a.getD (a.length - 1 - n) 0 = _
        rw [HAL.out]
      have HNX := Lib.hid hnx
      clear hnx
      generalize highN a n = h at hh HNX ⊢
      generalize a.getD (8 - n) 0 = d at hc hd HNX
      have j0 : (8 : Int) - (n : Int) ≥ 6 := by omega
      have j1 : (0 : Int) ≤ (8 : Int) - (n : Int) := by omega
      have j2 : (8 : Int) - (n : Int) < 9 := by omega
      have j3 : ((8 : Int) - (n : Int)).toNat = 8 - n := by omega
      go_wp2_with fail
      go_round
      case rel => exact ⟨n + 1, by omega, by rw [HNX.out]; go_num, by go_num⟩
      case measure => simp [intOf]; omega
    · have hnD : n = 3 := by omega
      subst hnD
      have j0 : ¬ (8 : Int) - ((3 : Nat) : Int) ≥ 6 := by omega
      by_cases he : highN a 3 = p
      · have hbl : belowN p x f true = lowN a 6 := by rw [HC2.out, if_pos he]
        have HBL := Lib.hid hbl
        rw [he]
        clear he hbl
        go_wp2_with fail
        go_loop [14] (fun i => ∃ n : Nat, n ≤ 6 ∧ i = .int .i64 (n : Int) ∧ lowN a n = true) (fun i => (20 - intOf i).toNat)
        case atStart => exact ⟨0, by omega, rfl, rfl⟩
        case round =>
          obtain ⟨m, hm, rfl, hlo⟩ := hrel
          have HLO := Lib.hid hlo
          clear hlo
          by_cases hlt2 : m < 6
          · have hc := HB.out m (by omega)
            have i0 : (m : Int) < 6 := by omega
            have i1 : (0 : Int) ≤ (m : Int) := by omega
            have i2 : (m : Int) < 9 := by omega
            by_cases hz : a.getD m 0 = 0
            · have hnx := lowN_true hz HLO.out
              have HNX := Lib.hid hnx
              rw [hz] at hc
              clear hnx hz
              go_wp2_with fail
              go_round
              case rel => exact ⟨m + 1, by omega, by go_num, HNX.out⟩
              case measure => simp [intOf]; omega
            · have hf0 := lowN_false hz 6 hlt2
              have hres : BelowPost p x f true w (.returned (.bool false)) w3 := ⟨by rw [HBL.out, hf0], F3⟩
              clear hf0
              generalize a.getD m 0 = d at hc hz
              have hd0 : ((d : Int) == 0) = false := by simp [hz]
              have hd1 : ((d : Int) != 0) = true := by simp [hz]
              clear hz
              go_wp2_with fail
              go_ret
              exact hres
          · have hmS : m = 6 := by omega
            subst hmS
            have hres : BelowPost p x f true w (.returned (.bool true)) w3 := ⟨by rw [HBL.out, HLO.out], F3⟩
            go_wp2_with fail
            go_ret
            exact hres
      · have hres : BelowPost p x f true w (.returned (.bool (decide (highN a 3 < p)))) w3 := ⟨by rw [HC2.out, if_neg he], F3⟩
        have hd0 : (((highN a 3 : Nat) : Int) == (p : Int)) = false := by simp; omega
        have hd1 : (((highN a 3 : Nat) : Int) != (p : Int)) = true := by simp; omega
        clear he
        generalize highN a 3 = h at hres hd0 hd1 ⊢
        by_cases hlt3 : h < p
        · rw [decide_eq_true hlt3] at hres
          have hlt4 : (h : Int) < (p : Int) := by omega
          go_wp2_with fail
          go_ret
          exact hres
        · rw [decide_eq_false hlt3] at hres
          have hlt4 : ¬ (h : Int) < (p : Int) := by omega
          go_wp2_with fail
          go_ret
          exact hres
end Go.Proofs.Ythkaigokcognmaa.Sha
