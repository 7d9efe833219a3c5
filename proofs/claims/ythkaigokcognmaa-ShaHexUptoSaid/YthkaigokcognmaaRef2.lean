/- The reference's block, the rounds and the sums: over the printed function, numbers and lists alone. -/
import Derived.Test.YthkaigokcognmaaRef1
namespace Go.Proofs.Ythkaigokcognmaa.Sha
open Go.RowKit Go.Proofs.YthkaigokcognmaaW.PrintWords Go.Proofs.YthkaigokcognmaaW.PrintLast Go.Proofs.YthkaigokcognmaaW.PrintMore Go.Proofs.Ythkaigokcognmaa.Pblock

theorem not_sub (e : Nat) (he : e < 4294967296) : 4294967295 ^^^ e = 4294967295 - e := by
  apply Nat.eq_of_testBit_eq
  intro i
  have h1 := Nat.testBit_two_pow_sub_succ (n := 32) (x := e) he i
  have h2 := Nat.testBit_two_pow_sub_one 32 i
  rw [show (2 : Nat) ^ 32 - (e + 1) = 4294967295 - e by omega] at h1
  rw [show (2 : Nat) ^ 32 - 1 = 4294967295 from rfl] at h2
  rw [Nat.testBit_xor, h1, h2]
  by_cases hi : i < 32
  · simp [hi]
  · have : e.testBit i = false := Nat.testBit_lt_two_pow (Nat.lt_of_lt_of_le he (Nat.pow_le_pow_right (n := 2) (by omega) (show 32 ≤ i by omega)))
    simp [hi, this]

theorem bs1_i (x : Nat) (hx : x < 4294967296) : bits .xor .i64 (bits .xor .i64 ((rotr x 6 : Nat) : Int) ((rotr x 11 : Nat) : Int)) ((rotr x 25 : Nat) : Int) = ((bs1 x : Nat) : Int) := by
  have h1 := rotr_lt (k := 6) hx
  have h2 := rotr_lt (k := 11) hx
  have h3 := rotr_lt (k := 25) hx
  have h4 := xor_lt h1 h2
  rw [i64_nat_xor _ _ (Nat.lt_trans h1 (by decide)) (Nat.lt_trans h2 (by decide)), i64_nat_xor _ _ (Nat.lt_trans h4 (by decide)) (Nat.lt_trans h3 (by decide))]
  rfl
theorem bs0_i (x : Nat) (hx : x < 4294967296) : bits .xor .i64 (bits .xor .i64 ((rotr x 2 : Nat) : Int) ((rotr x 13 : Nat) : Int)) ((rotr x 22 : Nat) : Int) = ((bs0 x : Nat) : Int) := by
  have h1 := rotr_lt (k := 2) hx
  have h2 := rotr_lt (k := 13) hx
  have h3 := rotr_lt (k := 22) hx
  have h4 := xor_lt h1 h2
  rw [i64_nat_xor _ _ (Nat.lt_trans h1 (by decide)) (Nat.lt_trans h2 (by decide)), i64_nat_xor _ _ (Nat.lt_trans h4 (by decide)) (Nat.lt_trans h3 (by decide))]
  rfl
theorem up {x : Nat} (h : x < 4294967296) : x < 9223372036854775808 := by omega
theorem ch_i (e f g : Nat) (he : e < 4294967296) (hf : f < 4294967296) (hg : g < 4294967296) :
    bits .xor .i64 (bits .and .i64 (e : Int) (f : Int)) (bits .and .i64 (wrap64 (4294967295 - (e : Int))) (g : Int)) = ((ch e f g : Nat) : Int) := by
  have hn := not_sub e he
  have hs : (4294967295 - e : Nat) < 4294967296 := by omega
  have e1 : wrap64 (4294967295 - (e : Int)) = ((4294967295 - e : Nat) : Int) := by unfold wrap64; omega
  rw [e1, i64_nat_and _ _ (up he) (up hf), i64_nat_and _ _ (up hs) (up hg), i64_nat_xor _ _ (up (and_lt hf)) (up (and_lt hg)), ← hn]
  rfl
theorem maj_i (a b c : Nat) (ha : a < 4294967296) (hb : b < 4294967296) (hc : c < 4294967296) :
    bits .xor .i64 (bits .xor .i64 (bits .and .i64 (a : Int) (b : Int)) (bits .and .i64 (a : Int) (c : Int))) (bits .and .i64 (b : Int) (c : Int)) = ((maj a b c : Nat) : Int) := by
  rw [i64_nat_and _ _ (up ha) (up hb), i64_nat_and _ _ (up ha) (up hc), i64_nat_and _ _ (up hb) (up hc), i64_nat_xor _ _ (up (and_lt hb)) (up (and_lt hc)), i64_nat_xor _ _ (up (xor_lt (and_lt hb) (and_lt hc))) (up (and_lt hc))]
  rfl

theorem arithT (h b c k w : Nat) (hh : h < 4294967296) (hb : b < 4294967296) (hc : c < 4294967296) (hk : k < 4294967296) (hw : w < 4294967296) :
    wrap64 (wrap64 (wrap64 (wrap64 ((h : Int) + (b : Int)) + (c : Int)) + (k : Int)) + (w : Int)) = ((h + b + c + k + w : Nat) : Int) := by
  rw [w64 (x := (h : Int) + (b : Int)) (by omega) (by omega), w64 (x := (h : Int) + (b : Int) + (c : Int)) (by omega) (by omega), w64 (x := (h : Int) + (b : Int) + (c : Int) + (k : Int)) (by omega) (by omega), w64 (by omega) (by omega)]
  omega
theorem arithY (b m : Nat) (hb : b < 4294967296) (hm : m < 4294967296) : wrap64 ((b : Int) + (m : Int)) = ((b + m : Nat) : Int) := by
  rw [w64 (by omega) (by omega)]; omega
theorem arithS (x y : Nat) (hx : x < 42949672960) (hy : y < 42949672960) : Int.tmod (wrap64 ((x : Int) + (y : Int))) 4294967296 = (((x % 4294967296 + y % 4294967296) % 4294967296 : Nat) : Int) := by
  rw [w64 (by omega) (by omega), Int.tmod_eq_emod_of_nonneg (by omega)]; omega
theorem arithD (d x : Nat) (hd : d < 4294967296) (hx : x < 42949672960) : Int.tmod (wrap64 ((d : Int) + (x : Int))) 4294967296 = (((d + x % 4294967296) % 4294967296 : Nat) : Int) := by
  rw [w64 (by omega) (by omega), Int.tmod_eq_emod_of_nonneg (by omega)]; omega
theorem five {h b c k w : Nat} (hh : h < 4294967296) (hb : b < 4294967296) (hc : c < 4294967296) (hk : k < 4294967296) (hw : w < 4294967296) : h + b + c + k + w < 42949672960 := by omega
theorem two {b c : Nat} (hb : b < 4294967296) (hc : c < 4294967296) : b + c < 42949672960 := by omega

/-- The third loop, one round. -/
theorem round2 (x0 : List Int) (ks ws : List Nat) (hks : ∀ x ∈ ks, x < 4294967296) (hws : ∀ x ∈ ws, x < 4294967296) (hk : ks.length = 64) (hw : ws.length = 64) (s : St) (hs : s.ok) (m t : Nat) (ht : t < 64) :
    cloisterref04_block.l2 (m + 1) x0 (ints ks) (ints ws) (ints s.list) (t : Int) = cloisterref04_block.l2 m x0 (ints ks) (ints ws) (ints (round s (ks.getD t 0) (ws.getD t 0)).list) ((t + 1 : Nat) : Int) := by
  have hl : ((ints s.list).length : Int) = 8 := rfl
  have hlk : ((ints ks).length : Int) = 64 := by rw [ints_len, hk]; rfl
  have hlw : ((ints ws).length : Int) = 64 := by rw [ints_len, hw]; rfl
  have ei : wrap64 ((t : Int) + 1) = ((t + 1 : Nat) : Int) := by unfold wrap64; omega
  have r0 : rd (ints s.list) 0 = (s.a : Int) := rfl
  have r1 : rd (ints s.list) 1 = (s.b : Int) := rfl
  have r2 : rd (ints s.list) 2 = (s.c : Int) := rfl
  have r3 : rd (ints s.list) 3 = (s.d : Int) := rfl
  have r4 : rd (ints s.list) 4 = (s.e : Int) := rfl
  have r5 : rd (ints s.list) 5 = (s.f : Int) := rfl
  have r6 : rd (ints s.list) 6 = (s.g : Int) := rfl
  have r7 : rd (ints s.list) 7 = (s.h : Int) := rfl
  have q1 : (t : Int) < 64 := by omega
  have q2 : (0 : Int) ≤ (t : Int) := by omega
  have hgk := getD_lt hks (by omega) t
  have hgw := getD_lt hws (by omega) t
  obtain ⟨ha, hb, hc, hd, he, hf, hg, hh⟩ := hs
  rw [cloisterref04_block.l2]
  simp only [hl, hlk, hlw, ei, r0, r1, r2, r3, r4, r5, r6, r7, rd_ints, right6 _ he, right11 _ he, right25 _ he, right2 _ ha, right13 _ ha, right22 _ ha, Option.bind_some, bs1_i _ he, bs0_i _ ha, ch_i _ _ _ he hf hg, maj_i _ _ _ ha hb hc]
  rw [if_pos q1, if_pos (by decide), if_pos (by decide), if_pos (by decide), if_pos (by decide), if_pos (by decide), if_pos q2, if_pos q1, if_pos q1, if_pos (by decide), if_pos (by decide), if_pos (by decide)]
  rw [arithT _ _ _ _ _ hh (bs1_lt he) (ch_lt hf hg) hgk hgw, arithY _ _ (bs0_lt ha) (maj_lt hb hc), arithS _ _ (five hh (bs1_lt he) (ch_lt hf hg) hgk hgw) (two (bs0_lt ha) (maj_lt hb hc)), arithD _ _ hd (five hh (bs1_lt he) (ch_lt hf hg) hgk hgw)]
  rfl

theorem loop2 (x0 : List Int) (ks ws : List Nat) (hks : ∀ x ∈ ks, x < 4294967296) (hws : ∀ x ∈ ws, x < 4294967296) (hk : ks.length = 64) (hw : ws.length = 64) (s : St) (hs : s.ok) (K n : Nat) :
    ∀ i, i + n = 64 → cloisterref04_block.l2 (K + n + 1) x0 (ints ks) (ints ws) (ints (rounds ks ws i s).list) (i : Int) = cloisterref04_block.l3 K x0 (ints (rounds ks ws 64 s).list) [] 0 := by
  induction n with
  | zero =>
    intro i h
    obtain rfl : i = 64 := by omega
    rw [Nat.add_zero]
    generalize rounds ks ws 64 s = st
    rw [cloisterref04_block.l2, if_neg (by decide)]
  | succ n ih =>
    intro i h
    rw [show K + (n + 1) + 1 = (K + n + 1) + 1 by omega, round2 x0 ks ws hks hws hk hw _ (rounds_ok hs ks ws i) _ i (by omega)]
    exact ih (i + 1) (by omega)

/-- The last loop, one round. -/
theorem round3 (a b out : List Nat) (ha : ∀ x ∈ a, x < 4294967296) (hb : ∀ x ∈ b, x < 4294967296) (hla : a.length = 8) (hlb : b.length = 8) (m i : Nat) (hi : i < 8) (ho : out.length ≤ 8) :
    cloisterref04_block.l3 (m + 1) (ints a) (ints b) (ints out) (i : Int) = cloisterref04_block.l3 m (ints a) (ints b) (ints (out ++ [(a.getD i 0 + b.getD i 0) % 4294967296])) ((i + 1 : Nat) : Int) := by
  have l1 : ((ints a).length : Int) = 8 := by rw [ints_len, hla]; rfl
  have l2 : ((ints b).length : Int) = 8 := by rw [ints_len, hlb]; rfl
  have ei : wrap64 ((i : Int) + 1) = ((i + 1 : Nat) : Int) := by unfold wrap64; omega
  have q1 : (i : Int) < 8 := by omega
  have q2 : (0 : Int) ≤ (i : Int) := by omega
  have q3 : (ints out).length < 17592186044416 := by rw [ints_len]; omega
  have hga := getD_lt ha (by omega) i
  have hgb := getD_lt hb (by omega) i
  have e : Int.tmod (wrap64 (((a.getD i 0 : Nat) : Int) + ((b.getD i 0 : Nat) : Int))) 4294967296 = (((a.getD i 0 + b.getD i 0) % 4294967296 : Nat) : Int) := by
    generalize a.getD i 0 = x at hga ⊢
    generalize b.getD i 0 = y at hgb ⊢
    clear ei
    rw [w64 (by omega) (by omega), Int.tmod_eq_emod_of_nonneg (by omega)]; omega
  rw [cloisterref04_block.l3]
  simp only [l1, l2, ei, rd_ints]
  rw [if_pos q1, if_pos q2, if_pos q1, if_pos q1, if_pos q3, e, ints_snoc]

theorem add_list (s t : St) : (s.add t).list = [(s.list.getD 0 0 + t.list.getD 0 0) % 4294967296, (s.list.getD 1 0 + t.list.getD 1 0) % 4294967296, (s.list.getD 2 0 + t.list.getD 2 0) % 4294967296, (s.list.getD 3 0 + t.list.getD 3 0) % 4294967296,
    (s.list.getD 4 0 + t.list.getD 4 0) % 4294967296, (s.list.getD 5 0 + t.list.getD 5 0) % 4294967296, (s.list.getD 6 0 + t.list.getD 6 0) % 4294967296, (s.list.getD 7 0 + t.list.getD 7 0) % 4294967296] := rfl

theorem list_lt {s : St} (h : s.ok) : ∀ x ∈ s.list, x < 4294967296 := by
  obtain ⟨ha, hb, hc, hd, he, hf, hg, hh⟩ := h
  intro x hx
  simp only [St.list, List.mem_cons, List.not_mem_nil, or_false] at hx
  rcases hx with rfl | rfl | rfl | rfl | rfl | rfl | rfl | rfl <;> assumption

theorem loop3 (s t : St) (hs : s.ok) (ht : t.ok) (K : Nat) : cloisterref04_block.l3 (K + 9) (ints s.list) (ints t.list) [] 0 = some (ints (s.add t).list) := by
  have r := fun (out : List Nat) (ho : out.length ≤ 8) (m i : Nat) (hi : i < 8) => round3 s.list t.list out (list_lt hs) (list_lt ht) rfl rfl m i hi ho
  have h0 := r [] (by simp) (K + 8) 0 (by omega)
  rw [add_list]
  generalize s.list = a at r h0 ⊢
  generalize t.list = b at r h0 ⊢
  refine h0.trans ?_
  refine (r _ (by simp) (K + 7) 1 (by omega)).trans ?_
  refine (r _ (by simp) (K + 6) 2 (by omega)).trans ?_
  refine (r _ (by simp) (K + 5) 3 (by omega)).trans ?_
  refine (r _ (by simp) (K + 4) 4 (by omega)).trans ?_
  refine (r _ (by simp) (K + 3) 5 (by omega)).trans ?_
  refine (r _ (by simp) (K + 2) 6 (by omega)).trans ?_
  refine (r _ (by simp) (K + 1) 7 (by omega)).trans ?_
  rw [cloisterref04_block.l3, if_neg (by decide)]
  rfl

theorem K_lt : ∀ x ∈ K, x < 4294967296 := by decide

theorem block_f (st : St) (hst : st.ok) (s : List Nat) (hs : s.length = 64) (hb : ∀ x ∈ s, x < 256) : cloisterref04_block.f 140 (ints st.list) (ints s) (ints K) = some (ints (block st s).list) := by
  have h0 := loop0 (ints st.list) (ints K) s hs hb 123 16 0 (by omega)
  have h1 := loop1 (ints st.list) (ints K) (w16 s) (w16_lt hb) (w16_len s) 74 48 rfl 0 (by omega)
  have h2 := loop2 (ints st.list) K (sched s) K_lt (grow_lt (w16_lt hb) 48) K_len (sched_len s) st hst 9 64 0 (by omega)
  have h3 := loop3 st (rounds K (sched s) 64 st) hst (rounds_ok hst _ _ _) 0
  exact h0.trans (h1.trans (h2.trans h3))
end Go.Proofs.Ythkaigokcognmaa.Sha
