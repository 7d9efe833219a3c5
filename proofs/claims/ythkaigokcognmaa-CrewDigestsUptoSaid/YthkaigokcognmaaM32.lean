/- A part of the proof of CrewDigestsUpto (no statement of its own): Ref2, Row, Row2. -/
import Derived.Test.YthkaigokcognmaaM31
import Derived.Deep.MidRow
import Derived.OwnWalk
import Derived.Laws.AppendOwn
import Derived.Laws.IdiomStrings
import Derived.Laws.BytesArg
import Derived.Deep.AppendLies
section
namespace Go.Proofs.Ythkaigokcognmaa.Sha
open Go.RowKit Go.Proofs.YthkaigokcognmaaW.PrintWords Go.Proofs.YthkaigokcognmaaW.PrintLast Go.Proofs.YthkaigokcognmaaW.PrintMore Go.Proofs.Ythkaigokcognmaa.Pblock
theorem not_sub (e : Nat) (he : e < 4294967296) : 4294967295 ^^^ e = 4294967295 - e := by
 apply Nat.eq_of_testBit_eq
 intro i
 have h1 := Nat.testBit_two_pow_sub_succ (n := 32) (x := e) he i
 have h2 := Nat.testBit_two_pow_sub_one 32 i
 rw [show (2 : Nat) ^ 32 - (e + 1) = 4294967295 - e by omega] at h1
 rw [show (2 : Nat) ^ 32 - 1 = 4294967295 from rfl] at h2
 rw [Nat.testBit_xor, h1, h2]
 by_cases hi : i < 32
 ·simp [hi]
 ·have : e.testBit i = false := Nat.testBit_lt_two_pow (Nat.lt_of_lt_of_le he (Nat.pow_le_pow_right (n := 2) (by omega) (show 32 ≤ i by omega)))
  simp [hi, this]
theorem bs1_i (x : Nat) (hx : x < 4294967296) : bits .xor .i64 (bits .xor .i64 ((rotr x 6 : Nat) : Int) ((rotr x 11 : Nat) : Int)) ((rotr x 25 : Nat) : Int) = ((bs1 x : Nat) : Int) := by
 have h1 := rotr_lt (k := 6) hx
 have h2 := rotr_lt (k := 11) hx
 have h3 := rotr_lt (k := 25) hx
 have h4 := xor_lt h1 h2
 rw [i64_nat_xor _ _ (Nat.lt_trans h1 (by decide)) (Nat.lt_trans h2 (by decide)), i64_nat_xor _ _ (Nat.lt_trans h4 (by decide)) (Nat.lt_trans h3 (by decide))]
 rfl
theorem bs0_i (x : Nat) (hx : x < 4294967296) : bits .xor .i64 (bits .xor .i64 ((rotr x 2 : Nat) : Int) ((rotr x 13 : Nat) : Int)) ((rotr x 22 : Nat) : Int) = ((bs0 x : Nat) : Int) := by
 have h1 := rotr_lt (k := 2) hx
 have h2 := rotr_lt (k := 13) hx
 have h3 := rotr_lt (k := 22) hx
 have h4 := xor_lt h1 h2
 rw [i64_nat_xor _ _ (Nat.lt_trans h1 (by decide)) (Nat.lt_trans h2 (by decide)), i64_nat_xor _ _ (Nat.lt_trans h4 (by decide)) (Nat.lt_trans h3 (by decide))]
 rfl
theorem up {x : Nat} (h : x < 4294967296) : x < 9223372036854775808 := by omega
theorem ch_i (e f g : Nat) (he : e < 4294967296) (hf : f < 4294967296) (hg : g < 4294967296) :
  bits .xor .i64 (bits .and .i64 (e : Int) (f : Int)) (bits .and .i64 (wrap64 (4294967295 - (e : Int))) (g : Int)) = ((ch e f g : Nat) : Int) := by
 have hn := not_sub e he
 have hs : (4294967295 - e : Nat) < 4294967296 := by omega
 have e1 : wrap64 (4294967295 - (e : Int)) = ((4294967295 - e : Nat) : Int) := by unfold wrap64; omega
 rw [e1, i64_nat_and _ _ (up he) (up hf), i64_nat_and _ _ (up hs) (up hg), i64_nat_xor _ _ (up (and_lt hf)) (up (and_lt hg)), ← hn]
 rfl
theorem maj_i (a b c : Nat) (ha : a < 4294967296) (hb : b < 4294967296) (hc : c < 4294967296) :
  bits .xor .i64 (bits .xor .i64 (bits .and .i64 (a : Int) (b : Int)) (bits .and .i64 (a : Int) (c : Int))) (bits .and .i64 (b : Int) (c : Int)) = ((maj a b c : Nat) : Int) := by
 rw [i64_nat_and _ _ (up ha) (up hb), i64_nat_and _ _ (up ha) (up hc), i64_nat_and _ _ (up hb) (up hc), i64_nat_xor _ _ (up (and_lt hb)) (up (and_lt hc)), i64_nat_xor _ _ (up (xor_lt (and_lt hb) (and_lt hc))) (up (and_lt hc))]
 rfl
theorem arithT (h b c k w : Nat) (hh : h < 4294967296) (hb : b < 4294967296) (hc : c < 4294967296) (hk : k < 4294967296) (hw : w < 4294967296) :
  wrap64 (wrap64 (wrap64 (wrap64 ((h : Int) + (b : Int)) + (c : Int)) + (k : Int)) + (w : Int)) = ((h + b + c + k + w : Nat) : Int) := by
 rw [w64 (x := (h : Int) + (b : Int)) (by omega) (by omega), w64 (x := (h : Int) + (b : Int) + (c : Int)) (by omega) (by omega), w64 (x := (h : Int) + (b : Int) + (c : Int) + (k : Int)) (by omega) (by omega), w64 (by omega) (by omega)]
 omega
theorem arithY (b m : Nat) (hb : b < 4294967296) (hm : m < 4294967296) : wrap64 ((b : Int) + (m : Int)) = ((b + m : Nat) : Int) := by
 rw [w64 (by omega) (by omega)]; omega
theorem arithS (x y : Nat) (hx : x < 42949672960) (hy : y < 42949672960) : Int.tmod (wrap64 ((x : Int) + (y : Int))) 4294967296 = (((x % 4294967296 + y % 4294967296) % 4294967296 : Nat) : Int) := by
 rw [w64 (by omega) (by omega), Int.tmod_eq_emod_of_nonneg (by omega)]; omega
theorem arithD (d x : Nat) (hd : d < 4294967296) (hx : x < 42949672960) : Int.tmod (wrap64 ((d : Int) + (x : Int))) 4294967296 = (((d + x % 4294967296) % 4294967296 : Nat) : Int) := by
 rw [w64 (by omega) (by omega), Int.tmod_eq_emod_of_nonneg (by omega)]; omega
theorem five {h b c k w : Nat} (hh : h < 4294967296) (hb : b < 4294967296) (hc : c < 4294967296) (hk : k < 4294967296) (hw : w < 4294967296) : h + b + c + k + w < 42949672960 := by omega
theorem two {b c : Nat} (hb : b < 4294967296) (hc : c < 4294967296) : b + c < 42949672960 := by omega
theorem round2 (x0 : List Int) (ks ws : List Nat) (hks : ∀ x ∈ ks, x < 4294967296) (hws : ∀ x ∈ ws, x < 4294967296) (hk : ks.length = 64) (hw : ws.length = 64) (s : St) (hs : s.ok) (m t : Nat) (ht : t < 64) :
  cloisterref04_block.l2 (m + 1) x0 (ints ks) (ints ws) (ints s.list) (t : Int) = cloisterref04_block.l2 m x0 (ints ks) (ints ws) (ints (round s (ks.getD t 0) (ws.getD t 0)).list) ((t + 1 : Nat) : Int) := by
 have hl : ((ints s.list).length : Int) = 8 := rfl
 have hlk : ((ints ks).length : Int) = 64 := by rw [ints_len, hk]; rfl
 have hlw : ((ints ws).length : Int) = 64 := by rw [ints_len, hw]; rfl
 have ei : wrap64 ((t : Int) + 1) = ((t + 1 : Nat) : Int) := by unfold wrap64; omega
 have r0 : rd (ints s.list) 0 = (s.a : Int) := rfl
 have r1 : rd (ints s.list) 1 = (s.b : Int) := rfl
 have r2 : rd (ints s.list) 2 = (s.c : Int) := rfl
 have r3 : rd (ints s.list) 3 = (s.d : Int) := rfl
 have r4 : rd (ints s.list) 4 = (s.e : Int) := rfl
 have r5 : rd (ints s.list) 5 = (s.f : Int) := rfl
 have r6 : rd (ints s.list) 6 = (s.g : Int) := rfl
 have r7 : rd (ints s.list) 7 = (s.h : Int) := rfl
 have q1 : (t : Int) < 64 := by omega
 have q2 : (0 : Int) ≤ (t : Int) := by omega
 have hgk := getD_lt hks (by omega) t
 have hgw := getD_lt hws (by omega) t
 obtain ⟨ha, hb, hc, hd, he, hf, hg, hh⟩ := hs
 rw [cloisterref04_block.l2]
 simp only [hl, hlk, hlw, ei, r0, r1, r2, r3, r4, r5, r6, r7, rd_ints, right6 _ he, right11 _ he, right25 _ he, right2 _ ha, right13 _ ha, right22 _ ha, Option.bind_some, bs1_i _ he, bs0_i _ ha, ch_i _ _ _ he hf hg, maj_i _ _ _ ha hb hc]
 rw [if_pos q1, if_pos (by decide), if_pos (by decide), if_pos (by decide), if_pos (by decide), if_pos (by decide), if_pos q2, if_pos q1, if_pos q1, if_pos (by decide), if_pos (by decide), if_pos (by decide)]
 rw [arithT _ _ _ _ _ hh (bs1_lt he) (ch_lt hf hg) hgk hgw, arithY _ _ (bs0_lt ha) (maj_lt hb hc), arithS _ _ (five hh (bs1_lt he) (ch_lt hf hg) hgk hgw) (two (bs0_lt ha) (maj_lt hb hc)), arithD _ _ hd (five hh (bs1_lt he) (ch_lt hf hg) hgk hgw)]
 rfl
theorem loop2 (x0 : List Int) (ks ws : List Nat) (hks : ∀ x ∈ ks, x < 4294967296) (hws : ∀ x ∈ ws, x < 4294967296) (hk : ks.length = 64) (hw : ws.length = 64) (s : St) (hs : s.ok) (K n : Nat) :
  ∀ i, i + n = 64 → cloisterref04_block.l2 (K + n + 1) x0 (ints ks) (ints ws) (ints (rounds ks ws i s).list) (i : Int) = cloisterref04_block.l3 K x0 (ints (rounds ks ws 64 s).list) [] 0 := by
 induction n with
 | zero =>
  intro i h
  obtain rfl : i = 64 := by omega
  rw [Nat.add_zero]
  generalize rounds ks ws 64 s = st
  rw [cloisterref04_block.l2, if_neg (by decide)]
 | succ n ih =>
  intro i h
  rw [show K + (n + 1) + 1 = (K + n + 1) + 1 by omega, round2 x0 ks ws hks hws hk hw _ (rounds_ok hs ks ws i) _ i (by omega)]
  exact ih (i + 1) (by omega)
theorem round3 (a b out : List Nat) (ha : ∀ x ∈ a, x < 4294967296) (hb : ∀ x ∈ b, x < 4294967296) (hla : a.length = 8) (hlb : b.length = 8) (m i : Nat) (hi : i < 8) (ho : out.length ≤ 8) :
  cloisterref04_block.l3 (m + 1) (ints a) (ints b) (ints out) (i : Int) = cloisterref04_block.l3 m (ints a) (ints b) (ints (out ++ [(a.getD i 0 + b.getD i 0) % 4294967296])) ((i + 1 : Nat) : Int) := by
 have l1 : ((ints a).length : Int) = 8 := by rw [ints_len, hla]; rfl
 have l2 : ((ints b).length : Int) = 8 := by rw [ints_len, hlb]; rfl
 have ei : wrap64 ((i : Int) + 1) = ((i + 1 : Nat) : Int) := by unfold wrap64; omega
 have q1 : (i : Int) < 8 := by omega
 have q2 : (0 : Int) ≤ (i : Int) := by omega
 have q3 : (ints out).length < 17592186044416 := by rw [ints_len]; omega
 have hga := getD_lt ha (by omega) i
 have hgb := getD_lt hb (by omega) i
 have e : Int.tmod (wrap64 (((a.getD i 0 : Nat) : Int) + ((b.getD i 0 : Nat) : Int))) 4294967296 = (((a.getD i 0 + b.getD i 0) % 4294967296 : Nat) : Int) := by
  generalize a.getD i 0 = x at hga ⊢
  generalize b.getD i 0 = y at hgb ⊢
  clear ei
  rw [w64 (by omega) (by omega), Int.tmod_eq_emod_of_nonneg (by omega)]; omega
 rw [cloisterref04_block.l3]
 simp only [l1, l2, ei, rd_ints]
 rw [if_pos q1, if_pos q2, if_pos q1, if_pos q1, if_pos q3, e, ints_snoc]
theorem add_list (s t : St) : (s.add t).list = [(s.list.getD 0 0 + t.list.getD 0 0) % 4294967296, (s.list.getD 1 0 + t.list.getD 1 0) % 4294967296, (s.list.getD 2 0 + t.list.getD 2 0) % 4294967296, (s.list.getD 3 0 + t.list.getD 3 0) % 4294967296,
  (s.list.getD 4 0 + t.list.getD 4 0) % 4294967296, (s.list.getD 5 0 + t.list.getD 5 0) % 4294967296, (s.list.getD 6 0 + t.list.getD 6 0) % 4294967296, (s.list.getD 7 0 + t.list.getD 7 0) % 4294967296] := rfl
theorem list_lt {s : St} (h : s.ok) : ∀ x ∈ s.list, x < 4294967296 := by
 obtain ⟨ha, hb, hc, hd, he, hf, hg, hh⟩ := h
 intro x hx
 simp only [St.list, List.mem_cons, List.not_mem_nil, or_false] at hx
 rcases hx with rfl | rfl | rfl | rfl | rfl | rfl | rfl | rfl <;> assumption
theorem loop3 (s t : St) (hs : s.ok) (ht : t.ok) (K : Nat) : cloisterref04_block.l3 (K + 9) (ints s.list) (ints t.list) [] 0 = some (ints (s.add t).list) := by
 have r := fun (out : List Nat) (ho : out.length ≤ 8) (m i : Nat) (hi : i < 8) => round3 s.list t.list out (list_lt hs) (list_lt ht) rfl rfl m i hi ho
 have h0 := r [] (by simp) (K + 8) 0 (by omega)
 rw [add_list]
 generalize s.list = a at r h0 ⊢
 generalize t.list = b at r h0 ⊢
 refine h0.trans ?_
 refine (r _ (by simp) (K + 7) 1 (by omega)).trans ?_
 refine (r _ (by simp) (K + 6) 2 (by omega)).trans ?_
 refine (r _ (by simp) (K + 5) 3 (by omega)).trans ?_
 refine (r _ (by simp) (K + 4) 4 (by omega)).trans ?_
 refine (r _ (by simp) (K + 3) 5 (by omega)).trans ?_
 refine (r _ (by simp) (K + 2) 6 (by omega)).trans ?_
 refine (r _ (by simp) (K + 1) 7 (by omega)).trans ?_
 rw [cloisterref04_block.l3, if_neg (by decide)]
 rfl
theorem K_lt : ∀ x ∈ K, x < 4294967296 := by decide
theorem block_f (st : St) (hst : st.ok) (s : List Nat) (hs : s.length = 64) (hb : ∀ x ∈ s, x < 256) : cloisterref04_block.f 140 (ints st.list) (ints s) (ints K) = some (ints (block st s).list) := by
 have h0 := loop0 (ints st.list) (ints K) s hs hb 123 16 0 (by omega)
 have h1 := loop1 (ints st.list) (ints K) (w16 s) (w16_lt hb) (w16_len s) 74 48 rfl 0 (by omega)
 have h2 := loop2 (ints st.list) K (sched s) K_lt (grow_lt (w16_lt hb) 48) K_len (sched_len s) st hst 9 64 0 (by omega)
 have h3 := loop3 st (rounds K (sched s) 64 st) hst (rounds_ok hst _ _ _) 0
 exact h0.trans (h1.trans (h2.trans h3))
end Go.Proofs.Ythkaigokcognmaa.Sha
end
section
namespace Go.Proofs.Ythkaigokcognmaa
open Go.RowKit
theorem Fr.setCells {S : List Nat} {a : World} {b : Nat} (hb : b ∈ S ∨ a.heap.size ≤ b) : ∀ (vs : List Value) (o : Nat) {w : World}, Fr S a w → Fr S a (w.setCells b o vs)
 | [], _, _, h => h
 | v :: r, o, _, h => Fr.setCells hb r (o + 1) (h.setCell (p := ⟨b, o, none⟩) hb v)
theorem Fr.cell {S : List Nat} {w w' : World} (F : Fr S w w') {a : Addr} {v : Value} (ha : a.block ∉ S) (h : w.cell? a = some v) : w'.cell? a = some v := by
 rw [World.cell?_of_block (F.block a.block (World.block_lt_of_cell? w _ h) ha)]; exact h
theorem rangeAt_fr {S : List Nat} {w w' : World} {b o : Nat} {cs : List Value} (h : w.rangeAt b o cs) (F : Fr S w w') (hb : b ∉ S) : w'.rangeAt b o cs := fun j v hv => F.cell hb (h j v hv)
theorem there_fr {S : List Nat} {w w' : World} {b o n : Nat} (h : w.there b o n) (F : Fr S w w') (hb : b ∉ S) : w'.there b o n := fun j hj => by
 obtain ⟨h1, h2⟩ := h j hj
 obtain ⟨v, hv⟩ := Option.isSome_iff_exists.1 h1
 have hblk := F.block b (World.block_lt_of_cell? w _ hv) hb
 refine ⟨by rw [World.cell?_of_block hblk]; exact h1, ?_⟩
 rw [World.frozen?_of_block hblk]; exact h2
variable {α : Type} {V : α → Value} {w w' : World} {base : Nat} {v : Value} {xs : List α}
def GRow (V : α → Value) (w : World) (base : Nat) (v : Value) (xs : List α) : Prop :=
 (v = .slice none 0 0 ∧ xs = []) ∨
 ∃ g cap, v = .slice (some ⟨g, 0, none⟩) xs.length cap ∧ base ≤ g ∧ xs.length ≤ cap ∧ cap ≤ maxLen ∧ g < w.heap.size ∧ w.there g 0 cap ∧ w.rangeAt g 0 (xs.map V)
theorem GRow.nil_ (V : α → Value) (w : World) (base : Nat) : GRow V w base (.slice none 0 0) [] := .inl ⟨rfl, rfl⟩
theorem GRow.fr {S : List Nat} (h : GRow V w base v xs) (F : Fr S w w') (hs : ∀ k, v.ownBlock = some k → k ∉ S) : GRow V w' base v xs := by
 rcases h with h | ⟨g, cap, rfl, h1, h2, h3, h4, h5, h6⟩
 ·exact .inl h
 ·have hg := hs g rfl
  exact .inr ⟨g, cap, rfl, h1, h2, h3, Nat.lt_of_lt_of_le h4 F.size, there_fr h5 F hg, rangeAt_fr h6 F hg⟩
theorem GRow.lt (h : GRow V w base v xs) : ∀ k, v.ownBlock = some k → base ≤ k ∧ k < w.heap.size := by
 rcases h with ⟨rfl, _⟩ | ⟨g, cap, rfl, h1, _, _, h4, _⟩
 ·intro k hk; cases hk
 ·intro k hk; injection hk with hk; subst hk; exact ⟨h1, h4⟩
theorem GRow.far (h : GRow V w base v xs) (F : Fr [] w w') : GRow V w' base v xs := h.fr F (by simp)
theorem run_append_g {P : Program} (hV : ∀ x, (V x).oneCell' = true) (base : Nat) (t ty e : TypeId) (i : TypeInfo) (z : Value) (bytes : Nat) (ht : P.underlying t = some (.slice e)) (hi : P.info? e = some i) (hz : i.zero = some z)
  (hsize : i.size = 1) (hby : i.bytes = bytes) (hzs : z.cells.size = 1)
  (hown : GRow V w base v xs) (a : Addr) (m c : Nat) (ys : List α) (hl : ys.length = m) (hnews : ∀ j u, (ys.map V)[j]? = some u → w.cell? (a.add j) = some u)
  (h63 : xs.length + m ≤ maxLen) (hbytes : (xs.length + m) * bytes ≤ 140737488355328) (hbase : base ≤ w.heap.size) :
  ∃ v' w', (Builtin.append_ #[t, t] ty #[v, .slice (some a) m c]).run P w = .ok v' w' ∧ GRow V w' base v' (xs ++ ys) ∧ w.grownBy w' v.ownBlock := by
 subst hby
 have hsmall : xs.length + m ≤ 9223372036854775807 := by simp only [maxLen] at h63; omega
 have grown : ∀ (old : Nat), old < xs.length + m → ∀ (row : Option Nat),
   GRow V (w.drew.alloc (.cells ((xs.map V).toArray ++ (ys.map V).toArray ++ Builtin.zeroCells z.cells (grownCap w (xs.length + m) old e - (xs.length + m))) e)) base
    (.slice (some ⟨w.heap.size, 0, none⟩) (xs ++ ys).length (grownCap w (xs.length + m) old e)) (xs ++ ys) ∧
   w.grownBy (w.drew.alloc (.cells ((xs.map V).toArray ++ (ys.map V).toArray ++ Builtin.zeroCells z.cells (grownCap w (xs.length + m) old e - (xs.length + m))) e)) row := by
  intro old ho row
  have hge := grownCap_ge w (xs.length + m) old e
  have hcm : grownCap w (xs.length + m) old e ≤ maxLen := grownCap_le_maxLen w (xs.length + m) old e h63
  have hB := Blk.new w.drew e ((xs.map V).toArray ++ (ys.map V).toArray ++ Builtin.zeroCells z.cells (grownCap w (xs.length + m) old e - (xs.length + m)))
  have hsz : ((xs.map V).toArray ++ (ys.map V).toArray ++ Builtin.zeroCells z.cells (grownCap w (xs.length + m) old e - (xs.length + m))).size = grownCap w (xs.length + m) old e := by
   simp only [Array.size_append, List.size_toArray, size_zeroCells, hzs, List.length_map, hl]; omega
  refine ⟨.inr ⟨w.heap.size, _, rfl, hbase, by rw [List.length_append, hl]; exact hge, hcm, by simp, fun j hj => ⟨?_, hB.frozen _⟩, fun j u hu => ?_⟩, ⟨rfl, rfl, rfl, by simp, fun k hk _ => Below.heap_alloc w.drew _ k hk⟩⟩
  ·have : (w.drew.alloc (.cells ((xs.map V).toArray ++ (ys.map V).toArray ++ Builtin.zeroCells z.cells (grownCap w (xs.length + m) old e - (xs.length + m))) e)).cell? ⟨w.heap.size, 0 + j, none⟩ = _ := hB.cell (0 + j)
   rw [this, Nat.zero_add, Array.getElem?_eq_getElem (by omega)]; rfl
  ·have : (w.drew.alloc (.cells ((xs.map V).toArray ++ (ys.map V).toArray ++ Builtin.zeroCells z.cells (grownCap w (xs.length + m) old e - (xs.length + m))) e)).cell? ⟨w.heap.size, 0 + j, none⟩ = _ := hB.cell (0 + j)
   rw [this, Nat.zero_add]
   rw [List.map_append] at hu
   have hj := (List.getElem?_eq_some_iff.1 hu).1
   rw [Array.getElem?_append_left (by simpa using hj)]
   simpa using hu
 rcases hown with ⟨rfl, rfl⟩ | ⟨g, cap, rfl, hbg, hnc, hcm, hgl, hth, hr⟩
 ·by_cases hm : m = 0
  ·subst hm
   have hn : ys = [] := List.eq_nil_of_length_eq_zero hl
   subst hn
   refine ⟨.slice none 0 0, w, ?_, GRow.nil_ V w base, ⟨rfl, rfl, rfl, Nat.le_refl _, fun _ _ _ => rfl⟩⟩
   simp [Builtin.append_, run_underlying ht, sizeOf, typeInfo, hi, Builtin.lenOf, Builtin.firstCells, loadCells, loadCellsFrom]
  ·have hr := run_append_nil (P := P) w t ty e i z ht hi hz a m c (ys.map V) (by rw [List.length_map, hsize]; omega) hnews (by omega) (by simp at hsmall; omega) (by have hb := hbytes; simp only [List.length_nil, Nat.zero_add] at hb; omega)
   have hgr := grown 0 (by simp; omega) (Value.ownBlock (.slice none 0 0))
   simp only [List.length_nil, Nat.zero_add, List.nil_append, List.map_nil, Array.empty_append, hl] at hgr ⊢
   exact ⟨_, _, hr, hgr.1, hgr.2⟩
 ·by_cases hroom : xs.length + m ≤ cap
  ·have hth' : ∀ j, j < (ys.map V).length → (w.cell? ⟨g, xs.length + j, none⟩).isSome = true ∧ w.frozen? ⟨g, xs.length + j, none⟩ = false := fun j hj => by
    have := hth (xs.length + j) (by rw [List.length_map] at hj; omega)
    simpa using this
   have hf := run_firstCells_some (P := P) w 1 m a m c (ys.map V) (by rw [List.length_map]; omega) hnews
   have hst := run_storeCells_cells (P := P) g xs.length (ys.map V) 0 w (fun j hj => by simpa using (hth' j hj).1) (fun j hj => by simpa using (hth' j hj).2) (by intro u hu; obtain ⟨y, _, rfl⟩ := List.mem_map.1 hu; exact hV y)
   simp only [Nat.add_zero] at hst
   refine ⟨.slice (some ⟨g, 0, none⟩) (xs.length + m) cap, w.setCells g xs.length (ys.map V), ?_, .inr ⟨g, cap, by rw [List.length_append, hl], hbg, by rw [List.length_append, hl]; exact hroom, hcm, ?_, World.there_setCells hth _ _ _, ?_⟩, ?_⟩
   ·simp [Builtin.append_, run_underlying ht, sizeOf, typeInfo, hi, hsize, Builtin.lenOf, hroom, hf, Addr.add_lit, hst]
   ·exact Nat.lt_of_lt_of_le hgl ((Fr.refl [g] w).setCells (b := g) (.inl (by simp)) _ _).size
   ·intro j u hu
    rw [List.map_append] at hu
    by_cases hj : j < (xs.map V).length
    ·rw [List.getElem?_append_left hj] at hu
     exact World.rangeAt_setCells_apart hr g xs.length (ys.map V) (.inr (.inl (by simp))) j u hu
    ·rw [List.getElem?_append_right (by omega)] at hu
     have h1 := World.rangeAt_setCells_same w g xs.length (ys.map V) (fun j hj => hth' j hj) (j - (xs.map V).length) u hu
     rw [List.length_map] at h1 hj
     rwa [show xs.length + (j - xs.length) = 0 + j by omega] at h1
   ·have F := (Fr.refl [g] w).setCells (b := g) (.inl (by simp)) (ys.map V) xs.length
    exact ⟨F.os, F.tape, F.output, F.size, fun k hk hne => F.block k hk (by simp; intro e; exact hne (by rw [e]; rfl))⟩
  ·have holds : ∀ j u, (xs.map V)[j]? = some u → w.cell? ((⟨g, 0, none⟩ : Addr).add j) = some u := fun j u hu => by
    have := hr j u hu
    rwa [Addr.add_lit]
   have hr := run_append_grow (P := P) w t ty e i z ht hi hz ⟨g, 0, none⟩ xs.length cap (xs.map V) (by rw [List.length_map, hsize]; omega) holds a m c (ys.map V) (by rw [List.length_map, hsize]; omega) hnews (by omega) (by omega) (growslice_fits (by omega) hbytes)
   have hgr := grown cap (by omega) (Value.ownBlock (.slice (some ⟨g, 0, none⟩) xs.length cap))
   rw [List.length_append, hl] at hgr
   exact ⟨_, _, hr, by simpa [hl] using hgr.1, hgr.2⟩
end Go.Proofs.Ythkaigokcognmaa
end
section
namespace Go.Proofs.Ythkaigokcognmaa
open Go.RowKit
variable {α : Type} {V : α → Value} {w w' : World} {base : Nat} {v : Value} {xs : List α} {P : Program}
theorem wp_append_g {o : Oper} {a : Act} {K : Act → World → Prop} {Q : Exit → Act → World → Prop} (s x : Operand) (t : TypeId) (ho : o.op = .call { callee := .builtin .append, args := #[s, x], argTypes := #[t, t] })
  (hV : ∀ x, (V x).oneCell' = true) (base : Nat) (e : TypeId) (i : TypeInfo) (z : Value) (bytes : Nat) (ht : P.underlying t = some (.slice e)) (hi : P.info? e = some i) (hz : i.zero = some z)
  (hsize : i.size = 1) (hby : i.bytes = bytes) (hzs : z.cells.size = 1)
  (hs : a.eval s = v) (hown : GRow V w base v xs) (ad : Addr) (m c : Nat) (ys : List α) (hx : a.eval x = .slice (some ad) m c) (hl : ys.length = m) (hnews : ∀ j u, (ys.map V)[j]? = some u → w.cell? (ad.add j) = some u)
  (h63 : xs.length + m ≤ maxLen) (hbytes : (xs.length + m) * bytes ≤ 140737488355328) (hbase : base ≤ w.heap.size)
  (h : ∀ v' w', GRow V w' base v' (xs ++ ys) → w.grownBy w' v.ownBlock → K (a.put o.dst v') w') : o.wp P a w K Q := by
 obtain ⟨v', w', hr, h2, h3⟩ := run_append_g (P := P) hV base t o.type e i z bytes ht hi hz hsize hby hzs hown ad m c ys hl hnews h63 hbytes hbase
 unfold Oper.wp execOp
 simp only [ho, resolve, invoke, builtin, Sem.run_bind, Sem.run_pure, Result.andThen_ok, List.map_toArray, List.map_cons, List.map_nil, hs, hx, hr]
 exact h v' w' h2 h3
theorem wpList_append_g {ops : Array Oper} {rest : List Oper} {o : Oper} {a : Act} {Q : Exit → Act → World → Prop} (hgd : o.guard = none) (s x : Operand) (t : TypeId) (ho : o.op = .call { callee := .builtin .append, args := #[s, x], argTypes := #[t, t] })
  (hV : ∀ x, (V x).oneCell' = true) (base : Nat) (e : TypeId) (i : TypeInfo) (z : Value) (bytes : Nat) (ht : P.underlying t = some (.slice e)) (hi : P.info? e = some i) (hz : i.zero = some z)
  (hsize : i.size = 1) (hby : i.bytes = bytes) (hzs : z.cells.size = 1)
  (hs : a.eval s = v) (hown : GRow V w base v xs) (ad : Addr) (m c : Nat) (ys : List α) (hx : a.eval x = .slice (some ad) m c) (hl : ys.length = m) (hnews : ∀ j u, (ys.map V)[j]? = some u → w.cell? (ad.add j) = some u)
  (h63 : xs.length + m ≤ maxLen) (hbytes : (xs.length + m) * bytes ≤ 140737488355328) (hbase : base ≤ w.heap.size)
  (h : ∀ v' w', GRow V w' base v' (xs ++ ys) → w.grownBy w' v.ownBlock → wpList P ops Q rest (a.put o.dst v') w') : wpList P ops Q (o :: rest) a w :=
 wpList_plain hgd fun _ hK => wp_append_g s x t ho hV base e i z bytes ht hi hz hsize hby hzs hs hown ad m c ys hx hl hnews h63 hbytes hbase fun v' w' h2 h3 => hK _ _ (h v' w' h2 h3)
theorem step_append_g {ops : Array Oper} {o : Oper} {a : Act} {K : Act → World → Prop} {Q : Exit → Act → World → Prop} {E : Prop} (hgd : o.guard = none) (s x : Operand) (t : TypeId) (ho : o.op = .call { callee := .builtin .append, args := #[s, x], argTypes := #[t, t] })
  (hV : ∀ x, (V x).oneCell' = true) (base : Nat) (e : TypeId) (i : TypeInfo) (z : Value) (bytes : Nat) (ht : P.underlying t = some (.slice e)) (hi : P.info? e = some i) (hz : i.zero = some z)
  (hsize : i.size = 1) (hby : i.bytes = bytes) (hzs : z.cells.size = 1)
  (hs : a.eval s = v) (hown : GRow V w base v xs) (ad : Addr) (m c : Nat) (ys : List α) (hx : a.eval x = .slice (some ad) m c) (hl : ys.length = m) (hnews : ∀ j u, (ys.map V)[j]? = some u → w.cell? (ad.add j) = some u)
  (h63 : xs.length + m ≤ maxLen) (hbytes : (xs.length + m) * bytes ≤ 140737488355328) (hbase : base ≤ w.heap.size)
  (h : ∀ v' w', GRow V w' base v' (xs ++ ys) → w.grownBy w' v.ownBlock → K (a.put o.dst v') w') : if Region.wanted o (yielded ops a.tmps) = true then Oper.wp P o a w K Q else E := by
 have hw : Region.wanted o (yielded ops a.tmps) = true := by simp [Region.wanted, hgd]
 rw [if_pos hw]
 exact wp_append_g s x t ho hV base e i z bytes ht hi hz hsize hby hzs hs hown ad m c ys hx hl hnews h63 hbytes hbase h
def U8 (n : Nat) : Value := .int .u8 (n : Int)
def bytesOf (s : ByteArray) : List Nat := s.data.toList.map UInt8.toNat
def strOf (l : List Nat) : ByteArray := ⟨(l.map UInt8.ofNat).toArray⟩
theorem bytesOf_len (s : ByteArray) : (bytesOf s).length = s.size := by simp [bytesOf]
theorem bytesOf_append (a b : ByteArray) : bytesOf (a ++ b) = bytesOf a ++ bytesOf b := by simp [bytesOf]
theorem bytesOf_lt (s : ByteArray) : ∀ x ∈ bytesOf s, x < 256 := by
 intro x hx
 obtain ⟨b, _, rfl⟩ := List.mem_map.1 hx
 exact b.toNat_lt
theorem bytesOf_strOf {l : List Nat} (h : ∀ x ∈ l, x < 256) : bytesOf (strOf l) = l := by
 unfold bytesOf strOf
 simp only [List.map_map]
 conv => rhs; rw [← List.map_id l]
 refine List.map_congr_left fun x hx => ?_
 have := h x hx
 simp; omega
theorem conv_str (s : ByteArray) (w : World) (base src dst e : TypeId) (hs : P.underlying src = some .string) (hd : P.underlying dst = some (.slice e)) (he : P.underlying e = some (.int .u8)) (hb : base ≤ w.heap.size) (hm : s.size ≤ maxLen) :
  ∃ cap W', (convert src dst (.string s)).run P w = .ok (.slice (some ⟨w.heap.size, 0, none⟩) s.size cap) W' ∧ GRow U8 W' base (.slice (some ⟨w.heap.size, 0, none⟩) s.size cap) (bytesOf s) ∧ Fr [] w W' := by
 have hge := grownCap_ge w s.size 0 e
 have hcm := grownCap_le_maxLen w s.size 0 e hm
 have hr := run_bytes_of_string (P := P) w src dst e s hs hd he
 generalize grownCap w s.size 0 e = cap at *
 have hsz : (bytesRow s cap).size = cap := by simp [bytesRow]; omega
 rw [hsz] at hr
 refine ⟨cap, _, hr, .inr ⟨w.heap.size, cap, by rw [bytesOf_len], hb, by rw [bytesOf_len]; exact hge, hcm, by simp, ?_, ?_⟩, ((Fr.refl [] w).drew).alloc _⟩
 ·have hh : (w.drew.alloc (.cells (bytesRow s cap) e (cap, cap + 1))).heap[w.heap.size]? = some (.cells (bytesRow s cap) e (cap, cap + 1)) := heap_alloc_new w.drew _
  intro j hj
  refine ⟨?_, ?_⟩
  ·unfold World.cell?; simp only [hh, Nat.zero_add]; rw [Array.getElem?_eq_getElem (by omega)]; rfl
  ·unfold World.frozen?; simp only [hh, Nat.zero_add]; simp; omega
 ·have hh : (w.drew.alloc (.cells (bytesRow s cap) e (cap, cap + 1))).heap[w.heap.size]? = some (.cells (bytesRow s cap) e (cap, cap + 1)) := heap_alloc_new w.drew _
  intro j u hu
  unfold World.cell?; simp only [hh, Nat.zero_add]
  have hj := (List.getElem?_eq_some_iff.1 hu).1
  rw [List.length_map, bytesOf_len] at hj
  show (bytesRow s cap)[j]? = some u
  unfold bytesRow
  rw [Array.getElem?_append_left (by simpa using hj)]
  rw [← hu]
  simp [bytesOf, U8, Function.comp_def]
theorem conv_bytes {w : World} {g off : Nat} {l : List Nat} (cap : Nat) (src e dst : TypeId) (hs : P.underlying src = some (.slice e)) (he : P.underlying e = some (.int .u8)) (hd : P.underlying dst = some .string)
  (hl : ∀ x ∈ l, x < 256) (hr : w.rangeAt g off (l.map U8)) : (convert src dst (.slice (some ⟨g, off, none⟩) l.length cap)).run P w = .ok (.string (strOf l)) w := by
 have h := run_convert_bytes_back (P := P) w src dst e ⟨g, off, none⟩ cap (l.map UInt8.ofNat) hs he hd (fun j hj => by
  rw [List.length_map] at hj
  rw [Addr.add_lit, hr j (U8 l[j]) (by simp [hj])]
  simp only [U8, List.getElem_map]
  have := hl l[j] (List.getElem_mem hj)
  congr 3
  simp; omega)
 rw [List.length_map] at h
 exact h
theorem GRow.range (h : GRow V w base v xs) {g n cap : Nat} (e : v = .slice (some ⟨g, 0, none⟩) n cap) (o m : Nat) : w.rangeAt g o (((xs.drop o).take m).map V) := by
 rcases h with ⟨rfl, _⟩ | ⟨g', cap', rfl, _, _, _, _, _, h6⟩
 ·cases e
 ·injection e with e1; injection e1 with e1; cases e1
  intro j u hu
  rw [List.map_take, List.map_drop, List.getElem?_take] at hu
  split at hu
  ·rw [List.getElem?_drop] at hu
   have := h6 (o + j) u hu
   rwa [Nat.zero_add] at this
  ·cases hu
theorem GRow.some_ (h : GRow V w base v xs) {n : Nat} (hn : xs.length = n) (hp : 0 < n) : ∃ g cap, v = .slice (some ⟨g, 0, none⟩) n cap ∧ base ≤ g ∧ g < w.heap.size := by
 subst hn
 rcases h with ⟨_, rfl⟩ | ⟨g, cap, rfl, hb, _, _, hl, _⟩
 ·simp at hp
 ·exact ⟨g, cap, rfl, hb, hl⟩
theorem GRow.cap_le (h : GRow V w base v xs) {g n cap : Nat} (e : v = .slice (some ⟨g, 0, none⟩) n cap) : xs.length ≤ cap := by
 rcases h with ⟨rfl, _⟩ | ⟨g', cap', rfl, _, h2, _⟩
 ·cases e
 ·injection e with e1 e2 e3; omega
theorem Fr.step_row {a b c : World} (h : Fr [] a b) (hg : b.grownBy c v.ownBlock) (hr : GRow V b base v xs) (hb : a.heap.size ≤ base) : Fr [] a c :=
 h.grown hg fun k hk => .inr (Nat.le_trans hb (hr.lt k hk).1)
end Go.Proofs.Ythkaigokcognmaa
end
