/- The reference's block reckons the block of SHA-256: over the printed function, numbers and lists alone. -/
import Derived.Test.YthkaigokcognmaaPblockx
import Derived.Test.YthkaigokcognmaaSha1
namespace Go.Proofs.Ythkaigokcognmaa.Sha
open Go.RowKit Go.Proofs.YthkaigokcognmaaW.PrintWords Go.Proofs.YthkaigokcognmaaW.PrintLast Go.Proofs.YthkaigokcognmaaW.PrintMore Go.Proofs.Ythkaigokcognmaa.Pblock

theorem i64_nat_and (a b : Nat) (ha : a < 9223372036854775808) (hb : b < 9223372036854775808) : bits .and .i64 (a : Int) (b : Int) = ((a &&& b : Nat) : Int) := by
  have hx : a &&& b < 2 ^ 63 := Nat.and_lt_two_pow _ (by omega)
  show IntKind.i64.wrap ((BitVec.ofInt 64 (a : Int) &&& BitVec.ofInt 64 (b : Int)).toNat : Int) = _
  rw [BitVec.toNat_and, BitVec.ofInt_natCast, BitVec.ofInt_natCast, BitVec.toNat_ofNat, BitVec.toNat_ofNat, Nat.mod_eq_of_lt (by omega), Nat.mod_eq_of_lt (by omega), i64_w]
  unfold wrap64
  omega
theorem i64_nat_or (a b : Nat) (ha : a < 9223372036854775808) (hb : b < 9223372036854775808) : bits .or .i64 (a : Int) (b : Int) = ((a ||| b : Nat) : Int) := by
  have hx : a ||| b < 2 ^ 63 := Nat.or_lt_two_pow (by omega) (by omega)
  show IntKind.i64.wrap ((BitVec.ofInt 64 (a : Int) ||| BitVec.ofInt 64 (b : Int)).toNat : Int) = _
  rw [BitVec.toNat_or, BitVec.ofInt_natCast, BitVec.ofInt_natCast, BitVec.toNat_ofNat, BitVec.toNat_ofNat, Nat.mod_eq_of_lt (by omega), Nat.mod_eq_of_lt (by omega), i64_w]
  unfold wrap64
  omega
theorem i64_nat_xor (a b : Nat) (ha : a < 9223372036854775808) (hb : b < 9223372036854775808) : bits .xor .i64 (a : Int) (b : Int) = ((a ^^^ b : Nat) : Int) := by
  have hx : a ^^^ b < 2 ^ 63 := Nat.xor_lt_two_pow (by omega) (by omega)
  show IntKind.i64.wrap ((BitVec.ofInt 64 (a : Int) ^^^ BitVec.ofInt 64 (b : Int)).toNat : Int) = _
  rw [BitVec.toNat_xor, BitVec.ofInt_natCast, BitVec.ofInt_natCast, BitVec.toNat_ofNat, BitVec.toNat_ofNat, Nat.mod_eq_of_lt (by omega), Nat.mod_eq_of_lt (by omega), i64_w]
  unfold wrap64
  omega

theorem right_f (x k : Nat) (hx : x < 4294967296) (h0 : 2 ≤ k) (h1 : k ≤ 31) : cloisterref04_right.f (x : Int) (k : Int) = some ((rotr x k : Nat) : Int) := by
  have e1 : wrap64 (32 - (k : Int)) = ((32 - k : Nat) : Int) := by unfold wrap64; omega
  have hp : 2 ^ (32 - k) ≤ 2 ^ 30 := Nat.pow_le_pow_right (by omega) (by omega)
  have hm : x * 2 ^ (32 - k) < 9223372036854775808 := by
    calc x * 2 ^ (32 - k) ≤ x * 2 ^ 30 := Nat.mul_le_mul_left _ hp
      _ < 9223372036854775808 := by omega
  have e2 : shr .i64 (x : Int) (k : Int) = ((x / 2 ^ k : Nat) : Int) := by
    unfold shr
    rw [show (min (k : Int).toNat IntKind.i64.bits) = k by simp [IntKind.bits]; omega]
    simp
  have e3 : shl .i64 (x : Int) ((32 - k : Nat) : Int) = ((x * 2 ^ (32 - k) : Nat) : Int) := by
    unfold shl
    rw [show (min ((32 - k : Nat) : Int).toNat IntKind.i64.bits) = 32 - k by simp [IntKind.bits]; omega, i64_w]
    have : (x : Int) * 2 ^ (32 - k) = ((x * 2 ^ (32 - k) : Nat) : Int) := by simp
    rw [this]
    unfold wrap64
    omega
  unfold cloisterref04_right.f
  rw [if_pos (by omega), e1, if_pos (by omega), e2, e3, i64_nat_or _ _ (by have := div_lt (k := 2 ^ k) hx; omega) hm]
  congr 1
  have e4 : (x / 2 ^ k ||| x * 2 ^ (32 - k)) % 4294967296 = rotr x k := by
    unfold rotr
    have := Nat.or_mod_two_pow (a := x / 2 ^ k) (b := x * 2 ^ (32 - k)) (n := 32)
    rw [show (2 : Nat) ^ 32 = 4294967296 from rfl, Nat.mod_eq_of_lt (a := x / 2 ^ k) (div_lt hx)] at this
    exact this
  rw [← e4]
  generalize (x / 2 ^ k ||| x * 2 ^ (32 - k)) = y
  rw [Int.tmod_eq_emod_of_nonneg (by omega)]
  omega

theorem right7 (x : Nat) (hx : x < 4294967296) : cloisterref04_right.f (x : Int) 7 = some ((rotr x 7 : Nat) : Int) := right_f x 7 hx (by omega) (by omega)
theorem right18 (x : Nat) (hx : x < 4294967296) : cloisterref04_right.f (x : Int) 18 = some ((rotr x 18 : Nat) : Int) := right_f x 18 hx (by omega) (by omega)
theorem right17 (x : Nat) (hx : x < 4294967296) : cloisterref04_right.f (x : Int) 17 = some ((rotr x 17 : Nat) : Int) := right_f x 17 hx (by omega) (by omega)
theorem right19 (x : Nat) (hx : x < 4294967296) : cloisterref04_right.f (x : Int) 19 = some ((rotr x 19 : Nat) : Int) := right_f x 19 hx (by omega) (by omega)
theorem right6 (x : Nat) (hx : x < 4294967296) : cloisterref04_right.f (x : Int) 6 = some ((rotr x 6 : Nat) : Int) := right_f x 6 hx (by omega) (by omega)
theorem right11 (x : Nat) (hx : x < 4294967296) : cloisterref04_right.f (x : Int) 11 = some ((rotr x 11 : Nat) : Int) := right_f x 11 hx (by omega) (by omega)
theorem right25 (x : Nat) (hx : x < 4294967296) : cloisterref04_right.f (x : Int) 25 = some ((rotr x 25 : Nat) : Int) := right_f x 25 hx (by omega) (by omega)
theorem right2 (x : Nat) (hx : x < 4294967296) : cloisterref04_right.f (x : Int) 2 = some ((rotr x 2 : Nat) : Int) := right_f x 2 hx (by omega) (by omega)
theorem right13 (x : Nat) (hx : x < 4294967296) : cloisterref04_right.f (x : Int) 13 = some ((rotr x 13 : Nat) : Int) := right_f x 13 hx (by omega) (by omega)
theorem right22 (x : Nat) (hx : x < 4294967296) : cloisterref04_right.f (x : Int) 22 = some ((rotr x 22 : Nat) : Int) := right_f x 22 hx (by omega) (by omega)
theorem rd_ints (l : List Nat) (i : Nat) : rd (ints l) (i : Int) = ((l.getD i 0 : Nat) : Int) := by
  unfold rd ints
  rw [List.getD_eq_getElem?_getD, List.getElem?_map, List.getD_eq_getElem?_getD, Int.toNat_natCast]
  cases l[i]? <;> rfl
theorem ints_len (l : List Nat) : (ints l).length = l.length := by simp [ints]
theorem ints_snoc (l : List Nat) (x : Nat) : ints (l ++ [x]) = ints l ++ [(x : Int)] := by simp [ints]

theorem word_sum (s : List Nat) (h : ∀ x ∈ s, x < 256) (t : Nat) :
    word s t = s.getD (4 * t) 0 * 16777216 + s.getD (4 * t + 1) 0 * 65536 + s.getD (4 * t + 2) 0 * 256 + s.getD (4 * t + 3) 0 := by
  have hb : ∀ i, s.getD i 0 < 256 := fun i => by
    rw [List.getD_eq_getElem?_getD]
    cases e : s[i]? with
    | none => simp
    | some x => exact h x (List.mem_of_getElem? e)
  have h0 := hb (4 * t); have h1 := hb (4 * t + 1); have h2 := hb (4 * t + 2); have h3 := hb (4 * t + 3)
  unfold word
  generalize s.getD (4 * t) 0 = a at *
  generalize s.getD (4 * t + 1) 0 = b at *
  generalize s.getD (4 * t + 2) 0 = c at *
  generalize s.getD (4 * t + 3) 0 = d at *
  have e1 : a * 16777216 ||| b * 65536 = a * 16777216 + b * 65536 := by
    have := Nat.two_pow_add_eq_or_of_lt (i := 24) (b := b * 65536) (by omega) a
    rw [show (2 : Nat) ^ 24 * a = a * 16777216 by omega] at this
    exact this.symm
  have e2 : (a * 16777216 + b * 65536) ||| c * 256 = a * 16777216 + b * 65536 + c * 256 := by
    have := Nat.two_pow_add_eq_or_of_lt (i := 16) (b := c * 256) (by omega) (a * 256 + b)
    rw [show (2 : Nat) ^ 16 * (a * 256 + b) = a * 16777216 + b * 65536 by omega] at this
    exact this.symm
  have e3 : (a * 16777216 + b * 65536 + c * 256) ||| d = a * 16777216 + b * 65536 + c * 256 + d := by
    have := Nat.two_pow_add_eq_or_of_lt (i := 8) (b := d) (by omega) (a * 65536 + b * 256 + c)
    rw [show (2 : Nat) ^ 8 * (a * 65536 + b * 256 + c) = a * 16777216 + b * 65536 + c * 256 by omega] at this
    exact this.symm
  rw [e1, e2, e3]

theorem w64 {x : Int} (h0 : -9223372036854775808 ≤ x) (h1 : x < 9223372036854775808) : wrap64 x = x := by unfold wrap64; omega

theorem getD_lt {s : List Nat} {m : Nat} (h : ∀ x ∈ s, x < m) (hm : 0 < m) (i : Nat) : s.getD i 0 < m := by
  rw [List.getD_eq_getElem?_getD]
  cases e : s[i]? with
  | none => simpa
  | some x => exact h x (List.mem_of_getElem? e)

/-- The first loop, one round. -/
theorem round0 (x0 x2 : List Int) (s : List Nat) (hs : s.length = 64) (hb : ∀ x ∈ s, x < 256) (m i : Nat) (hi : i < 16) :
    cloisterref04_block.l0 (m + 1) x0 (ints s) x2 (ints ((List.range i).map (word s))) (i : Int) = cloisterref04_block.l0 m x0 (ints s) x2 (ints ((List.range (i + 1)).map (word s))) ((i + 1 : Nat) : Int) := by
  have hl : ((ints s).length : Int) = 64 := by rw [ints_len, hs]; rfl
  have e0 : wrap64 (4 * (i : Int)) = ((4 * i : Nat) : Int) := by unfold wrap64; omega
  have e1 : wrap64 (((4 * i : Nat) : Int) + 1) = ((4 * i + 1 : Nat) : Int) := by unfold wrap64; omega
  have e2 : wrap64 (((4 * i : Nat) : Int) + 2) = ((4 * i + 2 : Nat) : Int) := by unfold wrap64; omega
  have e3 : wrap64 (((4 * i : Nat) : Int) + 3) = ((4 * i + 3 : Nat) : Int) := by unfold wrap64; omega
  have ei : wrap64 ((i : Int) + 1) = ((i + 1 : Nat) : Int) := by unfold wrap64; omega
  have h0 := getD_lt hb (by omega) (4 * i)
  have h1 := getD_lt hb (by omega) (4 * i + 1)
  have h2 := getD_lt hb (by omega) (4 * i + 2)
  have h3 := getD_lt hb (by omega) (4 * i + 3)
  have hw := word_sum s hb i
  simp only [cloisterref04_block.l0, hl, e0, e1, e2, e3, ei, rd_ints]
  rw [if_pos (by omega), if_pos (by omega), if_pos (by omega), if_pos (by omega), if_pos (by omega), if_pos (by omega), if_pos (by omega), if_pos (by omega), if_pos (by omega), if_pos (by rw [ints_len, List.length_map, List.length_range]; omega)]
  rw [List.range_succ, List.map_append, List.map_cons, List.map_nil, ints_snoc, hw]
  have hz : ∀ z z' : Int, z = z' → cloisterref04_block.l0 m x0 (ints s) x2 (ints ((List.range i).map (word s)) ++ [z]) ((i + 1 : Nat) : Int) = cloisterref04_block.l0 m x0 (ints s) x2 (ints ((List.range i).map (word s)) ++ [z']) ((i + 1 : Nat) : Int) := fun z z' h => by rw [h]
  apply hz
  clear hz
  generalize s.getD (4 * i) 0 = a at *
  generalize s.getD (4 * i + 1) 0 = b at *
  generalize s.getD (4 * i + 2) 0 = c at *
  generalize s.getD (4 * i + 3) 0 = d at *
  clear hw e0 e1 e2 e3 ei hl hi hs hb
  rw [w64 (x := (a : Int)) (by omega) (by omega), w64 (x := (b : Int)) (by omega) (by omega), w64 (x := (c : Int)) (by omega) (by omega), w64 (x := (d : Int)) (by omega) (by omega), w64 (x := (a : Int) * 16777216) (by omega) (by omega), w64 (x := (b : Int) * 65536) (by omega) (by omega), w64 (x := (c : Int) * 256) (by omega) (by omega),
    w64 (x := (a : Int) * 16777216 + (b : Int) * 65536) (by omega) (by omega), w64 (x := (a : Int) * 16777216 + (b : Int) * 65536 + (c : Int) * 256) (by omega) (by omega), w64 (by omega) (by omega)]
  omega
theorem w16_def (s : List Nat) : (List.range 16).map (word s) = w16 s := rfl
/-- The first loop: sixteen words. -/
theorem loop0 (x0 : List Int) (Ks : List Int) (s : List Nat) (hs : s.length = 64) (hb : ∀ x ∈ s, x < 256) (K n : Nat) :
    ∀ i, i + n = 16 → cloisterref04_block.l0 (K + n + 1) x0 (ints s) Ks (ints ((List.range i).map (word s))) (i : Int) = cloisterref04_block.l1 K x0 Ks (ints (w16 s)) 16 := by
  induction n with
  | zero =>
    intro i h
    obtain rfl : i = 16 := by omega
    rw [w16_def, Nat.add_zero]
    generalize w16 s = ws
    rw [cloisterref04_block.l0, if_neg (by omega)]
  | succ n ih =>
    intro i h
    rw [show K + (n + 1) + 1 = (K + n + 1) + 1 by omega, round0 x0 Ks s hs hb _ i (by omega)]
    exact ih (i + 1) (by omega)

theorem sg0_i (x : Nat) (hx : x < 4294967296) : bits .xor .i64 (bits .xor .i64 ((rotr x 7 : Nat) : Int) ((rotr x 18 : Nat) : Int)) ((x : Int) / 8) = ((sg0 x : Nat) : Int) := by
  have e : (x : Int) / 8 = ((x / 8 : Nat) : Int) := by omega
  have h7 := rotr_lt (k := 7) hx
  have h18 := rotr_lt (k := 18) hx
  have hxx := xor_lt h7 h18
  have hd := div_lt (k := 8) hx
  rw [e, i64_nat_xor _ _ (by omega) (by omega), i64_nat_xor _ _ (by omega) (by omega)]
  rfl
theorem sg1_i (x : Nat) (hx : x < 4294967296) : bits .xor .i64 (bits .xor .i64 ((rotr x 17 : Nat) : Int) ((rotr x 19 : Nat) : Int)) ((x : Int) / 1024) = ((sg1 x : Nat) : Int) := by
  have e : (x : Int) / 1024 = ((x / 1024 : Nat) : Int) := by omega
  have h7 := rotr_lt (k := 17) hx
  have h18 := rotr_lt (k := 19) hx
  have hxx := xor_lt h7 h18
  have hd := div_lt (k := 1024) hx
  rw [e, i64_nat_xor _ _ (by omega) (by omega), i64_nat_xor _ _ (by omega) (by omega)]
  rfl

theorem arith1 (a b c d : Nat) (ha : a < 4294967296) (hb : b < 4294967296) (hc : c < 4294967296) (hd : d < 4294967296) :
    Int.tmod (wrap64 (wrap64 (wrap64 ((a : Int) + (b : Int)) + (c : Int)) + (d : Int))) 4294967296 = (((a + b + c + d) % 4294967296 : Nat) : Int) := by
  rw [w64 (x := (a : Int) + (b : Int)) (by omega) (by omega), w64 (x := (a : Int) + (b : Int) + (c : Int)) (by omega) (by omega), w64 (by omega) (by omega), Int.tmod_eq_emod_of_nonneg (by omega)]
  omega

/-- The second loop, one round. -/
theorem round1 (x0 x2 : List Int) (w : List Nat) (hb : ∀ x ∈ w, x < 4294967296) (m t : Nat) (hw : w.length = t) (h0 : 16 ≤ t) (h1 : t < 64) :
    cloisterref04_block.l1 (m + 1) x0 x2 (ints w) (t : Int) = cloisterref04_block.l1 m x0 x2 (ints (w ++ [next w])) ((t + 1 : Nat) : Int) := by
  have hl : ((ints w).length : Int) = (t : Int) := by rw [ints_len, hw]
  have e0 : wrap64 ((t : Int) - 15) = ((t - 15 : Nat) : Int) := by unfold wrap64; omega
  have e1 : wrap64 ((t : Int) - 2) = ((t - 2 : Nat) : Int) := by unfold wrap64; omega
  have e2 : wrap64 ((t : Int) - 16) = ((t - 16 : Nat) : Int) := by unfold wrap64; omega
  have e3 : wrap64 ((t : Int) - 7) = ((t - 7 : Nat) : Int) := by unfold wrap64; omega
  have ei : wrap64 ((t : Int) + 1) = ((t + 1 : Nat) : Int) := by unfold wrap64; omega
  have hg : ∀ i, w.getD i 0 < 4294967296 := fun i => getD_lt hb (by omega) i
  have HG := Lib.hid hg
  clear hg hb
  rw [cloisterref04_block.l1]
  simp only [hl, e0, e1, e2, e3, ei, rd_ints]
  clear e0 e1 e2 e3 ei hl
  rw [if_pos (by omega), if_pos (by omega), if_pos (by omega), if_pos (by omega), if_pos (by omega)]
  rw [right7 _ (HG.out _), right18 _ (HG.out _), right17 _ (HG.out _), right19 _ (HG.out _)]
  simp only [Option.bind_some]
  rw [if_pos (by omega), if_pos (by omega), if_pos (by omega), if_pos (by omega), if_pos (by rw [ints_len, hw]; omega), sg0_i _ (HG.out _), sg1_i _ (HG.out _)]
  have hz : ∀ z z' : Int, z = z' → cloisterref04_block.l1 m x0 x2 (ints w ++ [z]) ((t + 1 : Nat) : Int) = cloisterref04_block.l1 m x0 x2 (ints w ++ [z']) ((t + 1 : Nat) : Int) := fun z z' h => by rw [h]
  rw [ints_snoc]
  apply hz
  rw [next, hw]
  exact arith1 _ _ _ _ (HG.out _) (sg0_lt (HG.out _)) (HG.out _) (sg1_lt (HG.out _))

theorem loop1 (x0 x2 : List Int) (w : List Nat) (hb : ∀ x ∈ w, x < 4294967296) (hw : w.length = 16) (K n : Nat) (h8 : x0.length = 8) :
    ∀ i, i + n = 48 → cloisterref04_block.l1 (K + n + 1) x0 x2 (ints (grow i w)) ((16 + i : Nat) : Int) = cloisterref04_block.l2 K x0 x2 (ints (grow 48 w)) x0 0 := by
  induction n with
  | zero =>
    intro i h
    obtain rfl : i = 48 := by omega
    rw [Nat.add_zero]
    generalize grow 48 w = ws
    rw [cloisterref04_block.l1, if_neg (by omega), if_pos (by rw [h8]; simp), List.nil_append]
  | succ n ih =>
    intro i h
    rw [show K + (n + 1) + 1 = (K + n + 1) + 1 by omega, round1 x0 x2 (grow i w) (grow_lt hb i) _ (16 + i) (by rw [grow_len, hw]; omega) (by omega) (by omega)]
    exact ih (i + 1) (by omega)
end Go.Proofs.Ythkaigokcognmaa.Sha
