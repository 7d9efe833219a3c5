/- SHA-256 as plain functions of natural numbers: what the program's text computes, word by word. No program in sight. -/
import Derived.Laws.BitsAllLaws
import Derived.Laws.Bits64
import Derived.WalkKit
namespace Go.Proofs.Ythkaigokcognmaa.Sha

def rotr (x k : Nat) : Nat := (x / 2 ^ k) ||| (x * 2 ^ (32 - k) % 4294967296)
def sg0 (x : Nat) : Nat := rotr x 7 ^^^ rotr x 18 ^^^ x / 8
def sg1 (x : Nat) : Nat := rotr x 17 ^^^ rotr x 19 ^^^ x / 1024
def bs0 (x : Nat) : Nat := rotr x 2 ^^^ rotr x 13 ^^^ rotr x 22
def bs1 (x : Nat) : Nat := rotr x 6 ^^^ rotr x 11 ^^^ rotr x 25
def ch (e f g : Nat) : Nat := (e &&& f) ^^^ ((4294967295 ^^^ e) &&& g)
def maj (a b c : Nat) : Nat := (a &&& b) ^^^ (a &&& c) ^^^ (b &&& c)

/-- The word number t of a block's bytes. -/
def word (s : List Nat) (t : Nat) : Nat := ((s.getD (4 * t) 0 * 16777216 ||| s.getD (4 * t + 1) 0 * 65536) ||| s.getD (4 * t + 2) 0 * 256) ||| s.getD (4 * t + 3) 0
/-- The next word of the schedule. -/
def next (w : List Nat) : Nat := (w.getD (w.length - 16) 0 + sg0 (w.getD (w.length - 15) 0) + w.getD (w.length - 7) 0 + sg1 (w.getD (w.length - 2) 0)) % 4294967296
def grow : Nat → List Nat → List Nat
  | 0, w => w
  | n + 1, w => grow n w ++ [next (grow n w)]
def w16 (s : List Nat) : List Nat := (List.range 16).map (word s)
def sched (s : List Nat) : List Nat := grow 48 (w16 s)

structure St where
  a : Nat
  b : Nat
  c : Nat
  d : Nat
  e : Nat
  f : Nat
  g : Nat
  h : Nat

def St.list (s : St) : List Nat := [s.a, s.b, s.c, s.d, s.e, s.f, s.g, s.h]
def St.ok (s : St) : Prop := s.a < 4294967296 ∧ s.b < 4294967296 ∧ s.c < 4294967296 ∧ s.d < 4294967296 ∧ s.e < 4294967296 ∧ s.f < 4294967296 ∧ s.g < 4294967296 ∧ s.h < 4294967296

def t1 (s : St) (k w : Nat) : Nat := (s.h + bs1 s.e + ch s.e s.f s.g + k + w) % 4294967296
def t2 (s : St) : Nat := (bs0 s.a + maj s.a s.b s.c) % 4294967296
def round (s : St) (k w : Nat) : St := ⟨(t1 s k w + t2 s) % 4294967296, s.a, s.b, s.c, (s.d + t1 s k w) % 4294967296, s.e, s.f, s.g⟩
def rounds (ks ws : List Nat) : Nat → St → St
  | 0, s => s
  | n + 1, s => round (rounds ks ws n s) (ks.getD n 0) (ws.getD n 0)
def St.add (s t : St) : St := ⟨(s.a + t.a) % 4294967296, (s.b + t.b) % 4294967296, (s.c + t.c) % 4294967296, (s.d + t.d) % 4294967296, (s.e + t.e) % 4294967296, (s.f + t.f) % 4294967296, (s.g + t.g) % 4294967296, (s.h + t.h) % 4294967296⟩

def K : List Nat := [
  0x428a2f98, 0x71374491, 0xb5c0fbcf, 0xe9b5dba5, 0x3956c25b, 0x59f111f1, 0x923f82a4, 0xab1c5ed5,
  0xd807aa98, 0x12835b01, 0x243185be, 0x550c7dc3, 0x72be5d74, 0x80deb1fe, 0x9bdc06a7, 0xc19bf174,
  0xe49b69c1, 0xefbe4786, 0x0fc19dc6, 0x240ca1cc, 0x2de92c6f, 0x4a7484aa, 0x5cb0a9dc, 0x76f988da,
  0x983e5152, 0xa831c66d, 0xb00327c8, 0xbf597fc7, 0xc6e00bf3, 0xd5a79147, 0x06ca6351, 0x14292967,
  0x27b70a85, 0x2e1b2138, 0x4d2c6dfc, 0x53380d13, 0x650a7354, 0x766a0abb, 0x81c2c92e, 0x92722c85,
  0xa2bfe8a1, 0xa81a664b, 0xc24b8b70, 0xc76c51a3, 0xd192e819, 0xd6990624, 0xf40e3585, 0x106aa070,
  0x19a4c116, 0x1e376c08, 0x2748774c, 0x34b0bcb5, 0x391c0cb3, 0x4ed8aa4a, 0x5b9cca4f, 0x682e6ff3,
  0x748f82ee, 0x78a5636f, 0x84c87814, 0x8cc70208, 0x90befffa, 0xa4506ceb, 0xbef9a3f7, 0xc67178f2]
def H0 : St := ⟨0x6a09e667, 0xbb67ae85, 0x3c6ef372, 0xa54ff53a, 0x510e527f, 0x9b05688c, 0x1f83d9ab, 0x5be0cd19⟩

/-- A state behind a block of 64 bytes. -/
def block (st : St) (s : List Nat) : St := st.add (rounds K (sched s) 64 st)

/-! ### Bounds -/
theorem or_lt {a b : Nat} (ha : a < 4294967296) (hb : b < 4294967296) : a ||| b < 4294967296 := Nat.or_lt_two_pow (n := 32) ha hb
theorem and_lt {a b : Nat} (hb : b < 4294967296) : a &&& b < 4294967296 := Nat.and_lt_two_pow (n := 32) a hb
theorem xor_lt {a b : Nat} (ha : a < 4294967296) (hb : b < 4294967296) : a ^^^ b < 4294967296 := Nat.xor_lt_two_pow (n := 32) ha hb
theorem div_lt {a k : Nat} (ha : a < 4294967296) : a / k < 4294967296 := Nat.lt_of_le_of_lt (Nat.div_le_self _ _) ha
theorem rotr_lt {x k : Nat} (hx : x < 4294967296) : rotr x k < 4294967296 := or_lt (div_lt hx) (Nat.mod_lt _ (by omega))
theorem sg0_lt {x : Nat} (hx : x < 4294967296) : sg0 x < 4294967296 := xor_lt (xor_lt (rotr_lt hx) (rotr_lt hx)) (div_lt hx)
theorem sg1_lt {x : Nat} (hx : x < 4294967296) : sg1 x < 4294967296 := xor_lt (xor_lt (rotr_lt hx) (rotr_lt hx)) (div_lt hx)
theorem bs0_lt {x : Nat} (hx : x < 4294967296) : bs0 x < 4294967296 := xor_lt (xor_lt (rotr_lt hx) (rotr_lt hx)) (rotr_lt hx)
theorem bs1_lt {x : Nat} (hx : x < 4294967296) : bs1 x < 4294967296 := xor_lt (xor_lt (rotr_lt hx) (rotr_lt hx)) (rotr_lt hx)
theorem ch_lt {e f g : Nat} (hf : f < 4294967296) (hg : g < 4294967296) : ch e f g < 4294967296 := xor_lt (and_lt hf) (and_lt hg)
theorem maj_lt {a b c : Nat} (hb : b < 4294967296) (hc : c < 4294967296) : maj a b c < 4294967296 := xor_lt (xor_lt (and_lt hb) (and_lt hc)) (and_lt hc)
theorem t1_lt (s : St) (k w : Nat) : t1 s k w < 4294967296 := Nat.mod_lt _ (by omega)
theorem t2_lt (s : St) : t2 s < 4294967296 := Nat.mod_lt _ (by omega)
theorem next_lt (w : List Nat) : next w < 4294967296 := Nat.mod_lt _ (by omega)
theorem round_ok {s : St} (h : s.ok) (k w : Nat) : (round s k w).ok := by
  obtain ⟨h1, h2, h3, h4, h5, h6, h7, h8⟩ := h
  exact ⟨Nat.mod_lt _ (by omega), h1, h2, h3, Nat.mod_lt _ (by omega), h5, h6, h7⟩
theorem rounds_ok {s : St} (h : s.ok) (ks ws : List Nat) : ∀ n, (rounds ks ws n s).ok
  | 0 => h
  | n + 1 => round_ok (rounds_ok h ks ws n) _ _
theorem add_ok (s t : St) : (s.add t).ok := by
  refine ⟨?_, ?_, ?_, ?_, ?_, ?_, ?_, ?_⟩ <;> exact Nat.mod_lt _ (by omega)
theorem block_ok (st : St) (s : List Nat) : (block st s).ok := add_ok _ _
theorem grow_len (n : Nat) (w : List Nat) : (grow n w).length = n + w.length := by
  induction n with
  | zero => simp [grow]
  | succ n ih => simp [grow, ih]; omega
theorem w16_len (s : List Nat) : (w16 s).length = 16 := by simp [w16]
theorem sched_len (s : List Nat) : (sched s).length = 64 := by simp [sched, grow_len, w16_len]
theorem word_lt {s : List Nat} (h : ∀ x ∈ s, x < 256) (t : Nat) : word s t < 4294967296 := by
  have hb : ∀ i, s.getD i 0 < 256 := fun i => by
    rw [List.getD_eq_getElem?_getD]
    cases e : s[i]? with
    | none => simp
    | some x => exact h x (List.mem_of_getElem? e)
  have h0 := hb (4 * t); have h1 := hb (4 * t + 1); have h2 := hb (4 * t + 2); have h3 := hb (4 * t + 3)
  exact or_lt (or_lt (or_lt (by omega) (by omega)) (by omega)) (by omega)
theorem grow_lt {w : List Nat} (h : ∀ x ∈ w, x < 4294967296) (n : Nat) : ∀ x ∈ grow n w, x < 4294967296 := by
  induction n with
  | zero => exact h
  | succ n ih =>
    intro x hx
    simp only [grow, List.mem_append, List.mem_singleton] at hx
    rcases hx with hx | rfl
    · exact ih x hx
    · exact next_lt _
theorem w16_lt {s : List Nat} (h : ∀ x ∈ s, x < 256) : ∀ x ∈ w16 s, x < 4294967296 := by
  intro x hx
  obtain ⟨t, _, rfl⟩ := List.mem_map.1 hx
  exact word_lt h t

/-! ### The walk's own spelling -/
theorem rotr_walk (x : Nat) (k : Int) (hx : x < 4294967296) (hk : 0 ≤ k) :
    bits .or .u32 ((x : Int) / 2 ^ k.toNat) ((x : Int) * 2 ^ (32 - k).toNat % 4294967296) = ((rotr x k.toNat : Nat) : Int) := by
  have e1 : (x : Int) / 2 ^ k.toNat = ((x / 2 ^ k.toNat : Nat) : Int) := by simp
  have e2 : (x : Int) * 2 ^ (32 - k).toNat % 4294967296 = ((x * 2 ^ (32 - k.toNat) % 4294967296 : Nat) : Int) := by
    rw [show (32 - k).toNat = 32 - k.toNat from by omega]; simp
  rw [e1, e2, u32_or_nat _ _ (div_lt hx) (Nat.mod_lt _ (by omega))]
  rfl

theorem u32_wrap_nat (n : Nat) : IntKind.u32.wrap (n : Int) = ((n % 4294967296 : Nat) : Int) := by rw [IntKind.wrap_u32]; omega

theorem word_walk (x0 x1 x2 x3 : Nat) (h0 : x0 < 256) (h1 : x1 < 256) (h2 : x2 < 256) (h3 : x3 < 256) :
    bits .or .u32 (bits .or .u32 (bits .or .u32 (IntKind.u32.wrap (IntKind.u32.wrap (x0 : Int) * 16777216)) (IntKind.u32.wrap (IntKind.u32.wrap (x1 : Int) * 65536))) (IntKind.u32.wrap (IntKind.u32.wrap (x2 : Int) * 256))) (IntKind.u32.wrap (x3 : Int)) =
      ((((x0 * 16777216 ||| x1 * 65536) ||| x2 * 256) ||| x3 : Nat) : Int) := by
  have e0 : IntKind.u32.wrap (IntKind.u32.wrap (x0 : Int) * 16777216) = ((x0 * 16777216 : Nat) : Int) := by simp only [IntKind.wrap_u32]; omega
  have e1 : IntKind.u32.wrap (IntKind.u32.wrap (x1 : Int) * 65536) = ((x1 * 65536 : Nat) : Int) := by simp only [IntKind.wrap_u32]; omega
  have e2 : IntKind.u32.wrap (IntKind.u32.wrap (x2 : Int) * 256) = ((x2 * 256 : Nat) : Int) := by simp only [IntKind.wrap_u32]; omega
  have e3 : IntKind.u32.wrap (x3 : Int) = (x3 : Int) := by simp only [IntKind.wrap_u32]; omega
  rw [e0, e1, e2, e3, u32_or_nat _ _ (by omega) (by omega), u32_or_nat _ _ (or_lt (by omega) (by omega)) (by omega), u32_or_nat _ _ (or_lt (or_lt (by omega) (by omega)) (by omega)) (by omega)]

theorem next_walk (x0 x1 x2 x3 : Nat) (h1 : x1 < 4294967296) (h3 : x3 < 4294967296) :
    IntKind.u32.wrap (IntKind.u32.wrap (IntKind.u32.wrap ((x0 : Int) + bits .xor .u32 (bits .xor .u32 ((rotr x1 7 : Nat) : Int) ((rotr x1 18 : Nat) : Int)) ((x1 : Int) / 8)) + (x2 : Int)) +
      bits .xor .u32 (bits .xor .u32 ((rotr x3 17 : Nat) : Int) ((rotr x3 19 : Nat) : Int)) ((x3 : Int) / 1024)) = (((x0 + sg0 x1 + x2 + sg1 x3) % 4294967296 : Nat) : Int) := by
  have e1 : (x1 : Int) / 8 = ((x1 / 8 : Nat) : Int) := by omega
  have e3 : (x3 : Int) / 1024 = ((x3 / 1024 : Nat) : Int) := by omega
  rw [e1, e3, u32_xor_nat _ _ (rotr_lt h1) (rotr_lt h1), u32_xor_nat _ _ (xor_lt (rotr_lt h1) (rotr_lt h1)) (div_lt h1), u32_xor_nat _ _ (rotr_lt h3) (rotr_lt h3), u32_xor_nat _ _ (xor_lt (rotr_lt h3) (rotr_lt h3)) (div_lt h3)]
  show IntKind.u32.wrap (IntKind.u32.wrap (IntKind.u32.wrap ((x0 : Int) + ((sg0 x1 : Nat) : Int)) + (x2 : Int)) + ((sg1 x3 : Nat) : Int)) = _
  simp only [IntKind.wrap_u32]
  omega

theorem t1_walk (s : St) (kr wt : Nat) (he : s.e < 4294967296) (hf : s.f < 4294967296) (hg : s.g < 4294967296) :
    IntKind.u32.wrap (IntKind.u32.wrap (IntKind.u32.wrap (IntKind.u32.wrap ((s.h : Int) + bits .xor .u32 (bits .xor .u32 ((rotr s.e 6 : Nat) : Int) ((rotr s.e 11 : Nat) : Int)) ((rotr s.e 25 : Nat) : Int)) +
      bits .xor .u32 (bits .and .u32 (s.e : Int) (s.f : Int)) (bits .and .u32 (bits .xor .u32 IntKind.u32.max (s.e : Int)) (s.g : Int))) + (kr : Int)) + (wt : Int)) = ((t1 s kr wt : Nat) : Int) := by
  have em : IntKind.u32.max = ((4294967295 : Nat) : Int) := rfl
  rw [em, u32_xor_nat _ _ (rotr_lt he) (rotr_lt he), u32_xor_nat _ _ (xor_lt (rotr_lt he) (rotr_lt he)) (rotr_lt he), u32_and_nat _ _ he hf, u32_xor_nat _ _ (by omega) he, u32_and_nat _ _ (xor_lt (by omega) he) hg,
    u32_xor_nat _ _ (and_lt hf) (and_lt hg)]
  show IntKind.u32.wrap (IntKind.u32.wrap (IntKind.u32.wrap (IntKind.u32.wrap ((s.h : Int) + ((bs1 s.e : Nat) : Int)) + ((ch s.e s.f s.g : Nat) : Int)) + (kr : Int)) + (wt : Int)) = _
  simp only [IntKind.wrap_u32, t1]
  omega

theorem t2_walk (s : St) (ha : s.a < 4294967296) (hb : s.b < 4294967296) (hc : s.c < 4294967296) :
    IntKind.u32.wrap (bits .xor .u32 (bits .xor .u32 ((rotr s.a 2 : Nat) : Int) ((rotr s.a 13 : Nat) : Int)) ((rotr s.a 22 : Nat) : Int) +
      bits .xor .u32 (bits .xor .u32 (bits .and .u32 (s.a : Int) (s.b : Int)) (bits .and .u32 (s.a : Int) (s.c : Int))) (bits .and .u32 (s.b : Int) (s.c : Int))) = ((t2 s : Nat) : Int) := by
  rw [u32_xor_nat _ _ (rotr_lt ha) (rotr_lt ha), u32_xor_nat _ _ (xor_lt (rotr_lt ha) (rotr_lt ha)) (rotr_lt ha), u32_and_nat _ _ ha hb, u32_and_nat _ _ ha hc, u32_and_nat _ _ hb hc,
    u32_xor_nat _ _ (and_lt hb) (and_lt hc), u32_xor_nat _ _ (xor_lt (and_lt hb) (and_lt hc)) (and_lt hc)]
  show IntKind.u32.wrap (((bs0 s.a : Nat) : Int) + ((maj s.a s.b s.c : Nat) : Int)) = _
  simp only [IntKind.wrap_u32, t2]
  omega
theorem t2_walk' (s : St) (ha : s.a < 4294967296) (hb : s.b < 4294967296) (hc : s.c < 4294967296) :
    (bits .xor .u32 (bits .xor .u32 ((rotr s.a 2 : Nat) : Int) ((rotr s.a 13 : Nat) : Int)) ((rotr s.a 22 : Nat) : Int) +
      bits .xor .u32 (bits .xor .u32 (bits .and .u32 (s.a : Int) (s.b : Int)) (bits .and .u32 (s.a : Int) (s.c : Int))) (bits .and .u32 (s.b : Int) (s.c : Int))) % 4294967296 = ((t2 s : Nat) : Int) := by
  rw [← IntKind.wrap_u32]; exact t2_walk s ha hb hc
theorem sum_walk (a b : Nat) : IntKind.u32.wrap ((a : Int) + (b : Int)) = (((a + b) % 4294967296 : Nat) : Int) := by simp only [IntKind.wrap_u32]; omega
end Go.Proofs.Ythkaigokcognmaa.Sha
