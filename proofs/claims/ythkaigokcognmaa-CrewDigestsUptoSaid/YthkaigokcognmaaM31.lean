/- A part of the proof of CrewDigestsUpto (no statement of its own): Pblockx, Mem, Spec, Sha1, Ref1. -/
import Derived.Test.YthkaigokcognmaaM30
import Derived.Test.YthkaigokcognmaaRows
import Derived.WalkKit
import Derived.Deep.Draws
import Derived.Laws.BitsAllLaws
import Derived.Laws.Bits64
import Derived.StillTailTactics
import Derived.Great.BuildSlice
import Derived.Deep.DeepCutAuto
import Derived.Deep.WholeRow
import Derived.Outline
import Derived.Deep.QuietTactic
import Derived.BigQuiet
import Derived.BigRegion
import Derived.WalkSpells
import Derived.WalkLawsBesides
import Derived.Lib.Hide
section
end
section
namespace Go.Proofs.Ythkaigokcognmaa
open Go.RowKit
structure Fr (S : List Nat) (w w' : World) : Prop where
 os : w'.os = w.os
 tape : w'.tape = w.tape
 output : w'.output = w.output
 size : w.heap.size ≤ w'.heap.size
 block : ∀ k, k < w.heap.size → k ∉ S → w'.heap[k]? = w.heap[k]?
theorem Fr.refl (S : List Nat) (w : World) : Fr S w w := ⟨rfl, rfl, rfl, Nat.le_refl _, fun _ _ _ => rfl⟩
theorem Fr.trans {S S' : List Nat} {a b c : World} (h : Fr S a b) (k : Fr S' b c) (hs : ∀ x ∈ S', x ∈ S ∨ a.heap.size ≤ x) : Fr S a c :=
 ⟨k.os.trans h.os, k.tape.trans h.tape, k.output.trans h.output, Nat.le_trans h.size k.size, fun i hi hn =>
  (k.block i (Nat.lt_of_lt_of_le hi h.size) fun hm => by
   rcases hs i hm with h1 | h1
   ·exact hn h1
   ·omega).trans (h.block i hi hn)⟩
theorem Fr.drew {S : List Nat} {a w : World} (h : Fr S a w) : Fr S a w.drew := ⟨h.os, h.tape, h.output, h.size, h.block⟩
theorem Fr.drewN {S : List Nat} {a w : World} (h : Fr S a w) (n : Nat) : Fr S a (w.drewN n) := ⟨h.os, h.tape, h.output, h.size, h.block⟩
theorem Fr.alloc {S : List Nat} {a w : World} (h : Fr S a w) (o : Obj) : Fr S a (w.alloc o) :=
 ⟨h.os, h.tape, h.output, Nat.le_trans h.size (by simp), fun k hk hn => (Below.heap_alloc w o k (Nat.lt_of_lt_of_le hk h.size)).trans (h.block k hk hn)⟩
theorem Fr.setCell {S : List Nat} {a w : World} (h : Fr S a w) {p : Addr} (hp : p.block ∈ S ∨ a.heap.size ≤ p.block) (u : Value) : Fr S a (w.setCell p u) :=
 ⟨h.os, h.tape, h.output, Nat.le_trans h.size (by simp), fun k hk hn => (Below.heap_setCell w p u k fun e => by
  subst e
  rcases hp with h1 | h1
  ·exact hn h1
  ·omega).trans (h.block k hk hn)⟩
theorem Fr.grown {S : List Nat} {a w w' : World} {row : Option Nat} (h : Fr S a w) (hg : w.grownBy w' row) (hr : ∀ k, row = some k → k ∈ S ∨ a.heap.size ≤ k) : Fr S a w' :=
 ⟨hg.os.trans h.os, hg.tape.trans h.tape, hg.output.trans h.output, Nat.le_trans h.size hg.size, fun k hk hn =>
  (hg.block k (Nat.lt_of_lt_of_le hk h.size) fun e => by
   rcases hr k e.symm with h1 | h1
   ·exact hn h1
   ·omega).trans (h.block k hk hn)⟩
theorem Fr.setRow {S : List Nat} {a w : World} (h : Fr S a w) {g : Nat} (hp : g ∈ S ∨ a.heap.size ≤ g) (cs : Array Value) : Fr S a (w.setRow g cs) :=
 ⟨h.os, h.tape, h.output, Nat.le_trans h.size (by simp [World.setRow]), fun k hk hn => (setRow_other w g k cs fun e => by
  subst e
  rcases hp with h1 | h1
  ·exact hn h1
  ·omega).trans (h.block k hk hn)⟩
theorem Fr.below {S : List Nat} {w w' : World} (h : Fr S w w') {B : Nat} (hB : B ≤ w.heap.size) (hs : ∀ k ∈ S, B ≤ k) : Below B w w' :=
 ⟨h.os, h.tape, h.output, h.size, fun k hk => h.block k (by omega) fun hm => by have := hs k hm; omega⟩
theorem Fr.ofBelow {w w' : World} (h : Below w.heap.size w w') : Fr [] w w' := ⟨h.os, h.tape, h.output, h.size, fun k hk _ => h.block k hk⟩
def Blk (w : World) (g : Nat) (t : TypeId) (cs : Array Value) : Prop := w.heap[g]? = some (.cells cs t (0, 0))
section
variable {w w' : World} {g : Nat} {t : TypeId} {cs : Array Value}
theorem Blk.lt (h : Blk w g t cs) : g < w.heap.size := by
 rcases Nat.lt_or_ge g w.heap.size with hlt | hge
 ·exact hlt
 ·unfold Blk at h; rw [Array.getElem?_eq_none hge] at h; cases h
theorem Blk.cell (h : Blk w g t cs) (i : Nat) : w.cell? ⟨g, i, none⟩ = cs[i]? := cell_of_row w g i cs t (0, 0) h
theorem Blk.frozen (h : Blk w g t cs) (i : Nat) : w.frozen? ⟨g, i, none⟩ = false := by
 unfold Blk at h
 simp [World.frozen?, h]
theorem Blk.new (w : World) (t : TypeId) (cs : Array Value) : Blk (w.alloc (.cells cs t)) w.heap.size t cs := heap_alloc_new w _
theorem Blk.drewN (h : Blk w g t cs) (n : Nat) : Blk (w.drewN n) g t cs := h
theorem Blk.alloc (h : Blk w g t cs) (o : Obj) : Blk (w.alloc o) g t cs := (Below.heap_alloc w o g h.lt).trans h
theorem Blk.set_ (h : Blk w g t cs) (i : Nat) (u : Value) : Blk (w.setCell ⟨g, i, none⟩ u) g t (cs.setIfInBounds i u) := by
 unfold Blk at h ⊢
 simp [World.setCell, Array.getElem?_modify, h]
theorem Blk.fr {S : List Nat} (h : Blk w g t cs) (hf : Fr S w w') (hg : g ∉ S) : Blk w' g t cs := (hf.block g h.lt hg).trans h
end
theorem Fr.step {S : List Nat} {a b c : World} (h : Fr [] a b) (k : Fr S b c) (hs : ∀ x ∈ S, a.heap.size ≤ x) : Fr [] a c := h.trans k fun x hx => .inr (hs x hx)
end Go.Proofs.Ythkaigokcognmaa
end
section
namespace Go.Proofs.Ythkaigokcognmaa.Sha
def rotr (x k : Nat) : Nat := (x / 2 ^ k) ||| (x * 2 ^ (32 - k) % 4294967296)
def sg0 (x : Nat) : Nat := rotr x 7 ^^^ rotr x 18 ^^^ x / 8
def sg1 (x : Nat) : Nat := rotr x 17 ^^^ rotr x 19 ^^^ x / 1024
def bs0 (x : Nat) : Nat := rotr x 2 ^^^ rotr x 13 ^^^ rotr x 22
def bs1 (x : Nat) : Nat := rotr x 6 ^^^ rotr x 11 ^^^ rotr x 25
def ch (e f g : Nat) : Nat := (e &&& f) ^^^ ((4294967295 ^^^ e) &&& g)
def maj (a b c : Nat) : Nat := (a &&& b) ^^^ (a &&& c) ^^^ (b &&& c)
def word (s : List Nat) (t : Nat) : Nat := ((s.getD (4 * t) 0 * 16777216 ||| s.getD (4 * t + 1) 0 * 65536) ||| s.getD (4 * t + 2) 0 * 256) ||| s.getD (4 * t + 3) 0
def next (w : List Nat) : Nat := (w.getD (w.length - 16) 0 + sg0 (w.getD (w.length - 15) 0) + w.getD (w.length - 7) 0 + sg1 (w.getD (w.length - 2) 0)) % 4294967296
def grow : Nat → List Nat → List Nat
 | 0, w => w
 | n + 1, w => grow n w ++ [next (grow n w)]
def w16 (s : List Nat) : List Nat := (List.range 16).map (word s)
def sched (s : List Nat) : List Nat := grow 48 (w16 s)
structure St where
 a : Nat
 b : Nat
 c : Nat
 d : Nat
 e : Nat
 f : Nat
 g : Nat
 h : Nat
def St.list (s : St) : List Nat := [s.a, s.b, s.c, s.d, s.e, s.f, s.g, s.h]
def St.ok (s : St) : Prop := s.a < 4294967296 ∧ s.b < 4294967296 ∧ s.c < 4294967296 ∧ s.d < 4294967296 ∧ s.e < 4294967296 ∧ s.f < 4294967296 ∧ s.g < 4294967296 ∧ s.h < 4294967296
def t1 (s : St) (k w : Nat) : Nat := (s.h + bs1 s.e + ch s.e s.f s.g + k + w) % 4294967296
def t2 (s : St) : Nat := (bs0 s.a + maj s.a s.b s.c) % 4294967296
def round (s : St) (k w : Nat) : St := ⟨(t1 s k w + t2 s) % 4294967296, s.a, s.b, s.c, (s.d + t1 s k w) % 4294967296, s.e, s.f, s.g⟩
def rounds (ks ws : List Nat) : Nat → St → St
 | 0, s => s
 | n + 1, s => round (rounds ks ws n s) (ks.getD n 0) (ws.getD n 0)
def St.add (s t : St) : St := ⟨(s.a + t.a) % 4294967296, (s.b + t.b) % 4294967296, (s.c + t.c) % 4294967296, (s.d + t.d) % 4294967296, (s.e + t.e) % 4294967296, (s.f + t.f) % 4294967296, (s.g + t.g) % 4294967296, (s.h + t.h) % 4294967296⟩
def K : List Nat := [
 0x428a2f98, 0x71374491, 0xb5c0fbcf, 0xe9b5dba5, 0x3956c25b, 0x59f111f1, 0x923f82a4, 0xab1c5ed5,
 0xd807aa98, 0x12835b01, 0x243185be, 0x550c7dc3, 0x72be5d74, 0x80deb1fe, 0x9bdc06a7, 0xc19bf174,
 0xe49b69c1, 0xefbe4786, 0x0fc19dc6, 0x240ca1cc, 0x2de92c6f, 0x4a7484aa, 0x5cb0a9dc, 0x76f988da,
 0x983e5152, 0xa831c66d, 0xb00327c8, 0xbf597fc7, 0xc6e00bf3, 0xd5a79147, 0x06ca6351, 0x14292967,
 0x27b70a85, 0x2e1b2138, 0x4d2c6dfc, 0x53380d13, 0x650a7354, 0x766a0abb, 0x81c2c92e, 0x92722c85,
 0xa2bfe8a1, 0xa81a664b, 0xc24b8b70, 0xc76c51a3, 0xd192e819, 0xd6990624, 0xf40e3585, 0x106aa070,
 0x19a4c116, 0x1e376c08, 0x2748774c, 0x34b0bcb5, 0x391c0cb3, 0x4ed8aa4a, 0x5b9cca4f, 0x682e6ff3,
 0x748f82ee, 0x78a5636f, 0x84c87814, 0x8cc70208, 0x90befffa, 0xa4506ceb, 0xbef9a3f7, 0xc67178f2]
def H0 : St := ⟨0x6a09e667, 0xbb67ae85, 0x3c6ef372, 0xa54ff53a, 0x510e527f, 0x9b05688c, 0x1f83d9ab, 0x5be0cd19⟩
def block (st : St) (s : List Nat) : St := st.add (rounds K (sched s) 64 st)
theorem or_lt {a b : Nat} (ha : a < 4294967296) (hb : b < 4294967296) : a ||| b < 4294967296 := Nat.or_lt_two_pow (n := 32) ha hb
theorem and_lt {a b : Nat} (hb : b < 4294967296) : a &&& b < 4294967296 := Nat.and_lt_two_pow (n := 32) a hb
theorem xor_lt {a b : Nat} (ha : a < 4294967296) (hb : b < 4294967296) : a ^^^ b < 4294967296 := Nat.xor_lt_two_pow (n := 32) ha hb
theorem div_lt {a k : Nat} (ha : a < 4294967296) : a / k < 4294967296 := Nat.lt_of_le_of_lt (Nat.div_le_self _ _) ha
theorem rotr_lt {x k : Nat} (hx : x < 4294967296) : rotr x k < 4294967296 := or_lt (div_lt hx) (Nat.mod_lt _ (by omega))
theorem sg0_lt {x : Nat} (hx : x < 4294967296) : sg0 x < 4294967296 := xor_lt (xor_lt (rotr_lt hx) (rotr_lt hx)) (div_lt hx)
theorem sg1_lt {x : Nat} (hx : x < 4294967296) : sg1 x < 4294967296 := xor_lt (xor_lt (rotr_lt hx) (rotr_lt hx)) (div_lt hx)
theorem bs0_lt {x : Nat} (hx : x < 4294967296) : bs0 x < 4294967296 := xor_lt (xor_lt (rotr_lt hx) (rotr_lt hx)) (rotr_lt hx)
theorem bs1_lt {x : Nat} (hx : x < 4294967296) : bs1 x < 4294967296 := xor_lt (xor_lt (rotr_lt hx) (rotr_lt hx)) (rotr_lt hx)
theorem ch_lt {e f g : Nat} (hf : f < 4294967296) (hg : g < 4294967296) : ch e f g < 4294967296 := xor_lt (and_lt hf) (and_lt hg)
theorem maj_lt {a b c : Nat} (hb : b < 4294967296) (hc : c < 4294967296) : maj a b c < 4294967296 := xor_lt (xor_lt (and_lt hb) (and_lt hc)) (and_lt hc)
theorem t1_lt (s : St) (k w : Nat) : t1 s k w < 4294967296 := Nat.mod_lt _ (by omega)
theorem next_lt (w : List Nat) : next w < 4294967296 := Nat.mod_lt _ (by omega)
theorem round_ok {s : St} (h : s.ok) (k w : Nat) : (round s k w).ok := by
 obtain ⟨h1, h2, h3, h4, h5, h6, h7, h8⟩ := h
 exact ⟨Nat.mod_lt _ (by omega), h1, h2, h3, Nat.mod_lt _ (by omega), h5, h6, h7⟩
theorem rounds_ok {s : St} (h : s.ok) (ks ws : List Nat) : ∀ n, (rounds ks ws n s).ok
 | 0 => h
 | n + 1 => round_ok (rounds_ok h ks ws n) _ _
theorem add_ok (s t : St) : (s.add t).ok := by
 refine ⟨?_, ?_, ?_, ?_, ?_, ?_, ?_, ?_⟩ <;> exact Nat.mod_lt _ (by omega)
theorem block_ok (st : St) (s : List Nat) : (block st s).ok := add_ok _ _
theorem grow_len (n : Nat) (w : List Nat) : (grow n w).length = n + w.length := by
 induction n with
 | zero => simp [grow]
 | succ n ih => simp [grow, ih]; omega
theorem w16_len (s : List Nat) : (w16 s).length = 16 := by simp [w16]
theorem sched_len (s : List Nat) : (sched s).length = 64 := by simp [sched, grow_len, w16_len]
theorem word_lt {s : List Nat} (h : ∀ x ∈ s, x < 256) (t : Nat) : word s t < 4294967296 := by
 have hb : ∀ i, s.getD i 0 < 256 := fun i => by
  rw [List.getD_eq_getElem?_getD]
  cases e : s[i]? with
  | none => simp
  | some x => exact h x (List.mem_of_getElem? e)
 have h0 := hb (4 * t); have h1 := hb (4 * t + 1); have h2 := hb (4 * t + 2); have h3 := hb (4 * t + 3)
 exact or_lt (or_lt (or_lt (by omega) (by omega)) (by omega)) (by omega)
theorem grow_lt {w : List Nat} (h : ∀ x ∈ w, x < 4294967296) (n : Nat) : ∀ x ∈ grow n w, x < 4294967296 := by
 induction n with
 | zero => exact h
 | succ n ih =>
  intro x hx
  simp only [grow, List.mem_append, List.mem_singleton] at hx
  rcases hx with hx | rfl
  ·exact ih x hx
  ·exact next_lt _
theorem w16_lt {s : List Nat} (h : ∀ x ∈ s, x < 256) : ∀ x ∈ w16 s, x < 4294967296 := by
 intro x hx
 obtain ⟨t, _, rfl⟩ := List.mem_map.1 hx
 exact word_lt h t
theorem rotr_walk (x : Nat) (k : Int) (hx : x < 4294967296) (hk : 0 ≤ k) :
  bits .or .u32 ((x : Int) / 2 ^ k.toNat) ((x : Int) * 2 ^ (32 - k).toNat % 4294967296) = ((rotr x k.toNat : Nat) : Int) := by
 have e1 : (x : Int) / 2 ^ k.toNat = ((x / 2 ^ k.toNat : Nat) : Int) := by simp
 have e2 : (x : Int) * 2 ^ (32 - k).toNat % 4294967296 = ((x * 2 ^ (32 - k.toNat) % 4294967296 : Nat) : Int) := by
  rw [show (32 - k).toNat = 32 - k.toNat from by omega]; simp
 rw [e1, e2, u32_or_nat _ _ (div_lt hx) (Nat.mod_lt _ (by omega))]
 rfl
theorem word_walk (x0 x1 x2 x3 : Nat) (h0 : x0 < 256) (h1 : x1 < 256) (h2 : x2 < 256) (h3 : x3 < 256) :
  bits .or .u32 (bits .or .u32 (bits .or .u32 (IntKind.u32.wrap (IntKind.u32.wrap (x0 : Int) * 16777216)) (IntKind.u32.wrap (IntKind.u32.wrap (x1 : Int) * 65536))) (IntKind.u32.wrap (IntKind.u32.wrap (x2 : Int) * 256))) (IntKind.u32.wrap (x3 : Int)) =
   ((((x0 * 16777216 ||| x1 * 65536) ||| x2 * 256) ||| x3 : Nat) : Int) := by
 have e0 : IntKind.u32.wrap (IntKind.u32.wrap (x0 : Int) * 16777216) = ((x0 * 16777216 : Nat) : Int) := by simp only [IntKind.wrap_u32]; omega
 have e1 : IntKind.u32.wrap (IntKind.u32.wrap (x1 : Int) * 65536) = ((x1 * 65536 : Nat) : Int) := by simp only [IntKind.wrap_u32]; omega
 have e2 : IntKind.u32.wrap (IntKind.u32.wrap (x2 : Int) * 256) = ((x2 * 256 : Nat) : Int) := by simp only [IntKind.wrap_u32]; omega
 have e3 : IntKind.u32.wrap (x3 : Int) = (x3 : Int) := by simp only [IntKind.wrap_u32]; omega
 rw [e0, e1, e2, e3, u32_or_nat _ _ (by omega) (by omega), u32_or_nat _ _ (or_lt (by omega) (by omega)) (by omega), u32_or_nat _ _ (or_lt (or_lt (by omega) (by omega)) (by omega)) (by omega)]
theorem next_walk (x0 x1 x2 x3 : Nat) (h1 : x1 < 4294967296) (h3 : x3 < 4294967296) :
  IntKind.u32.wrap (IntKind.u32.wrap (IntKind.u32.wrap ((x0 : Int) + bits .xor .u32 (bits .xor .u32 ((rotr x1 7 : Nat) : Int) ((rotr x1 18 : Nat) : Int)) ((x1 : Int) / 8)) + (x2 : Int)) +
   bits .xor .u32 (bits .xor .u32 ((rotr x3 17 : Nat) : Int) ((rotr x3 19 : Nat) : Int)) ((x3 : Int) / 1024)) = (((x0 + sg0 x1 + x2 + sg1 x3) % 4294967296 : Nat) : Int) := by
 have e1 : (x1 : Int) / 8 = ((x1 / 8 : Nat) : Int) := by omega
 have e3 : (x3 : Int) / 1024 = ((x3 / 1024 : Nat) : Int) := by omega
 rw [e1, e3, u32_xor_nat _ _ (rotr_lt h1) (rotr_lt h1), u32_xor_nat _ _ (xor_lt (rotr_lt h1) (rotr_lt h1)) (div_lt h1), u32_xor_nat _ _ (rotr_lt h3) (rotr_lt h3), u32_xor_nat _ _ (xor_lt (rotr_lt h3) (rotr_lt h3)) (div_lt h3)]
 show IntKind.u32.wrap (IntKind.u32.wrap (IntKind.u32.wrap ((x0 : Int) + ((sg0 x1 : Nat) : Int)) + (x2 : Int)) + ((sg1 x3 : Nat) : Int)) = _
 simp only [IntKind.wrap_u32]
 omega
theorem t1_walk (s : St) (kr wt : Nat) (he : s.e < 4294967296) (hf : s.f < 4294967296) (hg : s.g < 4294967296) :
  IntKind.u32.wrap (IntKind.u32.wrap (IntKind.u32.wrap (IntKind.u32.wrap ((s.h : Int) + bits .xor .u32 (bits .xor .u32 ((rotr s.e 6 : Nat) : Int) ((rotr s.e 11 : Nat) : Int)) ((rotr s.e 25 : Nat) : Int)) +
   bits .xor .u32 (bits .and .u32 (s.e : Int) (s.f : Int)) (bits .and .u32 (bits .xor .u32 IntKind.u32.max (s.e : Int)) (s.g : Int))) + (kr : Int)) + (wt : Int)) = ((t1 s kr wt : Nat) : Int) := by
 have em : IntKind.u32.max = ((4294967295 : Nat) : Int) := rfl
 rw [em, u32_xor_nat _ _ (rotr_lt he) (rotr_lt he), u32_xor_nat _ _ (xor_lt (rotr_lt he) (rotr_lt he)) (rotr_lt he), u32_and_nat _ _ he hf, u32_xor_nat _ _ (by omega) he, u32_and_nat _ _ (xor_lt (by omega) he) hg,
  u32_xor_nat _ _ (and_lt hf) (and_lt hg)]
 show IntKind.u32.wrap (IntKind.u32.wrap (IntKind.u32.wrap (IntKind.u32.wrap ((s.h : Int) + ((bs1 s.e : Nat) : Int)) + ((ch s.e s.f s.g : Nat) : Int)) + (kr : Int)) + (wt : Int)) = _
 simp only [IntKind.wrap_u32, t1]
 omega
theorem t2_walk (s : St) (ha : s.a < 4294967296) (hb : s.b < 4294967296) (hc : s.c < 4294967296) :
  IntKind.u32.wrap (bits .xor .u32 (bits .xor .u32 ((rotr s.a 2 : Nat) : Int) ((rotr s.a 13 : Nat) : Int)) ((rotr s.a 22 : Nat) : Int) +
   bits .xor .u32 (bits .xor .u32 (bits .and .u32 (s.a : Int) (s.b : Int)) (bits .and .u32 (s.a : Int) (s.c : Int))) (bits .and .u32 (s.b : Int) (s.c : Int))) = ((t2 s : Nat) : Int) := by
 rw [u32_xor_nat _ _ (rotr_lt ha) (rotr_lt ha), u32_xor_nat _ _ (xor_lt (rotr_lt ha) (rotr_lt ha)) (rotr_lt ha), u32_and_nat _ _ ha hb, u32_and_nat _ _ ha hc, u32_and_nat _ _ hb hc,
  u32_xor_nat _ _ (and_lt hb) (and_lt hc), u32_xor_nat _ _ (xor_lt (and_lt hb) (and_lt hc)) (and_lt hc)]
 show IntKind.u32.wrap (((bs0 s.a : Nat) : Int) + ((maj s.a s.b s.c : Nat) : Int)) = _
 simp only [IntKind.wrap_u32, t2]
 omega
theorem t2_walk' (s : St) (ha : s.a < 4294967296) (hb : s.b < 4294967296) (hc : s.c < 4294967296) :
  (bits .xor .u32 (bits .xor .u32 ((rotr s.a 2 : Nat) : Int) ((rotr s.a 13 : Nat) : Int)) ((rotr s.a 22 : Nat) : Int) +
   bits .xor .u32 (bits .xor .u32 (bits .and .u32 (s.a : Int) (s.b : Int)) (bits .and .u32 (s.a : Int) (s.c : Int))) (bits .and .u32 (s.b : Int) (s.c : Int))) % 4294967296 = ((t2 s : Nat) : Int) := by
 rw [← IntKind.wrap_u32]; exact t2_walk s ha hb hc
end Go.Proofs.Ythkaigokcognmaa.Sha
end
section
namespace Go.Proofs.Ythkaigokcognmaa.Sha
open Go.RowKit
def RightPost (x : Nat) (k : Int) (w : World) (e : Ending) (w' : World) : Prop := e = .returned (.int .u32 ((rotr x k.toNat : Nat) : Int)) ∧ ∃ n, w' = w.drewN n
theorem right_any (x : Nat) (k : Int) (w : World) (hx : x < 4294967296) (hk0 : 1 ≤ k) (hk1 : k ≤ 31) : Calls Try.prog 58 #[.int .u32 (x : Int), .int .i64 k] w (RightPost x k w) := by
 have hx0 : (0 : Int) ≤ (x : Int) := by omega
 have hx1 : (x : Int) ≤ 4294967295 := by omega
 have hfin : ∀ n, RightPost x k w (.returned (.int .u32 (bits .or .u32 ((x : Int) / 2 ^ k.toNat) ((x : Int) * 2 ^ (32 - k).toNat % 4294967296)))) (w.drewN n) :=
  fun n => ⟨by rw [rotr_walk x k hx (by omega)], n, rfl⟩
 go_enter Try.func58, Try.ntmps58
 go_wp2_with fail
 go_quiet (fail)
 go_wp2
 go_ret
 exact hfin _
def beginV : Value := .agg #[.int .u32 1779033703, .int .u32 3144134277, .int .u32 1013904242, .int .u32 2773480762, .int .u32 1359893119, .int .u32 2600822924, .int .u32 528734635, .int .u32 1541459225]
theorem begin_any (w : World) : Calls Try.prog 42 #[] w fun e w' => e = .returned beginV ∧ Fr [] w w' := by
 go_enter Try.func42, Try.ntmps42
 go_wp2
 exact bodyPost_ret (v := beginV) (by simp [results, Try.results42, go_sem, beginV]) rfl ⟨rfl, (Fr.refl _ _).alloc _⟩
def ints (l : List Nat) : List Int := l.map fun n : Nat => (n : Int)
def words (l : List Nat) : Array Value := ((ints l).map (Value.int .u32)).toArray
theorem words_get (l : List Nat) (i : Nat) : (words l)[i]? = (l[i]?).map fun n : Nat => Value.int .u32 (n : Int) := by
 simp [words, ints, List.getElem?_map, Function.comp_def]
theorem words_set (l : List Nat) (i n : Nat) : (words l).setIfInBounds i (.int .u32 (n : Int)) = words (l.set i n) := by
 simp [words, ints, List.map_set]
theorem words_cell {w : World} {g : Nat} {t : TypeId} {l : List Nat} (h : Blk w g t (words l)) {i : Nat} (hi : i < l.length) : w.cell? ⟨g, i, none⟩ = some (.int .u32 ((l.getD i 0 : Nat) : Int)) := by
 rw [h.cell, words_get, List.getElem?_eq_getElem hi, List.getD_eq_getElem?_getD, List.getElem?_eq_getElem hi]; rfl
theorem words_store {w : World} {g : Nat} {t : TypeId} {l : List Nat} (h : Blk w g t (words l)) (i n : Nat) : Blk (w.setCell ⟨g, i, none⟩ (.int .u32 (n : Int))) g t (words (l.set i n)) := by
 rw [← words_set]; exact h.set_ i _
theorem K_len : K.length = 64 := by decide
theorem words_len (l : List Nat) : (words l).size = l.length := by simp [words, ints]
set_option maxRecDepth 100000 in
theorem adds_any (w : World) : Calls Try.prog 59 #[] w fun e w' => e = .returned (.agg (words K)) ∧ Fr [] w w' := by
 go_enter Try.func59, Try.ntmps59
 go_upto_region 1 with fail
 rename_i K0 hK0
 apply wp_region_lit
 refine wpList_buildFlatArrTo rfl 75 37 64 _ rfl .u32 (ints K) (some 1) rfl Try.underlying75 (by kernel_rfl) (by kernel_rfl) (by kernel_rfl) ?_
 refine wpList_frame (a' := { tmps := #[.pointer (some ⟨w.heap.size, 0, none⟩), .agg (words K)], defers := [] }) rfl ?_
 refine wpList_store_rowTo rfl 75 _ _ rfl rfl w.heap.size (words K) rfl rfl 75 _ (heap_alloc_new w _) (by kernel_rfl) (by kernel_rfl) (by kernel_rfl) ?_
 rw [World.setRow_alloc_new]
 apply wpList_nil
 refine hK0 _ _ ?_
 go_wp2
 exact bodyPost_ret (v := .agg (words K)) (results_cell_row rfl _ _ w.heap.size 75 (words K) (0, 0) _ rfl (Blk.new w 75 (words K)) Try.underlying75 rfl (by kernel_rfl)) rfl ⟨rfl, (Fr.refl _ _).alloc _⟩
end Go.Proofs.Ythkaigokcognmaa.Sha
end
section
namespace Go.Proofs.Ythkaigokcognmaa.Sha
open Go.RowKit Go.Proofs.YthkaigokcognmaaW.PrintWords Go.Proofs.YthkaigokcognmaaW.PrintLast Go.Proofs.YthkaigokcognmaaW.PrintMore Go.Proofs.Ythkaigokcognmaa.Pblock
theorem i64_nat_and (a b : Nat) (ha : a < 9223372036854775808) (hb : b < 9223372036854775808) : bits .and .i64 (a : Int) (b : Int) = ((a &&& b : Nat) : Int) := by
 have hx : a &&& b < 2 ^ 63 := Nat.and_lt_two_pow _ (by omega)
 show IntKind.i64.wrap ((BitVec.ofInt 64 (a : Int) &&& BitVec.ofInt 64 (b : Int)).toNat : Int) = _
 rw [BitVec.toNat_and, BitVec.ofInt_natCast, BitVec.ofInt_natCast, BitVec.toNat_ofNat, BitVec.toNat_ofNat, Nat.mod_eq_of_lt (by omega), Nat.mod_eq_of_lt (by omega), i64_w]
 unfold wrap64
 omega
theorem i64_nat_or (a b : Nat) (ha : a < 9223372036854775808) (hb : b < 9223372036854775808) : bits .or .i64 (a : Int) (b : Int) = ((a ||| b : Nat) : Int) := by
 have hx : a ||| b < 2 ^ 63 := Nat.or_lt_two_pow (by omega) (by omega)
 show IntKind.i64.wrap ((BitVec.ofInt 64 (a : Int) ||| BitVec.ofInt 64 (b : Int)).toNat : Int) = _
 rw [BitVec.toNat_or, BitVec.ofInt_natCast, BitVec.ofInt_natCast, BitVec.toNat_ofNat, BitVec.toNat_ofNat, Nat.mod_eq_of_lt (by omega), Nat.mod_eq_of_lt (by omega), i64_w]
 unfold wrap64
 omega
theorem i64_nat_xor (a b : Nat) (ha : a < 9223372036854775808) (hb : b < 9223372036854775808) : bits .xor .i64 (a : Int) (b : Int) = ((a ^^^ b : Nat) : Int) := by
 have hx : a ^^^ b < 2 ^ 63 := Nat.xor_lt_two_pow (by omega) (by omega)
 show IntKind.i64.wrap ((BitVec.ofInt 64 (a : Int) ^^^ BitVec.ofInt 64 (b : Int)).toNat : Int) = _
 rw [BitVec.toNat_xor, BitVec.ofInt_natCast, BitVec.ofInt_natCast, BitVec.toNat_ofNat, BitVec.toNat_ofNat, Nat.mod_eq_of_lt (by omega), Nat.mod_eq_of_lt (by omega), i64_w]
 unfold wrap64
 omega
theorem right_f (x k : Nat) (hx : x < 4294967296) (h0 : 2 ≤ k) (h1 : k ≤ 31) : cloisterref04_right.f (x : Int) (k : Int) = some ((rotr x k : Nat) : Int) := by
 have e1 : wrap64 (32 - (k : Int)) = ((32 - k : Nat) : Int) := by unfold wrap64; omega
 have hp : 2 ^ (32 - k) ≤ 2 ^ 30 := Nat.pow_le_pow_right (by omega) (by omega)
 have hm : x * 2 ^ (32 - k) < 9223372036854775808 := by
  calc x * 2 ^ (32 - k) ≤ x * 2 ^ 30 := Nat.mul_le_mul_left _ hp
   _ < 9223372036854775808 := by omega
 have e2 : shr .i64 (x : Int) (k : Int) = ((x / 2 ^ k : Nat) : Int) := by
  unfold shr
  rw [show (min (k : Int).toNat IntKind.i64.bits) = k by simp [IntKind.bits]; omega]
  simp
 have e3 : shl .i64 (x : Int) ((32 - k : Nat) : Int) = ((x * 2 ^ (32 - k) : Nat) : Int) := by
  unfold shl
  rw [show (min ((32 - k : Nat) : Int).toNat IntKind.i64.bits) = 32 - k by simp [IntKind.bits]; omega, i64_w]
  have : (x : Int) * 2 ^ (32 - k) = ((x * 2 ^ (32 - k) : Nat) : Int) := by simp
  rw [this]
  unfold wrap64
  omega
 unfold cloisterref04_right.f
 rw [if_pos (by omega), e1, if_pos (by omega), e2, e3, i64_nat_or _ _ (by have := div_lt (k := 2 ^ k) hx; omega) hm]
 congr 1
 have e4 : (x / 2 ^ k ||| x * 2 ^ (32 - k)) % 4294967296 = rotr x k := by
  unfold rotr
  have := Nat.or_mod_two_pow (a := x / 2 ^ k) (b := x * 2 ^ (32 - k)) (n := 32)
  rw [show (2 : Nat) ^ 32 = 4294967296 from rfl, Nat.mod_eq_of_lt (a := x / 2 ^ k) (div_lt hx)] at this
  exact this
 rw [← e4]
 generalize (x / 2 ^ k ||| x * 2 ^ (32 - k)) = y
 rw [Int.tmod_eq_emod_of_nonneg (by omega)]
 omega
theorem right7 (x : Nat) (hx : x < 4294967296) : cloisterref04_right.f (x : Int) 7 = some ((rotr x 7 : Nat) : Int) := right_f x 7 hx (by omega) (by omega)
theorem right18 (x : Nat) (hx : x < 4294967296) : cloisterref04_right.f (x : Int) 18 = some ((rotr x 18 : Nat) : Int) := right_f x 18 hx (by omega) (by omega)
theorem right17 (x : Nat) (hx : x < 4294967296) : cloisterref04_right.f (x : Int) 17 = some ((rotr x 17 : Nat) : Int) := right_f x 17 hx (by omega) (by omega)
theorem right19 (x : Nat) (hx : x < 4294967296) : cloisterref04_right.f (x : Int) 19 = some ((rotr x 19 : Nat) : Int) := right_f x 19 hx (by omega) (by omega)
theorem right6 (x : Nat) (hx : x < 4294967296) : cloisterref04_right.f (x : Int) 6 = some ((rotr x 6 : Nat) : Int) := right_f x 6 hx (by omega) (by omega)
theorem right11 (x : Nat) (hx : x < 4294967296) : cloisterref04_right.f (x : Int) 11 = some ((rotr x 11 : Nat) : Int) := right_f x 11 hx (by omega) (by omega)
theorem right25 (x : Nat) (hx : x < 4294967296) : cloisterref04_right.f (x : Int) 25 = some ((rotr x 25 : Nat) : Int) := right_f x 25 hx (by omega) (by omega)
theorem right2 (x : Nat) (hx : x < 4294967296) : cloisterref04_right.f (x : Int) 2 = some ((rotr x 2 : Nat) : Int) := right_f x 2 hx (by omega) (by omega)
theorem right13 (x : Nat) (hx : x < 4294967296) : cloisterref04_right.f (x : Int) 13 = some ((rotr x 13 : Nat) : Int) := right_f x 13 hx (by omega) (by omega)
theorem right22 (x : Nat) (hx : x < 4294967296) : cloisterref04_right.f (x : Int) 22 = some ((rotr x 22 : Nat) : Int) := right_f x 22 hx (by omega) (by omega)
theorem rd_ints (l : List Nat) (i : Nat) : rd (ints l) (i : Int) = ((l.getD i 0 : Nat) : Int) := by
 unfold rd ints
 rw [List.getD_eq_getElem?_getD, List.getElem?_map, List.getD_eq_getElem?_getD, Int.toNat_natCast]
 cases l[i]? <;> rfl
theorem ints_len (l : List Nat) : (ints l).length = l.length := by simp [ints]
theorem ints_snoc (l : List Nat) (x : Nat) : ints (l ++ [x]) = ints l ++ [(x : Int)] := by simp [ints]
theorem word_sum (s : List Nat) (h : ∀ x ∈ s, x < 256) (t : Nat) :
  word s t = s.getD (4 * t) 0 * 16777216 + s.getD (4 * t + 1) 0 * 65536 + s.getD (4 * t + 2) 0 * 256 + s.getD (4 * t + 3) 0 := by
 have hb : ∀ i, s.getD i 0 < 256 := fun i => by
  rw [List.getD_eq_getElem?_getD]
  cases e : s[i]? with
  | none => simp
  | some x => exact h x (List.mem_of_getElem? e)
 have h0 := hb (4 * t); have h1 := hb (4 * t + 1); have h2 := hb (4 * t + 2); have h3 := hb (4 * t + 3)
 unfold word
 generalize s.getD (4 * t) 0 = a at *
 generalize s.getD (4 * t + 1) 0 = b at *
 generalize s.getD (4 * t + 2) 0 = c at *
 generalize s.getD (4 * t + 3) 0 = d at *
 have e1 : a * 16777216 ||| b * 65536 = a * 16777216 + b * 65536 := by
  have := Nat.two_pow_add_eq_or_of_lt (i := 24) (b := b * 65536) (by omega) a
  rw [show (2 : Nat) ^ 24 * a = a * 16777216 by omega] at this
  exact this.symm
 have e2 : (a * 16777216 + b * 65536) ||| c * 256 = a * 16777216 + b * 65536 + c * 256 := by
  have := Nat.two_pow_add_eq_or_of_lt (i := 16) (b := c * 256) (by omega) (a * 256 + b)
  rw [show (2 : Nat) ^ 16 * (a * 256 + b) = a * 16777216 + b * 65536 by omega] at this
  exact this.symm
 have e3 : (a * 16777216 + b * 65536 + c * 256) ||| d = a * 16777216 + b * 65536 + c * 256 + d := by
  have := Nat.two_pow_add_eq_or_of_lt (i := 8) (b := d) (by omega) (a * 65536 + b * 256 + c)
  rw [show (2 : Nat) ^ 8 * (a * 65536 + b * 256 + c) = a * 16777216 + b * 65536 + c * 256 by omega] at this
  exact this.symm
 rw [e1, e2, e3]
theorem w64 {x : Int} (h0 : -9223372036854775808 ≤ x) (h1 : x < 9223372036854775808) : wrap64 x = x := by unfold wrap64; omega
theorem getD_lt {s : List Nat} {m : Nat} (h : ∀ x ∈ s, x < m) (hm : 0 < m) (i : Nat) : s.getD i 0 < m := by
 rw [List.getD_eq_getElem?_getD]
 cases e : s[i]? with
 | none => simpa
 | some x => exact h x (List.mem_of_getElem? e)
theorem round0 (x0 x2 : List Int) (s : List Nat) (hs : s.length = 64) (hb : ∀ x ∈ s, x < 256) (m i : Nat) (hi : i < 16) :
  cloisterref04_block.l0 (m + 1) x0 (ints s) x2 (ints ((List.range i).map (word s))) (i : Int) = cloisterref04_block.l0 m x0 (ints s) x2 (ints ((List.range (i + 1)).map (word s))) ((i + 1 : Nat) : Int) := by
 have hl : ((ints s).length : Int) = 64 := by rw [ints_len, hs]; rfl
 have e0 : wrap64 (4 * (i : Int)) = ((4 * i : Nat) : Int) := by unfold wrap64; omega
 have e1 : wrap64 (((4 * i : Nat) : Int) + 1) = ((4 * i + 1 : Nat) : Int) := by unfold wrap64; omega
 have e2 : wrap64 (((4 * i : Nat) : Int) + 2) = ((4 * i + 2 : Nat) : Int) := by unfold wrap64; omega
 have e3 : wrap64 (((4 * i : Nat) : Int) + 3) = ((4 * i + 3 : Nat) : Int) := by unfold wrap64; omega
 have ei : wrap64 ((i : Int) + 1) = ((i + 1 : Nat) : Int) := by unfold wrap64; omega
 have h0 := getD_lt hb (by omega) (4 * i)
 have h1 := getD_lt hb (by omega) (4 * i + 1)
 have h2 := getD_lt hb (by omega) (4 * i + 2)
 have h3 := getD_lt hb (by omega) (4 * i + 3)
 have hw := word_sum s hb i
 simp only [cloisterref04_block.l0, hl, e0, e1, e2, e3, ei, rd_ints]
 rw [if_pos (by omega), if_pos (by omega), if_pos (by omega), if_pos (by omega), if_pos (by omega), if_pos (by omega), if_pos (by omega), if_pos (by omega), if_pos (by omega), if_pos (by rw [ints_len, List.length_map, List.length_range]; omega)]
 rw [List.range_succ, List.map_append, List.map_cons, List.map_nil, ints_snoc, hw]
 have hz : ∀ z z' : Int, z = z' → cloisterref04_block.l0 m x0 (ints s) x2 (ints ((List.range i).map (word s)) ++ [z]) ((i + 1 : Nat) : Int) = cloisterref04_block.l0 m x0 (ints s) x2 (ints ((List.range i).map (word s)) ++ [z']) ((i + 1 : Nat) : Int) := fun z z' h => by rw [h]
 apply hz
 clear hz
 generalize s.getD (4 * i) 0 = a at *
 generalize s.getD (4 * i + 1) 0 = b at *
 generalize s.getD (4 * i + 2) 0 = c at *
 generalize s.getD (4 * i + 3) 0 = d at *
 clear hw e0 e1 e2 e3 ei hl hi hs hb
 rw [w64 (x := (a : Int)) (by omega) (by omega), w64 (x := (b : Int)) (by omega) (by omega), w64 (x := (c : Int)) (by omega) (by omega), w64 (x := (d : Int)) (by omega) (by omega), w64 (x := (a : Int) * 16777216) (by omega) (by omega), w64 (x := (b : Int) * 65536) (by omega) (by omega), w64 (x := (c : Int) * 256) (by omega) (by omega),
  w64 (x := (a : Int) * 16777216 + (b : Int) * 65536) (by omega) (by omega), w64 (x := (a : Int) * 16777216 + (b : Int) * 65536 + (c : Int) * 256) (by omega) (by omega), w64 (by omega) (by omega)]
 omega
theorem w16_def (s : List Nat) : (List.range 16).map (word s) = w16 s := rfl
theorem loop0 (x0 : List Int) (Ks : List Int) (s : List Nat) (hs : s.length = 64) (hb : ∀ x ∈ s, x < 256) (K n : Nat) :
  ∀ i, i + n = 16 → cloisterref04_block.l0 (K + n + 1) x0 (ints s) Ks (ints ((List.range i).map (word s))) (i : Int) = cloisterref04_block.l1 K x0 Ks (ints (w16 s)) 16 := by
 induction n with
 | zero =>
  intro i h
  obtain rfl : i = 16 := by omega
  rw [w16_def, Nat.add_zero]
  generalize w16 s = ws
  rw [cloisterref04_block.l0, if_neg (by omega)]
 | succ n ih =>
  intro i h
  rw [show K + (n + 1) + 1 = (K + n + 1) + 1 by omega, round0 x0 Ks s hs hb _ i (by omega)]
  exact ih (i + 1) (by omega)
theorem sg0_i (x : Nat) (hx : x < 4294967296) : bits .xor .i64 (bits .xor .i64 ((rotr x 7 : Nat) : Int) ((rotr x 18 : Nat) : Int)) ((x : Int) / 8) = ((sg0 x : Nat) : Int) := by
 have e : (x : Int) / 8 = ((x / 8 : Nat) : Int) := by omega
 have h7 := rotr_lt (k := 7) hx
 have h18 := rotr_lt (k := 18) hx
 have hxx := xor_lt h7 h18
 have hd := div_lt (k := 8) hx
 rw [e, i64_nat_xor _ _ (by omega) (by omega), i64_nat_xor _ _ (by omega) (by omega)]
 rfl
theorem sg1_i (x : Nat) (hx : x < 4294967296) : bits .xor .i64 (bits .xor .i64 ((rotr x 17 : Nat) : Int) ((rotr x 19 : Nat) : Int)) ((x : Int) / 1024) = ((sg1 x : Nat) : Int) := by
 have e : (x : Int) / 1024 = ((x / 1024 : Nat) : Int) := by omega
 have h7 := rotr_lt (k := 17) hx
 have h18 := rotr_lt (k := 19) hx
 have hxx := xor_lt h7 h18
 have hd := div_lt (k := 1024) hx
 rw [e, i64_nat_xor _ _ (by omega) (by omega), i64_nat_xor _ _ (by omega) (by omega)]
 rfl
theorem arith1 (a b c d : Nat) (ha : a < 4294967296) (hb : b < 4294967296) (hc : c < 4294967296) (hd : d < 4294967296) :
  Int.tmod (wrap64 (wrap64 (wrap64 ((a : Int) + (b : Int)) + (c : Int)) + (d : Int))) 4294967296 = (((a + b + c + d) % 4294967296 : Nat) : Int) := by
 rw [w64 (x := (a : Int) + (b : Int)) (by omega) (by omega), w64 (x := (a : Int) + (b : Int) + (c : Int)) (by omega) (by omega), w64 (by omega) (by omega), Int.tmod_eq_emod_of_nonneg (by omega)]
 omega
theorem round1 (x0 x2 : List Int) (w : List Nat) (hb : ∀ x ∈ w, x < 4294967296) (m t : Nat) (hw : w.length = t) (h0 : 16 ≤ t) (h1 : t < 64) :
  cloisterref04_block.l1 (m + 1) x0 x2 (ints w) (t : Int) = cloisterref04_block.l1 m x0 x2 (ints (w ++ [next w])) ((t + 1 : Nat) : Int) := by
 have hl : ((ints w).length : Int) = (t : Int) := by rw [ints_len, hw]
 have e0 : wrap64 ((t : Int) - 15) = ((t - 15 : Nat) : Int) := by unfold wrap64; omega
 have e1 : wrap64 ((t : Int) - 2) = ((t - 2 : Nat) : Int) := by unfold wrap64; omega
 have e2 : wrap64 ((t : Int) - 16) = ((t - 16 : Nat) : Int) := by unfold wrap64; omega
 have e3 : wrap64 ((t : Int) - 7) = ((t - 7 : Nat) : Int) := by unfold wrap64; omega
 have ei : wrap64 ((t : Int) + 1) = ((t + 1 : Nat) : Int) := by unfold wrap64; omega
 have hg : ∀ i, w.getD i 0 < 4294967296 := fun i => getD_lt hb (by omega) i
 have HG := Lib.hid hg
 clear hg hb
 rw [cloisterref04_block.l1]
 simp only [hl, e0, e1, e2, e3, ei, rd_ints]
 clear e0 e1 e2 e3 ei hl
 rw [if_pos (by omega), if_pos (by omega), if_pos (by omega), if_pos (by omega), if_pos (by omega)]
 rw [right7 _ (HG.out _), right18 _ (HG.out _), right17 _ (HG.out _), right19 _ (HG.out _)]
 simp only [Option.bind_some]
 rw [if_pos (by omega), if_pos (by omega), if_pos (by omega), if_pos (by omega), if_pos (by rw [ints_len, hw]; omega), sg0_i _ (HG.out _), sg1_i _ (HG.out _)]
 have hz : ∀ z z' : Int, z = z' → cloisterref04_block.l1 m x0 x2 (ints w ++ [z]) ((t + 1 : Nat) : Int) = cloisterref04_block.l1 m x0 x2 (ints w ++ [z']) ((t + 1 : Nat) : Int) := fun z z' h => by rw [h]
 rw [ints_snoc]
 apply hz
 rw [next, hw]
 exact arith1 _ _ _ _ (HG.out _) (sg0_lt (HG.out _)) (HG.out _) (sg1_lt (HG.out _))
theorem loop1 (x0 x2 : List Int) (w : List Nat) (hb : ∀ x ∈ w, x < 4294967296) (hw : w.length = 16) (K n : Nat) (h8 : x0.length = 8) :
  ∀ i, i + n = 48 → cloisterref04_block.l1 (K + n + 1) x0 x2 (ints (grow i w)) ((16 + i : Nat) : Int) = cloisterref04_block.l2 K x0 x2 (ints (grow 48 w)) x0 0 := by
 induction n with
 | zero =>
  intro i h
  obtain rfl : i = 48 := by omega
  rw [Nat.add_zero]
  generalize grow 48 w = ws
  rw [cloisterref04_block.l1, if_neg (by omega), if_pos (by rw [h8]; simp), List.nil_append]
 | succ n ih =>
  intro i h
  rw [show K + (n + 1) + 1 = (K + n + 1) + 1 by omega, round1 x0 x2 (grow i w) (grow_lt hb i) _ (16 + i) (by rw [grow_len, hw]; omega) (by omega) (by omega)]
  exact ih (i + 1) (by omega)
end Go.Proofs.Ythkaigokcognmaa.Sha
end
