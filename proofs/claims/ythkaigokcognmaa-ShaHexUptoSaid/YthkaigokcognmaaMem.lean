/- Frames: which blocks a call may have turned ('Fr S w w''), and what a queue's blocks hold ('Ring', 'QRep'). No program in sight. -/
import Derived.WalkKit
import Derived.Deep.Draws
namespace Go.Proofs.Ythkaigokcognmaa
open Go.RowKit

/-- Of the blocks that were there in w only those of S may have turned. -/
structure Fr (S : List Nat) (w w' : World) : Prop where
  os : w'.os = w.os
  tape : w'.tape = w.tape
  output : w'.output = w.output
  size : w.heap.size ≤ w'.heap.size
  block : ∀ k, k < w.heap.size → k ∉ S → w'.heap[k]? = w.heap[k]?

theorem Fr.refl (S : List Nat) (w : World) : Fr S w w := ⟨rfl, rfl, rfl, Nat.le_refl _, fun _ _ _ => rfl⟩

/-- Two steps; the second may turn what the first one may, and what is new. -/
theorem Fr.trans {S S' : List Nat} {a b c : World} (h : Fr S a b) (k : Fr S' b c) (hs : ∀ x ∈ S', x ∈ S ∨ a.heap.size ≤ x) : Fr S a c :=
  ⟨k.os.trans h.os, k.tape.trans h.tape, k.output.trans h.output, Nat.le_trans h.size k.size, fun i hi hn =>
    (k.block i (Nat.lt_of_lt_of_le hi h.size) fun hm => by
      rcases hs i hm with h1 | h1
      · exact hn h1
      · omega).trans (h.block i hi hn)⟩

theorem Fr.mono {S S' : List Nat} {w w' : World} (h : Fr S w w') (hs : ∀ x ∈ S, x ∈ S') : Fr S' w w' :=
  ⟨h.os, h.tape, h.output, h.size, fun k hk hn => h.block k hk fun hm => hn (hs k hm)⟩

theorem Fr.drew {S : List Nat} {a w : World} (h : Fr S a w) : Fr S a w.drew := ⟨h.os, h.tape, h.output, h.size, h.block⟩
theorem Fr.drewN {S : List Nat} {a w : World} (h : Fr S a w) (n : Nat) : Fr S a (w.drewN n) := ⟨h.os, h.tape, h.output, h.size, h.block⟩

theorem Fr.alloc {S : List Nat} {a w : World} (h : Fr S a w) (o : Obj) : Fr S a (w.alloc o) :=
  ⟨h.os, h.tape, h.output, Nat.le_trans h.size (by simp), fun k hk hn => (Below.heap_alloc w o k (Nat.lt_of_lt_of_le hk h.size)).trans (h.block k hk hn)⟩

theorem Fr.setCell {S : List Nat} {a w : World} (h : Fr S a w) {p : Addr} (hp : p.block ∈ S ∨ a.heap.size ≤ p.block) (u : Value) : Fr S a (w.setCell p u) :=
  ⟨h.os, h.tape, h.output, Nat.le_trans h.size (by simp), fun k hk hn => (Below.heap_setCell w p u k fun e => by
    subst e
    rcases hp with h1 | h1
    · exact hn h1
    · omega).trans (h.block k hk hn)⟩

theorem Fr.grown {S : List Nat} {a w w' : World} {row : Option Nat} (h : Fr S a w) (hg : w.grownBy w' row) (hr : ∀ k, row = some k → k ∈ S ∨ a.heap.size ≤ k) : Fr S a w' :=
  ⟨hg.os.trans h.os, hg.tape.trans h.tape, hg.output.trans h.output, Nat.le_trans h.size hg.size, fun k hk hn =>
    (hg.block k (Nat.lt_of_lt_of_le hk h.size) fun e => by
      rcases hr k e.symm with h1 | h1
      · exact hn h1
      · omega).trans (h.block k hk hn)⟩

theorem Fr.setRow {S : List Nat} {a w : World} (h : Fr S a w) {g : Nat} (hp : g ∈ S ∨ a.heap.size ≤ g) (cs : Array Value) : Fr S a (w.setRow g cs) :=
  ⟨h.os, h.tape, h.output, Nat.le_trans h.size (by simp [World.setRow]), fun k hk hn => (setRow_other w g k cs fun e => by
    subst e
    rcases hp with h1 | h1
    · exact hn h1
    · omega).trans (h.block k hk hn)⟩

theorem Fr.below {S : List Nat} {w w' : World} (h : Fr S w w') {B : Nat} (hB : B ≤ w.heap.size) (hs : ∀ k ∈ S, B ≤ k) : Below B w w' :=
  ⟨h.os, h.tape, h.output, h.size, fun k hk => h.block k (by omega) fun hm => by have := hs k hm; omega⟩

theorem Fr.ofBelow {w w' : World} (h : Below w.heap.size w w') : Fr [] w w' := ⟨h.os, h.tape, h.output, h.size, fun k hk _ => h.block k hk⟩

/-- A block that is known whole, none of its cells frozen. -/
def Blk (w : World) (g : Nat) (t : TypeId) (cs : Array Value) : Prop := w.heap[g]? = some (.cells cs t (0, 0))

section
variable {w w' : World} {g : Nat} {t : TypeId} {cs : Array Value}
theorem Blk.lt (h : Blk w g t cs) : g < w.heap.size := by
  rcases Nat.lt_or_ge g w.heap.size with hlt | hge
  · exact hlt
  · unfold Blk at h; rw [Array.getElem?_eq_none hge] at h; cases h
theorem Blk.cell (h : Blk w g t cs) (i : Nat) : w.cell? ⟨g, i, none⟩ = cs[i]? := cell_of_row w g i cs t (0, 0) h
theorem Blk.frozen (h : Blk w g t cs) (i : Nat) : w.frozen? ⟨g, i, none⟩ = false := by
  unfold Blk at h
  simp [World.frozen?, h]
theorem Blk.new (w : World) (t : TypeId) (cs : Array Value) : Blk (w.alloc (.cells cs t)) w.heap.size t cs := heap_alloc_new w _
theorem Blk.drew (h : Blk w g t cs) : Blk w.drew g t cs := h
theorem Blk.drewN (h : Blk w g t cs) (n : Nat) : Blk (w.drewN n) g t cs := h
theorem Blk.alloc (h : Blk w g t cs) (o : Obj) : Blk (w.alloc o) g t cs := (Below.heap_alloc w o g h.lt).trans h
theorem Blk.set_ (h : Blk w g t cs) (i : Nat) (u : Value) : Blk (w.setCell ⟨g, i, none⟩ u) g t (cs.setIfInBounds i u) := by
  unfold Blk at h ⊢
  simp [World.setCell, Array.getElem?_modify, h]
theorem Blk.far (h : Blk w g t cs) {p : Addr} (hp : g ≠ p.block) (u : Value) : Blk (w.setCell p u) g t cs := (Below.heap_setCell w p u g hp).trans h
theorem Blk.fr {S : List Nat} (h : Blk w g t cs) (hf : Fr S w w') (hg : g ∉ S) : Blk w' g t cs := (hf.block g h.lt hg).trans h
theorem Blk.grown {row : Option Nat} (h : Blk w g t cs) (hb : w.grownBy w' row) (hg : some g ≠ row) : Blk w' g t cs := (hb.block g h.lt hg).trans h
theorem Blk.ne_ {g' : Nat} {t' : TypeId} {cs' : Array Value} (h : Blk w g t cs) (h' : Blk w g' t' cs') (hne : t ≠ t') : g ≠ g' := by
  rintro rfl
  unfold Blk at h h'
  rw [h] at h'
  injection h' with h'
  injection h' with _ ht
  exact hne ht
end

/-- A row of the call's own lies in no block that was there. -/
theorem own_ne {w : World} {base : Nat} {e : TypeId} {size n : Nat} {v : Value} {xs : List Value} (h : w.ownsRow base e size v n xs) {k : Nat} (hk : k < base) : v.ownBlock ≠ some k := by
  rcases h.2 with ⟨rfl, _⟩ | ⟨g', cap', cur', rfl, hg', _⟩
  · simp [Value.ownBlock]
  · simp [Value.ownBlock]; omega

theorem own_ge {w : World} {base : Nat} {e : TypeId} {size n : Nat} {v : Value} {xs : List Value} (h : w.ownsRow base e size v n xs) : ∀ k, v.ownBlock = some k → base ≤ k := by
  intro k hk
  rcases h.2 with ⟨rfl, _⟩ | ⟨g', cap', cur', rfl, hg', _⟩
  · simp [Value.ownBlock] at hk
  · simp [Value.ownBlock] at hk; omega

/-- A row of the call's own as a slice value. -/
theorem own_slice {w : World} {base : Nat} {e : TypeId} {n : Nat} {v : Value} {xs : List Value} (h : w.ownsRow base e 1 v n xs) :
    ∃ sp cap, v = .slice sp n cap ∧ (0 < n → ∃ ad, sp = some ad ∧ ∀ j u, xs[j]? = some u → w.cell? (ad.add j) = some u) := by
  rcases h.2 with ⟨rfl, rfl⟩ | ⟨g', cap', cur', rfl, hg', _⟩
  · exact ⟨none, 0, rfl, fun h => absurd h (by omega)⟩
  · exact ⟨_, cap', rfl, fun _ => ⟨_, rfl, h.cells (g := g') rfl⟩⟩

/-- The block of a row of the call's own, known whole. -/
theorem own_blk {w : World} {base : Nat} {e : TypeId} {n g cap : Nat} {xs : List Value} (h : w.ownsRow base e 1 (.slice (some ⟨g, 0, none⟩) n cap) n xs) :
    ∃ cur, Blk w g e cur ∧ cur.size = cap ∧ n ≤ cap ∧ cur.toList.take n = xs ∧ base ≤ g := by
  rcases h.2 with ⟨h1, _⟩ | ⟨g', cap', cur, h1, hb, hg, h2, _, h3, h4⟩
  · simp at h1
  · simp only [Value.slice.injEq, Option.some.injEq, Addr.mk.injEq, and_true, true_and] at h1
    obtain ⟨rfl, rfl⟩ := h1
    exact ⟨cur, hg, by omega, h2, by simpa using h4, hb⟩

/-- A slice value that reads as a list; 'gs': the block that it lies in (none, if it is empty). -/
def Sl {α : Type} (V : α → Value) (w : World) (v : Value) (xs : List α) (gs : List Nat) : Prop :=
  ∃ sp cap, v = .slice sp xs.length cap ∧ xs.length ≤ cap ∧ (0 < xs.length → ∃ g o, sp = some ⟨g, o, none⟩ ∧ gs = [g] ∧ ∀ i, i < xs.length → w.cell? ⟨g, o + i, none⟩ = (xs[i]?).map V)

theorem Sl.fr {α : Type} {V : α → Value} {w w' : World} {v : Value} {xs : List α} {gs S : List Nat} (h : Sl V w v xs gs) (hf : Fr S w w') (hs : ∀ k ∈ gs, k ∉ S) : Sl V w' v xs gs := by
  obtain ⟨sp, cap, h1, h2, h3⟩ := h
  refine ⟨sp, cap, h1, h2, fun hp => ?_⟩
  obtain ⟨g, o, e1, rfl, hc⟩ := h3 hp
  refine ⟨g, o, e1, rfl, fun i hi => ?_⟩
  have hcell := hc i hi
  have hlt : g < w.heap.size := by
    rw [List.getElem?_eq_getElem hi] at hcell
    exact World.block_lt_of_cell? w _ hcell
  rw [World.cell?_of_block (hf.block g hlt (hs g (by simp)))]
  exact hcell

/-- A literal slice, just laid. -/
theorem Sl.lit {α : Type} (V : α → Value) (w : World) (t : TypeId) (xs : List α) : Sl V (w.alloc (.cells (xs.map V).toArray t)) (.slice (some ⟨w.heap.size, 0, none⟩) xs.length xs.length) xs [w.heap.size] :=
  ⟨_, _, rfl, Nat.le_refl _, fun _ => ⟨w.heap.size, 0, rfl, rfl, fun i _ => by rw [Nat.zero_add, (Blk.new w t _).cell]; simp⟩⟩

theorem Sl.nil_ {α : Type} (V : α → Value) (w : World) : Sl V w (.slice none 0 0) ([] : List α) [] := ⟨none, 0, rfl, by simp, fun h => by simp at h⟩

/-- A slice that came in: the first 'len' cells of a row. -/
theorem Sl.of_row {α : Type} (V : α → Value) (d : α) {w : World} {x : Addr} {zs : List α} {len cap : Nat} (hcell : ∀ i, i < zs.length → w.cell? (x.add i) = some (V (zs.getD i d))) (hl : len ≤ zs.length) (hc : len ≤ cap) :
    ∃ gs, Sl V w (.slice (some x) len cap) (zs.take len) gs ∧ ∀ k ∈ gs, k < w.heap.size := by
  have hlen : (zs.take len).length = len := by simp; omega
  by_cases h0 : len = 0
  · subst h0
    exact ⟨[], ⟨some x, cap, by simp, by simp, fun h => by simp at h⟩, by simp⟩
  · obtain ⟨b, off, spot⟩ := x
    have hc0 := hcell 0 (by omega)
    have hspot : spot = none := by simpa [Addr.add] using World.cell?_spot hc0
    subst hspot
    refine ⟨[b], ⟨_, cap, by rw [hlen], by rw [hlen]; exact hc, fun _ => ⟨b, off, rfl, rfl, fun i hi => ?_⟩⟩, ?_⟩
    · rw [hlen] at hi
      have h := hcell i (by omega)
      have e : (⟨b, off, none⟩ : Addr).add i = ⟨b, off + i, none⟩ := by unfold Addr.add; split <;> simp_all
      rw [e] at h
      rw [h, List.getElem?_take, if_pos hi, List.getD_eq_getElem?_getD, List.getElem?_eq_getElem (by omega)]
      rfl
    · intro k hk
      simp at hk
      subst hk
      exact World.block_lt_of_cell? w _ hc0

/-- One step more of a chain of frames over blocks of the call's own. -/
theorem Fr.step {S : List Nat} {a b c : World} (h : Fr [] a b) (k : Fr S b c) (hs : ∀ x ∈ S, a.heap.size ≤ x) : Fr [] a c := h.trans k fun x hx => .inr (hs x hx)

/-- A row of the call's own reads as a list. -/
theorem Sl.of_own {α : Type} {V : α → Value} {w : World} {base : Nat} {e : TypeId} {v : Value} {xs : List α} (h : w.ownsRow base e 1 v xs.length (xs.map V)) : ∃ gs, Sl V w v xs gs ∧ ∀ k ∈ gs, base ≤ k := by
  rcases h.2 with ⟨rfl, h0⟩ | ⟨g, cap, cur, rfl, hb, _⟩
  · exact ⟨[], ⟨none, 0, by rw [h0], by omega, fun hp => by omega⟩, by simp⟩
  · obtain ⟨cur, hG, hcs, hnc, htk, hgw⟩ := own_blk h
    refine ⟨[g], ⟨_, cap, rfl, hnc, fun _ => ⟨g, 0, rfl, rfl, fun i hi => ?_⟩⟩, by simpa using hgw⟩
    rw [Nat.zero_add, hG.cell, ← List.getElem?_map, ← htk, List.getElem?_take, if_pos hi, Array.getElem?_toList]

/-- What a queue's list holds, round its end: 'ls' are the list's blocks (none, or one). -/
def Ring {α : Type} (E : TypeId) (V : α → Value) (w : World) (sl : Value) (fr L : Nat) (xs : List α) (ls : List Nat) : Prop :=
  (sl = .slice none 0 0 ∧ L = 0 ∧ fr = 0 ∧ xs = [] ∧ ls = []) ∨
  ∃ g cap cur, sl = .slice (some ⟨g, 0, none⟩) L cap ∧ ls = [g] ∧ Blk w g E cur ∧ 0 < L ∧ L ≤ cur.size ∧ fr < L ∧ xs.length ≤ L ∧
    ∀ i, i < xs.length → cur[(fr + i) % L]? = (xs[i]?).map V

/-- A queue in memory: its struct at block b (of type T), a list of elements of type E. -/
def QRep {α : Type} (T E : TypeId) (V : α → Value) (w : World) (b room : Nat) (xs : List α) (drops : Int) (ls : List Nat) : Prop :=
  1 ≤ room ∧ room ≤ 65536 ∧ xs.length ≤ room ∧ 0 ≤ drops ∧ drops ≤ 4611686018427387904 ∧ T ≠ E ∧
  ∃ (sl : Value) (fr L : Nat), Blk w b T #[.int .i64 (room : Int), sl, .int .i64 (fr : Int), .int .i64 (xs.length : Int), .int .i64 drops] ∧ L ≤ room ∧ Ring E V w sl fr L xs ls

section
variable {α : Type} {T E : TypeId} {V : α → Value} {w w' : World} {b room : Nat} {xs : List α} {drops : Int} {ls : List Nat}

theorem Ring.fr {sl : Value} {fr L : Nat} {S : List Nat} (h : Ring E V w sl fr L xs ls) (hf : Fr S w w') (hs : ∀ k ∈ ls, k ∉ S) : Ring E V w' sl fr L xs ls := by
  rcases h with h | ⟨g, cap, cur, h1, rfl, h3, h4⟩
  · exact .inl h
  · exact .inr ⟨g, cap, cur, h1, rfl, h3.fr hf (hs g (by simp)), h4⟩

theorem QRep.fr {S : List Nat} (h : QRep T E V w b room xs drops ls) (hf : Fr S w w') (hb : b ∉ S) (hs : ∀ k ∈ ls, k ∉ S) : QRep T E V w' b room xs drops ls := by
  obtain ⟨h1, h2, h3, h4, h5, h6, sl, fr, L, hB, hL, hR⟩ := h
  exact ⟨h1, h2, h3, h4, h5, h6, sl, fr, L, hB.fr hf hb, hL, hR.fr hf hs⟩

theorem mod_ne {fr i n L : Nat} (hi : i < n) (hn : n < L) : (fr + i) % L ≠ (fr + n) % L := by
  intro h
  have h1 := Nat.sub_mod_eq_zero_of_mod_eq h.symm
  rw [show fr + n - (fr + i) = n - i from by omega, Nat.mod_eq_of_lt (by omega)] at h1
  omega

/-- What stands in the ring behind a push. -/
theorem Ring.push {g cap fr L : Nat} {cur : Array Value} (x : α) (hG : Blk w g E cur) (hL : 0 < L) (hLc : L ≤ cur.size) (hfr : fr < L) (hx : xs.length < L)
    (hcur : ∀ i, i < xs.length → cur[(fr + i) % L]? = (xs[i]?).map V) :
    Ring E V (w.setCell ⟨g, (fr + xs.length) % L, none⟩ (V x)) (.slice (some ⟨g, 0, none⟩) L cap) fr L (xs ++ [x]) [g] := by
  refine .inr ⟨g, cap, _, rfl, rfl, hG.set_ _ _, hL, by simpa using hLc, hfr, by simp; omega, fun i hi => ?_⟩
  simp only [List.length_append, List.length_cons, List.length_nil] at hi
  have hlt : (fr + xs.length) % L < cur.size := Nat.lt_of_lt_of_le (Nat.mod_lt _ hL) hLc
  by_cases e : i = xs.length
  · subst e
    rw [Array.getElem?_setIfInBounds_self_of_lt hlt]
    simp
  · have hi' : i < xs.length := by omega
    rw [Array.getElem?_setIfInBounds_ne (Ne.symm (mod_ne hi' hx)), hcur i hi', List.getElem?_append_left hi']

/-- What stands in the ring behind a pop. -/
theorem Ring.pop {g cap fr L : Nat} {cur : Array Value} {x : α} (z : Value) (hG : Blk w g E cur) (hL : 0 < L) (hLc : L ≤ cur.size) (hfr : fr < L) (hx : (x :: xs).length ≤ L)
    (hcur : ∀ i, i < (x :: xs).length → cur[(fr + i) % L]? = ((x :: xs)[i]?).map V) :
    Ring E V (w.setCell ⟨g, fr, none⟩ z) (.slice (some ⟨g, 0, none⟩) L cap) ((fr + 1) % L) L xs [g] := by
  simp only [List.length_cons] at hx
  refine .inr ⟨g, cap, _, rfl, rfl, hG.set_ _ _, hL, by simpa using hLc, Nat.mod_lt _ hL, by omega, fun i hi => ?_⟩
  have e : ((fr + 1) % L + i) % L = (fr + (i + 1)) % L := by rw [Nat.mod_add_mod]; congr 1; omega
  have hne : fr ≠ (fr + (i + 1)) % L := by
    have := mod_ne (fr := fr) (i := 0) (n := i + 1) (L := L) (by omega) (by omega)
    rw [Nat.add_zero, Nat.mod_eq_of_lt hfr] at this
    exact this
  rw [e, Array.getElem?_setIfInBounds_ne hne, hcur (i + 1) (by simp; omega)]
  simp

theorem QRep.lt (h : QRep T E V w b room xs drops ls) : b < w.heap.size := by
  obtain ⟨_, _, _, _, _, _, _, _, _, hB, _⟩ := h
  exact hB.lt

theorem QRep.ls_lt (h : QRep T E V w b room xs drops ls) : ∀ k ∈ ls, k < w.heap.size := by
  obtain ⟨_, _, _, _, _, _, sl, fr, L, hB, _, hR⟩ := h
  rcases hR with ⟨_, _, _, _, rfl⟩ | ⟨g, cap, cur, _, rfl, h3, _⟩
  · simp
  · intro k hk
    simp at hk
    subst hk
    exact h3.lt
end
end Go.Proofs.Ythkaigokcognmaa
