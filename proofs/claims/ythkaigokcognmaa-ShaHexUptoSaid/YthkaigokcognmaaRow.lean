/- A row of the call's own, by its cells alone ('GRow'): what '[]byte(s)' makes is one too (its mark lies behind its cells). append onto it. -/
import Derived.Test.YthkaigokcognmaaMem
import Derived.Deep.MidRow
import Derived.OwnWalk
import Derived.Laws.AppendOwn
import Derived.Laws.IdiomStrings
import Derived.Laws.BytesArg
namespace Go.Proofs.Ythkaigokcognmaa
open Go.RowKit

theorem Fr.setCells {S : List Nat} {a : World} {b : Nat} (hb : b ∈ S ∨ a.heap.size ≤ b) : ∀ (vs : List Value) (o : Nat) {w : World}, Fr S a w → Fr S a (w.setCells b o vs)
  | [], _, _, h => h
  | v :: r, o, _, h => Fr.setCells hb r (o + 1) (h.setCell (p := ⟨b, o, none⟩) hb v)
theorem Fr.cell {S : List Nat} {w w' : World} (F : Fr S w w') {a : Addr} {v : Value} (ha : a.block ∉ S) (h : w.cell? a = some v) : w'.cell? a = some v := by
  rw [World.cell?_of_block (F.block a.block (World.block_lt_of_cell? w _ h) ha)]; exact h
theorem rangeAt_fr {S : List Nat} {w w' : World} {b o : Nat} {cs : List Value} (h : w.rangeAt b o cs) (F : Fr S w w') (hb : b ∉ S) : w'.rangeAt b o cs := fun j v hv => F.cell hb (h j v hv)
theorem there_fr {S : List Nat} {w w' : World} {b o n : Nat} (h : w.there b o n) (F : Fr S w w') (hb : b ∉ S) : w'.there b o n := fun j hj => by
  obtain ⟨h1, h2⟩ := h j hj
  obtain ⟨v, hv⟩ := Option.isSome_iff_exists.1 h1
  have hblk := F.block b (World.block_lt_of_cell? w _ hv) hb
  refine ⟨by rw [World.cell?_of_block hblk]; exact h1, ?_⟩
  rw [World.frozen?_of_block hblk]; exact h2
theorem Fr.ofGrown {w w' : World} {row : Option Nat} (h : w.grownBy w' row) : Fr row.toList w w' :=
  ⟨h.os, h.tape, h.output, h.size, fun k hk hn => h.block k hk fun e => hn (by rw [← e]; simp)⟩

variable {α : Type} {V : α → Value} {w w' : World} {base : Nat} {v : Value} {xs : List α}

def GRow (V : α → Value) (w : World) (base : Nat) (v : Value) (xs : List α) : Prop :=
  (v = .slice none 0 0 ∧ xs = []) ∨
  ∃ g cap, v = .slice (some ⟨g, 0, none⟩) xs.length cap ∧ base ≤ g ∧ xs.length ≤ cap ∧ cap ≤ maxLen ∧ g < w.heap.size ∧ w.there g 0 cap ∧ w.rangeAt g 0 (xs.map V)

theorem GRow.nil_ (V : α → Value) (w : World) (base : Nat) : GRow V w base (.slice none 0 0) [] := .inl ⟨rfl, rfl⟩
theorem GRow.fr {S : List Nat} (h : GRow V w base v xs) (F : Fr S w w') (hs : ∀ k, v.ownBlock = some k → k ∉ S) : GRow V w' base v xs := by
  rcases h with h | ⟨g, cap, rfl, h1, h2, h3, h4, h5, h6⟩
  · exact .inl h
  · have hg := hs g rfl
    exact .inr ⟨g, cap, rfl, h1, h2, h3, Nat.lt_of_lt_of_le h4 F.size, there_fr h5 F hg, rangeAt_fr h6 F hg⟩
theorem GRow.lt (h : GRow V w base v xs) : ∀ k, v.ownBlock = some k → base ≤ k ∧ k < w.heap.size := by
  rcases h with ⟨rfl, _⟩ | ⟨g, cap, rfl, h1, _, _, h4, _⟩
  · intro k hk; cases hk
  · intro k hk; injection hk with hk; subst hk; exact ⟨h1, h4⟩
theorem GRow.far (h : GRow V w base v xs) (F : Fr [] w w') : GRow V w' base v xs := h.fr F (by simp)
theorem GRow.bound (h : GRow V w base v xs) : xs.length ≤ maxLen := by
  rcases h with ⟨_, rfl⟩ | ⟨g, cap, rfl, h1, h2, h3, _⟩
  · simp
  · omega
theorem GRow.cell (h : GRow V w base v xs) {g n cap : Nat} (e : v = .slice (some ⟨g, 0, none⟩) n cap) (i : Nat) (hi : i < xs.length) : w.cell? ⟨g, i, none⟩ = some (V xs[i]) := by
  rcases h with ⟨rfl, _⟩ | ⟨g', cap', rfl, _, _, _, _, _, h6⟩
  · cases e
  · injection e with e1; injection e1 with e1; cases e1
    have := h6 i (V xs[i]) (by simp [hi])
    simpa using this

/-- A block just laid. -/
theorem GRow.lit (V : α → Value) (w : World) (t : TypeId) (xs : List α) (hb : base ≤ w.heap.size) (hm : xs.length ≤ maxLen) :
    GRow V (w.alloc (.cells (xs.map V).toArray t)) base (.slice (some ⟨w.heap.size, 0, none⟩) xs.length xs.length) xs := by
  have hB := Blk.new w t (xs.map V).toArray
  refine .inr ⟨w.heap.size, xs.length, rfl, hb, Nat.le_refl _, hm, by simp, fun j hj => ⟨?_, hB.frozen _⟩, fun j u hu => ?_⟩
  · rw [hB.cell]; simp [hj]
  · rw [hB.cell]; simpa using hu

/-- THE LAW. -/
theorem run_append_g {P : Program} (hV : ∀ x, (V x).oneCell' = true) (base : Nat) (t ty e : TypeId) (i : TypeInfo) (z : Value) (bytes : Nat) (ht : P.underlying t = some (.slice e)) (hi : P.info? e = some i) (hz : i.zero = some z)
    (hsize : i.size = 1) (hby : i.bytes = bytes) (hzs : z.cells.size = 1)
    (hown : GRow V w base v xs) (a : Addr) (m c : Nat) (ys : List α) (hl : ys.length = m) (hnews : ∀ j u, (ys.map V)[j]? = some u → w.cell? (a.add j) = some u)
    (h63 : xs.length + m ≤ maxLen) (hbytes : (xs.length + m) * bytes ≤ 140737488355328) (hbase : base ≤ w.heap.size) :
    ∃ v' w', (Builtin.append_ #[t, t] ty #[v, .slice (some a) m c]).run P w = .ok v' w' ∧ GRow V w' base v' (xs ++ ys) ∧ w.grownBy w' v.ownBlock := by
  subst hby
  have hsmall : xs.length + m ≤ 9223372036854775807 := by simp only [maxLen] at h63; omega
  have grown : ∀ (old : Nat), old < xs.length + m → ∀ (row : Option Nat),
      GRow V (w.drew.alloc (.cells ((xs.map V).toArray ++ (ys.map V).toArray ++ Builtin.zeroCells z.cells (grownCap w (xs.length + m) old e - (xs.length + m))) e)) base
        (.slice (some ⟨w.heap.size, 0, none⟩) (xs ++ ys).length (grownCap w (xs.length + m) old e)) (xs ++ ys) ∧
      w.grownBy (w.drew.alloc (.cells ((xs.map V).toArray ++ (ys.map V).toArray ++ Builtin.zeroCells z.cells (grownCap w (xs.length + m) old e - (xs.length + m))) e)) row := by
    intro old ho row
    have hge := grownCap_ge w (xs.length + m) old e
    have hcm : grownCap w (xs.length + m) old e ≤ maxLen := grownCap_le_maxLen w (xs.length + m) old e h63
    have hB := Blk.new w.drew e ((xs.map V).toArray ++ (ys.map V).toArray ++ Builtin.zeroCells z.cells (grownCap w (xs.length + m) old e - (xs.length + m)))
    have hsz : ((xs.map V).toArray ++ (ys.map V).toArray ++ Builtin.zeroCells z.cells (grownCap w (xs.length + m) old e - (xs.length + m))).size = grownCap w (xs.length + m) old e := by
      simp only [Array.size_append, List.size_toArray, size_zeroCells, hzs, List.length_map, hl]; omega
    refine ⟨.inr ⟨w.heap.size, _, rfl, hbase, by rw [List.length_append, hl]; exact hge, hcm, by simp, fun j hj => ⟨?_, hB.frozen _⟩, fun j u hu => ?_⟩, ⟨rfl, rfl, rfl, by simp, fun k hk _ => Below.heap_alloc w.drew _ k hk⟩⟩
    · have : (w.drew.alloc (.cells ((xs.map V).toArray ++ (ys.map V).toArray ++ Builtin.zeroCells z.cells (grownCap w (xs.length + m) old e - (xs.length + m))) e)).cell? ⟨w.heap.size, 0 + j, none⟩ = _ := hB.cell (0 + j)
      rw [this, Nat.zero_add, Array.getElem?_eq_getElem (by omega)]; rfl
    · have : (w.drew.alloc (.cells ((xs.map V).toArray ++ (ys.map V).toArray ++ Builtin.zeroCells z.cells (grownCap w (xs.length + m) old e - (xs.length + m))) e)).cell? ⟨w.heap.size, 0 + j, none⟩ = _ := hB.cell (0 + j)
      rw [this, Nat.zero_add]
      rw [List.map_append] at hu
      have hj := (List.getElem?_eq_some_iff.1 hu).1
      rw [Array.getElem?_append_left (by simpa using hj)]
      simpa using hu
  rcases hown with ⟨rfl, rfl⟩ | ⟨g, cap, rfl, hbg, hnc, hcm, hgl, hth, hr⟩
  · by_cases hm : m = 0
    · subst hm
      have hn : ys = [] := List.eq_nil_of_length_eq_zero hl
      subst hn
      refine ⟨.slice none 0 0, w, ?_, GRow.nil_ V w base, ⟨rfl, rfl, rfl, Nat.le_refl _, fun _ _ _ => rfl⟩⟩
      simp [Builtin.append_, run_underlying ht, sizeOf, typeInfo, hi, Builtin.lenOf, Builtin.firstCells, loadCells, loadCellsFrom]
    · have hr := run_append_nil (P := P) w t ty e i z ht hi hz a m c (ys.map V) (by rw [List.length_map, hsize]; omega) hnews (by omega) (by simp at hsmall; omega) (by have hb := hbytes; simp only [List.length_nil, Nat.zero_add] at hb; omega)
      have hgr := grown 0 (by simp; omega) (Value.ownBlock (.slice none 0 0))
      simp only [List.length_nil, Nat.zero_add, List.nil_append, List.map_nil, Array.empty_append, hl] at hgr ⊢
      exact ⟨_, _, hr, hgr.1, hgr.2⟩
  · by_cases hroom : xs.length + m ≤ cap
    · have hth' : ∀ j, j < (ys.map V).length → (w.cell? ⟨g, xs.length + j, none⟩).isSome = true ∧ w.frozen? ⟨g, xs.length + j, none⟩ = false := fun j hj => by
        have := hth (xs.length + j) (by rw [List.length_map] at hj; omega)
        simpa using this
      have hf := run_firstCells_some (P := P) w 1 m a m c (ys.map V) (by rw [List.length_map]; omega) hnews
      have hst := run_storeCells_cells (P := P) g xs.length (ys.map V) 0 w (fun j hj => by simpa using (hth' j hj).1) (fun j hj => by simpa using (hth' j hj).2) (by intro u hu; obtain ⟨y, _, rfl⟩ := List.mem_map.1 hu; exact hV y)
      simp only [Nat.add_zero] at hst
      refine ⟨.slice (some ⟨g, 0, none⟩) (xs.length + m) cap, w.setCells g xs.length (ys.map V), ?_, .inr ⟨g, cap, by rw [List.length_append, hl], hbg, by rw [List.length_append, hl]; exact hroom, hcm, ?_, World.there_setCells hth _ _ _, ?_⟩, ?_⟩
      · simp [Builtin.append_, run_underlying ht, sizeOf, typeInfo, hi, hsize, Builtin.lenOf, hroom, hf, Addr.add_lit, hst]
      · exact Nat.lt_of_lt_of_le hgl ((Fr.refl [g] w).setCells (b := g) (.inl (by simp)) _ _).size
      · intro j u hu
        rw [List.map_append] at hu
        by_cases hj : j < (xs.map V).length
        · rw [List.getElem?_append_left hj] at hu
          exact World.rangeAt_setCells_apart hr g xs.length (ys.map V) (.inr (.inl (by simp))) j u hu
        · rw [List.getElem?_append_right (by omega)] at hu
          have h1 := World.rangeAt_setCells_same w g xs.length (ys.map V) (fun j hj => hth' j hj) (j - (xs.map V).length) u hu
          rw [List.length_map] at h1 hj
          rwa [show xs.length + (j - xs.length) = 0 + j by omega] at h1
      · have F := (Fr.refl [g] w).setCells (b := g) (.inl (by simp)) (ys.map V) xs.length
        exact ⟨F.os, F.tape, F.output, F.size, fun k hk hne => F.block k hk (by simp; intro e; exact hne (by rw [e]; rfl))⟩
    · have holds : ∀ j u, (xs.map V)[j]? = some u → w.cell? ((⟨g, 0, none⟩ : Addr).add j) = some u := fun j u hu => by
        have := hr j u hu
        rwa [Addr.add_lit]
      have hr := run_append_grow (P := P) w t ty e i z ht hi hz ⟨g, 0, none⟩ xs.length cap (xs.map V) (by rw [List.length_map, hsize]; omega) holds a m c (ys.map V) (by rw [List.length_map, hsize]; omega) hnews (by omega) (by omega) (growslice_fits (by omega) hbytes)
      have hgr := grown cap (by omega) (Value.ownBlock (.slice (some ⟨g, 0, none⟩) xs.length cap))
      rw [List.length_append, hl] at hgr
      exact ⟨_, _, hr, by simpa [hl] using hgr.1, hgr.2⟩
end Go.Proofs.Ythkaigokcognmaa
