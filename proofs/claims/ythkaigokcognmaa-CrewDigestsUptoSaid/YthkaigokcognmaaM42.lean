/- A part of the proof of CrewDigestsUpto (no statement of its own): Dg11, Cr17, Cr18. -/
import Derived.Test.YthkaigokcognmaaM41
import Derived.Test.YthkaigokcognmaaM26
section
set_option linter.unusedSimpArgs false
namespace Go.Pool
open Go.Conc Go.RowKit Go.Proofs Go.ConcN Go.Conc.Lib Go.ConcR.Gen Go.ConcN.Gen
open Go.ConcR (KK wgBlock WgAt stA smA rd wr mk DC0)
noncomputable def body12 : Code := Try.f12.body.getD .skip
noncomputable def tail12 : Code := match Try.f12.body with
 | some (.seq _ (.seq _ (.seq _ (.seq _ c)))) => c
 | _ => .skip
noncomputable def L12 : Code := match tail12 with
 | .seq (.seq _ (.block _ (.loop c))) _ => c
 | _ => .skip
noncomputable def K12 : Code := match tail12 with
 | .seq _ c => c
 | _ => .skip
noncomputable def ops12 : Array Oper := match L12 with
 | .seq _ (.seq (.block _ (.seq (.region _ ops _) _)) _) => ops
 | _ => #[]
def b12 : Frame := base 12
theorem nm22 : (Try.f22.name == "runtime.NumGoroutine") = false := by kernel_rfl
def edgesOf (md : Region.Mode) (ops : Array Oper) : List (List Nat) := ops.toList.map fun o => (o.after.toList.filter (Region.binds md ·)).map (·.on)
theorem ready_deps {md : Region.Mode} {ops : Array Oper} {listed : Array Bool} {i : Nat} (hi : i ∈ Region.ready md ops listed) : ∃ d, (edgesOf md ops)[i]? = some d ∧ listed.getD i true = false ∧ ∀ j ∈ d, listed.getD j false = true := by
 obtain ⟨h1, h2⟩ := List.mem_filter.1 hi
 have hlt : i < ops.size := List.mem_range.1 h1
 simp only [Bool.and_eq_true, Bool.not_eq_true', Array.getElem?_eq_getElem hlt, Option.map_some, Option.getD_some] at h2
 obtain ⟨h2, h3⟩ := h2
 refine ⟨(ops[i].after.toList.filter (Region.binds md ·)).map (·.on), by simp only [edgesOf, List.getElem?_map, Array.getElem?_toList, Array.getElem?_eq_getElem hlt, Option.map_some], h2, fun j hj => ?_⟩
 obtain ⟨e, he, rfl⟩ := List.mem_map.1 hj
 obtain ⟨he, hb⟩ := List.mem_filter.1 he
 have := Array.all_eq_true_iff_forall_mem.1 h3 e (Array.mem_toList_iff.1 he)
 rw [hb] at this
 simpa using this
theorem ready_of {md : Region.Mode} {ops : Array Oper} {listed : Array Bool} {i : Nat} {d : List Nat} (hd : (edgesOf md ops)[i]? = some d) (h1 : listed.getD i true = false) (h2 : ∀ j ∈ d, listed.getD j false = true) : i ∈ Region.ready md ops listed := by
 have hlt : i < ops.size := by
  have := (List.getElem?_eq_some_iff.1 hd).1
  simpa [edgesOf] using this
 refine List.mem_filter.2 ⟨List.mem_range.2 hlt, ?_⟩
 simp only [edgesOf, List.getElem?_map, Array.getElem?_toList, Array.getElem?_eq_getElem hlt, Option.map_some, Option.some.injEq] at hd
 simp only [Bool.and_eq_true, Bool.not_eq_true', Array.getElem?_eq_getElem hlt, Option.map_some, Option.getD_some]
 refine ⟨h1, Array.all_eq_true_iff_forall_mem.2 fun e he => ?_⟩
 by_cases hb : Region.binds md e = true
 ·have := h2 e.on (by rw [← hd]; exact List.mem_map.2 ⟨e, List.mem_filter.2 ⟨Array.mem_toList_iff.2 he, hb⟩, rfl⟩)
  simp [this]
 ·simp [hb]
theorem edges12 : edgesOf .any ops12 = [[], [], [0, 1], [2], [], [], [4, 5], [6], [3, 7], [8], [9], [9], [10, 8, 0, 1, 2, 3, 4, 5, 6, 7, 8, 9, 10], [11, 12, 0, 1, 2, 3, 4, 5, 6, 7, 8, 9, 10, 11, 12]] := by
 decide +kernel
theorem deps12 {l0 l1 l2 l3 l4 l5 l6 l7 l8 l9 l10 l11 l12 l13 : Bool} {i : Nat} (hi : i ∈ Region.ready .any ops12 #[l0, l1, l2, l3, l4, l5, l6, l7, l8, l9, l10, l11, l12, l13]) : (i = 0 ∧ l0 = false) ∨ (i = 1 ∧ l1 = false) ∨ (i = 2 ∧ l2 = false ∧ l0 = true ∧ l1 = true) ∨ (i = 3 ∧ l3 = false ∧ l2 = true) ∨ (i = 4 ∧ l4 = false) ∨ (i = 5 ∧ l5 = false) ∨ (i = 6 ∧ l6 = false ∧ l4 = true ∧ l5 = true) ∨ (i = 7 ∧ l7 = false ∧ l6 = true) ∨ (i = 8 ∧ l8 = false ∧ l3 = true ∧ l7 = true) ∨ (i = 9 ∧ l9 = false ∧ l8 = true) ∨ (i = 10 ∧ l10 = false ∧ l9 = true) ∨ (i = 11 ∧ l11 = false ∧ l9 = true) ∨ (i = 12 ∧ l12 = false ∧ l0 = true ∧ l1 = true ∧ l2 = true ∧ l3 = true ∧ l4 = true ∧ l5 = true ∧ l6 = true ∧ l7 = true ∧ l8 = true ∧ l9 = true ∧ l10 = true) ∨ (i = 13 ∧ l13 = false ∧ l0 = true ∧ l1 = true ∧ l2 = true ∧ l3 = true ∧ l4 = true ∧ l5 = true ∧ l6 = true ∧ l7 = true ∧ l8 = true ∧ l9 = true ∧ l10 = true ∧ l11 = true ∧ l12 = true) := by
 obtain ⟨d, h0, h1, h2⟩ := ready_deps hi
 rw [edges12] at h0
 have hlt : i < 14 := (List.getElem?_eq_some_iff.1 h0).1
 have hc : i = 0 ∨ i = 1 ∨ i = 2 ∨ i = 3 ∨ i = 4 ∨ i = 5 ∨ i = 6 ∨ i = 7 ∨ i = 8 ∨ i = 9 ∨ i = 10 ∨ i = 11 ∨ i = 12 ∨ i = 13 := by omega
 rcases hc with rfl | rfl | rfl | rfl | rfl | rfl | rfl | rfl | rfl | rfl | rfl | rfl | rfl | rfl <;> simp at h0 <;> subst h0 <;> simp at h1 h2 <;> simp [*]
theorem ready12 {l0 l1 l2 l3 l4 l5 l6 l7 l8 l9 l10 l11 l12 l13 : Bool} (h : Region.ready .any ops12 #[l0, l1, l2, l3, l4, l5, l6, l7, l8, l9, l10, l11, l12, l13] = []) : l0 = true ∧ l1 = true ∧ l2 = true ∧ l3 = true ∧ l4 = true ∧ l5 = true ∧ l6 = true ∧ l7 = true ∧ l8 = true ∧ l9 = true ∧ l10 = true ∧ l11 = true ∧ l12 = true ∧ l13 = true := by
 have hne : ∀ i d, edgesOf .any ops12 = [[], [], [0, 1], [2], [], [], [4, 5], [6], [3, 7], [8], [9], [9], [10, 8, 0, 1, 2, 3, 4, 5, 6, 7, 8, 9, 10], [11, 12, 0, 1, 2, 3, 4, 5, 6, 7, 8, 9, 10, 11, 12]] → ([[], [], [0, 1], [2], [], [], [4, 5], [6], [3, 7], [8], [9], [9], [10, 8, 0, 1, 2, 3, 4, 5, 6, 7, 8, 9, 10], [11, 12, 0, 1, 2, 3, 4, 5, 6, 7, 8, 9, 10, 11, 12]] : List (List Nat))[i]? = some d → (∀ j ∈ d, (#[l0, l1, l2, l3, l4, l5, l6, l7, l8, l9, l10, l11, l12, l13] : Array Bool).getD j false = true) → (#[l0, l1, l2, l3, l4, l5, l6, l7, l8, l9, l10, l11, l12, l13] : Array Bool).getD i true = true := fun i d e hd h2 => by
  cases h1 : (#[l0, l1, l2, l3, l4, l5, l6, l7, l8, l9, l10, l11, l12, l13] : Array Bool).getD i true with
  | true => rfl
  | false => have := ready_of (by rw [e]; exact hd) h1 h2; rw [h] at this; cases this
 have hn := fun i d => hne i d edges12
 clear hne h
 have h0 : l0 = true := by have := hn 0 _ rfl (by simp); simpa using this
 have h1 : l1 = true := by have := hn 1 _ rfl (by simp); simpa using this
 have h2 : l2 = true := by have := hn 2 _ rfl (by simp [h0, h1]); simpa using this
 have h3 : l3 = true := by have := hn 3 _ rfl (by simp [h2]); simpa using this
 have h4 : l4 = true := by have := hn 4 _ rfl (by simp); simpa using this
 have h5 : l5 = true := by have := hn 5 _ rfl (by simp); simpa using this
 have h6 : l6 = true := by have := hn 6 _ rfl (by simp [h4, h5]); simpa using this
 have h7 : l7 = true := by have := hn 7 _ rfl (by simp [h6]); simpa using this
 have h8 : l8 = true := by have := hn 8 _ rfl (by simp [h3, h7]); simpa using this
 have h9 : l9 = true := by have := hn 9 _ rfl (by simp [h8]); simpa using this
 have h10 : l10 = true := by have := hn 10 _ rfl (by simp [h9]); simpa using this
 have h11 : l11 = true := by have := hn 11 _ rfl (by simp [h9]); simpa using this
 have h12 : l12 = true := by have := hn 12 _ rfl (by simp [h0, h1, h2, h3, h4, h5, h6, h7, h8, h9, h10]); simpa using this
 have h13 : l13 = true := by have := hn 13 _ rfl (by simp [h0, h1, h2, h3, h4, h5, h6, h7, h8, h9, h10, h11, h12]); simpa using this
 exact ⟨h0, h1, h2, h3, h4, h5, h6, h7, h8, h9, h10, h11, h12, h13⟩
def gw (b : Bool) (o v : Value) : Value := if b then v else o
theorem gw_t (o v : Value) : gw true o v = v := rfl
def T12 (o : Nat → Value) (b1 p1 b2 p2 i n c1 c2 : Nat) (s t y : ByteArray) (e : Int) (l0 l1 l2 l3 l4 l5 l6 l7 l8 l9 l10 l11 l12 l13 : Bool) : Act := ⟨#[.slice (some ⟨b1, p1, none⟩) n c1, .slice (some ⟨b2, p2, none⟩) n c2, o 2, o 3, o 4, o 5, o 6, o 7, o 8, o 9, .int .i64 i, gw l12 (o 11) (.string y), gw l13 (o 12) (.int .i64 e), o 13, o 14, o 15, o 16, o 17, o 18, o 19, o 20, o 21, o 22, o 23, o 24, o 25, o 26, o 27, o 28, o 29, o 30, o 31, o 32, o 33, o 34, o 35, o 36, o 37, o 38, o 39, o 40, o 41, o 42, o 43, o 44, o 45, gw l9 (o 46) (.tuple #[.string y, .int .i64 e]), gw l0 (o 47) (.slice (some ⟨b1, p1, none⟩) n c1), gw l1 (o 48) (.int .i64 i), gw l2 (o 49) (.pointer (some ⟨b1, p1 + i, none⟩)), gw l3 (o 50) (.string s), gw l4 (o 51) (.slice (some ⟨b2, p2, none⟩) n c2), gw l5 (o 52) (.int .i64 i), gw l6 (o 53) (.pointer (some ⟨b2, p2 + i, none⟩)), gw l7 (o 54) (.string t), gw l8 (o 55) (.tuple #[.string y, .int .i64 e]), gw l10 (o 56) (.string y), gw l11 (o 57) (.int .i64 e), o 58, o 59, o 60, o 61, o 62, o 63, o 64, o 65, o 66, o 67, o 68, o 69, o 70, o 71, o 72, o 73, o 74, o 75, o 76, o 77, o 78, o 79, o 80, o 81, o 82, o 83, o 84], []⟩
section
variable {Post : Value → World → Prop} {Shun : Loc → Prop} {X : World → Prop} {K : Nat}
structure W12 (K b1 p1 b2 p2 i : Nat) (s t : ByteArray) (X : World → Prop) (w : World) : Prop where
 c1 : w.cell? ⟨b1, p1 + i, none⟩ = some (.string s)
 c2 : w.cell? ⟨b2, p2 + i, none⟩ = some (.string t)
 x : X w
 k : K ≤ w.heap.size
variable {b1 p1 b2 p2 i n c1 c2 : Nat} {s t y : ByteArray} {e : Int} {o : Nat → Value}
theorem W12.rely (hX : ∀ w w₁, X w → AtRel w w₁ → X w₁) {w w₁ : World} (h : W12 K b1 p1 b2 p2 i s t X w) (r : AtRel w w₁) : W12 K b1 p1 b2 p2 i s t X w₁ := by
 have hx := hX _ _ h.x r
 obtain ⟨d, rfl⟩ := r
 exact ⟨h.c1, h.c2, hx, h.k⟩
theorem W12.below (h1 : b1 < K) (h2 : b2 < K) (hX : ∀ w w₁, X w → Below w.heap.size w w₁ → X w₁) {w w₁ : World} (h : W12 K b1 p1 b2 p2 i s t X w) (r : Below w.heap.size w w₁) : W12 K b1 p1 b2 p2 i s t X w₁ :=
 ⟨(cell_block (r.block b1 (by have := h.k; omega)) _).trans h.c1, (cell_block (r.block b2 (by have := h.k; omega)) _).trans h.c2, hX _ _ h.x r, Nat.le_trans h.k r.size⟩
def I12 (K : Nat) (o : Nat → Value) (b1 p1 b2 p2 i n c1 c2 : Nat) (s t y : ByteArray) (e : Int) (X : World → Prop) (f : Nat) (listed : Array Bool) (a : Act) (w : World) : Prop :=
 ∃ l0 l1 l2 l3 l4 l5 l6 l7 l8 l9 l10 l11 l12 l13 : Bool, listed = #[l0, l1, l2, l3, l4, l5, l6, l7, l8, l9, l10, l11, l12, l13] ∧ f = cntF l0 + cntF l1 + cntF l2 + cntF l3 + cntF l4 + cntF l5 + cntF l6 + cntF l7 + cntF l8 + cntF l9 + cntF l10 + cntF l11 + cntF l12 + cntF l13 ∧ a = T12 o b1 p1 b2 p2 i n c1 c2 s t y e l0 l1 l2 l3 l4 l5 l6 l7 l8 l9 l10 l11 l12 l13 ∧ W12 K b1 p1 b2 p2 i s t X w
theorem I12.of {f : Nat} {l0 l1 l2 l3 l4 l5 l6 l7 l8 l9 l10 l11 l12 l13 : Bool} {w : World} (hf : f = cntF l0 + cntF l1 + cntF l2 + cntF l3 + cntF l4 + cntF l5 + cntF l6 + cntF l7 + cntF l8 + cntF l9 + cntF l10 + cntF l11 + cntF l12 + cntF l13)
  (h : W12 K b1 p1 b2 p2 i s t X w) : I12 K o b1 p1 b2 p2 i n c1 c2 s t y e X f #[l0, l1, l2, l3, l4, l5, l6, l7, l8, l9, l10, l11, l12, l13] (T12 o b1 p1 b2 p2 i n c1 c2 s t y e l0 l1 l2 l3 l4 l5 l6 l7 l8 l9 l10 l11 l12 l13) w :=
 ⟨l0, l1, l2, l3, l4, l5, l6, l7, l8, l9, l10, l11, l12, l13, rfl, hf, rfl, h⟩
set_option maxRecDepth 100000 in
set_option maxHeartbeats 8000000 in
theorem region12 (hb1 : b1 < K) (hb2 : b2 < K) (hs1 : ∀ a : Addr, a.block = b1 → ¬ Shun (.cell a)) (hs2 : ∀ a : Addr, a.block = b2 → ¬ Shun (.cell a)) (hSc : ∀ a : Addr, K ≤ a.block → ¬ Shun (.cell a)) (hk : i < n) (hX : ∀ w w₁, X w → AtRel w w₁ → X w₁) (hXb : ∀ w w₁, X w → Below w.heap.size w w₁ → X w₁)
  (hcall : ∀ w, Calls Try.prog 22 #[.string s, .string t] w fun v _ => v = .returned (.tuple #[.string y, .int .i64 e])) {kk : List Item} {cs : List Frame} {id : Nat}
  (hend : ∀ w, W12 K b1 p1 b2 p2 i s t X w → EndsF Try.prog Post Shun w.heap.size (Go.Conc.G (b12.at (T12 o b1 p1 b2 p2 i n c1 c2 s t y e true true true true true true true true true true true true true true) kk) cs) w) :
  ∀ w, W12 K b1 p1 b2 p2 i s t X w → EndsF Try.prog Post Shun w.heap.size (Go.Conc.G (b12.at (T12 o b1 p1 b2 p2 i n c1 c2 s t y e false false false false false false false false false false false false false false) (.code (.region id ops12 true) :: kk)) cs) w := by
 intro w hF
 refine EndsF.step rfl fun w₁ h₁ => ?_
 replace hF := hF.rely hX h₁
 obtain ⟨d, rfl⟩ := h₁
 rw [stepG_region_draw]
 refine ⟨de_nil, ?_⟩
 replace hF : W12 K b1 p1 b2 p2 i s t X { w.at d with drawn := (w.at d).drawn + 1 } := hF.rely hX ⟨_, rfl⟩
 refine draw_inv (K := fun a rest w => EndsF Try.prog Post Shun w.heap.size (Go.Conc.G (b12.at a (.inRegion ops12 rest :: kk)) cs) w) (I12 K o b1 p1 b2 p2 i n c1 c2 s t y e X) ?_ ?_ ?_ mixedOn _ _ { w.at d with drawn := (w.at d).drawn + 1 } ?_
 ·rintro listed a w ⟨l0, l1, l2, l3, l4, l5, l6, l7, l8, l9, l10, l11, l12, l13, rfl, hc, rfl, hF⟩
  obtain rfl := cntF_eq (b := l0) (by omega)
  obtain rfl := cntF_eq (b := l1) (by omega)
  obtain rfl := cntF_eq (b := l2) (by omega)
  obtain rfl := cntF_eq (b := l3) (by omega)
  obtain rfl := cntF_eq (b := l4) (by omega)
  obtain rfl := cntF_eq (b := l5) (by omega)
  obtain rfl := cntF_eq (b := l6) (by omega)
  obtain rfl := cntF_eq (b := l7) (by omega)
  obtain rfl := cntF_eq (b := l8) (by omega)
  obtain rfl := cntF_eq (b := l9) (by omega)
  obtain rfl := cntF_eq (b := l10) (by omega)
  obtain rfl := cntF_eq (b := l11) (by omega)
  obtain rfl := cntF_eq (b := l12) (by omega)
  obtain rfl := cntF_eq (b := l13) (by omega)
  refine EndsF.step rfl (fun w₁ h₁ => ?_)
  replace hF := hF.rely hX h₁
  obtain ⟨d, rfl⟩ := h₁
  rw [stepG_region_end]
  simp only [goes_go]
  refine ⟨de_nil, ?_⟩
  exact hend _ hF
 ·rintro f listed a w ⟨l0, l1, l2, l3, l4, l5, l6, l7, l8, l9, l10, l11, l12, l13, rfl, hc, rfl, hF⟩ hn
  obtain ⟨rfl, rfl, rfl, rfl, rfl, rfl, rfl, rfl, rfl, rfl, rfl, rfl, rfl, rfl⟩ := ready12 hn
  simp [cntF] at hc
 ·rintro f listed a w j ⟨l0, l1, l2, l3, l4, l5, l6, l7, l8, l9, l10, l11, l12, l13, rfl, hc, rfl, hF⟩ hmem rest hnext
  have hkn : (i : Int) < (n : Int) := by omega
  have hq : ∀ (l0 l1 l2 l3 l4 l5 l6 l7 l8 l9 l10 l11 l12 l13 : Bool) (w' : World), f = cntF l0 + cntF l1 + cntF l2 + cntF l3 + cntF l4 + cntF l5 + cntF l6 + cntF l7 + cntF l8 + cntF l9 + cntF l10 + cntF l11 + cntF l12 + cntF l13 → W12 K b1 p1 b2 p2 i s t X w' → I12 K o b1 p1 b2 p2 i n c1 c2 s t y e X f #[l0, l1, l2, l3, l4, l5, l6, l7, l8, l9, l10, l11, l12, l13] (T12 o b1 p1 b2 p2 i n c1 c2 s t y e l0 l1 l2 l3 l4 l5 l6 l7 l8 l9 l10 l11 l12 l13) w' := fun l0 l1 l2 l3 l4 l5 l6 l7 l8 l9 l10 l11 l12 l13 w' h1 h2 => I12.of h1 h2
  simp only [ops12, L12, tail12, Try.f12, T12] at hnext hq ⊢
  rcases deps12 hmem with ⟨rfl, rfl⟩ | ⟨rfl, rfl⟩ | ⟨rfl, rfl, rfl, rfl⟩ | ⟨rfl, rfl, rfl⟩ | ⟨rfl, rfl⟩ | ⟨rfl, rfl⟩ | ⟨rfl, rfl, rfl, rfl⟩ | ⟨rfl, rfl, rfl⟩ | ⟨rfl, rfl, rfl, rfl⟩ | ⟨rfl, rfl, rfl⟩ | ⟨rfl, rfl, rfl⟩ | ⟨rfl, rfl, rfl⟩ | ⟨rfl, rfl, rfl, rfl, rfl, rfl, rfl, rfl, rfl, rfl, rfl, rfl, rfl⟩ | ⟨rfl, rfl, rfl, rfl, rfl, rfl, rfl, rfl, rfl, rfl, rfl, rfl, rfl, rfl, rfl⟩
  ·skip
   refine EndsF.step rfl (fun w₁ h₁ => ?_)
   replace hF := hF.rely hX h₁
   obtain ⟨d, rfl⟩ := h₁
   refine goes_oper_k rfl rfl (by k_ne) (fun K hK => ?_)
   go_simp
   refine hK _ _ ⟨?_, ?_⟩
   ·refine de_none ?_
    intro ex hex
    have hm := mem_listed hex
    simp [go_sem, *] at hm
   clear hK
   exact hnext _ _ (hq true l1 l2 l3 l4 l5 l6 l7 l8 l9 l10 l11 l12 l13 _ (by simp [cntF] at hc ⊢; omega) hF)
  ·skip
   refine EndsF.step rfl (fun w₁ h₁ => ?_)
   replace hF := hF.rely hX h₁
   obtain ⟨d, rfl⟩ := h₁
   refine goes_oper_k rfl rfl (by k_ne) (fun K hK => ?_)
   go_simp
   refine hK _ _ ⟨?_, ?_⟩
   ·refine de_none ?_
    intro ex hex
    have hm := mem_listed hex
    simp [go_sem, *] at hm
   clear hK
   exact hnext _ _ (hq l0 true l2 l3 l4 l5 l6 l7 l8 l9 l10 l11 l12 l13 _ (by simp [cntF] at hc ⊢; omega) hF)
  ·simp only [gw_t]
   refine EndsF.step rfl (fun w₁ h₁ => ?_)
   replace hF := hF.rely hX h₁
   obtain ⟨d, rfl⟩ := h₁
   refine goes_oper_k rfl rfl (by k_ne) (fun K hK => ?_)
   go_simp
   refine hK _ _ ⟨?_, ?_⟩
   ·refine de_none ?_
    intro ex hex
    have hm := mem_listed hex
    simp [go_sem, *] at hm
   clear hK
   exact hnext _ _ (hq true true true l3 l4 l5 l6 l7 l8 l9 l10 l11 l12 l13 _ (by simp [cntF] at hc ⊢; omega) hF)
  ·simp only [gw_t]
   refine EndsF.step rfl (fun w₁ h₁ => ?_)
   replace hF := hF.rely hX h₁
   obtain ⟨d, rfl⟩ := h₁
   refine goes_oper_k rfl rfl (by k_ne) (fun K hK => ?_)
   have hld := hF.c1
   go_simp
   refine hK _ _ ⟨fun ex hex => ?_, ?_⟩
   ·have hm := mem_listed hex
    simp [go_sem, *] at hm
    subst hm
    exact evL_cell _ _ (hs1 _ rfl) (by have := hF.k; show b1 < w.heap.size; exact Nat.lt_of_lt_of_le hb1 this)
   clear hK
   exact hnext _ _ (hq l0 l1 true true l4 l5 l6 l7 l8 l9 l10 l11 l12 l13 _ (by simp [cntF] at hc ⊢; omega) hF)
  ·skip
   refine EndsF.step rfl (fun w₁ h₁ => ?_)
   replace hF := hF.rely hX h₁
   obtain ⟨d, rfl⟩ := h₁
   refine goes_oper_k rfl rfl (by k_ne) (fun K hK => ?_)
   go_simp
   refine hK _ _ ⟨?_, ?_⟩
   ·refine de_none ?_
    intro ex hex
    have hm := mem_listed hex
    simp [go_sem, *] at hm
   clear hK
   exact hnext _ _ (hq l0 l1 l2 l3 true l5 l6 l7 l8 l9 l10 l11 l12 l13 _ (by simp [cntF] at hc ⊢; omega) hF)
  ·skip
   refine EndsF.step rfl (fun w₁ h₁ => ?_)
   replace hF := hF.rely hX h₁
   obtain ⟨d, rfl⟩ := h₁
   refine goes_oper_k rfl rfl (by k_ne) (fun K hK => ?_)
   go_simp
   refine hK _ _ ⟨?_, ?_⟩
   ·refine de_none ?_
    intro ex hex
    have hm := mem_listed hex
    simp [go_sem, *] at hm
   clear hK
   exact hnext _ _ (hq l0 l1 l2 l3 l4 true l6 l7 l8 l9 l10 l11 l12 l13 _ (by simp [cntF] at hc ⊢; omega) hF)
  ·simp only [gw_t]
   refine EndsF.step rfl (fun w₁ h₁ => ?_)
   replace hF := hF.rely hX h₁
   obtain ⟨d, rfl⟩ := h₁
   refine goes_oper_k rfl rfl (by k_ne) (fun K hK => ?_)
   go_simp
   refine hK _ _ ⟨?_, ?_⟩
   ·refine de_none ?_
    intro ex hex
    have hm := mem_listed hex
    simp [go_sem, *] at hm
   clear hK
   exact hnext _ _ (hq l0 l1 l2 l3 true true true l7 l8 l9 l10 l11 l12 l13 _ (by simp [cntF] at hc ⊢; omega) hF)
  ·simp only [gw_t]
   refine EndsF.step rfl (fun w₁ h₁ => ?_)
   replace hF := hF.rely hX h₁
   obtain ⟨d, rfl⟩ := h₁
   refine goes_oper_k rfl rfl (by k_ne) (fun K hK => ?_)
   have hld := hF.c2
   go_simp
   refine hK _ _ ⟨fun ex hex => ?_, ?_⟩
   ·have hm := mem_listed hex
    simp [go_sem, *] at hm
    subst hm
    exact evL_cell _ _ (hs2 _ rfl) (by have := hF.k; show b2 < w.heap.size; exact Nat.lt_of_lt_of_le hb2 this)
   clear hK
   exact hnext _ _ (hq l0 l1 l2 l3 l4 l5 true true l8 l9 l10 l11 l12 l13 _ (by simp [cntF] at hc ⊢; omega) hF)
  ·simp only [gw_t]
   refine EndsF.step rfl (fun w₁ h₁ => ?_)
   replace hF := hF.rely hX h₁
   obtain ⟨d, rfl⟩ := h₁
   refine goes_call rfl rfl (by k_ne) rfl Try.func22 nm22 rfl ⟨de_nil, ?_⟩
   rw [← enter_at _ Try.func22 rfl]
   refine EndsF.privately (w := w.at d) (FS := Go.Dig.FS) (RF := Go.Dig.RF) (RR := Go.Dig.RR) Go.Dig.okAll (by simp [Go.Dig.FS]) rfl (v0 := .tuple #[.string y, .int .i64 e]) ?_ (.tuple fun c hc => by simp at hc; rcases hc with rfl | rfl; exact .string _; exact .int _ _) (by simpa [Act.eval] using hcall) (fun a ha => hSc a (Nat.le_trans hF.k ha)) (fun w' hB' => ?_)
   ·intro a ha
    simp [Act.eval] at ha
    rcases ha with rfl | rfl <;> exact .string _
   rw [Frame.finish_at]
   exact hnext _ _ (hq l0 l1 l2 true l4 l5 l6 true true l9 l10 l11 l12 l13 _ (by simp [cntF] at hc ⊢; omega) (hF.below hb1 hb2 hXb hB'))
  ·simp only [gw_t]
   refine EndsF.step rfl (fun w₁ h₁ => ?_)
   replace hF := hF.rely hX h₁
   obtain ⟨d, rfl⟩ := h₁
   refine goes_oper_k rfl rfl (by k_ne) (fun K hK => ?_)
   go_simp
   refine hK _ _ ⟨?_, ?_⟩
   ·refine de_none ?_
    intro ex hex
    have hm := mem_listed hex
    simp [go_sem, *] at hm
   clear hK
   exact hnext _ _ (hq l0 l1 l2 l3 l4 l5 l6 l7 true true l10 l11 l12 l13 _ (by simp [cntF] at hc ⊢; omega) hF)
  ·simp only [gw_t]
   refine EndsF.step rfl (fun w₁ h₁ => ?_)
   replace hF := hF.rely hX h₁
   obtain ⟨d, rfl⟩ := h₁
   refine goes_oper_k rfl rfl (by k_ne) (fun K hK => ?_)
   go_simp
   refine hK _ _ ⟨?_, ?_⟩
   ·refine de_none ?_
    intro ex hex
    have hm := mem_listed hex
    simp [go_sem, *] at hm
   clear hK
   exact hnext _ _ (hq l0 l1 l2 l3 l4 l5 l6 l7 l8 true true l11 l12 l13 _ (by simp [cntF] at hc ⊢; omega) hF)
  ·simp only [gw_t]
   refine EndsF.step rfl (fun w₁ h₁ => ?_)
   replace hF := hF.rely hX h₁
   obtain ⟨d, rfl⟩ := h₁
   refine goes_oper_k rfl rfl (by k_ne) (fun K hK => ?_)
   go_simp
   refine hK _ _ ⟨?_, ?_⟩
   ·refine de_none ?_
    intro ex hex
    have hm := mem_listed hex
    simp [go_sem, *] at hm
   clear hK
   exact hnext _ _ (hq l0 l1 l2 l3 l4 l5 l6 l7 l8 true l10 true l12 l13 _ (by simp [cntF] at hc ⊢; omega) hF)
  ·simp only [gw_t]
   refine EndsF.step rfl (fun w₁ h₁ => ?_)
   replace hF := hF.rely hX h₁
   obtain ⟨d, rfl⟩ := h₁
   refine goes_oper_k rfl rfl (by k_ne) (fun K hK => ?_)
   go_simp
   refine hK _ _ ⟨?_, ?_⟩
   ·refine de_none ?_
    intro ex hex
    have hm := mem_listed hex
    simp [go_sem, *] at hm
   clear hK
   exact hnext _ _ (hq true true true true true true true true true true true l11 true l13 _ (by simp [cntF] at hc ⊢; omega) hF)
  ·simp only [gw_t]
   refine EndsF.step rfl (fun w₁ h₁ => ?_)
   replace hF := hF.rely hX h₁
   obtain ⟨d, rfl⟩ := h₁
   refine goes_oper_k rfl rfl (by k_ne) (fun K hK => ?_)
   go_simp
   refine hK _ _ ⟨?_, ?_⟩
   ·refine de_none ?_
    intro ex hex
    have hm := mem_listed hex
    simp [go_sem, *] at hm
   clear hK
   exact hnext _ _ (hq true true true true true true true true true true true true true true _ (by simp [cntF] at hc ⊢; omega) hF)
 ·exact ⟨false, false, false, false, false, false, false, false, false, false, false, false, false, false, rfl, rfl, rfl, hF⟩
end
end Go.Pool
end
section
set_option linter.unusedSimpArgs false
namespace Go.Pool
open Go.Conc Go.RowKit Go.Proofs Go.ConcN Go.Conc.Lib Go.ConcR.Gen Go.ConcN.Gen
open Go.ConcR (KK wgBlock WgAt stA smA rd wr mk DC0)
def b8 : Frame := base 8
end Go.Pool
end
section
set_option linter.unusedSimpArgs false
end
