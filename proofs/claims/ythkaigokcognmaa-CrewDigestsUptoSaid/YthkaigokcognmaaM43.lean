/- A part of the proof of CrewDigestsUpto (no statement of its own): Dg12. -/
import Derived.Test.YthkaigokcognmaaM42
section
set_option linter.unusedSimpArgs false
namespace Go.Pool
open Go.Conc Go.RowKit Go.Proofs Go.ConcN Go.Conc.Lib Go.ConcR.Gen Go.ConcN.Gen
open Go.ConcR (KK wgBlock WgAt stA smA rd wr mk DC0)
open Go.Proofs.Ythkaigokcognmaa.Sha (dg c22 c22_long)
theorem array85 (T : Array Value) (h : T.size = 85) : ∃ v0 v1 v2 v3 v4 v5 v6 v7 v8 v9 v10 v11 v12 v13 v14 v15 v16 v17 v18 v19 v20 v21 v22 v23 v24 v25 v26 v27 v28 v29 v30 v31 v32 v33 v34 v35 v36 v37 v38 v39 v40 v41 v42 v43 v44 v45 v46 v47 v48 v49 v50 v51 v52 v53 v54 v55 v56 v57 v58 v59 v60 v61 v62 v63 v64 v65 v66 v67 v68 v69 v70 v71 v72 v73 v74 v75 v76 v77 v78 v79 v80 v81 v82 v83 v84, T = #[v0, v1, v2, v3, v4, v5, v6, v7, v8, v9, v10, v11, v12, v13, v14, v15, v16, v17, v18, v19, v20, v21, v22, v23, v24, v25, v26, v27, v28, v29, v30, v31, v32, v33, v34, v35, v36, v37, v38, v39, v40, v41, v42, v43, v44, v45, v46, v47, v48, v49, v50, v51, v52, v53, v54, v55, v56, v57, v58, v59, v60, v61, v62, v63, v64, v65, v66, v67, v68, v69, v70, v71, v72, v73, v74, v75, v76, v77, v78, v79, v80, v81, v82, v83, v84] :=
 ⟨T[0], T[1], T[2], T[3], T[4], T[5], T[6], T[7], T[8], T[9], T[10], T[11], T[12], T[13], T[14], T[15], T[16], T[17], T[18], T[19], T[20], T[21], T[22], T[23], T[24], T[25], T[26], T[27], T[28], T[29], T[30], T[31], T[32], T[33], T[34], T[35], T[36], T[37], T[38], T[39], T[40], T[41], T[42], T[43], T[44], T[45], T[46], T[47], T[48], T[49], T[50], T[51], T[52], T[53], T[54], T[55], T[56], T[57], T[58], T[59], T[60], T[61], T[62], T[63], T[64], T[65], T[66], T[67], T[68], T[69], T[70], T[71], T[72], T[73], T[74], T[75], T[76], T[77], T[78], T[79], T[80], T[81], T[82], T[83], T[84], by
  apply Array.ext (by simp [h])
  intro i h1 h2
  have hi : i < 85 := by omega
  iterate 85 (rcases i with _ | i; · rfl)
  omega⟩
theorem array85o (T : Array Value) (h : T.size = 85) : ∃ o : Nat → Value, T = #[o 0, o 1, o 2, o 3, o 4, o 5, o 6, o 7, o 8, o 9, o 10, o 11, o 12, o 13, o 14, o 15, o 16, o 17, o 18, o 19, o 20, o 21, o 22, o 23, o 24, o 25, o 26, o 27, o 28, o 29, o 30, o 31, o 32, o 33, o 34, o 35, o 36, o 37, o 38, o 39, o 40, o 41, o 42, o 43, o 44, o 45, o 46, o 47, o 48, o 49, o 50, o 51, o 52, o 53, o 54, o 55, o 56, o 57, o 58, o 59, o 60, o 61, o 62, o 63, o 64, o 65, o 66, o 67, o 68, o 69, o 70, o 71, o 72, o 73, o 74, o 75, o 76, o 77, o 78, o 79, o 80, o 81, o 82, o 83, o 84] := by
 obtain ⟨v0, v1, v2, v3, v4, v5, v6, v7, v8, v9, v10, v11, v12, v13, v14, v15, v16, v17, v18, v19, v20, v21, v22, v23, v24, v25, v26, v27, v28, v29, v30, v31, v32, v33, v34, v35, v36, v37, v38, v39, v40, v41, v42, v43, v44, v45, v46, v47, v48, v49, v50, v51, v52, v53, v54, v55, v56, v57, v58, v59, v60, v61, v62, v63, v64, v65, v66, v67, v68, v69, v70, v71, v72, v73, v74, v75, v76, v77, v78, v79, v80, v81, v82, v83, v84, rfl⟩ := array85 T h
 exact ⟨fun j => (#[v0, v1, v2, v3, v4, v5, v6, v7, v8, v9, v10, v11, v12, v13, v14, v15, v16, v17, v18, v19, v20, v21, v22, v23, v24, v25, v26, v27, v28, v29, v30, v31, v32, v33, v34, v35, v36, v37, v38, v39, v40, v41, v42, v43, v44, v45, v46, v47, v48, v49, v50, v51, v52, v53, v54, v55, v56, v57, v58, v59, v60, v61, v62, v63, v64, v65, v66, v67, v68, v69, v70, v71, v72, v73, v74, v75, v76, v77, v78, v79, v80, v81, v82, v83, v84] : Array Value).getD j undef, rfl⟩
def digs (S T : Nat → ByteArray) : Nat → List Value
 | 0 => []
 | i + 1 => digs S T i ++ [.string (dgs S T i)]
theorem digs_len (S T : Nat → ByteArray) : ∀ i, (digs S T i).length = i
 | 0 => rfl
 | i + 1 => by rw [digs, List.length_append, digs_len S T i]; rfl
theorem digs_get (S T : Nat → ByteArray) : ∀ i k, k < i → (digs S T i)[k]? = some (.string (dgs S T k))
 | 0, _, h => absurd h (Nat.not_lt_zero _)
 | i + 1, k, h => by
  have hl := digs_len S T i
  by_cases e : k < i
  ·rw [digs, List.getElem?_append_left (by omega)]
   exact digs_get S T i k e
  ·obtain rfl : k = i := by omega
   rw [digs, List.getElem?_append_right (by omega), hl, Nat.sub_self]
   rfl
section
variable {Post : Value → World → Prop} {Shun : Loc → Prop} {X : World → Prop} {K : Nat} {b1 p1 b2 p2 i n c1 c2 : Nat} {s t y : ByteArray} {e : Int}
set_option maxRecDepth 100000 in
set_option maxHeartbeats 4000000 in
theorem region12A (hb1 : b1 < K) (hb2 : b2 < K) (hs1 : ∀ a : Addr, a.block = b1 → ¬ Shun (.cell a)) (hs2 : ∀ a : Addr, a.block = b2 → ¬ Shun (.cell a)) (hSc : ∀ a : Addr, K ≤ a.block → ¬ Shun (.cell a)) (hk : i < n) (hX : ∀ w w₁, X w → AtRel w w₁ → X w₁) (hXb : ∀ w w₁, X w → Below w.heap.size w w₁ → X w₁)
  (hcall : ∀ w, Calls Try.prog 22 #[.string s, .string t] w fun v _ => v = .returned (.tuple #[.string y, .int .i64 e])) {kk : List Item} {cs : List Frame} {id : Nat} {A : Array Value} (hs : A.size = 85) (t0 : A[0]? = some (.slice (some ⟨b1, p1, none⟩) n c1)) (t1 : A[1]? = some (.slice (some ⟨b2, p2, none⟩) n c2)) (t10 : A[10]? = some (.int .i64 i))
  (hend : ∀ (A' : Array Value) w, A'.size = 85 → (∀ j, j < 11 → A'[j]? = A[j]?) → A'[11]? = some (.string y) → A'[12]? = some (.int .i64 e) → W12 K b1 p1 b2 p2 i s t X w → EndsF Try.prog Post Shun w.heap.size (Go.Conc.G (b12.at ⟨A', []⟩ kk) cs) w) :
  ∀ w, W12 K b1 p1 b2 p2 i s t X w → EndsF Try.prog Post Shun w.heap.size (Go.Conc.G (b12.at ⟨A, []⟩ (.code (.region id ops12 true) :: kk)) cs) w := by
 obtain ⟨o, rfl⟩ := array85o A hs
 simp only [List.getElem?_toArray, List.getElem?_cons_zero, List.getElem?_cons_succ, Option.some.injEq] at t0 t1 t10
 rw [t0, t1, t10] at hend ⊢
 refine region12 (o := o) hb1 hb2 hs1 hs2 hSc hk hX hXb hcall ?_
 intro w hW
 refine hend _ w rfl (fun j hj => ?_) rfl rfl hW
 iterate 11 (rcases j with _ | j; · rfl)
 omega
end
structure F12 (W : World) (S T : Nat → ByteArray) (K Z : Nat) (O : Option Addr) (m : Nat) (v : Value) (i : Nat) (xs : List Value) (w : World) : Prop where
 below : Below W.heap.size W w
 size : w.heap.size = Z
 row : w.ownsRow K 9 1 v i xs
 out : RowT O m (dgs S T) w
structure G12 (W : World) (S T : Nat → ByteArray) (K Z : Nat) (O : Option Addr) (m : Nat) (v : Value) (i : Nat) (xs : List Value) (y : ByteArray) (w : World) : Prop where
 below : Below W.heap.size W w
 size : w.heap.size = Z + 1
 row : w.ownsRow K 9 1 v i xs
 out : RowT O m (dgs S T) w
 new : w.heap[Z]? = some (.cells #[.string y] 9)
theorem RowT.stay {a : Option Addr} {n K : Nat} {xs : Nat → ByteArray} {w w' : World} (h : RowT a n xs w) (hs : ∀ b, b < K → w'.heap[b]? = w.heap[b]?) (hlt : 0 < n → ∀ ad, a = some ad → ad.block < K) : RowT a n xs w' := fun k hk => by
 obtain ⟨b, o, e, hc⟩ := h k hk
 exact ⟨b, o, e, (cell_block (hs b (hlt (by omega) _ e)) _).trans hc⟩
section
variable {W : World} {S T : Nat → ByteArray} {K Z m i : Nat} {O : Option Addr} {v : Value} {xs : List Value} {y : ByteArray} {w w₁ : World}
theorem F12.rely (h : F12 W S T K Z O m v i xs w) (r : AtRel w w₁) : F12 W S T K Z O m v i xs w₁ := by
 have hb := below_at h.below r
 obtain ⟨d, rfl⟩ := r
 exact ⟨hb, h.size, h.row, h.out⟩
theorem G12.rely (h : G12 W S T K Z O m v i xs y w) (r : AtRel w w₁) : G12 W S T K Z O m v i xs y w₁ := by
 have hb := below_at h.below r
 obtain ⟨d, rfl⟩ := r
 exact ⟨hb, h.size, h.row, h.out, h.new⟩
theorem F12.more (h : F12 W S T K Z O m v i xs w) (hK : K ≤ Z) (hO : 0 < m → ∀ ad, O = some ad → ad.block < K) (y : ByteArray) : G12 W S T K Z O m v i xs y (w.alloc (.cells #[.string y] 9)) :=
 ⟨h.below.alloc h.below.size _, by rw [World.size_alloc, h.size], ownsRow_below h.row fun b hb => Below.heap_alloc _ _ _ hb, RowT.stay h.out (K := K) (fun b hb => Below.heap_alloc _ _ _ (by have := h.size; omega)) hO, by have := heap_alloc_new w (.cells #[.string y] 9); rwa [h.size] at this⟩
end
section
variable {W : World} {Shun : Loc → Prop} {n K m : Nat} {O : Option Addr} {er N : Int} {sa1 sa2 : Option Addr} {c1 c2 : Nat} {S T : Nat → ByteArray}
set_option maxRecDepth 100000 in
set_option maxHeartbeats 8000000 in
theorem head12 (hn : n ≤ 1048576) (hHK : W.heap.size ≤ K) (hSc : ∀ a : Addr, K ≤ a.block → ¬ Shun (.cell a)) (hSo : ∀ r, ¬ Shun (.obj r)) (h1 : StrIn Shun W.heap.size W n sa1 S) (h2 : StrIn Shun W.heap.size W n sa2 T) (hT : ∀ k, k < n → (T k).size ≤ 140737488355000) (hO : OkRow Shun K O m)
  (hres : ((∀ j, j < n → (S j).size ≤ 32) ∧ m = n ∧ er = 0) ∨ (¬ (∀ j, j < n → (S j).size ≤ 32) ∧ m = 0 ∧ er = 1)) :
  ∀ r i, i + r = n → (∀ j, j < i → (S j).size ≤ 32) → ∀ (A : Array Value) (v : Value) (w : World), A.size = 85 → A[0]? = some (.slice sa1 n c1) → A[1]? = some (.slice sa2 n c2) → A[7]? = some (.slice O m m) → A[8]? = some (.int .i64 er) → A[9]? = some v → A[10]? = some (.int .i64 i) → K ≤ w.heap.size →
   F12 W S T K w.heap.size O m v i (digs S T i) w →
   EndsF Try.prog (PostL W) Shun w.heap.size (Go.Conc.G (b12.at ⟨A, []⟩ [.code L12, .inLoop L12, .inBlock 0, .code K12]) []) w := by
 intro r
 induction r with
 | zero =>
  intro i hi hS A v w hs t0 t1 t7 t8 t9 t10 hKZ hF
  obtain rfl : n = i := by omega
  obtain ⟨_, rfl, rfl⟩ := hres.resolve_right fun h => h.1 hS
  obtain ⟨v0, v1, v2, v3, v4, v5, v6, v7, v8, v9, v10, v11, v12, v13, v14, v15, v16, v17, v18, v19, v20, v21, v22, v23, v24, v25, v26, v27, v28, v29, v30, v31, v32, v33, v34, v35, v36, v37, v38, v39, v40, v41, v42, v43, v44, v45, v46, v47, v48, v49, v50, v51, v52, v53, v54, v55, v56, v57, v58, v59, v60, v61, v62, v63, v64, v65, v66, v67, v68, v69, v70, v71, v72, v73, v74, v75, v76, v77, v78, v79, v80, v81, v82, v83, v84, rfl⟩ := array85 A hs
  simp only [List.getElem?_toArray, List.getElem?_cons_zero, List.getElem?_cons_succ, Option.some.injEq] at t0 t1 t7 t8 t9 t10
  subst t0 t1 t7 t8 t9 t10
  have hcap : ∃ cap a, v9 = .slice a m cap ∧ (∀ ad, a = some ad → K ≤ ad.block ∧ ad.block < w.heap.size) ∧ RowT a m (dgs S T) w := by
   rcases hF.row.2 with ⟨rfl, h0⟩ | ⟨g, cap, cur, rfl, hbg, hgc, _, _, hcs, htake⟩
   ·exact ⟨0, none, by rw [h0], by simp, fun k hk => by omega⟩
   ·refine ⟨cap, some ⟨g, 0, none⟩, rfl, fun ad e => by cases e; exact ⟨hbg, (Array.getElem?_eq_some_iff.1 hgc).1⟩, fun k hk => ⟨g, 0, rfl, ?_⟩⟩
    have h3 := digs_get S T m k hk
    rw [← htake, List.getElem?_take, if_pos (by omega)] at h3
    simp [World.cell?, hgc]
    simpa using h3
  obtain ⟨cap, a', rfl, hga, hrow⟩ := hcap
  generalize hZ : w.heap.size = Z at hF hKZ hga ⊢
  simp only [L12, K12, tail12, Try.f12]
  have hlt : ¬ (m : Int) < (m : Int) := by omega
  have hF : (Below W.heap.size W w ∧ w.heap.size = Z) ∧ RowT O m (dgs S T) w ∧ RowT a' m (dgs S T) w := ⟨⟨hF.below, hF.size⟩, hF.out, hrow⟩
  clear hrow hZ
  have rlz : ∀ {w w₁ : World}, (Below W.heap.size W w ∧ w.heap.size = Z) ∧ RowT O m (dgs S T) w ∧ RowT a' m (dgs S T) w → AtRel w w₁ → (Below W.heap.size W w₁ ∧ w₁.heap.size = Z) ∧ RowT O m (dgs S T) w₁ ∧ RowT a' m (dgs S T) w₁ := fun h r => by
   refine ⟨sz_rely h.1 r, ?_⟩
   obtain ⟨d, rfl⟩ := r
   exact h.2
  iterate 2
   refine EndsF.step rfl (fun _ h₁ => ?_)
   replace hF := rlz hF h₁
   clear h₁
   rw [stepG_seq]
   simp only [goes_go]
   refine ⟨de_nil, ?_⟩
  refine EndsF.step rfl (fun _ h₁ => ?_)
  replace hF := rlz hF h₁
  clear h₁
  rw [stepG_region]
  simp only [goes_go, List.size_toArray, List.length_cons, List.length_nil, Nat.reduceAdd, Nat.zero_add, List.range, List.range.loop]
  refine ⟨de_nil, ?_⟩
  iterate 4
   refine EndsF.step rfl (fun _ h₁ => ?_)
   replace hF := rlz hF h₁
   clear h₁
   refine goes_oper_k rfl rfl (by k_ne) (fun K hK => ?_)
   go_simp
   refine hK _ _ ⟨?_, ?_⟩
   ·refine de_none ?_
    intro ex hex
    have hm := mem_listed hex
    simp [go_sem, *] at hm
   clear hK K
   try w_num
  refine EndsF.step rfl (fun _ h₁ => ?_)
  replace hF := rlz hF h₁
  clear h₁
  rw [stepG_region_end]
  simp only [goes_go]
  refine ⟨de_nil, ?_⟩
  refine EndsF.step rfl (fun _ h₁ => ?_)
  replace hF := rlz hF h₁
  clear h₁
  rw [stepG_cond (t := false) rfl]
  simp only [goes_go, if_true, if_false, Bool.false_eq_true, ↓reduceIte]
  refine ⟨de_nil, ?_⟩
  refine EndsF.step rfl (fun _ h₁ => ?_)
  replace hF := rlz hF h₁
  clear h₁
  refine goes_exit rfl ?_
  refine ⟨de_nil, ?_⟩
  refine EndsF.step rfl (fun _ h₁ => ?_)
  replace hF := rlz hF h₁
  clear h₁
  rw [stepG_seq]
  simp only [goes_go]
  refine ⟨de_nil, ?_⟩
  refine EndsF.step rfl (fun _ h₁ => ?_)
  replace hF := rlz hF h₁
  clear h₁
  rw [stepG_region]
  simp only [goes_go, List.size_toArray, List.length_cons, List.length_nil, Nat.reduceAdd, Nat.zero_add, List.range, List.range.loop]
  refine ⟨de_nil, ?_⟩
  iterate 5
   refine EndsF.step rfl (fun _ h₁ => ?_)
   replace hF := rlz hF h₁
   clear h₁
   refine goes_oper_k rfl rfl (by k_ne) (fun K hK => ?_)
   go_simp
   refine hK _ _ ⟨?_, ?_⟩
   ·refine de_none ?_
    intro ex hex
    have hm := mem_listed hex
    simp [go_sem, *] at hm
   clear hK K
   try w_num
  refine EndsF.step rfl (fun _ h₁ => ?_)
  replace hF := rlz hF h₁
  clear h₁
  refine goes_call rfl rfl (by k_ne) rfl Try.func38 nm38 rfl ⟨de_nil, ?_⟩
  walk_nrmf Try.f38
  rename_i w5
  refine texts_ends (a := O) (a' := a') (xs := dgs S T) (w := w5) (by omega) (fun h0 ad e => ⟨(hO h0 ad e).1, by have := (hO h0 ad e).2; omega⟩) (fun _ ad e => ⟨fun x hx => hSc x (by rw [hx]; exact (hga ad e).1), (hga ad e).2⟩) ⟨hF.2.1, hF.2.2, ?_⟩
  unfold Back
  walk_nrm
  iterate 2
   refine EndsF.step rfl (fun _ h₁ => ?_)
   replace hF := rlz hF h₁
   clear h₁
   refine goes_oper_k rfl rfl (by k_ne) (fun K hK => ?_)
   go_simp
   refine hK _ _ ⟨?_, ?_⟩
   ·refine de_none ?_
    intro ex hex
    have hm := mem_listed hex
    simp [go_sem, *] at hm
   clear hK K
   try w_num
  refine EndsF.step rfl (fun _ h₁ => ?_)
  replace hF := rlz hF h₁
  clear h₁
  refine goes_call rfl rfl (by k_ne) rfl Try.func30 nm30 rfl ⟨de_nil, ?_⟩
  walk_nrmf Try.f30
  rename_i w1
  refine awake_ends (H := Z) (w0 := w1) hF.1.2 (Nat.le_refl _) (fun a ha => hSc a (by omega)) hSo ?_
  intro Shun' w2 hS2 hb2 hs2
  have hF2 : Below W.heap.size W w2 ∧ w2.heap.size = Z + 12 := ⟨hF.1.1.trans (hb2.mono (by omega)), hs2⟩
  clear hF hb2 hs2
  unfold Back
  walk_nrm
  iterate 2
   refine EndsF.step rfl (fun _ h₁ => ?_)
   replace hF2 := sz_rely hF2 h₁
   clear h₁
   refine goes_oper_k rfl rfl (by k_ne) (fun K hK => ?_)
   go_simp
   refine hK _ _ ⟨?_, ?_⟩
   ·refine de_none ?_
    intro ex hex
    have hm := mem_listed hex
    simp [go_sem, *] at hm
   clear hK K
   try w_num
  refine EndsF.step rfl (fun _ h₁ => ?_)
  replace hF2 := sz_rely hF2 h₁
  clear h₁
  rw [stepG_region_end]
  simp only [goes_go]
  refine ⟨de_nil, ?_⟩
  refine EndsF.step rfl (fun _ h₁ => ?_)
  replace hF2 := sz_rely hF2 h₁
  clear h₁
  rw [stepG_ret']
  simp only [goes_go]
  refine ⟨de_nil, ?_⟩
  refine postL_end rfl (fun w => ?_) hF2.1
  simp [Go.Conc.G, stepG, unwind, doReturn, results, Frame.at, base, b12, Try.func12, Try.f12, seen, GStep.after]
 | succ r ih =>
  intro i hi hS A v w hs t0 t1 t7 t8 t9 t10 hKZ hF
  obtain ⟨v0, v1, v2, v3, v4, v5, v6, v7, v8, v9, v10, v11, v12, v13, v14, v15, v16, v17, v18, v19, v20, v21, v22, v23, v24, v25, v26, v27, v28, v29, v30, v31, v32, v33, v34, v35, v36, v37, v38, v39, v40, v41, v42, v43, v44, v45, v46, v47, v48, v49, v50, v51, v52, v53, v54, v55, v56, v57, v58, v59, v60, v61, v62, v63, v64, v65, v66, v67, v68, v69, v70, v71, v72, v73, v74, v75, v76, v77, v78, v79, v80, v81, v82, v83, v84, rfl⟩ := array85 A hs
  simp only [List.getElem?_toArray, List.getElem?_cons_zero, List.getElem?_cons_succ, Option.some.injEq] at t0 t1 t7 t8 t9 t10
  subst t0 t1 t7 t8 t9 t10
  obtain ⟨b1, o1, rfl, hb1, hs1, hx1⟩ := h1 i (by omega)
  obtain ⟨b2, o2, rfl, hb2, hs2, hx2⟩ := h2 i (by omega)
  have ih' := ih (i + 1) (by omega)
  clear ih
  generalize hZ : w.heap.size = Z at hF hKZ ⊢
  simp only [L12, K12, tail12, Try.f12] at ih' ⊢
  have hlt : (i : Int) < (n : Int) := by omega
  have hw : IntKind.i64.wrap ((i : Int) + 1) = ((i + 1 : Nat) : Int) := by rw [IntKind.wrap_i64]; omega
  iterate 2
   refine EndsF.step rfl (fun _ h₁ => ?_)
   replace hF := F12.rely hF h₁
   clear h₁
   rw [stepG_seq]
   simp only [goes_go]
   refine ⟨de_nil, ?_⟩
  refine EndsF.step rfl (fun _ h₁ => ?_)
  replace hF := F12.rely hF h₁
  clear h₁
  rw [stepG_region]
  simp only [goes_go, List.size_toArray, List.length_cons, List.length_nil, Nat.reduceAdd, Nat.zero_add, List.range, List.range.loop]
  refine ⟨de_nil, ?_⟩
  iterate 4
   refine EndsF.step rfl (fun _ h₁ => ?_)
   replace hF := F12.rely hF h₁
   clear h₁
   refine goes_oper_k rfl rfl (by k_ne) (fun K hK => ?_)
   go_simp
   refine hK _ _ ⟨?_, ?_⟩
   ·refine de_none ?_
    intro ex hex
    have hm := mem_listed hex
    simp [go_sem, *] at hm
   clear hK K
   try w_num
  refine EndsF.step rfl (fun _ h₁ => ?_)
  replace hF := F12.rely hF h₁
  clear h₁
  rw [stepG_region_end]
  simp only [goes_go]
  refine ⟨de_nil, ?_⟩
  refine EndsF.step rfl (fun _ h₁ => ?_)
  replace hF := F12.rely hF h₁
  clear h₁
  rw [stepG_cond (t := true) rfl]
  simp only [goes_go, if_true, if_false, Bool.false_eq_true, ↓reduceIte]
  refine ⟨de_nil, ?_⟩
  refine EndsF.step rfl (fun _ h₁ => ?_)
  replace hF := F12.rely hF h₁
  clear h₁
  rw [stepG_skip]
  simp only [goes_go]
  refine ⟨de_nil, ?_⟩
  refine EndsF.step rfl (fun _ h₁ => ?_)
  replace hF := F12.rely hF h₁
  clear h₁
  rw [stepG_seq]
  simp only [goes_go]
  refine ⟨de_nil, ?_⟩
  refine EndsF.step rfl (fun _ h₁ => ?_)
  replace hF := F12.rely hF h₁
  clear h₁
  rw [stepG_block]
  simp only [goes_go]
  refine ⟨de_nil, ?_⟩
  refine EndsF.step rfl (fun _ h₁ => ?_)
  replace hF := F12.rely hF h₁
  clear h₁
  rw [stepG_seq]
  simp only [goes_go]
  refine ⟨de_nil, ?_⟩
  rename_i w1
  rw [← hF.size]
  have hXr : ∀ w w₁, (Below W.heap.size W w ∧ w.ownsRow K 9 1 v9 i (digs S T i) ∧ RowT O m (dgs S T) w ∧ K ≤ w.heap.size) → AtRel w w₁ → (Below W.heap.size W w₁ ∧ w₁.ownsRow K 9 1 v9 i (digs S T i) ∧ RowT O m (dgs S T) w₁ ∧ K ≤ w₁.heap.size) := fun w w₁ h r => by
   have hb := below_at h.1 r
   obtain ⟨d, rfl⟩ := r
   exact ⟨hb, h.2⟩
  have hXb : ∀ w w₁, (Below W.heap.size W w ∧ w.ownsRow K 9 1 v9 i (digs S T i) ∧ RowT O m (dgs S T) w ∧ K ≤ w.heap.size) → Below w.heap.size w w₁ → (Below W.heap.size W w₁ ∧ w₁.ownsRow K 9 1 v9 i (digs S T i) ∧ RowT O m (dgs S T) w₁ ∧ K ≤ w₁.heap.size) := fun w w₁ h r =>
   ⟨h.1.trans (r.mono h.1.size), ownsRow_below h.2.1 r.block, RowT.stay h.2.2.1 r.block fun h0 ad e => Nat.lt_of_lt_of_le (hO h0 ad e).2 h.2.2.2, Nat.le_trans h.2.2.2 r.size⟩
  have hW12 : W12 K b1 o1 b2 o2 i (S i) (T i) (fun w => Below W.heap.size W w ∧ w.ownsRow K 9 1 v9 i (digs S T i) ∧ RowT O m (dgs S T) w ∧ K ≤ w.heap.size) w1 := ⟨(cell_block (hF.below.block b1 hb1) (o1 + i)).trans hx1, (cell_block (hF.below.block b2 hb2) (o2 + i)).trans hx2, ⟨hF.below, hF.row, hF.out, by rw [hF.size]; exact hKZ⟩, by rw [hF.size]; exact hKZ⟩
  clear hF
  by_cases h32 : (S i).size ≤ 32
  ·refine region12A (n := n) (b1 := b1) (p1 := o1) (b2 := b2) (p2 := o2) (i := i) (c1 := c1) (c2 := c2) (K := K) (s := S i) (t := T i) (y := dgs S T i) (e := 0) (X := fun w => Below W.heap.size W w ∧ w.ownsRow K 9 1 v9 i (digs S T i) ∧ RowT O m (dgs S T) w ∧ K ≤ w.heap.size) (by omega) (by omega) hs1 hs2 hSc (by omega) hXr hXb (fun w => c22 (S i) (T i) (hT i (by omega)) h32 w) (by rfl) (by rfl) (by rfl) (by rfl) ?_ w1 hW12
   clear hW12 hXr hXb w1
   intro A' w2 hs' hfr t11 t12 hW
   have t0 := hfr 0 (by omega)
   have t1 := hfr 1 (by omega)
   have t7 := hfr 7 (by omega)
   have t8 := hfr 8 (by omega)
   have t9 := hfr 9 (by omega)
   have t10 := hfr 10 (by omega)
   clear hfr
   obtain ⟨u0, u1, u2, u3, u4, u5, u6, u7, u8, u9, u10, u11, u12, u13, u14, u15, u16, u17, u18, u19, u20, u21, u22, u23, u24, u25, u26, u27, u28, u29, u30, u31, u32, u33, u34, u35, u36, u37, u38, u39, u40, u41, u42, u43, u44, u45, u46, u47, u48, u49, u50, u51, u52, u53, u54, u55, u56, u57, u58, u59, u60, u61, u62, u63, u64, u65, u66, u67, u68, u69, u70, u71, u72, u73, u74, u75, u76, u77, u78, u79, u80, u81, u82, u83, u84, rfl⟩ := array85 A' hs'
   simp only [List.getElem?_toArray, List.getElem?_cons_zero, List.getElem?_cons_succ, Option.some.injEq] at t0 t1 t7 t8 t9 t10 t11 t12
   subst t0 t1 t7 t8 t9 t10 t11 t12
   obtain ⟨Z1, hZ1⟩ : ∃ Z1, w2.heap.size = Z1 := ⟨_, rfl⟩
   have hKZ1 : K ≤ Z1 := by have := hW.k; omega
   rw [hZ1]
   have hF : F12 W S T K Z1 O m u9 i (digs S T i) w2 := ⟨hW.x.1, hZ1, hW.x.2.1, hW.x.2.2.1⟩
   clear hW hZ1
   iterate 2
    refine EndsF.step rfl (fun _ h₁ => ?_)
    replace hF := F12.rely hF h₁
    clear h₁
    rw [stepG_seq]
    simp only [goes_go]
    refine ⟨de_nil, ?_⟩
   refine EndsF.step rfl (fun _ h₁ => ?_)
   replace hF := F12.rely hF h₁
   clear h₁
   rw [stepG_region]
   simp only [goes_go, List.size_toArray, List.length_cons, List.length_nil, Nat.reduceAdd, Nat.zero_add, List.range, List.range.loop]
   refine ⟨de_nil, ?_⟩
   iterate 2
    refine EndsF.step rfl (fun _ h₁ => ?_)
    replace hF := F12.rely hF h₁
    clear h₁
    refine goes_oper_k rfl rfl (by k_ne) (fun K hK => ?_)
    go_simp
    refine hK _ _ ⟨?_, ?_⟩
    ·refine de_none ?_
     intro ex hex
     have hm := mem_listed hex
     simp [go_sem, *] at hm
    clear hK K
    try w_num
   refine EndsF.step rfl (fun _ h₁ => ?_)
   replace hF := F12.rely hF h₁
   clear h₁
   rw [stepG_region_end]
   simp only [goes_go]
   refine ⟨de_nil, ?_⟩
   refine EndsF.step rfl (fun _ h₁ => ?_)
   replace hF := F12.rely hF h₁
   clear h₁
   rw [stepG_cond (t := false) (by first | rfl | (simp [Act.eval]; omega))]
   simp only [goes_go, if_true, if_false, Bool.false_eq_true, ↓reduceIte]
   refine ⟨de_nil, ?_⟩
   refine EndsF.step rfl (fun _ h₁ => ?_)
   replace hF := F12.rely hF h₁
   clear h₁
   rw [stepG_skip]
   simp only [goes_go]
   refine ⟨de_nil, ?_⟩
   refine EndsF.step rfl (fun _ h₁ => ?_)
   replace hF := F12.rely hF h₁
   clear h₁
   rw [stepG_region]
   simp only [goes_go, List.size_toArray, List.length_cons, List.length_nil, Nat.reduceAdd, Nat.zero_add, List.range, List.range.loop]
   refine ⟨de_nil, ?_⟩
   iterate 2
    refine EndsF.step rfl (fun _ h₁ => ?_)
    replace hF := F12.rely hF h₁
    clear h₁
    refine goes_oper_k rfl rfl (by k_ne) (fun K hK => ?_)
    go_simp
    refine hK _ _ ⟨?_, ?_⟩
    ·refine de_none ?_
     intro ex hex
     have hm := mem_listed hex
     simp [go_sem, *] at hm
    clear hK K
    try w_num
   refine EndsF.mono (B' := Z1 + 1) (by omega) ?_
   refine EndsF.step rfl (fun wb h₁ => ?_)
   replace hF := F12.rely hF h₁
   clear h₁
   have hz := hF.size
   have hs1 := run_of_T (bsl25T (dgs S T i) wb #[])
   have hs2 := fun es => events_of_T (bsl25T (dgs S T i) wb es)
   refine goes_oper_k rfl rfl (by k_ne) (fun K hK => ?_)
   go_simp
   refine hK _ _ ⟨?_, ?_⟩
   ·intro ex hex
    have hm := mem_listed hex
    simp [go_sem, *] at hm
   clear hK K
   clear hz hs1 hs2
   replace hF := hF.more hKZ1 (fun h0 ad e => (hO h0 ad e).2) (dgs S T i)
   refine EndsF.step rfl (fun wc h₁ => ?_)
   replace hF := G12.rely hF h₁
   clear h₁
   obtain ⟨v', wd, hrun, hrow', hg, hev⟩ := append_more (t := 25) (e := 9) Try.underlying25 info9 (by rfl) (by omega) (by omega) hF.row (by have := hF.size; omega) (by omega) (Bn := Z1) (news := [.string (dgs S T i)]) rfl hF.new hKZ1 (by simp [Value.oneCell'])
   refine goes_oper_k rfl rfl (by k_ne) (fun Kx hKx => ?_)
   refine uponK_append (.tmp 71) (.tmp 73) 25 rfl rfl rfl hrun ?_
   refine hKx _ _ ⟨fun ex hex => ?_, ?_⟩
   ·have hm := mem_listed hex
    rw [events_append_op (.tmp 71) (.tmp 73) 25 rfl rfl rfl] at hm
    rcases hev ex hm with ⟨ad, h3, h4, h5⟩ | ⟨m, rfl, h⟩
    ·exact evL_at h3 (hSc ad h4) (by have := hF.size; omega)
    ·exact evL_neutral h
   clear hKx hev hrun
   obtain ⟨Z2, hZ2⟩ : ∃ Z2, wd.heap.size = Z2 := ⟨_, rfl⟩
   have hgb := grown_below hF.row (by have := hF.size; omega) hg
   have hF2 : F12 W S T K Z2 O m v' (i + 1) (digs S T (i + 1)) wd := ⟨hF.below.trans (hgb.mono hHK), hZ2, hrow', RowT.stay hF.out hgb.block fun h0 ad e => (hO h0 ad e).2⟩
   have hZZ : Z1 + 1 ≤ Z2 := by have := hg.size; have := hF.size; omega
   clear hrow' hg hF hZ2 hgb
   refine EndsF.mono (B' := Z2) hZZ ?_
   refine EndsF.step rfl (fun _ h₁ => ?_)
   replace hF2 := F12.rely hF2 h₁
   clear h₁
   refine goes_oper_k rfl rfl (by k_ne) (fun K hK => ?_)
   go_simp
   refine hK _ _ ⟨?_, ?_⟩
   ·refine de_none ?_
    intro ex hex
    have hm := mem_listed hex
    simp [go_sem, *] at hm
   clear hK K
   try w_num
   refine EndsF.step rfl (fun _ h₁ => ?_)
   replace hF2 := F12.rely hF2 h₁
   clear h₁
   rw [stepG_region_end]
   simp only [goes_go]
   refine ⟨de_nil, ?_⟩
   refine EndsF.step rfl (fun _ h₁ => ?_)
   replace hF2 := F12.rely hF2 h₁
   clear h₁
   rw [stepG_inBlock]
   simp only [goes_go]
   refine ⟨de_nil, ?_⟩
   refine EndsF.step rfl (fun _ h₁ => ?_)
   replace hF2 := F12.rely hF2 h₁
   clear h₁
   rw [stepG_region]
   simp only [goes_go, List.size_toArray, List.length_cons, List.length_nil, Nat.reduceAdd, Nat.zero_add, List.range, List.range.loop]
   refine ⟨de_nil, ?_⟩
   iterate 3
    refine EndsF.step rfl (fun _ h₁ => ?_)
    replace hF2 := F12.rely hF2 h₁
    clear h₁
    refine goes_oper_k rfl rfl (by k_ne) (fun K hK => ?_)
    go_simp
    refine hK _ _ ⟨?_, ?_⟩
    ·refine de_none ?_
     intro ex hex
     have hm := mem_listed hex
     simp [go_sem, *] at hm
    clear hK K
    try w_num
   refine EndsF.step rfl (fun _ h₁ => ?_)
   replace hF2 := F12.rely hF2 h₁
   clear h₁
   rw [stepG_region_end]
   simp only [goes_go]
   refine ⟨de_nil, ?_⟩
   refine EndsF.step rfl (fun _ h₁ => ?_)
   replace hF2 := F12.rely hF2 h₁
   clear h₁
   rw [stepG_inLoop]
   simp only [goes_go]
   refine ⟨de_nil, ?_⟩
   have e2 := hF2.size
   subst e2
   exact ih' (fun j hj => (Nat.lt_succ_iff_lt_or_eq.1 hj).elim (hS j) fun e => by rw [e]; exact h32) _ v' _ rfl rfl rfl rfl rfl rfl (by simp only [List.getElem?_toArray, List.getElem?_cons_zero, List.getElem?_cons_succ]; rw [Int.natCast_succ]) (by omega) hF2
  ·obtain ⟨_, rfl, rfl⟩ := hres.resolve_left fun h => h32 (h.1 i (by omega))
   refine region12A (n := n) (b1 := b1) (p1 := o1) (b2 := b2) (p2 := o2) (i := i) (c1 := c1) (c2 := c2) (K := K) (s := S i) (t := T i) (y := ⟨#[]⟩) (e := 1) (X := fun w => Below W.heap.size W w ∧ w.ownsRow K 9 1 v9 i (digs S T i) ∧ RowT O 0 (dgs S T) w ∧ K ≤ w.heap.size) (by omega) (by omega) hs1 hs2 hSc (by omega) hXr hXb (fun w => c22_long (S i) (T i) (hT i (by omega)) h32 w) (by rfl) (by rfl) (by rfl) (by rfl) ?_ w1 hW12
   clear hW12 hXr hXb w1
   intro A' w2 hs' hfr t11 t12 hW
   have t0 := hfr 0 (by omega)
   have t1 := hfr 1 (by omega)
   have t7 := hfr 7 (by omega)
   have t8 := hfr 8 (by omega)
   have t9 := hfr 9 (by omega)
   have t10 := hfr 10 (by omega)
   clear hfr
   obtain ⟨u0, u1, u2, u3, u4, u5, u6, u7, u8, u9, u10, u11, u12, u13, u14, u15, u16, u17, u18, u19, u20, u21, u22, u23, u24, u25, u26, u27, u28, u29, u30, u31, u32, u33, u34, u35, u36, u37, u38, u39, u40, u41, u42, u43, u44, u45, u46, u47, u48, u49, u50, u51, u52, u53, u54, u55, u56, u57, u58, u59, u60, u61, u62, u63, u64, u65, u66, u67, u68, u69, u70, u71, u72, u73, u74, u75, u76, u77, u78, u79, u80, u81, u82, u83, u84, rfl⟩ := array85 A' hs'
   simp only [List.getElem?_toArray, List.getElem?_cons_zero, List.getElem?_cons_succ, Option.some.injEq] at t0 t1 t7 t8 t9 t10 t11 t12
   subst t0 t1 t7 t8 t9 t10 t11 t12
   obtain ⟨Z1, hZ1⟩ : ∃ Z1, w2.heap.size = Z1 := ⟨_, rfl⟩
   have hKZ1 : K ≤ Z1 := by have := hW.k; omega
   rw [hZ1]
   have hF : Below W.heap.size W w2 ∧ w2.heap.size = Z1 := ⟨hW.x.1, hZ1⟩
   clear hW hZ1 ih'
   iterate 2
    refine EndsF.step rfl (fun _ h₁ => ?_)
    replace hF := sz_rely hF h₁
    clear h₁
    rw [stepG_seq]
    simp only [goes_go]
    refine ⟨de_nil, ?_⟩
   refine EndsF.step rfl (fun _ h₁ => ?_)
   replace hF := sz_rely hF h₁
   clear h₁
   rw [stepG_region]
   simp only [goes_go, List.size_toArray, List.length_cons, List.length_nil, Nat.reduceAdd, Nat.zero_add, List.range, List.range.loop]
   refine ⟨de_nil, ?_⟩
   iterate 2
    refine EndsF.step rfl (fun _ h₁ => ?_)
    replace hF := sz_rely hF h₁
    clear h₁
    refine goes_oper_k rfl rfl (by k_ne) (fun K hK => ?_)
    go_simp
    refine hK _ _ ⟨?_, ?_⟩
    ·refine de_none ?_
     intro ex hex
     have hm := mem_listed hex
     simp [go_sem, *] at hm
    clear hK K
    try w_num
   refine EndsF.step rfl (fun _ h₁ => ?_)
   replace hF := sz_rely hF h₁
   clear h₁
   rw [stepG_region_end]
   simp only [goes_go]
   refine ⟨de_nil, ?_⟩
   refine EndsF.step rfl (fun _ h₁ => ?_)
   replace hF := sz_rely hF h₁
   clear h₁
   rw [stepG_cond (t := true) (by first | rfl | (simp [Act.eval]; omega))]
   simp only [goes_go, if_true, if_false, Bool.false_eq_true, ↓reduceIte]
   refine ⟨de_nil, ?_⟩
   refine EndsF.step rfl (fun _ h₁ => ?_)
   replace hF := sz_rely hF h₁
   clear h₁
   rw [stepG_seq]
   simp only [goes_go]
   refine ⟨de_nil, ?_⟩
   refine EndsF.step rfl (fun _ h₁ => ?_)
   replace hF := sz_rely hF h₁
   clear h₁
   rw [stepG_region]
   simp only [goes_go, List.size_toArray, List.length_cons, List.length_nil, Nat.reduceAdd, Nat.zero_add, List.range, List.range.loop]
   refine ⟨de_nil, ?_⟩
   iterate 9
    refine EndsF.step rfl (fun _ h₁ => ?_)
    replace hF := sz_rely hF h₁
    clear h₁
    refine goes_oper_k rfl rfl (by k_ne) (fun K hK => ?_)
    go_simp
    refine hK _ _ ⟨?_, ?_⟩
    ·refine de_none ?_
     intro ex hex
     have hm := mem_listed hex
     simp [go_sem, *] at hm
    clear hK K
    try w_num
   refine EndsF.step rfl (fun _ h₁ => ?_)
   replace hF := sz_rely hF h₁
   clear h₁
   refine goes_call rfl rfl (by k_ne) rfl Try.func30 nm30 rfl ⟨de_nil, ?_⟩
   walk_nrmf Try.f30
   rename_i w1
   refine awake_ends (H := Z1) (w0 := w1) hF.2 (Nat.le_refl _) (fun a ha => hSc a (by omega)) hSo ?_
   intro Shun' w2 hS2 hb2 hs2
   have hF2 : Below W.heap.size W w2 ∧ w2.heap.size = Z1 + 12 := ⟨hF.1.trans (hb2.mono (by omega)), hs2⟩
   clear hF hb2 hs2
   unfold Back
   walk_nrm
   iterate 2
    refine EndsF.step rfl (fun _ h₁ => ?_)
    replace hF2 := sz_rely hF2 h₁
    clear h₁
    refine goes_oper_k rfl rfl (by k_ne) (fun K hK => ?_)
    go_simp
    refine hK _ _ ⟨?_, ?_⟩
    ·refine de_none ?_
     intro ex hex
     have hm := mem_listed hex
     simp [go_sem, *] at hm
    clear hK K
    try w_num
   refine EndsF.step rfl (fun _ h₁ => ?_)
   replace hF2 := sz_rely hF2 h₁
   clear h₁
   rw [stepG_region_end]
   simp only [goes_go]
   refine ⟨de_nil, ?_⟩
   refine EndsF.step rfl (fun _ h₁ => ?_)
   replace hF2 := sz_rely hF2 h₁
   clear h₁
   rw [stepG_ret']
   simp only [goes_go]
   refine ⟨de_nil, ?_⟩
   refine postL_end rfl (fun w => ?_) hF2.1
   simp [Go.Conc.G, stepG, unwind, doReturn, results, Frame.at, base, b12, Try.func12, Try.f12, seen, GStep.after]
end
end Go.Pool
end
