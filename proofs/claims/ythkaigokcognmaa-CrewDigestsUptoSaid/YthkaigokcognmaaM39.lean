/- A part of the proof of CrewDigestsUpto (no statement of its own): Dg8. -/
import Derived.Test.YthkaigokcognmaaM26
import Derived.Test.YthkaigokcognmaaM38
section
set_option linter.unusedSimpArgs false
namespace Go.Pool
open Go.Conc Go.RowKit Go.Proofs Go.ConcN Go.Conc.Lib Go.ConcR.Gen Go.ConcN.Gen
open Go.ConcR (KK wgBlock WgAt stA smA rd wr mk DC0)
open Go.Proofs.Ythkaigokcognmaa.Sha (dg c54)
noncomputable def body37 : Code := Try.f37.body.getD .skip
noncomputable def tail37 : Code := match Try.f37.body with
 | some (.seq _ (.seq _ (.seq _ c))) => c
 | _ => .skip
noncomputable def L37 : Code := match tail37 with
 | .seq (.seq _ (.block _ (.loop c))) _ => c
 | _ => .skip
noncomputable def K37 : Code := match tail37 with
 | .seq _ c => c
 | _ => .skip
def b37 : Frame := base 37
theorem array46 (T : Array Value) (h : T.size = 46) : ∃ v0 v1 v2 v3 v4 v5 v6 v7 v8 v9 v10 v11 v12 v13 v14 v15 v16 v17 v18 v19 v20 v21 v22 v23 v24 v25 v26 v27 v28 v29 v30 v31 v32 v33 v34 v35 v36 v37 v38 v39 v40 v41 v42 v43 v44 v45, T = #[v0, v1, v2, v3, v4, v5, v6, v7, v8, v9, v10, v11, v12, v13, v14, v15, v16, v17, v18, v19, v20, v21, v22, v23, v24, v25, v26, v27, v28, v29, v30, v31, v32, v33, v34, v35, v36, v37, v38, v39, v40, v41, v42, v43, v44, v45] :=
 ⟨T[0], T[1], T[2], T[3], T[4], T[5], T[6], T[7], T[8], T[9], T[10], T[11], T[12], T[13], T[14], T[15], T[16], T[17], T[18], T[19], T[20], T[21], T[22], T[23], T[24], T[25], T[26], T[27], T[28], T[29], T[30], T[31], T[32], T[33], T[34], T[35], T[36], T[37], T[38], T[39], T[40], T[41], T[42], T[43], T[44], T[45], by
  apply Array.ext (by simp [h])
  intro i h1 h2
  have hi : i < 46 := by omega
  iterate 46 (rcases i with _ | i; · rfl)
  omega⟩
theorem run_of_T {P : Program} {α : Type} {s : Sem α} {w w' : World} {es es' : Array Event} {a : α} (h : s.runT P w es = (.ok a w', es')) : s.run P w = .ok a w' := by
 have := Sem.runT_fst P s w es
 rw [h] at this
 exact this.symm
theorem events_of_T {P : Program} {α : Type} {s : Sem α} {w w' : World} {es es' : Array Event} {a : α} (h : s.runT P w es = (.ok a w', es')) : s.events P w es = es' := by
 show (s.runT P w es).2 = es'
 rw [h]
theorem len9T (s : ByteArray) (w : World) (es : Array Event) : (Builtin.len_ #[9] 3 #[.string s]).runT Try.prog w es = (.ok (.int .i64 s.size) w, es) := by kernel_rfl
theorem bld69T (s t : ByteArray) (w : World) (es : Array Event) : (Instr.build 69 #[(0, .string s), (1, .string t)]).runT Try.prog w es = (.ok (.agg #[.string s, .string t]) w, es) := by kernel_rfl
theorem bsl67T (s t : ByteArray) (w : World) (es : Array Event) : (Instr.buildSlice 67 1 #[(0, .agg #[.string s, .string t])]).runT Try.prog w es = (.ok (.slice (some ⟨w.heap.size, 0, none⟩) 1 1) (w.alloc (.cells #[.string s, .string t] 69)), es) := by kernel_rfl
theorem bsl25T (s : ByteArray) (w : World) (es : Array Event) : (Instr.buildSlice 25 1 #[(0, .string s)]).runT Try.prog w es = (.ok (.slice (some ⟨w.heap.size, 0, none⟩) 1 1) (w.alloc (.cells #[.string s] 9)), es) := by kernel_rfl
theorem evL_at {Shun : Loc → Prop} {B : Nat} {e : Event} {a : Addr} (h : e.loc = .cell a) (hs : ¬ Shun (.cell a)) (hb : a.block < B) : EvL Shun B e := by
 refine ⟨fun x hx hsx => ?_, by rw [h]; simp, by rw [h]; simp, low_cell h hb⟩
 obtain ⟨loc, wr, sy⟩ := e
 simp only at h
 subst h
 simp only [MemAct.ofEvent, MemAct.touch?] at hx
 simp at hx
 subst hx
 exact absurd hsx hs
structure F37 (H Z : Nat) (w0 : World) (v : Value) (i : Nat) (xs : List Value) (w : World) : Prop where
 below : Below H w0 w
 size : w.heap.size = Z
 row : w.ownsRow H 69 2 v i xs
structure G37 (H Z : Nat) (w0 : World) (v : Value) (i : Nat) (xs : List Value) (s t : ByteArray) (w : World) : Prop where
 below : Below H w0 w
 size : w.heap.size = Z + 1
 row : w.ownsRow H 69 2 v i xs
 new : w.heap[Z]? = some (.cells #[.string s, .string t] 69)
theorem F37.more {H Z : Nat} {w0 w : World} {v : Value} {i : Nat} {xs : List Value} (h : F37 H Z w0 v i xs w) (hH : H ≤ Z) (s t : ByteArray) : G37 H Z w0 v i xs s t (w.alloc (.cells #[.string s, .string t] 69)) :=
 ⟨h.below.alloc (by have := h.size; omega) _, by rw [World.size_alloc, h.size], ownsRow_below h.row fun b hb => Below.heap_alloc _ _ _ hb, by have := heap_alloc_new w (.cells #[.string s, .string t] 69); rwa [h.size] at this⟩
theorem G37.rely {H Z : Nat} {w0 w w₁ : World} {v : Value} {i : Nat} {xs : List Value} {s t : ByteArray} (h : G37 H Z w0 v i xs s t w) (r : AtRel w w₁) : G37 H Z w0 v i xs s t w₁ := by
 have hb := below_at h.below r
 obtain ⟨d, rfl⟩ := r
 exact ⟨hb, h.size, h.row, h.new⟩
theorem F37.rely {H Z : Nat} {w0 w w₁ : World} {v : Value} {i : Nat} {xs : List Value} (h : F37 H Z w0 v i xs w) (r : AtRel w w₁) : F37 H Z w0 v i xs w₁ := by
 have hb := below_at h.below r
 obtain ⟨d, rfl⟩ := r
 exact ⟨hb, h.size, h.row⟩
section
variable {Post : Value → World → Prop} {Shun : Loc → Prop} {H n : Nat} {w0 : World} {sa1 sa2 : Option Addr} {c1 c2 : Nat} {S T : Nat → ByteArray} {N : Int}
  {b₀ : Frame} {a₀ : Act} {ops₀ : Array Oper} {i₀ : Nat} {rest₀ : List Nat} {k₀ : List Item} {cs : List Frame}
def ShyH (Shun Shun' : Loc → Prop) (H Z : Nat) : Prop := ∀ l, Shun' l → Shun l ∨ ∃ a : Addr, l = .cell a ∧ H ≤ a.block ∧ a.block < Z
abbrev dgs (S T : Nat → ByteArray) (k : Nat) : ByteArray := dg (S k) (T k)
set_option maxRecDepth 100000 in
set_option maxHeartbeats 4000000 in
theorem head37 (hH0 : w0.heap.size = H) (hn : n ≤ 1048576) (hN : 1 ≤ N ∧ N ≤ 64) (hT : ∀ k, k < n → (T k).size ≤ 140737488355000) (hSc : ∀ a : Addr, H ≤ a.block → ¬ Shun (.cell a)) (hSo : ∀ r, ¬ Shun (.obj r)) (h1 : StrIn Shun H w0 n sa1 S) (h2 : StrIn Shun H w0 n sa2 T)
  (hbad : ∀ w', Below H w0 w' → (∃ j, j < n ∧ ¬ (S j).size ≤ 32) → Back Post Shun w'.heap.size b₀ a₀ ops₀ i₀ rest₀ k₀ cs (.tuple #[.slice none 0 0, .int .i64 1]) w')
  (hgood : ∀ Shun' w' O, ShyH Shun Shun' H w'.heap.size → (∀ a : Addr, a.block = O → ¬ Shun' (.cell a)) → Below H w0 w' → H ≤ O → O < w'.heap.size → (∀ k, k < n → w'.cell? ⟨O, k, none⟩ = some (.string (dgs S T k))) → (∀ j, j < n → (S j).size ≤ 32) →
   Back Post Shun' w'.heap.size b₀ a₀ ops₀ i₀ rest₀ k₀ cs (.tuple #[.slice (some ⟨O, 0, none⟩) n n, .int .i64 0]) w') :
  ∀ r i, i + r = n → (∀ j, j < i → (S j).size ≤ 32) → ∀ (A : Array Value) (v : Value) (w : World), A.size = 46 → A[0]? = some (.slice sa1 n c1) → A[1]? = some (.slice sa2 n c2) → A[2]? = some (.int .i64 N) → A[8]? = some v → A[21]? = some (.slice sa1 n c1) → A[22]? = some (.int .i64 n) → A[23]? = some (.int .i64 i) →
   F37 H w.heap.size w0 v i (pairs S T i) w →
   EndsF Try.prog Post Shun w.heap.size (Go.Conc.G (b37.at ⟨A, []⟩ [.code L37, .inLoop L37, .inBlock 0, .code K37]) (b₀.at a₀ (.inRegion ops₀ (i₀ :: rest₀) :: k₀) :: cs)) w := by
 intro r
 induction r with
 | zero =>
  intro i hi hS A v w hs t0 t1 t2 t8 t21 t22 t23 hF
  obtain rfl : n = i := by omega
  obtain ⟨v0, v1, v2, v3, v4, v5, v6, v7, v8, v9, v10, v11, v12, v13, v14, v15, v16, v17, v18, v19, v20, v21, v22, v23, v24, v25, v26, v27, v28, v29, v30, v31, v32, v33, v34, v35, v36, v37, v38, v39, v40, v41, v42, v43, v44, v45, rfl⟩ := array46 A hs
  simp only [List.getElem?_toArray, List.getElem?_cons_zero, List.getElem?_cons_succ, Option.some.injEq] at t0 t1 t2 t8 t21 t22 t23
  subst t0 t1 t2 t8 t21 t22 t23
  have hHZ : H ≤ w.heap.size := by have := hF.below.size; omega
  obtain ⟨sv, sc, rfl, hIn⟩ : ∃ sv sc, v8 = .slice sv n sc ∧ InD Shun w.heap.size w n sv S T := by
   rcases hF.row.2 with ⟨rfl, h0⟩ | ⟨g, cap, cur, rfl, hbg, hgc, _, _, hcs, htake⟩
   ·exact ⟨none, 0, by rw [h0], fun k hk => by omega⟩
   ·refine ⟨some ⟨g, 0, none⟩, cap, rfl, fun k hk => ⟨g, 0, rfl, (Array.getElem?_eq_some_iff.1 hgc).1, fun a ha => hSc a (by omega), ?_, ?_⟩⟩
    ·have h3 := (pairs_get S T n k hk).1
     rw [← htake, List.getElem?_take, if_pos (by omega)] at h3
     simp [World.cell?, hgc]
     simpa using h3
    ·have h3 := (pairs_get S T n k hk).2
     rw [← htake, List.getElem?_take, if_pos (by omega)] at h3
     simp [World.cell?, hgc]
     simpa using h3
  generalize hZ : w.heap.size = Z at hF hHZ hIn ⊢
  simp only [L37, K37, tail37, Try.f37]
  have hlt : ¬ (n : Int) < (n : Int) := by omega
  have hF := And.intro hF hIn
  have rlz : ∀ {w w₁ : World}, F37 H Z w0 (.slice sv n sc) n (pairs S T n) w ∧ InD Shun Z w n sv S T → AtRel w w₁ → F37 H Z w0 (.slice sv n sc) n (pairs S T n) w₁ ∧ InD Shun Z w₁ n sv S T := fun h r => by
   refine ⟨h.1.rely r, ?_⟩
   obtain ⟨d, rfl⟩ := r
   exact h.2
  refine EndsF.step rfl (fun _ h₁ => ?_)
  replace hF := rlz hF h₁
  clear h₁
  rw [stepG_seq]
  simp only [goes_go]
  refine ⟨de_nil, ?_⟩
  refine EndsF.step rfl (fun _ h₁ => ?_)
  replace hF := rlz hF h₁
  clear h₁
  rw [stepG_region]
  simp only [goes_go, List.size_toArray, List.length_cons, List.length_nil, Nat.reduceAdd, Nat.zero_add, List.range, List.range.loop]
  refine ⟨de_nil, ?_⟩
  refine EndsF.step rfl (fun _ h₁ => ?_)
  replace hF := rlz hF h₁
  clear h₁
  refine goes_oper_k rfl rfl (by k_ne) (fun K hK => ?_)
  go_simp
  refine hK _ _ ⟨?_, ?_⟩
  ·refine de_none ?_
   intro ex hex
   have hm := mem_listed hex
   simp [go_sem, *] at hm
  clear hK K
  try w_num
  refine EndsF.step rfl (fun _ h₁ => ?_)
  replace hF := rlz hF h₁
  clear h₁
  rw [stepG_region_end]
  simp only [goes_go]
  refine ⟨de_nil, ?_⟩
  refine EndsF.step rfl (fun _ h₁ => ?_)
  replace hF := rlz hF h₁
  clear h₁
  rw [stepG_seq]
  simp only [goes_go]
  refine ⟨de_nil, ?_⟩
  refine EndsF.step rfl (fun _ h₁ => ?_)
  replace hF := rlz hF h₁
  clear h₁
  rw [stepG_cond (t := false) rfl]
  simp only [goes_go, if_true, if_false, Bool.false_eq_true, ↓reduceIte]
  refine ⟨de_nil, ?_⟩
  refine EndsF.step rfl (fun _ h₁ => ?_)
  replace hF := rlz hF h₁
  clear h₁
  refine goes_exit rfl ?_
  refine ⟨de_nil, ?_⟩
  refine EndsF.step rfl (fun _ h₁ => ?_)
  replace hF := rlz hF h₁
  clear h₁
  rw [stepG_seq]
  simp only [goes_go]
  refine ⟨de_nil, ?_⟩
  refine EndsF.step rfl (fun _ h₁ => ?_)
  replace hF := rlz hF h₁
  clear h₁
  rw [stepG_region]
  simp only [goes_go, List.size_toArray, List.length_cons, List.length_nil, Nat.reduceAdd, Nat.zero_add, List.range, List.range.loop]
  refine ⟨de_nil, ?_⟩
  iterate 2
   refine EndsF.step rfl (fun _ h₁ => ?_)
   replace hF := rlz hF h₁
   clear h₁
   refine goes_oper_k rfl rfl (by k_ne) (fun K hK => ?_)
   go_simp
   refine hK _ _ ⟨?_, ?_⟩
   ·refine de_none ?_
    intro ex hex
    have hm := mem_listed hex
    simp [go_sem, *] at hm
   clear hK K
   try w_num
  refine EndsF.step rfl (fun _ h₁ => ?_)
  replace hF := rlz hF h₁
  clear h₁
  refine goes_call rfl rfl (by k_ne) rfl Try.func53 nm53 rfl ⟨de_nil, ?_⟩
  walk_nrmf Try.f53
  rename_i w1
  refine map53_ends (H := Z) (w0 := w1) hF.1.size (Nat.le_refl _) hn (fun a ha => hSc a (by omega)) hSo hN hF.2 (ys := dgs S T) (fun k hk w => c54 (S k) (T k) (hT k hk) w) ?_
  intro Shun' w2 hS2 hb2 hz2 hD2
  have hg := hgood Shun' w2 (Z + 2) (fun l hl => (hS2 l hl).imp id fun ⟨a, e1, e2⟩ => ⟨a, e1, by omega, by omega⟩) (fun a ha hs => (hS2 _ hs).elim (hSc a (by omega)) fun ⟨a', e1, e2⟩ => by cases e1; omega) (hF.1.below.trans (hb2.mono hHZ)) (by omega) (by omega) hD2 hS
  clear hF hD2
  have hF := hg
  clear hg
  unfold Back at hF ⊢
  have rlE : ∀ {w w₁ : World}, EndsF Try.prog Post Shun' w2.heap.size (Go.Conc.G (b₀.at (a₀.put ((ops₀[i₀]?).bind (·.dst)) (.tuple #[.slice (some ⟨Z + 2, 0, none⟩) n n, .int .i64 0])) (.inRegion ops₀ rest₀ :: k₀)) cs) w → AtRel w w₁ → EndsF Try.prog Post Shun' w2.heap.size (Go.Conc.G (b₀.at (a₀.put ((ops₀[i₀]?).bind (·.dst)) (.tuple #[.slice (some ⟨Z + 2, 0, none⟩) n n, .int .i64 0])) (.inRegion ops₀ rest₀ :: k₀)) cs) w₁ := fun h r => h.rely r
  walk_nrm
  iterate 4
   refine EndsF.step rfl (fun _ h₁ => ?_)
   replace hF := rlE hF h₁
   clear h₁
   refine goes_oper_k rfl rfl (by k_ne) (fun K hK => ?_)
   go_simp
   refine hK _ _ ⟨?_, ?_⟩
   ·refine de_none ?_
    intro ex hex
    have hm := mem_listed hex
    simp [go_sem, *] at hm
   clear hK K
   try w_num
  refine EndsF.step rfl (fun _ h₁ => ?_)
  replace hF := rlE hF h₁
  clear h₁
  rw [stepG_region_end]
  simp only [goes_go]
  refine ⟨de_nil, ?_⟩
  refine EndsF.step rfl (fun _ h₁ => ?_)
  replace hF := rlE hF h₁
  clear h₁
  rw [stepG_ret']
  simp only [goes_go]
  refine ⟨de_nil, ?_⟩
  refine EndsF.step rfl (fun _ h₁ => ?_)
  replace hF := rlE hF h₁
  clear h₁
  refine goes_leave2 rfl rfl Try.func37 rfl ⟨de_nil, ?_⟩
  walk_nrm
  exact hF
 | succ r ih =>
  intro i hi hS A v w hs t0 t1 t2 t8 t21 t22 t23 hF
  obtain ⟨v0, v1, v2, v3, v4, v5, v6, v7, v8, v9, v10, v11, v12, v13, v14, v15, v16, v17, v18, v19, v20, v21, v22, v23, v24, v25, v26, v27, v28, v29, v30, v31, v32, v33, v34, v35, v36, v37, v38, v39, v40, v41, v42, v43, v44, v45, rfl⟩ := array46 A hs
  simp only [List.getElem?_toArray, List.getElem?_cons_zero, List.getElem?_cons_succ, Option.some.injEq] at t0 t1 t2 t8 t21 t22 t23
  subst t0 t1 t2 t8 t21 t22 t23
  have hHZ : H ≤ w.heap.size := by have := hF.below.size; omega
  obtain ⟨b1, o1, rfl, hb1, hs1, hx1⟩ := h1 i (by omega)
  obtain ⟨b2, o2, rfl, hb2, hs2, hx2⟩ := h2 i (by omega)
  have ih' := ih (i + 1) (by omega)
  clear ih
  generalize hZ : w.heap.size = Z at hF hHZ ⊢
  simp only [L37, K37, tail37, Try.f37] at ih' ⊢
  have hlt : (i : Int) < (n : Int) := by omega
  have hw : IntKind.i64.wrap ((i : Int) + 1) = ((i + 1 : Nat) : Int) := by rw [IntKind.wrap_i64]; omega
  refine EndsF.step rfl (fun _ h₁ => ?_)
  replace hF := F37.rely hF h₁
  clear h₁
  rw [stepG_seq]
  simp only [goes_go]
  refine ⟨de_nil, ?_⟩
  refine EndsF.step rfl (fun _ h₁ => ?_)
  replace hF := F37.rely hF h₁
  clear h₁
  rw [stepG_region]
  simp only [goes_go, List.size_toArray, List.length_cons, List.length_nil, Nat.reduceAdd, Nat.zero_add, List.range, List.range.loop]
  refine ⟨de_nil, ?_⟩
  refine EndsF.step rfl (fun _ h₁ => ?_)
  replace hF := F37.rely hF h₁
  clear h₁
  refine goes_oper_k rfl rfl (by k_ne) (fun K hK => ?_)
  go_simp
  refine hK _ _ ⟨?_, ?_⟩
  ·refine de_none ?_
   intro ex hex
   have hm := mem_listed hex
   simp [go_sem, *] at hm
  clear hK K
  try w_num
  refine EndsF.step rfl (fun _ h₁ => ?_)
  replace hF := F37.rely hF h₁
  clear h₁
  rw [stepG_region_end]
  simp only [goes_go]
  refine ⟨de_nil, ?_⟩
  refine EndsF.step rfl (fun _ h₁ => ?_)
  replace hF := F37.rely hF h₁
  clear h₁
  rw [stepG_seq]
  simp only [goes_go]
  refine ⟨de_nil, ?_⟩
  refine EndsF.step rfl (fun _ h₁ => ?_)
  replace hF := F37.rely hF h₁
  clear h₁
  rw [stepG_cond (t := true) rfl]
  simp only [goes_go, if_true, if_false, Bool.false_eq_true, ↓reduceIte]
  refine ⟨de_nil, ?_⟩
  refine EndsF.step rfl (fun _ h₁ => ?_)
  replace hF := F37.rely hF h₁
  clear h₁
  rw [stepG_skip]
  simp only [goes_go]
  refine ⟨de_nil, ?_⟩
  refine EndsF.step rfl (fun _ h₁ => ?_)
  replace hF := F37.rely hF h₁
  clear h₁
  rw [stepG_seq]
  simp only [goes_go]
  refine ⟨de_nil, ?_⟩
  refine EndsF.step rfl (fun _ h₁ => ?_)
  replace hF := F37.rely hF h₁
  clear h₁
  rw [stepG_block]
  simp only [goes_go]
  refine ⟨de_nil, ?_⟩
  refine EndsF.step rfl (fun _ h₁ => ?_)
  replace hF := F37.rely hF h₁
  clear h₁
  rw [stepG_seq]
  simp only [goes_go]
  refine ⟨de_nil, ?_⟩
  refine EndsF.step rfl (fun _ h₁ => ?_)
  replace hF := F37.rely hF h₁
  clear h₁
  rw [stepG_region]
  simp only [goes_go, List.size_toArray, List.length_cons, List.length_nil, Nat.reduceAdd, Nat.zero_add, List.range, List.range.loop]
  refine ⟨de_nil, ?_⟩
  iterate 2
   refine EndsF.step rfl (fun _ h₁ => ?_)
   replace hF := F37.rely hF h₁
   clear h₁
   refine goes_oper_k rfl rfl (by k_ne) (fun K hK => ?_)
   go_simp
   refine hK _ _ ⟨?_, ?_⟩
   ·refine de_none ?_
    intro ex hex
    have hm := mem_listed hex
    simp [go_sem, *] at hm
   clear hK K
   try w_num
  refine EndsF.step rfl (fun _ h₁ => ?_)
  replace hF := F37.rely hF h₁
  clear h₁
  refine goes_oper_k rfl rfl (by k_ne) (fun K hK => ?_)
  have hc1 := (cell_block (hF.below.block b1 hb1) (o1 + i)).trans hx1
  go_simp
  refine hK _ _ ⟨fun ex hex => ?_, ?_⟩
  ·have hm := mem_listed hex
   simp [go_sem, *] at hm
   subst hm
   exact evL_cell _ _ (hs1 _ rfl) (by show b1 < Z; omega)
  clear hK K
  clear hc1
  have hl9 := fun s w es => events_of_T (len9T s w es)
  iterate 2
   refine EndsF.step rfl (fun _ h₁ => ?_)
   replace hF := F37.rely hF h₁
   clear h₁
   refine goes_oper_k rfl rfl (by k_ne) (fun K hK => ?_)
   go_simp
   refine hK _ _ ⟨?_, ?_⟩
   ·refine de_none ?_
    intro ex hex
    have hm := mem_listed hex
    simp [go_sem, *] at hm
   clear hK K
   try w_num
  refine EndsF.step rfl (fun _ h₁ => ?_)
  replace hF := F37.rely hF h₁
  clear h₁
  rw [stepG_region_end]
  iterate 2
   simp only [goes_go]
   refine ⟨de_nil, ?_⟩
   refine EndsF.step rfl (fun _ h₁ => ?_)
   replace hF := F37.rely hF h₁
   clear h₁
   rw [stepG_seq]
  simp only [goes_go]
  refine ⟨de_nil, ?_⟩
  refine EndsF.step rfl (fun _ h₁ => ?_)
  replace hF := F37.rely hF h₁
  clear h₁
  rw [stepG_region]
  simp only [goes_go, List.size_toArray, List.length_cons, List.length_nil, Nat.reduceAdd, Nat.zero_add, List.range, List.range.loop]
  refine ⟨de_nil, ?_⟩
  iterate 3
   refine EndsF.step rfl (fun _ h₁ => ?_)
   replace hF := F37.rely hF h₁
   clear h₁
   refine goes_oper_k rfl rfl (by k_ne) (fun K hK => ?_)
   go_simp
   refine hK _ _ ⟨?_, ?_⟩
   ·refine de_none ?_
    intro ex hex
    have hm := mem_listed hex
    simp [go_sem, *] at hm
   clear hK K
   try w_num
  refine EndsF.step rfl (fun _ h₁ => ?_)
  replace hF := F37.rely hF h₁
  clear h₁
  rw [stepG_region_end]
  simp only [goes_go]
  refine ⟨de_nil, ?_⟩
  clear hl9
  by_cases h32 : (S i).size ≤ 32
  ·have hgt : ¬ ((S i).size : Int) > 32 := by omega
   refine EndsF.step rfl (fun _ h₁ => ?_)
   replace hF := F37.rely hF h₁
   clear h₁
   rw [stepG_cond (t := false) (by first | rfl | (simp [Act.eval]; omega))]
   simp only [goes_go, if_true, if_false, Bool.false_eq_true, ↓reduceIte]
   refine ⟨de_nil, ?_⟩
   refine EndsF.step rfl (fun _ h₁ => ?_)
   replace hF := F37.rely hF h₁
   clear h₁
   rw [stepG_skip]
   simp only [goes_go]
   refine ⟨de_nil, ?_⟩
   refine EndsF.step rfl (fun _ h₁ => ?_)
   replace hF := F37.rely hF h₁
   clear h₁
   rw [stepG_region]
   simp only [goes_go, List.size_toArray, List.length_cons, List.length_nil, Nat.reduceAdd, Nat.zero_add, List.range, List.range.loop]
   refine ⟨de_nil, ?_⟩
   iterate 5
    refine EndsF.step rfl (fun _ h₁ => ?_)
    replace hF := F37.rely hF h₁
    clear h₁
    refine goes_oper_k rfl rfl (by k_ne) (fun K hK => ?_)
    go_simp
    refine hK _ _ ⟨?_, ?_⟩
    ·refine de_none ?_
     intro ex hex
     have hm := mem_listed hex
     simp [go_sem, *] at hm
    clear hK K
    try w_num
   refine EndsF.step rfl (fun _ h₁ => ?_)
   replace hF := F37.rely hF h₁
   clear h₁
   refine goes_oper_k rfl rfl (by k_ne) (fun K hK => ?_)
   have hc2 := (cell_block (hF.below.block b2 hb2) (o2 + i)).trans hx2
   go_simp
   refine hK _ _ ⟨fun ex hex => ?_, ?_⟩
   ·have hm := mem_listed hex
    simp [go_sem, *] at hm
    subst hm
    exact evL_cell _ _ (hs2 _ rfl) (by show b2 < Z; omega)
   clear hK K
   clear hc2
   have hb1 := fun w => run_of_T (bld69T (S i) (T i) w #[])
   have hb2 := fun w es => events_of_T (bld69T (S i) (T i) w es)
   refine EndsF.step rfl (fun _ h₁ => ?_)
   replace hF := F37.rely hF h₁
   clear h₁
   refine goes_oper_k rfl rfl (by k_ne) (fun K hK => ?_)
   go_simp
   refine hK _ _ ⟨?_, ?_⟩
   ·refine de_none ?_
    intro ex hex
    have hm := mem_listed hex
    simp [go_sem, *] at hm
   clear hK K
   clear hb1 hb2
   refine EndsF.mono (B' := Z + 1) (by omega) ?_
   refine EndsF.step rfl (fun wb h₁ => ?_)
   replace hF := F37.rely hF h₁
   clear h₁
   have hz := hF.size
   have hs1 := run_of_T (bsl67T (S i) (T i) wb #[])
   have hs2 := fun es => events_of_T (bsl67T (S i) (T i) wb es)
   refine goes_oper_k rfl rfl (by k_ne) (fun K hK => ?_)
   go_simp
   refine hK _ _ ⟨?_, ?_⟩
   ·intro ex hex
    have hm := mem_listed hex
    simp [go_sem, *] at hm
   clear hK K
   clear hz hs1 hs2
   replace hF := hF.more hHZ (S i) (T i)
   refine EndsF.step rfl (fun wc h₁ => ?_)
   replace hF := G37.rely hF h₁
   clear h₁
   obtain ⟨v', wd, hrun, hrow', hg, hev⟩ := append_more (t := 67) (e := 69) Try.underlying67 info69 (by rfl) (by omega) (by omega) hF.row (by have := hF.size; omega) (by omega) (Bn := Z) (news := [.string (S i), .string (T i)]) rfl hF.new hHZ (by simp [Value.oneCell'])
   refine goes_oper_k rfl rfl (by k_ne) (fun K hK => ?_)
   refine uponK_append (.tmp 31) (.tmp 38) 67 rfl rfl rfl hrun ?_
   refine hK _ _ ⟨fun ex hex => ?_, ?_⟩
   ·have hm := mem_listed hex
    rw [events_append_op (.tmp 31) (.tmp 38) 67 rfl rfl rfl] at hm
    rcases hev ex hm with ⟨ad, h3, h4, h5⟩ | ⟨m, rfl, h⟩
    ·exact evL_at h3 (hSc ad h4) (by have := hF.size; omega)
    ·exact evL_neutral h
   clear hK K hev hrun
   obtain ⟨Z2, hZ2⟩ : ∃ Z2, wd.heap.size = Z2 := ⟨_, rfl⟩
   have hF2 : F37 H Z2 w0 v' (i + 1) (pairs S T (i + 1)) wd := ⟨hF.below.trans (grown_below hF.row (by have := hF.size; omega) hg), hZ2, hrow'⟩
   have hZZ : Z + 1 ≤ Z2 := by have := hg.size; have := hF.size; omega
   clear hrow' hg hF hZ2
   refine EndsF.mono (B' := Z2) hZZ ?_
   refine EndsF.step rfl (fun _ h₁ => ?_)
   replace hF2 := F37.rely hF2 h₁
   clear h₁
   refine goes_oper_k rfl rfl (by k_ne) (fun K hK => ?_)
   go_simp
   refine hK _ _ ⟨?_, ?_⟩
   ·refine de_none ?_
    intro ex hex
    have hm := mem_listed hex
    simp [go_sem, *] at hm
   clear hK K
   try w_num
   refine EndsF.step rfl (fun _ h₁ => ?_)
   replace hF2 := F37.rely hF2 h₁
   clear h₁
   rw [stepG_region_end]
   simp only [goes_go]
   refine ⟨de_nil, ?_⟩
   refine EndsF.step rfl (fun _ h₁ => ?_)
   replace hF2 := F37.rely hF2 h₁
   clear h₁
   rw [stepG_inBlock]
   simp only [goes_go]
   refine ⟨de_nil, ?_⟩
   refine EndsF.step rfl (fun _ h₁ => ?_)
   replace hF2 := F37.rely hF2 h₁
   clear h₁
   rw [stepG_region]
   simp only [goes_go, List.size_toArray, List.length_cons, List.length_nil, Nat.reduceAdd, Nat.zero_add, List.range, List.range.loop]
   refine ⟨de_nil, ?_⟩
   iterate 2
    refine EndsF.step rfl (fun _ h₁ => ?_)
    replace hF2 := F37.rely hF2 h₁
    clear h₁
    refine goes_oper_k rfl rfl (by k_ne) (fun K hK => ?_)
    go_simp
    refine hK _ _ ⟨?_, ?_⟩
    ·refine de_none ?_
     intro ex hex
     have hm := mem_listed hex
     simp [go_sem, *] at hm
    clear hK K
    try w_num
   refine EndsF.step rfl (fun _ h₁ => ?_)
   replace hF2 := F37.rely hF2 h₁
   clear h₁
   rw [stepG_region_end]
   simp only [goes_go]
   refine ⟨de_nil, ?_⟩
   refine EndsF.step rfl (fun _ h₁ => ?_)
   replace hF2 := F37.rely hF2 h₁
   clear h₁
   rw [stepG_inLoop]
   simp only [goes_go]
   refine ⟨de_nil, ?_⟩
   have e2 := hF2.size
   subst e2
   exact ih' (fun j hj => (Nat.lt_succ_iff_lt_or_eq.1 hj).elim (hS j) fun e => by rw [e]; exact h32) _ v' _ rfl rfl rfl rfl rfl rfl rfl (by simp only [List.getElem?_toArray, List.getElem?_cons_zero, List.getElem?_cons_succ]; rw [Int.natCast_succ]) hF2
  ·have hgt : ((S i).size : Int) > 32 := by omega
   refine EndsF.step rfl (fun _ h₁ => ?_)
   replace hF := F37.rely hF h₁
   clear h₁
   rw [stepG_cond (t := true) (by first | rfl | (simp [Act.eval]; omega))]
   simp only [goes_go, if_true, if_false, Bool.false_eq_true, ↓reduceIte]
   refine ⟨de_nil, ?_⟩
   refine EndsF.step rfl (fun _ h₁ => ?_)
   replace hF := F37.rely hF h₁
   clear h₁
   rw [stepG_seq]
   simp only [goes_go]
   refine ⟨de_nil, ?_⟩
   refine EndsF.step rfl (fun _ h₁ => ?_)
   replace hF := F37.rely hF h₁
   clear h₁
   rw [stepG_region]
   simp only [goes_go, List.size_toArray, List.length_cons, List.length_nil, Nat.reduceAdd, Nat.zero_add, List.range, List.range.loop]
   refine ⟨de_nil, ?_⟩
   iterate 2
    refine EndsF.step rfl (fun _ h₁ => ?_)
    replace hF := F37.rely hF h₁
    clear h₁
    refine goes_oper_k rfl rfl (by k_ne) (fun K hK => ?_)
    go_simp
    refine hK _ _ ⟨?_, ?_⟩
    ·refine de_none ?_
     intro ex hex
     have hm := mem_listed hex
     simp [go_sem, *] at hm
    clear hK K
    try w_num
   refine EndsF.step rfl (fun _ h₁ => ?_)
   replace hF := F37.rely hF h₁
   clear h₁
   rw [stepG_region_end]
   simp only [goes_go]
   refine ⟨de_nil, ?_⟩
   refine EndsF.step rfl (fun _ h₁ => ?_)
   replace hF := F37.rely hF h₁
   clear h₁
   rw [stepG_ret']
   simp only [goes_go]
   refine ⟨de_nil, ?_⟩
   refine EndsF.step rfl (fun _ h₁ => ?_)
   replace hF := F37.rely hF h₁
   clear h₁
   refine goes_leave2 rfl rfl Try.func37 rfl ⟨de_nil, ?_⟩
   walk_nrm
   have := hbad _ hF.below ⟨i, by omega, h32⟩
   rw [hF.size] at this
   exact this
end
end Go.Pool
end
