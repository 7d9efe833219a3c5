/- A part of the proof of CrewDigestsUpto (no statement of its own): Cr14, Cr15, Cr16, Dg7. -/
import Derived.Test.YthkaigokcognmaaM25
import Derived.Test.YthkaigokcognmaaM24
import Derived.Conc.AppendEvents3
import Derived.Great.BuildSlice
section
set_option linter.unusedSimpArgs false
namespace Go.Pool
open Go.Conc Go.RowKit Go.Proofs Go.ConcN Go.Conc.Lib Go.ConcR.Gen Go.ConcN.Gen
open Go.ConcR (KK wgBlock WgAt stA smA rd wr mk DC0)
noncomputable def body29 : Code := Try.f29.body.getD .skip
theorem nm29 : (Try.f29.name == "runtime.NumGoroutine") = false := by kernel_rfl
section
variable {Post : Value → World → Prop} {Shun : Loc → Prop} {B H n : Nat} {w w₁ w0 : World} {N : Int}
  {b₀ : Frame} {a₀ : Act} {ops₀ : Array Oper} {i₀ : Nat} {rest₀ : List Nat} {k₀ : List Item} {cs : List Frame}
set_option maxRecDepth 100000 in
theorem fine29_ends (hE : Back Post Shun B b₀ a₀ ops₀ i₀ rest₀ k₀ cs (.bool (decide (1 ≤ N) && decide (N ≤ 64))) w) :
  EndsF Try.prog Post Shun B (Go.Conc.G ((base 29).at ⟨#[.int .i64 N, undef, undef, undef, undef, undef, undef, undef, undef], []⟩ [.code body29]) (b₀.at a₀ (.inRegion ops₀ (i₀ :: rest₀) :: k₀) :: cs)) w := by
 have rlE : ∀ {v : Value} {w w₁ : World}, Back Post Shun B b₀ a₀ ops₀ i₀ rest₀ k₀ cs v w → AtRel w w₁ → Back Post Shun B b₀ a₀ ops₀ i₀ rest₀ k₀ cs v w₁ := fun h r => EndsF.rely h r
 simp only [body29, Try.f29, Option.getD_some]
 by_cases h1 : 1 ≤ N
 ·simp only [h1, decide_true, Bool.true_and] at hE
  refine EndsF.step rfl (fun _ h₁ => ?_)
  replace hE := rlE hE h₁
  clear h₁
  rw [stepG_seq]
  simp only [goes_go]
  refine ⟨de_nil, ?_⟩
  refine EndsF.step rfl (fun _ h₁ => ?_)
  replace hE := rlE hE h₁
  clear h₁
  rw [stepG_region]
  simp only [goes_go, List.size_toArray, List.length_cons, List.length_nil, Nat.reduceAdd, Nat.zero_add, List.range, List.range.loop]
  refine ⟨de_nil, ?_⟩
  refine EndsF.step rfl (fun _ h₁ => ?_)
  replace hE := rlE hE h₁
  clear h₁
  refine goes_oper_k rfl rfl (by k_ne) (fun K hK => ?_)
  go_simp
  refine hK _ _ ⟨?_, ?_⟩
  ·refine de_none ?_
   intro ex hex
   have hm := mem_listed hex
   simp [go_sem, *] at hm
  clear hK K
  refine EndsF.step rfl (fun _ h₁ => ?_)
  replace hE := rlE hE h₁
  clear h₁
  rw [stepG_region_end]
  simp only [goes_go]
  refine ⟨de_nil, ?_⟩
  refine EndsF.step rfl (fun _ h₁ => ?_)
  replace hE := rlE hE h₁
  clear h₁
  rw [stepG_seq]
  simp only [goes_go]
  refine ⟨de_nil, ?_⟩
  refine EndsF.step rfl (fun _ h₁ => ?_)
  replace hE := rlE hE h₁
  clear h₁
  rw [stepG_region]
  simp only [goes_go, List.size_toArray, List.length_cons, List.length_nil, Nat.reduceAdd, Nat.zero_add, List.range, List.range.loop]
  refine ⟨de_nil, ?_⟩
  iterate 7
   refine EndsF.step rfl (fun _ h₁ => ?_)
   replace hE := rlE hE h₁
   clear h₁
   refine goes_oper_k rfl rfl (by k_ne) (fun K hK => ?_)
   go_simp
   refine hK _ _ ⟨?_, ?_⟩
   ·refine de_none ?_
    intro ex hex
    have hm := mem_listed hex
    simp [go_sem, *] at hm
   clear hK K
  refine EndsF.step rfl (fun _ h₁ => ?_)
  replace hE := rlE hE h₁
  clear h₁
  rw [stepG_region_end]
  simp only [goes_go]
  refine ⟨de_nil, ?_⟩
  refine EndsF.step rfl (fun _ h₁ => ?_)
  replace hE := rlE hE h₁
  clear h₁
  rw [stepG_ret']
  simp only [goes_go]
  refine ⟨de_nil, ?_⟩
  refine EndsF.step rfl (fun _ h₁ => ?_)
  replace hE := rlE hE h₁
  clear h₁
  refine goes_leave1 rfl rfl Try.func29 rfl ⟨de_nil, ?_⟩
  walk_nrm
  exact hE
 ·simp only [h1, decide_false, Bool.false_and] at hE
  refine EndsF.step rfl (fun _ h₁ => ?_)
  replace hE := rlE hE h₁
  clear h₁
  rw [stepG_seq]
  simp only [goes_go]
  refine ⟨de_nil, ?_⟩
  refine EndsF.step rfl (fun _ h₁ => ?_)
  replace hE := rlE hE h₁
  clear h₁
  rw [stepG_region]
  simp only [goes_go, List.size_toArray, List.length_cons, List.length_nil, Nat.reduceAdd, Nat.zero_add, List.range, List.range.loop]
  refine ⟨de_nil, ?_⟩
  refine EndsF.step rfl (fun _ h₁ => ?_)
  replace hE := rlE hE h₁
  clear h₁
  refine goes_oper_k rfl rfl (by k_ne) (fun K hK => ?_)
  go_simp
  refine hK _ _ ⟨?_, ?_⟩
  ·refine de_none ?_
   intro ex hex
   have hm := mem_listed hex
   simp [go_sem, *] at hm
  clear hK K
  refine EndsF.step rfl (fun _ h₁ => ?_)
  replace hE := rlE hE h₁
  clear h₁
  rw [stepG_region_end]
  simp only [goes_go]
  refine ⟨de_nil, ?_⟩
  refine EndsF.step rfl (fun _ h₁ => ?_)
  replace hE := rlE hE h₁
  clear h₁
  rw [stepG_seq]
  simp only [goes_go]
  refine ⟨de_nil, ?_⟩
  refine EndsF.step rfl (fun _ h₁ => ?_)
  replace hE := rlE hE h₁
  clear h₁
  rw [stepG_region]
  simp only [goes_go, List.size_toArray, List.length_cons, List.length_nil, Nat.reduceAdd, Nat.zero_add, List.range, List.range.loop]
  refine ⟨de_nil, ?_⟩
  iterate 3
   refine EndsF.step rfl (fun _ h₁ => ?_)
   replace hE := rlE hE h₁
   clear h₁
   refine goes_oper_k rfl rfl (by k_ne) (fun K hK => ?_)
   go_simp
   refine hK _ _ ⟨?_, ?_⟩
   ·refine de_none ?_
    intro ex hex
    have hm := mem_listed hex
    simp [go_sem, *] at hm
   clear hK K
  iterate 2
   refine EndsF.step rfl (fun _ h₁ => ?_)
   replace hE := rlE hE h₁
   clear h₁
   rw [stepG_unwanted rfl rfl]
   simp only [goes_go]
   refine ⟨de_nil, ?_⟩
   walk_nrm
  iterate 2
   refine EndsF.step rfl (fun _ h₁ => ?_)
   replace hE := rlE hE h₁
   clear h₁
   refine goes_oper_k rfl rfl (by k_ne) (fun K hK => ?_)
   go_simp
   refine hK _ _ ⟨?_, ?_⟩
   ·refine de_none ?_
    intro ex hex
    have hm := mem_listed hex
    simp [go_sem, *] at hm
   clear hK K
  refine EndsF.step rfl (fun _ h₁ => ?_)
  replace hE := rlE hE h₁
  clear h₁
  rw [stepG_region_end]
  simp only [goes_go]
  refine ⟨de_nil, ?_⟩
  refine EndsF.step rfl (fun _ h₁ => ?_)
  replace hE := rlE hE h₁
  clear h₁
  rw [stepG_ret']
  simp only [goes_go]
  refine ⟨de_nil, ?_⟩
  refine EndsF.step rfl (fun _ h₁ => ?_)
  replace hE := rlE hE h₁
  clear h₁
  refine goes_leave1 rfl rfl Try.func29 rfl ⟨de_nil, ?_⟩
  walk_nrm
  exact hE
end
end Go.Pool
end
section
set_option linter.unusedSimpArgs false
namespace Go.Pool
open Go.Conc Go.RowKit Go.Proofs Go.ConcN Go.Conc.Lib Go.ConcR.Gen Go.ConcN.Gen
open Go.ConcR (KK wgBlock WgAt stA smA rd wr mk DC0)
def PostL (W : World) (v : Value) (w' : World) : Prop := v = .bool true ∧ Below W.heap.size W w'
theorem postL_end {P : Program} {Shun : Loc → Prop} {B : Nat} {g : Goroutine} {W w : World} (hr : g.status = .running) (h : ∀ w, stepG P true g w = .ended (.done (.bool true)) w #[]) (hF : Below W.heap.size W w) : EndsF P (PostL W) Shun B g w :=
 EndsF.last fun w₁ r => ⟨hr, .bool true, #[], h w₁, by simp, rfl, by obtain ⟨d, rfl⟩ := r; exact ⟨hF.os, hF.tape, hF.output, hF.size, hF.block⟩⟩
theorem sz_rely {W w w₁ : World} {H : Nat} (h : Below W.heap.size W w ∧ w.heap.size = H) (r : AtRel w w₁) : Below W.heap.size W w₁ ∧ w₁.heap.size = H := by
 obtain ⟨d, rfl⟩ := r
 exact ⟨⟨h.1.os, h.1.tape, h.1.output, h.1.size, h.1.block⟩, h.2⟩
section
variable {W w : World} {Shun : Loc → Prop} {B H : Nat} {sa : Option Addr} {sn sc : Nat}
abbrev Out (N : Int) (n : Nat) (ys : Nat → Int) (H K : Nat) (sl : Value) (e : Int) (w : World) : Prop :=
 ((1 ≤ N ∧ N ≤ 64) ∧ sl = .slice (some ⟨H + 2, 0, none⟩) n n ∧ e = 0 ∧ H + 2 < K ∧ RowIn (some ⟨H + 2, 0, none⟩) n ys w) ∨ (¬ (1 ≤ N ∧ N ≤ 64) ∧ sl = .slice none 0 0 ∧ e = 1)
end
end Go.Pool
end
section
set_option linter.unusedSimpArgs false
namespace Go.Pool
open Go.Conc Go.RowKit Go.Proofs Go.ConcN
theorem evL_neutral {Shun : Loc → Prop} {B : Nat} {m : Mark} (h : Neutral m) : EvL Shun B ⟨.mark m, false, true⟩ := by
 unfold Neutral at h
 subst h
 exact ⟨fun x hx => by simp [MemAct.ofEvent, MemAct.touch?] at hx, by simp, by simp, trivial⟩
end Go.Pool
end
section
set_option linter.unusedSimpArgs false
namespace Go.Pool
open Go.Conc Go.RowKit Go.Proofs Go.ConcN Go.Conc.Lib Go.ConcR.Gen Go.ConcN.Gen
open Go.ConcR (KK wgBlock WgAt stA smA rd wr mk DC0)
theorem info69 : (Try.prog.info? 69).map (fun i => (i.zero, i.size, i.bytes)) = some (some (.agg #[.string ⟨#[]⟩, .string ⟨#[]⟩]), 2, 32) := by kernel_rfl
theorem append_more {t e : TypeId} {z : Value} {size bytes : Nat} (ht : Try.prog.underlying t = some (.slice e)) (hinfo : (Try.prog.info? e).map (fun i => (i.zero, i.size, i.bytes)) = some (some z, size, bytes)) (hzs : z.cells.size = size) (hsz : 0 < size) (hby : bytes ≤ 64)
  {w : World} {H : Nat} {v : Value} {i : Nat} {xs : List Value} (hown : w.ownsRow H e size v i xs) (hH : H ≤ w.heap.size) (hi : i < 1048576) {Bn : Nat} {news : List Value} (hl : news.length = size) (hB : w.heap[Bn]? = some (.cells news.toArray e)) (hBn : H ≤ Bn) (h1 : ∀ u ∈ news, u.oneCell' = true) :
  ∃ v' w', (Builtin.append_ #[t, t] t #[v, .slice (some ⟨Bn, 0, none⟩) 1 1]).run Try.prog w = .ok v' w' ∧ w'.ownsRow H e size v' (i + 1) (xs ++ news) ∧ w.grownBy w' v.ownBlock ∧
   ∀ ev ∈ (Builtin.append_ #[t, t] t #[v, .slice (some ⟨Bn, 0, none⟩) 1 1]).events Try.prog w #[], (∃ ad, ev.loc = .cell ad ∧ H ≤ ad.block ∧ ad.block < w.heap.size) ∨ ∃ m, ev = ⟨.mark m, false, true⟩ ∧ Neutral m := by
 obtain ⟨i0, hi0, hz0, hz1, hz2⟩ := info_parts hinfo
 have hnews : ∀ j u, news[j]? = some u → w.cell? ((⟨Bn, 0, none⟩ : Addr).add j) = some u := fun j u hj => by
  have e : (⟨Bn, 0, none⟩ : Addr).add j = ⟨Bn, j, none⟩ := by unfold Addr.add; split <;> simp_all
  rw [e]
  simp [World.cell?, hB, hj]
 have hm : i + 1 ≤ maxLen := by simp only [maxLen]; omega
 have hbb : (i + 1) * bytes ≤ 140737488355328 := Nat.le_trans (Nat.mul_le_mul (show i + 1 ≤ 1048576 by omega) hby) (by omega)
 obtain ⟨v', w', hrun, hown', hg, _⟩ := run_append_own (P := Try.prog) (w := w) H t t e i0 z size bytes ht hi0 hz0 hz1 hz2 hzs hsz v i xs hown ⟨Bn, 0, none⟩ 1 1 news (by omega) hnews h1 hm hbb hH
 have hev := events_append_where (P := Try.prog) w H t t e i0 z size bytes ht hi0 hz0 hz1 hz2 v i xs hown ⟨Bn, 0, none⟩ 1 1 news (by omega) hnews h1 hm hbb
 have hBlt : Bn < w.heap.size := (Array.getElem?_eq_some_iff.1 hB).1
 refine ⟨v', w', hrun, hown', hg, fun ev he => ?_⟩
 rcases hev ev he with ⟨ad, h2, h3 | h3⟩ | h
 ·exact .inl ⟨ad, h2, by rw [h3.2]; exact hBn, by rw [h3.2]; exact hBlt⟩
 ·rcases hown.2 with ⟨rfl, _⟩ | ⟨g, cap, cur, rfl, hbg, hgc, _⟩
  ·simp [Value.ownBlock] at h3
  ·have : ad.block = g := by simpa [Value.ownBlock] using h3
   exact .inl ⟨ad, h2, by omega, by rw [this]; exact (Array.getElem?_eq_some_iff.1 hgc).1⟩
 ·exact .inr h
theorem ownsRow_below {w w' : World} {H e size i : Nat} {v : Value} {xs : List Value} (h : w.ownsRow H e size v i xs) (hs : ∀ b, b < w.heap.size → w'.heap[b]? = w.heap[b]?) : w'.ownsRow H e size v i xs := by
 refine ⟨h.1, h.2.imp id fun ⟨g, cap, cur, h1, h2, h3, h4⟩ => ⟨g, cap, cur, h1, h2, (hs g (Array.getElem?_eq_some_iff.1 h3).1).trans h3, h4⟩⟩
theorem grown_below {w w' : World} {H : Nat} {v : Value} {e size i : Nat} {xs : List Value} (hown : w.ownsRow H e size v i xs) (hH : H ≤ w.heap.size) (hg : w.grownBy w' v.ownBlock) : Below H w w' := by
 refine ⟨hg.os, hg.tape, hg.output, hg.size, fun b hb => hg.block b (by omega) fun x => ?_⟩
 rcases hown.2 with ⟨rfl, _⟩ | ⟨g, cap, cur, rfl, hbg, _⟩
 ·simp [Value.ownBlock] at x
 ·have : b = g := by simpa [Value.ownBlock] using x
  omega
abbrev StrIn (Shun : Loc → Prop) (H : Nat) (w0 : World) (n : Nat) (sa : Option Addr) (S : Nat → ByteArray) : Prop :=
 ∀ k, k < n → ∃ b o, sa = some ⟨b, o, none⟩ ∧ b < H ∧ (∀ a : Addr, a.block = b → ¬ Shun (.cell a)) ∧ w0.cell? ⟨b, o + k, none⟩ = some (.string (S k))
def pairs (S T : Nat → ByteArray) : Nat → List Value
 | 0 => []
 | i + 1 => pairs S T i ++ [.string (S i), .string (T i)]
theorem pairs_len (S T : Nat → ByteArray) : ∀ i, (pairs S T i).length = i * 2
 | 0 => rfl
 | i + 1 => by rw [pairs, List.length_append, pairs_len S T i]; simp; omega
theorem pairs_get (S T : Nat → ByteArray) : ∀ i k, k < i → (pairs S T i)[k * 2]? = some (.string (S k)) ∧ (pairs S T i)[k * 2 + 1]? = some (.string (T k))
 | 0, _, h => absurd h (Nat.not_lt_zero _)
 | i + 1, k, h => by
  have hl := pairs_len S T i
  by_cases e : k < i
  ·obtain ⟨h1, h2⟩ := pairs_get S T i k e
   rw [pairs, List.getElem?_append_left (by omega), List.getElem?_append_left (by omega)]
   exact ⟨h1, h2⟩
  ·obtain rfl : k = i := by omega
   rw [pairs, List.getElem?_append_right (by omega), List.getElem?_append_right (by omega), hl]
   constructor
   ·simp
   ·rw [show k * 2 + 1 - k * 2 = 1 by omega]; rfl
end Go.Pool
end
