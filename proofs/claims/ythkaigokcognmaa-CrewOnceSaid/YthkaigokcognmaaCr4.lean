/-
  CREW 4: CrewOnce's function, in company: calls[k]++.
-/
import Derived.Test.YthkaigokcognmaaCr3
namespace Go.Pool
open Go.Conc Go.RowKit Go.Proofs

/-- The k-th count. -/
structure X32 (k Bc Cal n : Nat) (c : Int) (w : World) : Prop where
  cv : w.cell? ⟨Bc, 0, none⟩ = some (.slice (some ⟨Cal, 0, none⟩) n n)
  cc : w.cell? ⟨Cal, k, none⟩ = some (.int .i64 c)
  cal : ∃ cs, w.heap[Cal]? = some (.cells cs 3) ∧ cs.size = n

section
variable {φ : Ph} {k Bc Cal n : Nat} {c : Int} {V : World → Prop}

theorem X32.rely (hc : Still φ Bc) (hpb : φ.pb Cal) {w w₁ : World} (h : X32 k Bc Cal n c w) (r : Frm φ (· = k) w w₁) : X32 k Bc Cal n c w₁ := by
  obtain ⟨cs, h1, h2⟩ := h.cal
  obtain ⟨cs', h3, h4⟩ := r.shape Cal hpb cs _ _ h1
  exact ⟨(hc.cell r 0).trans h.cv, (r.own Cal k hpb rfl).trans h.cc, cs', h3, h4.trans h2⟩

set_option maxRecDepth 100000 in
theorem f32_c (hc : Still φ Bc) (hpb : φ.pb Cal) (hCB : Cal < φ.B) (hk : k < n) (hV : ∀ w w₁, V w → Frm φ (· = k) w w₁ → V w₁) (hVs : ∀ w v, V w → V (w.setCell ⟨Cal, k, none⟩ v)) :
    ∃ m, ∀ w, V w → X32 k Bc Cal n 0 w → CallsC Try.prog false (Frm φ (· = k)) (DJ φ k) 32 #[.int .i64 k, .pointer (some ⟨Bc, 0, none⟩)] m w fun v w' => v = .int .i64 k ∧ V w' ∧ X32 k Bc Cal n 1 w' := by
  have T := termsJ φ k
  have rl : ∀ {c : Int} {w w₁ : World}, V w ∧ X32 k Bc Cal n c w → Frm φ (· = k) w w₁ → V w₁ ∧ X32 k Bc Cal n c w₁ := fun h r => ⟨hV _ _ h.1 r, h.2.rely hc hpb r⟩
  co_apply Exists.intro
  intro w hv hx
  have hF := And.intro hv hx
  clear hv hx
  co_apply callsC_of_wpC Try.func32 (by rfl) rfl
  simp only [Try.ntmps32, List.size_toArray, List.length_cons, List.length_nil, Nat.reduceAdd, Nat.reduceSub, Array.replicate_succ, Array.replicate_zero, List.push_toArray, List.append_toArray, List.nil_append, List.cons_append]
  have hkn : (k : Int) < (n : Int) := by omega
  co_stmt T rl hF (co_quiet T)
  co_ctl T
  co_reg T
  co_opw rl hF (have hld := hF.2.cv) (refine dj_mk ?_; co_evs (exact evp_read hc 0 _ _))
  co_op rl hF (co_quiet T)
  co_op rl hF (co_still T)
  co_opw rl hF (have hld := hF.2.cc) (refine dj_mk ?_; co_evs (exact evp_own hpb hCB false _))
  co_op rl hF (co_quiet T)
  co_op rl hF (co_still T)
  co_apply opsC_cons_k rfl (by rfl)
  intro w₁ hR K hK
  replace hF := rl hF hR
  clear hR
  obtain ⟨cs, hcs, hcn⟩ := hF.2.cal
  have hcell := hF.2.cc
  have hfr : w₁.frozen? ⟨Cal, k, none⟩ = false := by simp [World.frozen?, hcs]
  go_simp
  try (unfold stored; go_simp)
  refine hK _ _ ⟨⟨job_set hpb w₁ _, ?_⟩, ?_⟩
  · co_evs (exact evp_own hpb hCB true _)
  have A := aside_setCell w₁ ⟨Cal, k, none⟩ (.int .i64 (IntKind.i64.wrap 1))
  have hw1 : IntKind.i64.wrap 1 = 1 := by decide
  replace hF : V (w₁.setCell ⟨Cal, k, none⟩ (.int .i64 (IntKind.i64.wrap 1))) ∧ X32 k Bc Cal n 1 (w₁.setCell ⟨Cal, k, none⟩ (.int .i64 (IntKind.i64.wrap 1))) :=
    ⟨hVs _ _ hF.1, (cell_block (A.block Bc fun e => hc.pb (by rw [e]; exact hpb)) 0).trans hF.2.cv, by rw [World.cell?_setCell_same' _ _ _ (by rw [hcell]; rfl), hw1], _, heap_setCell_at hcs, by simp [hcn]⟩
  clear hK K
  try walk_nrm
  co_go T rl hF (co_quiet T)
  exact ⟨rfl, _, resultsC_tmp (by rfl) _, by rfl, hF⟩
end
end Go.Pool
