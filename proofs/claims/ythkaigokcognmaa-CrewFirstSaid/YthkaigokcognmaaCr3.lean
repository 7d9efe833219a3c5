/-
  CREW 3: Map's job (crew.Map[int,int]$1), in company: a drawn region with a call and a store in it.
-/
import Derived.Test.YthkaigokcognmaaCr2
namespace Go.Pool
open Go.Conc Go.RowKit Go.Proofs

/-- The ten operations of 'out[k] = f(in[k])'. -/
noncomputable def ops50 : Array Oper := match Try.f50.body with
  | some (.seq _ (.seq (.region _ ops _) _)) => ops
  | _ => #[]

theorem ready50 : ∀ l0 l1 l2 l3 l4 l5 l6 l7 l8 l9 : Bool, Region.ready .any ops50 #[l0, l1, l2, l3, l4, l5, l6, l7, l8, l9] = [] → (l0 && l1 && l2 && l3 && l4 && l5 && l6 && l7 && l8 && l9) = true := by
  decide +kernel
theorem deps50b : ∀ l0 l1 l2 l3 l4 l5 l6 l7 l8 l9 : Bool, ((Region.ready .any ops50 #[l0, l1, l2, l3, l4, l5, l6, l7, l8, l9]).all fun i =>
    (i == 0 && !l0) || (i == 1 && !l1) || (i == 2 && !l2) || (i == 3 && !l3) || (i == 4 && !l4) || (i == 5 && !l5 && l3 && l4) || (i == 6 && !l6 && l5) || (i == 7 && !l7 && l2 && l6) || (i == 8 && !l8 && l0 && l1) || (i == 9 && !l9 && l7 && l8)) = true := by
  decide +kernel
theorem deps50 {l0 l1 l2 l3 l4 l5 l6 l7 l8 l9 : Bool} {i : Nat} (hi : i ∈ Region.ready .any ops50 #[l0, l1, l2, l3, l4, l5, l6, l7, l8, l9]) :
    (i = 0 ∧ l0 = false) ∨ (i = 1 ∧ l1 = false) ∨ (i = 2 ∧ l2 = false) ∨ (i = 3 ∧ l3 = false) ∨ (i = 4 ∧ l4 = false) ∨ (i = 5 ∧ l5 = false ∧ l3 = true ∧ l4 = true) ∨ (i = 6 ∧ l6 = false ∧ l5 = true) ∨
    (i = 7 ∧ l7 = false ∧ l2 = true ∧ l6 = true) ∨ (i = 8 ∧ l8 = false ∧ l0 = true ∧ l1 = true) ∨ (i = 9 ∧ l9 = false ∧ l7 = true ∧ l8 = true) := by
  have := List.all_eq_true.1 (deps50b l0 l1 l2 l3 l4 l5 l6 l7 l8 l9) i hi
  simp only [Bool.or_eq_true, Bool.and_eq_true, beq_iff_eq, Bool.not_eq_true'] at this
  simpa only [or_assoc, and_assoc] using this

theorem dj_mk {φ : Ph} {k : Nat} {w : World} {es : Array Event} (h : ∀ e ∈ es, EvP φ (· = k) 1 e) : DJ φ k w w es := ⟨.refl k w, h⟩

theorem heap_setCell_at {w : World} {b o : Nat} {v : Value} {cs : Array Value} {ty : TypeId} {fz : Nat × Nat} (h : w.heap[b]? = some (.cells cs ty fz)) : (w.setCell ⟨b, o, none⟩ v).heap[b]? = some (.cells (cs.setIfInBounds o v) ty fz) := by
  simp [World.setCell, Array.getElem?_modify, h]

theorem job_set {φ : Ph} {Out k : Nat} (hpb : φ.pb Out) (w : World) (v : Value) : Job φ k w (w.setCell ⟨Out, k, none⟩ v) := by
  have A := aside_setCell w ⟨Out, k, none⟩ v
  refine ⟨A.tape, A.os, A.output, A.size, fun b hb => A.block b fun e => hb (by rw [e]; exact hpb), fun b hb cs ty fz hc => ?_, fun b k' _ hk => World.cell?_setCell_other _ _ _ _ fun e => hk ?_⟩
  · by_cases e : b = Out
    · subst e; exact ⟨_, heap_setCell_at hc, by simp⟩
    · exact ⟨cs, (A.block b e).trans hc, rfl⟩
  · have := congrArg Addr.off e
    exact this.symm

def gv (b : Bool) (v : Value) : Value := if b then v else undef
theorem gv_t (v : Value) : gv true v = v := rfl
def cntF (b : Bool) : Nat := if b then 0 else 1
theorem cntF_eq {b : Bool} (h : cntF b = 0) : b = true := by cases b <;> simp_all [cntF]

section
variable (φ : Ph) (k : Nat)

/-- What the job finds: the variables' cells; in's k-th; out's block. -/
structure V50 (Bf Bi Bo Bin oin Out n ncap : Nat) (fv : Value) (x : Int) (w : World) : Prop where
  cf : w.cell? ⟨Bf, 0, none⟩ = some fv
  ci : w.cell? ⟨Bi, 0, none⟩ = some (.slice (some ⟨Bin, oin, none⟩) n ncap)
  co : w.cell? ⟨Bo, 0, none⟩ = some (.slice (some ⟨Out, 0, none⟩) n n)
  cx : w.cell? ⟨Bin, oin + k, none⟩ = some (.int .i64 x)
  out : ∃ cs, w.heap[Out]? = some (.cells cs 3) ∧ cs.size = n
end

section
variable {φ : Ph} {k Bf Bi Bo Bin oin Out n ncap : Nat} {fv : Value} {x y : Int} {X0 X1 : World → Prop} {ff : FuncId} {first cap : Array Value}

theorem V50.rely (hf : Still φ Bf) (hi : Still φ Bi) (ho : Still φ Bo) (hin : Still φ Bin) (hpb : φ.pb Out) {w w₁ : World} (h : V50 k Bf Bi Bo Bin oin Out n ncap fv x w) (r : Frm φ (· = k) w w₁) : V50 k Bf Bi Bo Bin oin Out n ncap fv x w₁ := by
  obtain ⟨cs, hc, hs⟩ := h.out
  obtain ⟨cs', hc', hs'⟩ := r.shape Out hpb cs _ _ hc
  exact ⟨(hf.cell r 0).trans h.cf, (hi.cell r 0).trans h.ci, (ho.cell r 0).trans h.co, (hin.cell r _).trans h.cx, cs', hc', hs'.trans hs⟩

/-- The state while the region runs. -/
def I50 (k : Nat) (Bf Bi Bo Bin oin Out n ncap : Nat) (fv : Value) (x y : Int) (X0 X1 : World → Prop) (f : Nat) (listed : Array Bool) (a : Act) (w : World) : Prop :=
  ∃ l0 l1 l2 l3 l4 l5 l6 l7 l8 l9 : Bool, listed = #[l0, l1, l2, l3, l4, l5, l6, l7, l8, l9] ∧
    f = cntF l0 + cntF l1 + cntF l2 + cntF l3 + cntF l4 + cntF l5 + cntF l6 + cntF l7 + cntF l8 + cntF l9 ∧
    a = ⟨#[.int .i64 k, .pointer (some ⟨Bf, 0, none⟩), .pointer (some ⟨Bi, 0, none⟩), .pointer (some ⟨Bo, 0, none⟩), undef, .bool false,
      gv l0 (.slice (some ⟨Out, 0, none⟩) n n), gv l1 (.int .i64 k), gv l2 fv, gv l3 (.slice (some ⟨Bin, oin, none⟩) n ncap), gv l4 (.int .i64 k), gv l5 (.pointer (some ⟨Bin, oin + k, none⟩)), gv l6 (.int .i64 x), gv l7 (.int .i64 y), gv l8 (.pointer (some ⟨Out, k, none⟩))], []⟩ ∧
    V50 k Bf Bi Bo Bin oin Out n ncap fv x w ∧ (if l7 then X1 w else X0 w) ∧ (l9 = true → l7 = true ∧ w.cell? ⟨Out, k, none⟩ = some (.int .i64 y))

/-- What is held of the world while the region runs. -/
def W50 (k Bf Bi Bo Bin oin Out n ncap : Nat) (fv : Value) (x y : Int) (X0 X1 : World → Prop) (l7 l9 : Bool) (w : World) : Prop :=
  V50 k Bf Bi Bo Bin oin Out n ncap fv x w ∧ (if l7 then X1 w else X0 w) ∧ (l9 = true → l7 = true ∧ w.cell? ⟨Out, k, none⟩ = some (.int .i64 y))

theorem W50.rely (hf : Still φ Bf) (hi : Still φ Bi) (ho : Still φ Bo) (hin : Still φ Bin) (hpb : φ.pb Out) (h0 : ∀ w w₁, X0 w → Frm φ (· = k) w w₁ → X0 w₁) (h1 : ∀ w w₁, X1 w → Frm φ (· = k) w w₁ → X1 w₁) {l7 l9 : Bool} {w w₁ : World}
    (h : W50 k Bf Bi Bo Bin oin Out n ncap fv x y X0 X1 l7 l9 w) (r : Frm φ (· = k) w w₁) : W50 k Bf Bi Bo Bin oin Out n ncap fv x y X0 X1 l7 l9 w₁ := by
  refine ⟨h.1.rely hf hi ho hin hpb r, ?_, fun e => ⟨(h.2.2 e).1, (r.own Out k hpb rfl).trans (h.2.2 e).2⟩⟩
  have := h.2.1
  cases l7
  · exact h0 _ _ this r
  · exact h1 _ _ this r

theorem I50.of {f : Nat} {l0 l1 l2 l3 l4 l5 l6 l7 l8 l9 : Bool} {w : World} (hf : f = cntF l0 + cntF l1 + cntF l2 + cntF l3 + cntF l4 + cntF l5 + cntF l6 + cntF l7 + cntF l8 + cntF l9)
    (h : W50 k Bf Bi Bo Bin oin Out n ncap fv x y X0 X1 l7 l9 w) : I50 k Bf Bi Bo Bin oin Out n ncap fv x y X0 X1 f #[l0, l1, l2, l3, l4, l5, l6, l7, l8, l9]
      ⟨#[.int .i64 k, .pointer (some ⟨Bf, 0, none⟩), .pointer (some ⟨Bi, 0, none⟩), .pointer (some ⟨Bo, 0, none⟩), undef, .bool false,
      gv l0 (.slice (some ⟨Out, 0, none⟩) n n), gv l1 (.int .i64 k), gv l2 fv, gv l3 (.slice (some ⟨Bin, oin, none⟩) n ncap), gv l4 (.int .i64 k), gv l5 (.pointer (some ⟨Bin, oin + k, none⟩)), gv l6 (.int .i64 x), gv l7 (.int .i64 y), gv l8 (.pointer (some ⟨Out, k, none⟩))], []⟩ w :=
  ⟨l0, l1, l2, l3, l4, l5, l6, l7, l8, l9, rfl, hf, rfl, h⟩

set_option maxRecDepth 100000 in
set_option maxHeartbeats 4000000 in
/-- MAP's JOB. -/
theorem job50_c (hf : Still φ Bf) (hi : Still φ Bi) (ho : Still φ Bo) (hin : Still φ Bin) (hpb : φ.pb Out) (hOB : Out < φ.B) (hk : k < n) (h0 : ∀ w w₁, X0 w → Frm φ (· = k) w w₁ → X0 w₁) (h1 : ∀ w w₁, X1 w → Frm φ (· = k) w w₁ → X1 w₁)
    (h1s : ∀ w v, X1 w → X1 (w.setCell ⟨Out, k, none⟩ v)) {mf : Nat}
    (hcall : ∀ w, V50 k Bf Bi Bo Bin oin Out n ncap (.func (.func ff) first cap) x w → X0 w → CallsC Try.prog false (Frm φ (· = k)) (DJ φ k) ff (first ++ #[.int .i64 x] ++ cap) mf w fun v w' => v = .int .i64 y ∧ V50 k Bf Bi Bo Bin oin Out n ncap (.func (.func ff) first cap) x w' ∧ X1 w') :
    ∃ m, ∀ w, V50 k Bf Bi Bo Bin oin Out n ncap (.func (.func ff) first cap) x w → X0 w →
      CallsC Try.prog false (Frm φ (· = k)) (DJ φ k) 50 #[.int .i64 k, .pointer (some ⟨Bf, 0, none⟩), .pointer (some ⟨Bi, 0, none⟩), .pointer (some ⟨Bo, 0, none⟩)] m w fun v w' => v = .bool false ∧ X1 w' ∧ w'.cell? ⟨Out, k, none⟩ = some (.int .i64 y) := by
  have T := termsJ φ k
  co_apply Exists.intro
  intro w hV hX
  co_apply callsC_of_wpC Try.func50 (by rfl) rfl
  simp only [Try.ntmps50, List.size_toArray, List.length_cons, List.length_nil, Nat.reduceAdd, Nat.reduceSub, Array.replicate_succ, Array.replicate_zero, List.push_toArray, List.append_toArray, List.nil_append, List.cons_append]
  have hF : W50 k Bf Bi Bo Bin oin Out n ncap (.func (.func ff) first cap) x y X0 X1 false false w := ⟨hV, hX, by simp⟩
  clear hV hX
  co_stmt T (W50.rely hf hi ho hin hpb h0 h1) hF (co_quiet T)
  co_ctl T
  refine region_inv T (drawJ φ k) (by first | kernel_rfl | rfl) (mf + 5) (I50 k Bf Bi Bo Bin oin Out n ncap (.func (.func ff) first cap) x y X0 X1) ?_ ?_ ?_ ?_
  · intro w₁ r
    have hF' := W50.rely hf hi ho hin hpb h0 h1 (W50.rely hf hi ho hin hpb h0 h1 hF r) (ownDrawJ φ k w₁)
    exact ⟨false, false, false, false, false, false, false, false, false, false, rfl, rfl, rfl, hF'⟩
  · rintro listed a w ⟨l0, l1, l2, l3, l4, l5, l6, l7, l8, l9, rfl, hc, rfl, hF⟩
    obtain rfl := cntF_eq (b := l0) (by omega)
    obtain rfl := cntF_eq (b := l1) (by omega)
    obtain rfl := cntF_eq (b := l2) (by omega)
    obtain rfl := cntF_eq (b := l3) (by omega)
    obtain rfl := cntF_eq (b := l4) (by omega)
    obtain rfl := cntF_eq (b := l5) (by omega)
    obtain rfl := cntF_eq (b := l6) (by omega)
    obtain rfl := cntF_eq (b := l7) (by omega)
    obtain rfl := cntF_eq (b := l8) (by omega)
    obtain rfl := cntF_eq (b := l9) (by omega)
    replace hF : W50 k Bf Bi Bo Bin oin Out n ncap (.func (.func ff) first cap) x y X0 X1 true true w := hF
    co_then
    co_go T (W50.rely hf hi ho hin hpb h0 h1) hF (co_quiet T)
    exact ⟨rfl, _, resultsC_tmp (by rfl) _, by rfl, hF.2.1, (hF.2.2 rfl).2⟩
  · rintro f listed a w ⟨l0, l1, l2, l3, l4, l5, l6, l7, l8, l9, rfl, hc, rfl, hF⟩ hn
    have := ready50 l0 l1 l2 l3 l4 l5 l6 l7 l8 l9 hn
    simp only [Bool.and_eq_true] at this
    obtain ⟨⟨⟨⟨⟨⟨⟨⟨⟨rfl, rfl⟩, rfl⟩, rfl⟩, rfl⟩, rfl⟩, rfl⟩, rfl⟩, rfl⟩, rfl⟩ := this
    simp [cntF] at hc
  · rintro f listed a w i ⟨l0, l1, l2, l3, l4, l5, l6, l7, l8, l9, rfl, hc, rfl, hF⟩ hmem rest m hnext
    replace hF : W50 k Bf Bi Bo Bin oin Out n ncap (.func (.func ff) first cap) x y X0 X1 l7 l9 w := hF
    rcases deps50 hmem with ⟨rfl, rfl⟩ | ⟨rfl, rfl⟩ | ⟨rfl, rfl⟩ | ⟨rfl, rfl⟩ | ⟨rfl, rfl⟩ | ⟨rfl, rfl, rfl, rfl⟩ | ⟨rfl, rfl, rfl⟩ | ⟨rfl, rfl, rfl, rfl⟩ | ⟨rfl, rfl, rfl, rfl⟩ | ⟨rfl, rfl, rfl, rfl⟩
    · refine opsC_more (n := m + 1) ?_ (by omega)
      co_opw (W50.rely hf hi ho hin hpb h0 h1) hF (have hld := hF.1.co) (refine dj_mk ?_; co_evs (exact evp_read ho 0 _ _))
      exact hnext _ _ (I50.of (by simp [cntF] at hc ⊢; omega) hF)
    · refine opsC_more (n := m + 1) ?_ (by omega)
      co_op (W50.rely hf hi ho hin hpb h0 h1) hF (co_quiet T)
      exact hnext _ _ (I50.of (by simp [cntF] at hc ⊢; omega) hF)
    · refine opsC_more (n := m + 1) ?_ (by omega)
      co_opw (W50.rely hf hi ho hin hpb h0 h1) hF (have hld := hF.1.cf) (refine dj_mk ?_; co_evs (exact evp_read hf 0 _ _))
      exact hnext _ _ (I50.of (by simp [cntF] at hc ⊢; omega) hF)
    · refine opsC_more (n := m + 1) ?_ (by omega)
      co_opw (W50.rely hf hi ho hin hpb h0 h1) hF (have hld := hF.1.ci) (refine dj_mk ?_; co_evs (exact evp_read hi 0 _ _))
      exact hnext _ _ (I50.of (by simp [cntF] at hc ⊢; omega) hF)
    · refine opsC_more (n := m + 1) ?_ (by omega)
      co_op (W50.rely hf hi ho hin hpb h0 h1) hF (co_quiet T)
      exact hnext _ _ (I50.of (by simp [cntF] at hc ⊢; omega) hF)
    · refine opsC_more (n := m + 1) ?_ (by omega)
      have hkn : (k : Int) < (n : Int) := by omega
      simp only [gv_t]
      co_op (W50.rely hf hi ho hin hpb h0 h1) hF (co_still T)
      exact hnext _ _ (I50.of (by simp [cntF] at hc ⊢; omega) hF)
    · refine opsC_more (n := m + 1) ?_ (by omega)
      simp only [gv_t]
      co_opw (W50.rely hf hi ho hin hpb h0 h1) hF (have hld := hF.1.cx) (refine dj_mk ?_; co_evs (exact evp_read hin _ _ _))
      exact hnext _ _ (I50.of (by simp [cntF] at hc ⊢; omega) hF)
    · refine opsC_more (n := m + mf + 3) ?_ (by omega)
      simp only [gv_t]
      refine opsC_callv T (nf := mf) (first := first) (cap := cap) (Post := fun v w' => v = .int .i64 y ∧ V50 k Bf Bi Bo Bin oin Out n ncap (.func (.func ff) first cap) x w' ∧ X1 w') rfl (by rfl) rfl rfl (by have := hcall w hF.1 hF.2.1; simpa [Act.eval] using this) (fun v w' ⟨hv, hV', hX'⟩ => ?_)
      subst hv
      exact hnext _ _ (I50.of (by simp [cntF] at hc ⊢; omega) ⟨hV', hX', fun e => absurd (hF.2.2 e).1 (by simp)⟩)
    · refine opsC_more (n := m + 1) ?_ (by omega)
      have hkn : (k : Int) < (n : Int) := by omega
      simp only [gv_t]
      co_op (W50.rely hf hi ho hin hpb h0 h1) hF (co_still T)
      exact hnext _ _ (I50.of (by simp [cntF] at hc ⊢; omega) hF)
    · refine opsC_more (n := m + 1) ?_ (by omega)
      simp only [gv_t]
      co_apply opsC_cons_k rfl (by rfl)
      intro w₁ hR K hK
      replace hF := W50.rely hf hi ho hin hpb h0 h1 hF hR
      clear hR
      obtain ⟨cs, hcs, hcn⟩ := hF.1.out
      have hlt : k < cs.size := by omega
      have hcell : w₁.cell? ⟨Out, k, none⟩ = some cs[k] := by simp [World.cell?, hcs, hlt]
      have hfr : w₁.frozen? ⟨Out, k, none⟩ = false := by simp [World.frozen?, hcs]
      go_simp
      try (unfold stored; go_simp)
      refine hK _ _ ⟨⟨job_set hpb w₁ _, ?_⟩, ?_⟩
      · co_evs (exact evp_own hpb hOB true _)
      refine hnext _ _ (I50.of (by simp [cntF] at hc ⊢; omega) ⟨?_, h1s _ _ hF.2.1, fun _ => ⟨rfl, World.cell?_setCell_same' _ _ _ (by rw [hcell]; rfl)⟩⟩)
      have A := aside_setCell w₁ ⟨Out, k, none⟩ (.int .i64 y)
      have hb : ∀ b o, ¬ φ.pb b → (w₁.setCell ⟨Out, k, none⟩ (.int .i64 y)).cell? ⟨b, o, none⟩ = w₁.cell? ⟨b, o, none⟩ := fun b o hb => cell_block (A.block b fun e => hb (by rw [e]; exact hpb)) o
      exact ⟨(hb _ _ hf.pb).trans hF.1.cf, (hb _ _ hi.pb).trans hF.1.ci, (hb _ _ ho.pb).trans hF.1.co, (hb _ _ hin.pb).trans hF.1.cx, _, heap_setCell_at hcs, by simp [hcn]⟩
end
end Go.Pool
