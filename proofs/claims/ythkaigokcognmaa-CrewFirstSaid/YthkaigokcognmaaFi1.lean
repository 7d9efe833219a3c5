/-
  FIRST 1: First's job (crew.First[int]$1), in company: a drawn region with a call in it, the send of what was found.
-/
import Derived.Test.YthkaigokcognmaaCr9
import Derived.Test.YthkaigokcognmaaCr3
set_option linter.unusedSimpArgs false
namespace Go.Pool
open Go.Conc Go.RowKit Go.Proofs Go.ConcN Go.Conc.Lib Go.ConcR.Gen Go.ConcN.Gen
open Go.ConcR (KK wgBlock WgAt stA smA rd wr mk DC0)

/-- The six operations of 'is(in[k])'. -/
noncomputable def ops52 : Array Oper := match Try.f52.body with
  | some (.seq _ (.seq (.seq (.region _ ops _) _) _)) => ops
  | _ => #[]
noncomputable def body52 : Code := Try.f52.body.getD .skip
def b52 : Frame := base 52

theorem ready52 : ∀ l0 l1 l2 l3 l4 l5 : Bool, Region.ready .any ops52 #[l0, l1, l2, l3, l4, l5] = [] → (l0 && l1 && l2 && l3 && l4 && l5) = true := by
  decide +kernel
theorem deps52b : ∀ l0 l1 l2 l3 l4 l5 : Bool, ((Region.ready .any ops52 #[l0, l1, l2, l3, l4, l5]).all fun i =>
    (i == 0 && !l0) || (i == 1 && !l1) || (i == 2 && !l2) || (i == 3 && !l3 && l1 && l2) || (i == 4 && !l4 && l3) || (i == 5 && !l5 && l0 && l4)) = true := by
  decide +kernel
theorem deps52 {l0 l1 l2 l3 l4 l5 : Bool} {i : Nat} (hi : i ∈ Region.ready .any ops52 #[l0, l1, l2, l3, l4, l5]) :
    (i = 0 ∧ l0 = false) ∨ (i = 1 ∧ l1 = false) ∨ (i = 2 ∧ l2 = false) ∨ (i = 3 ∧ l3 = false ∧ l1 = true ∧ l2 = true) ∨ (i = 4 ∧ l4 = false ∧ l3 = true) ∨ (i = 5 ∧ l5 = false ∧ l0 = true ∧ l4 = true) := by
  have := List.all_eq_true.1 (deps52b l0 l1 l2 l3 l4 l5) i hi
  simp only [Bool.or_eq_true, Bool.and_eq_true, beq_iff_eq, Bool.not_eq_true'] at this
  simpa only [or_assoc, and_assoc] using this

/-- What the job finds. -/
structure V52 (k Bf Bi Bd Bin oin n ncap fd : Nat) (fv : Value) (x : Int) (w : World) : Prop where
  cf : w.cell? ⟨Bf, 0, none⟩ = some fv
  ci : w.cell? ⟨Bi, 0, none⟩ = some (.slice (some ⟨Bin, oin, none⟩) n ncap)
  cd : w.cell? ⟨Bd, 0, none⟩ = some (.chan (some fd))
  cx : w.cell? ⟨Bin, oin + k, none⟩ = some (.int .i64 x)

section
variable {φ : Ph} {k Bf Bi Bd Bin oin n ncap fd : Nat} {fv : Value} {x : Int} {X : World → Prop} {ff : FuncId} {first cap : Array Value} {b : Bool}

theorem V52.rely {own : Nat → Prop} (hf : Still φ Bf) (hi : Still φ Bi) (hd : Still φ Bd) (hin : Still φ Bin) {w w₁ : World} (h : V52 k Bf Bi Bd Bin oin n ncap fd fv x w) (r : Frm φ own w w₁) : V52 k Bf Bi Bd Bin oin n ncap fd fv x w₁ :=
  ⟨(hf.cell r 0).trans h.cf, (hi.cell r 0).trans h.ci, (hd.cell r 0).trans h.cd, (hin.cell r _).trans h.cx⟩

def W52 (k Bf Bi Bd Bin oin n ncap fd : Nat) (fv : Value) (x : Int) (X : World → Prop) (w : World) : Prop := V52 k Bf Bi Bd Bin oin n ncap fd fv x w ∧ X w
theorem W52.rely {own : Nat → Prop} (hf : Still φ Bf) (hi : Still φ Bi) (hd : Still φ Bd) (hin : Still φ Bin) (hX : ∀ w w₁, X w → Frm φ own w w₁ → X w₁) {w w₁ : World} (h : W52 k Bf Bi Bd Bin oin n ncap fd fv x X w) (r : Frm φ own w w₁) : W52 k Bf Bi Bd Bin oin n ncap fd fv x X w₁ :=
  ⟨h.1.rely hf hi hd hin r, hX _ _ h.2 r⟩

/-- The state while the region runs. -/
def I52 (k Bf Bi Bd Bin oin n ncap fd : Nat) (fv : Value) (x : Int) (b : Bool) (X : World → Prop) (f : Nat) (listed : Array Bool) (a : Act) (w : World) : Prop :=
  ∃ l0 l1 l2 l3 l4 l5 : Bool, listed = #[l0, l1, l2, l3, l4, l5] ∧ f = cntF l0 + cntF l1 + cntF l2 + cntF l3 + cntF l4 + cntF l5 ∧
    a = ⟨#[.int .i64 k, .pointer (some ⟨Bf, 0, none⟩), .pointer (some ⟨Bi, 0, none⟩), .pointer (some ⟨Bd, 0, none⟩), undef, .bool false,
      gv l0 fv, gv l1 (.slice (some ⟨Bin, oin, none⟩) n ncap), gv l2 (.int .i64 k), gv l3 (.pointer (some ⟨Bin, oin + k, none⟩)), gv l4 (.int .i64 x), gv l5 (.bool b), undef, undef], []⟩ ∧ W52 k Bf Bi Bd Bin oin n ncap fd fv x X w

theorem I52.of {f : Nat} {l0 l1 l2 l3 l4 l5 : Bool} {w : World} (hf : f = cntF l0 + cntF l1 + cntF l2 + cntF l3 + cntF l4 + cntF l5) (h : W52 k Bf Bi Bd Bin oin n ncap fd fv x X w) :
    I52 k Bf Bi Bd Bin oin n ncap fd fv x b X f #[l0, l1, l2, l3, l4, l5] ⟨#[.int .i64 k, .pointer (some ⟨Bf, 0, none⟩), .pointer (some ⟨Bi, 0, none⟩), .pointer (some ⟨Bd, 0, none⟩), undef, .bool false,
      gv l0 fv, gv l1 (.slice (some ⟨Bin, oin, none⟩) n ncap), gv l2 (.int .i64 k), gv l3 (.pointer (some ⟨Bin, oin + k, none⟩)), gv l4 (.int .i64 x), gv l5 (.bool b), undef, undef], []⟩ w :=
  ⟨l0, l1, l2, l3, l4, l5, rfl, hf, rfl, h⟩

set_option maxRecDepth 100000 in
set_option maxHeartbeats 4000000 in
/-- THE DRAWN REGION. -/
theorem region52 (hf : Still φ Bf) (hi : Still φ Bi) (hd : Still φ Bd) (hin : Still φ Bin) (hk : k < n) (hX : ∀ w w₁, X w → Frm φ (· = k) w w₁ → X w₁) {mf : Nat} {id : Nat}
    (hcall : ∀ w, W52 k Bf Bi Bd Bin oin n ncap fd (.func (.func ff) first cap) x X w → CallsC Try.prog false (Frm φ (· = k)) (DJ φ k) ff (first ++ #[.int .i64 x] ++ cap) mf w fun v w' => v = .bool b ∧ W52 k Bf Bi Bd Bin oin n ncap fd (.func (.func ff) first cap) x X w') :
    ∀ w, W52 k Bf Bi Bd Bin oin n ncap fd (.func (.func ff) first cap) x X w → (Code.region id ops52 true).wpC Try.prog false (Frm φ (· = k)) (DJ φ k) 52 (ops52.size * (mf + 5) + 1 + 1)
      (fun e a w' => e = .normal ∧ a = ⟨#[.int .i64 k, .pointer (some ⟨Bf, 0, none⟩), .pointer (some ⟨Bi, 0, none⟩), .pointer (some ⟨Bd, 0, none⟩), undef, .bool false,
      .func (.func ff) first cap, .slice (some ⟨Bin, oin, none⟩) n ncap, .int .i64 k, .pointer (some ⟨Bin, oin + k, none⟩), .int .i64 x, .bool b, undef, undef], []⟩ ∧ W52 k Bf Bi Bd Bin oin n ncap fd (.func (.func ff) first cap) x X w')
      ⟨#[.int .i64 k, .pointer (some ⟨Bf, 0, none⟩), .pointer (some ⟨Bi, 0, none⟩), .pointer (some ⟨Bd, 0, none⟩), undef, .bool false, undef, undef, undef, undef, undef, undef, undef, undef], []⟩ w := by
  have T := termsJ φ k
  intro w hF
  simp only [ops52, Try.f52]
  refine region_inv T (drawJ φ k) (by first | kernel_rfl | rfl) (mf + 5) (I52 k Bf Bi Bd Bin oin n ncap fd (.func (.func ff) first cap) x b X) ?_ ?_ ?_ ?_
  · intro w₁ r
    have hF' := W52.rely hf hi hd hin hX (W52.rely hf hi hd hin hX hF r) (ownDrawJ φ k w₁)
    exact ⟨false, false, false, false, false, false, rfl, rfl, rfl, hF'⟩
  · rintro listed a w ⟨l0, l1, l2, l3, l4, l5, rfl, hc, rfl, hF⟩
    obtain rfl := cntF_eq (b := l0) (by omega)
    obtain rfl := cntF_eq (b := l1) (by omega)
    obtain rfl := cntF_eq (b := l2) (by omega)
    obtain rfl := cntF_eq (b := l3) (by omega)
    obtain rfl := cntF_eq (b := l4) (by omega)
    obtain rfl := cntF_eq (b := l5) (by omega)
    exact ⟨rfl, rfl, hF⟩
  · rintro f listed a w ⟨l0, l1, l2, l3, l4, l5, rfl, hc, rfl, hF⟩ hn
    have := ready52 l0 l1 l2 l3 l4 l5 hn
    simp only [Bool.and_eq_true] at this
    obtain ⟨⟨⟨⟨⟨rfl, rfl⟩, rfl⟩, rfl⟩, rfl⟩, rfl⟩ := this
    simp [cntF] at hc
  · rintro f listed a w i ⟨l0, l1, l2, l3, l4, l5, rfl, hc, rfl, hF⟩ hmem rest m hnext
    rcases deps52 hmem with ⟨rfl, rfl⟩ | ⟨rfl, rfl⟩ | ⟨rfl, rfl⟩ | ⟨rfl, rfl, rfl, rfl⟩ | ⟨rfl, rfl, rfl⟩ | ⟨rfl, rfl, rfl, rfl⟩
    · refine opsC_more (n := m + 1) ?_ (by omega)
      co_opw (W52.rely hf hi hd hin hX) hF (have hld := hF.1.cf) (refine dj_mk ?_; co_evs (exact evp_read hf 0 _ _))
      exact hnext _ _ (I52.of (by simp [cntF] at hc ⊢; omega) hF)
    · refine opsC_more (n := m + 1) ?_ (by omega)
      co_opw (W52.rely hf hi hd hin hX) hF (have hld := hF.1.ci) (refine dj_mk ?_; co_evs (exact evp_read hi 0 _ _))
      exact hnext _ _ (I52.of (by simp [cntF] at hc ⊢; omega) hF)
    · refine opsC_more (n := m + 1) ?_ (by omega)
      co_op (W52.rely hf hi hd hin hX) hF (co_quiet T)
      exact hnext _ _ (I52.of (by simp [cntF] at hc ⊢; omega) hF)
    · refine opsC_more (n := m + 1) ?_ (by omega)
      have hkn : (k : Int) < (n : Int) := by omega
      simp only [gv_t]
      co_op (W52.rely hf hi hd hin hX) hF (co_still T)
      exact hnext _ _ (I52.of (by simp [cntF] at hc ⊢; omega) hF)
    · refine opsC_more (n := m + 1) ?_ (by omega)
      simp only [gv_t]
      co_opw (W52.rely hf hi hd hin hX) hF (have hld := hF.1.cx) (refine dj_mk ?_; co_evs (exact evp_read hin _ _ _))
      exact hnext _ _ (I52.of (by simp [cntF] at hc ⊢; omega) hF)
    · refine opsC_more (n := m + mf + 3) ?_ (by omega)
      simp only [gv_t]
      refine opsC_callv T (nf := mf) (first := first) (cap := cap) (Post := fun v w' => v = .bool b ∧ W52 k Bf Bi Bd Bin oin n ncap fd (.func (.func ff) first cap) x X w') rfl (by rfl) rfl rfl (by have := hcall w hF; simpa [Act.eval] using this) (fun v w' ⟨hv, hV'⟩ => ?_)
      subst hv
      exact hnext _ _ (I52.of (by simp [cntF] at hc ⊢; omega) hV')
end
end Go.Pool
