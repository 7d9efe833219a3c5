/-
  FIRST 2: First's job as the worker asks it.
-/
import Derived.Test.YthkaigokcognmaaFi1
set_option linter.unusedSimpArgs false
namespace Go.Pool
open Go.Conc Go.RowKit Go.Proofs Go.ConcN Go.Conc.Lib Go.ConcR.Gen Go.ConcN.Gen
open Go.ConcR (KK wgBlock WgAt stA smA rd wr mk DC0)

set_option maxRecDepth 100000 in
/-- CrewFirst's function: more than what 'over' holds. -/
theorem f34_c {φ : Ph} {k : Nat} {S : World → Prop} (hS : ∀ w w₁, S w → Frm φ (· = k) w w₁ → S w₁) {c : Nat} (hc : Still φ c) {y : Int} (hy : ∀ w, S w → w.cell? ⟨c, 0, none⟩ = some (.int .i64 y)) (x : Int) : ∃ m, ∀ w, S w → CallsC Try.prog false (Frm φ (· = k)) (DJ φ k) 34 #[.int .i64 x, .pointer (some ⟨c, 0, none⟩)] m w fun v w' => v = .bool (decide (y < x)) ∧ S w' := by
  co_apply Exists.intro
  intro w hF
  co_apply callsC_of_wpC Try.func34 (by rfl) rfl
  simp only [Try.ntmps34, List.size_toArray, List.length_cons, List.length_nil, Nat.reduceAdd, Nat.reduceSub, Array.replicate_succ, Array.replicate_zero, List.push_toArray, List.append_toArray, List.nil_append, List.cons_append]
  co_stmt (termsJ φ k) (fun h r => hS _ _ h r) hF (co_quiet (termsJ φ k))
  co_ctl (termsJ φ k)
  co_reg (termsJ φ k)
  co_op (fun h r => hS _ _ h r) hF (co_quiet (termsJ φ k))
  co_opw (fun h r => hS _ _ h r) hF (have hld := hy _ hF) (refine ⟨.refl k _, ?_⟩; co_evs (exact evp_read hc 0 _ _))
  co_go (termsJ φ k) (fun h r => hS _ _ h r) hF (co_quiet (termsJ φ k))
  exact ⟨rfl, _, resultsC_tmp (by rfl) _, by simp, hF⟩

theorem nm52 : (Try.f52.name == "runtime.NumGoroutine") = false := by kernel_rfl

section
variable {φ : Ph} {n Bj Bb Be Bf Bi Bd ncap fd : Nat} {xs : Nat → Int} {bs : Nat → Bool} {ff : FuncId} {cap : Array Value} {F : World → Prop}

/-- What is asked of the function that is handed to First. -/
abbrev FunP (φ : Ph) (n : Nat) (F : World → Prop) (ff : FuncId) (cap : Array Value) (xs : Nat → Int) (bs : Nat → Bool) : Prop :=
  ∀ k, k < n → ∀ S : World → Prop, (∀ w w₁, S w → Frm φ (· = k) w w₁ → S w₁) → (∀ w, S w → F w) → ∃ mf, ∀ w, S w → CallsC Try.prog false (Frm φ (· = k)) (DJ φ k) ff (#[.int .i64 (xs k)] ++ cap) mf w fun v w' => v = .bool (bs k) ∧ S w'

set_option maxRecDepth 100000 in
set_option maxHeartbeats 2000000 in
/-- FIRST's JOB. -/
theorem job52 (hj : Still φ Bj) (hb : Still φ Bb) (he : Still φ Be) (sf : Still φ Bf) (si : Still φ Bi) (sd : Still φ Bd) (hF2 : Firm φ F) (hFd : φ.Fd = some fd) (hp : ∀ k, φ.p k ↔ bs k = true)
    (hin : ∀ k, k < n → ∃ Bin oin, Still φ Bin ∧ ∀ w, F w → V52 k Bf Bi Bd Bin oin n ncap fd (.func (.func ff) #[] cap) (xs k) w) (hcall : FunP φ n F ff cap xs bs) :
    JobK φ n (fun _ _ => True) (fun _ _ => True) Bj Bb Be 52 #[.pointer (some ⟨Bf, 0, none⟩), .pointer (some ⟨Bi, 0, none⟩), .pointer (some ⟨Bd, 0, none⟩)] F := by
  intro k hk
  obtain ⟨Bin, oin, sin, hv⟩ := hin k hk
  obtain ⟨fvj, hfvj⟩ : ∃ v, v = Value.func (.func 52) #[] #[.pointer (some ⟨Bf, 0, none⟩), .pointer (some ⟨Bi, 0, none⟩), .pointer (some ⟨Bd, 0, none⟩)] := ⟨_, rfl⟩
  have rlX : ∀ {own : Nat → Prop} w w₁, WK φ Bj Bb Be fvj F w → Frm φ own w w₁ → WK φ Bj Bb Be fvj F w₁ := fun w w₁ h r => h.rely hj hb he hF2 r
  obtain ⟨mf, hmf⟩ := hcall k hk (fun w => W52 k Bf Bi Bd Bin oin n ncap fd (.func (.func ff) #[] cap) (xs k) (WK φ Bj Bb Be fvj F) w) (fun w w₁ h r => h.rely sf si sd sin rlX r) (fun w h => h.2.f)
  have hreg := fun id => region52 (φ := φ) (first := #[]) (cap := cap) (ff := ff) (b := bs k) (X := WK φ Bj Bb Be fvj F) (mf := mf) (id := id) sf si sd sin hk rlX (fun w h => by simpa using hmf w h)
  simp only [← hfvj]
  obtain ⟨C, hC⟩ : ∃ C, C = ops52.size * (mf + 5) + 1 + 1 := ⟨_, rfl⟩
  simp only [← hC] at hreg
  clear hC
  refine ⟨C + 60, fun b a ops i rest o x args ats kk cs m ho hw hke hop hx hargs h1 h2 w hF hpre => ?_⟩
  rw [← Nat.add_assoc]
  have rl : ∀ {own : Nat → Prop} {w w₁ : World}, WK φ Bj Bb Be fvj F w → Frm φ own w w₁ → WK φ Bj Bb Be fvj F w₁ := fun h r => rlX _ _ h r
  clear hpre hmf hcall
  refine Goes.step rfl (fun _ h₁ => ?_)
  replace hF := rl hF h₁
  clear h₁
  rw [hfvj] at hx
  refine goes_callv (first := #[]) ho hw hke hop hx Try.func52 nm52 rfl ⟨dj_nil, ?_⟩
  rw [hargs]
  walk_nrmf Try.f52
  simp only [ops52, Try.f52] at hreg
  refine Goes.step rfl (fun _ h₁ => ?_)
  replace hF := rl hF h₁
  clear h₁
  rw [stepG_seq]
  simp only [goes_go]
  refine ⟨dj_nil, ?_⟩
  refine Goes.step rfl (fun _ h₁ => ?_)
  replace hF := rl hF h₁
  clear h₁
  rw [stepG_region]
  simp only [goes_go, List.size_toArray, List.length_cons, List.length_nil, Nat.reduceAdd, Nat.zero_add, List.range, List.range.loop]
  refine ⟨dj_nil, ?_⟩
  refine Goes.step rfl (fun _ h₁ => ?_)
  replace hF := rl hF h₁
  clear h₁
  refine goes_oper_k rfl rfl (by k_ne) (fun K hK => ?_)
  go_simp
  refine hK _ _ ⟨?_, ?_⟩
  · refine dj_none ?_
    intro ex hex
    have hm := mem_listed hex
    simp [go_sem, *] at hm
  clear hK K
  try w_num
  refine Goes.step rfl (fun _ h₁ => ?_)
  replace hF := rl hF h₁
  clear h₁
  rw [stepG_region_end]
  simp only [goes_go]
  refine ⟨dj_nil, ?_⟩
  refine Goes.step rfl (fun _ h₁ => ?_)
  replace hF := rl hF h₁
  clear h₁
  rw [stepG_seq]
  simp only [goes_go]
  refine ⟨dj_nil, ?_⟩
  refine Goes.step rfl (fun _ h₁ => ?_)
  replace hF := rl hF h₁
  clear h₁
  rw [stepG_seq]
  simp only [goes_go]
  refine ⟨dj_nil, ?_⟩
  rename_i wr
  refine Goes.mono (wpC_goes (m := m + 40) (hreg _ _ ⟨hv _ hF.f, hF⟩) rfl (by k_ne) ?_) (by omega)
  clear hF hreg
  rintro ex ac w' ⟨rfl, rfl, hF⟩
  have rlW : ∀ {own : Nat → Prop} {w w₁ : World}, W52 k Bf Bi Bd Bin oin n ncap fd (.func (.func ff) #[] cap) (xs k) (WK φ Bj Bb Be fvj F) w → Frm φ own w w₁ → W52 k Bf Bi Bd Bin oin n ncap fd (.func (.func ff) #[] cap) (xs k) (WK φ Bj Bb Be fvj F) w₁ := fun h r => W52.rely sf si sd sin rlX h r
  change Goes _ _ _ _ _ _ (Go.Conc.G _ _) _
  cases hbk : bs k with
  | false =>
    refine Goes.step rfl (fun _ h₁ => ?_)
    replace hF := rlW hF h₁
    clear h₁
    rw [stepG_cond (t := false) rfl]
    simp only [goes_go, if_true, if_false, Bool.false_eq_true, ↓reduceIte]
    refine ⟨dj_nil, ?_⟩
    refine Goes.step rfl (fun _ h₁ => ?_)
    replace hF := rlW hF h₁
    clear h₁
    rw [stepG_skip]
    simp only [goes_go]
    refine ⟨dj_nil, ?_⟩
    refine Goes.step rfl (fun _ h₁ => ?_)
    replace hF := rlW hF h₁
    clear h₁
    rw [stepG_seq]
    simp only [goes_go]
    refine ⟨dj_nil, ?_⟩
    refine Goes.step rfl (fun _ h₁ => ?_)
    replace hF := rlW hF h₁
    clear h₁
    rw [stepG_region]
    simp only [goes_go, List.size_toArray, List.length_cons, List.length_nil, Nat.reduceAdd, Nat.zero_add, List.range, List.range.loop]
    refine ⟨dj_nil, ?_⟩
    refine Goes.step rfl (fun _ h₁ => ?_)
    replace hF := rlW hF h₁
    clear h₁
    refine goes_oper_k rfl rfl (by k_ne) (fun K hK => ?_)
    go_simp
    refine hK _ _ ⟨?_, ?_⟩
    · refine dj_none ?_
      intro ex hex
      have hm := mem_listed hex
      simp [go_sem, *] at hm
    clear hK K
    try w_num
    refine Goes.step rfl (fun _ h₁ => ?_)
    replace hF := rlW hF h₁
    clear h₁
    rw [stepG_region_end]
    simp only [goes_go]
    refine ⟨dj_nil, ?_⟩
    refine Goes.step rfl (fun _ h₁ => ?_)
    replace hF := rlW hF h₁
    clear h₁
    rw [stepG_ret']
    simp only [goes_go]
    refine ⟨dj_nil, ?_⟩
    refine Goes.step rfl (fun _ h₁ => ?_)
    replace hF := rlW hF h₁
    clear h₁
    refine goes_leave1 rfl rfl Try.func52 rfl ⟨dj_nil, ?_⟩
    simp only [ho, Option.bind_some]
    exact (h1 _ hF.2 trivial (by rw [hp, hbk]; simp)).mono (by omega)
  | true =>
    have hpk : φ.p k := (hp k).2 hbk
    refine Goes.step rfl (fun _ h₁ => ?_)
    replace hF := rlW hF h₁
    clear h₁
    rw [stepG_cond (t := true) rfl]
    simp only [goes_go, if_true, if_false, Bool.false_eq_true, ↓reduceIte]
    refine ⟨dj_nil, ?_⟩
    refine Goes.step rfl (fun _ h₁ => ?_)
    replace hF := rlW hF h₁
    clear h₁
    rw [stepG_seq]
    simp only [goes_go]
    refine ⟨dj_nil, ?_⟩
    refine Goes.step rfl (fun _ h₁ => ?_)
    replace hF := rlW hF h₁
    clear h₁
    rw [stepG_region]
    simp only [goes_go, List.size_toArray, List.length_cons, List.length_nil, Nat.reduceAdd, Nat.zero_add, List.range, List.range.loop]
    refine ⟨dj_nil, ?_⟩
    refine Goes.step rfl (fun _ h₁ => ?_)
    replace hF := rlW hF h₁
    clear h₁
    refine goes_oper_k rfl rfl (by k_ne) (fun K hK => ?_)
    have hcd := hF.1.cd
    go_simp
    refine hK _ _ ⟨⟨.refl k _, fun ex hex => ?_⟩, ?_⟩
    · have hm := mem_listed hex
      simp [go_sem, *] at hm
      subst hm
      exact evp_read sd 0 _ _
    clear hK K
    clear hcd
    refine Goes.step rfl (fun _ h₁ => ?_)
    replace hF := rlW hF h₁
    clear h₁
    refine goes_oper_k rfl rfl (by k_ne) (fun K hK => ?_)
    go_simp
    refine hK _ _ ⟨?_, ?_⟩
    · refine dj_none ?_
      intro ex hex
      have hm := mem_listed hex
      simp [go_sem, *] at hm
    clear hK K
    try w_num
    refine Goes.stop (fun w₁ h₁ => ?_)
    replace hF := rlW hF h₁
    clear h₁
    refine ⟨trivial, .inr ⟨hpk, rfl, fd, _, .tuple #[], .send, _, hFd, stepG_comm rfl (by rfl) (by k_ne) (by simp [go_sem, Act.eval, scase]), ?_, fun w₂ h₂ => ?_⟩⟩
    · intro e he
      have hm := mem_listed he
      simp [go_sem, Act.eval] at hm
    · replace hF := rlW hF h₂
      clear h₂
      obtain ⟨m', hm'⟩ := h2
      refine ⟨m' + 20, ?_⟩
      rw [finishComm_send, served_G]
      walk_nrm
      refine Goes.step rfl (fun _ h₁ => ?_)
      replace hF := rlW hF h₁
      clear h₁
      rw [stepG_region_end]
      simp only [goes_go]
      refine ⟨di_nil, ?_⟩
      refine Goes.step rfl (fun _ h₁ => ?_)
      replace hF := rlW hF h₁
      clear h₁
      rw [stepG_seq]
      simp only [goes_go]
      refine ⟨di_nil, ?_⟩
      refine Goes.step rfl (fun _ h₁ => ?_)
      replace hF := rlW hF h₁
      clear h₁
      rw [stepG_region]
      simp only [goes_go, List.size_toArray, List.length_cons, List.length_nil, Nat.reduceAdd, Nat.zero_add, List.range, List.range.loop]
      refine ⟨di_nil, ?_⟩
      refine Goes.step rfl (fun _ h₁ => ?_)
      replace hF := rlW hF h₁
      clear h₁
      refine goes_oper_k rfl rfl (by k_ne) (fun K hK => ?_)
      go_simp
      refine hK _ _ ⟨?_, ?_⟩
      · refine di_none ?_
        intro ex hex
        have hm := mem_listed hex
        simp [go_sem, *] at hm
      clear hK K
      try w_num
      refine Goes.step rfl (fun _ h₁ => ?_)
      replace hF := rlW hF h₁
      clear h₁
      rw [stepG_region_end]
      simp only [goes_go]
      refine ⟨di_nil, ?_⟩
      refine Goes.step rfl (fun _ h₁ => ?_)
      replace hF := rlW hF h₁
      clear h₁
      rw [stepG_ret']
      simp only [goes_go]
      refine ⟨di_nil, ?_⟩
      refine Goes.step rfl (fun _ h₁ => ?_)
      replace hF := rlW hF h₁
      clear h₁
      refine goes_leave1 rfl rfl Try.func52 rfl ⟨di_nil, ?_⟩
      simp only [ho, Option.bind_some]
      exact (hm' _ hF.2 hpk).mono (by omega)
end
end Go.Pool
