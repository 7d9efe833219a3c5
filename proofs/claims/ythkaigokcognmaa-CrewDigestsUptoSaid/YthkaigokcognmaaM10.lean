/- A part of the proof of CrewDigestsUpto (no statement of its own): Cr6. -/
import Derived.Test.YthkaigokcognmaaM09
section
set_option linter.unusedSimpArgs false
namespace Go.Pool
open Go.Conc Go.RowKit Go.Proofs Go.ConcN Go.Conc.Lib Go.ConcR.Gen Go.ConcN.Gen
open Go.ConcR (KK wgBlock WgAt stA smA rd wr mk DC0)
theorem nm65 : (Try.f65.name == "runtime.NumGoroutine") = false := by kernel_rfl
theorem loud65 : (Try.prog.funcs[65]?).any (·.norace) = false := by kernel_rfl
noncomputable def body65 : Code := Try.f65.body.getD .skip
noncomputable def L65 : Code := match Try.f65.body with
 | some (.seq _ (.seq _ (.block _ (.loop c)))) => c
 | _ => .skip
def b65 : Frame := base 65
theorem array20 (T : Array Value) (h : T.size = 20) : ∃ v0 v1 v2 v3 v4 v5 v6 v7 v8 v9 v10 v11 v12 v13 v14 v15 v16 v17 v18 v19, T = #[v0, v1, v2, v3, v4, v5, v6, v7, v8, v9, v10, v11, v12, v13, v14, v15, v16, v17, v18, v19] :=
 ⟨T[0], T[1], T[2], T[3], T[4], T[5], T[6], T[7], T[8], T[9], T[10], T[11], T[12], T[13], T[14], T[15], T[16], T[17], T[18], T[19], by
  apply Array.ext (by simp [h])
  intro i h1 h2
  have hi : i < 20 := by omega
  iterate 20 (rcases i with _ | i; · rfl)
  omega⟩
theorem finishComm_sel (g : Goroutine) (c c' : Nat) (v z z' : Value) : g.finishComm Try.prog #[scase c v z, rcase c' z'] .select 0 undef false = Go.Conc.served g (.tuple #[.int .i64 0, .bool false, z']) := by
 simp [Goroutine.finishComm, commResult, Go.Conc.served, goInt, scase, rcase]
theorem goes_defer_close {P : Program} {main : Bool} {b : Frame} {a : Act} {k : List Item} {cs : List Frame} {w : World} {ops : Array Oper} {i : Nat} {rest : List Nat} {o : Oper} {x : Operand} {ats : Array TypeId} {K : Goroutine → World → Array Event → Prop} (ho : ops[i]? = some o) (hw : Region.wanted o (yielded ops a.tmps) = true) (hk : b.kind ≠ .early)
  (hop : o.op = .defer { callee := .builtin .close, args := #[x], argTypes := ats }) (h : ∀ cst, K (Go.Conc.G (b.at (Act.put ⟨a.tmps, dclose ats o.type cst (a.eval x) :: a.defers⟩ o.dst undef) (.inRegion ops rest :: k)) cs) w #[]) :
  (stepG P main (Go.Conc.G (b.at a (.inRegion ops (i :: rest) :: k)) cs) w).goes K := by
 obtain ⟨cst, hd⟩ := stepG_defer_close (P := P) (main := main) (cs := cs) (w := w) (k := k) (rest := rest) ho hw hk hop
 rw [hd]
 exact h cst
theorem finishComm_sel1 (g : Goroutine) (c c' : Nat) (v z z' x : Value) : g.finishComm Try.prog #[scase c v z, rcase c' z'] .select 1 x true = Go.Conc.served g (.tuple #[.int .i64 1, .bool true, x]) := by
 simp [Goroutine.finishComm, commResult, Go.Conc.served, goInt, scase, rcase]
def HS (φ : Ph) (n : Nat) (AnW : Goroutine → World → Prop) : Nat → Goroutine → World → Prop
 | 0 => CloS Try.prog φ AnW
 | r + 1 => SelS Try.prog φ AnW (n - (r + 1)) (Hand Try.prog φ n AnW r)
theorem hand_of {φ : Ph} {n : Nat} {AnW : Goroutine → World → Prop} {r m : Nat} {g : Goroutine} {w : World} (h : Goes Try.prog true (Frm φ own0) (DI φ own0 0) (HS φ n AnW r) m g w) : Hand Try.prog φ n AnW r g w := by
 cases r with
 | zero => exact ⟨m, h⟩
 | succ r => exact ⟨m, h⟩
noncomputable def G65 (φ : Ph) (ats : Array TypeId) (ty : TypeId) (cst : Array Bool) (T : Array Value) (cs : List Frame) : Goroutine := Go.Conc.G (b65.at ⟨T, [dclose ats ty cst (.chan (some φ.Ch))]⟩ [.code L65, .inLoop L65, .inBlock 0]) cs
section
variable {φ : Ph} {n : Nat} {AnW : Goroutine → World → Prop} {F : World → Prop}
abbrev Behind (φ : Ph) (AnW : Goroutine → World → Prop) (F : World → Prop) (mT : Nat) (b₀ : Frame) (a₀ : Act) (ops₀ : Array Oper) (i₀ : Nat) (rest₀ : List Nat) (k₀ : List Item) (cs : List Frame) : Prop :=
 ∀ w, F w → Goes Try.prog true (Frm φ own0) (DI φ own0 0) (KdS Try.prog φ AnW) mT (Go.Conc.G (b₀.at (a₀.put ((ops₀[i₀]?).bind (·.dst)) (.tuple #[])) (.inRegion ops₀ rest₀ :: k₀)) cs) w
set_option maxRecDepth 100000 in
theorem head65 (Gφ : Geo φ) (hn : n < 9223372036854775808) (rl : ∀ {w w'}, F w → Frm φ own0 w w' → F w') (mT : Nat) :
  ∀ r, r ≤ n → ∃ m, ∀ (b₀ : Frame) (a₀ : Act) (ops₀ : Array Oper) (i₀ : Nat) (rest₀ : List Nat) (k₀ : List Item) (cs : List Frame), Behind φ AnW F mT b₀ a₀ ops₀ i₀ rest₀ k₀ cs → ∀ (ats : Array TypeId) (ty : TypeId) (cst : Array Bool) (T : Array Value) (w : World), T.size = 20 → T[1]? = some (.chan (some φ.Ch)) → T[2]? = some (.chan (some φ.En)) → T[8]? = some (.int .i64 n) → T[9]? = some (.int .i64 ((n - r : Nat) : Int)) → F w →
   Goes Try.prog true (Frm φ own0) (DI φ own0 0) (HS φ n AnW r) m (G65 φ ats ty cst T (b₀.at a₀ (.inRegion ops₀ (i₀ :: rest₀) :: k₀) :: cs)) w := by
 intro r
 induction r with
 | zero =>
  intro _
  refine ⟨20, fun b₀ a₀ ops₀ i₀ rest₀ k₀ cs hT ats ty cst T w hs t1 t2 t8 t9 hF => ?_⟩
  obtain ⟨v0, v1, v2, v3, v4, v5, v6, v7, v8, v9, v10, v11, v12, v13, v14, v15, v16, v17, v18, v19, rfl⟩ := array20 T hs
  simp only [List.getElem?_toArray, List.getElem?_cons_zero, List.getElem?_cons_succ, Option.some.injEq] at t1 t2 t8 t9
  subst t1 t2 t8 t9
  simp only [G65, L65, Try.f65, HS, Nat.sub_zero]
  have hlt : ¬ (n : Int) < (n : Int) := by omega
  refine Goes.step rfl (fun _ h₁ => ?_)
  replace hF := rl hF h₁
  clear h₁
  rw [stepG_seq]
  simp only [goes_go]
  refine ⟨di_nil, ?_⟩
  refine Goes.step rfl (fun _ h₁ => ?_)
  replace hF := rl hF h₁
  clear h₁
  rw [stepG_region]
  simp only [goes_go, List.size_toArray, List.length_cons, List.length_nil, Nat.reduceAdd, Nat.zero_add, List.range, List.range.loop]
  refine ⟨di_nil, ?_⟩
  refine Goes.step rfl (fun _ h₁ => ?_)
  replace hF := rl hF h₁
  clear h₁
  refine goes_oper_k rfl rfl (by k_ne) (fun K hK => ?_)
  go_simp
  refine hK _ _ ⟨?_, ?_⟩
  ·refine di_none ?_
   intro ex hex
   have hm := mem_listed hex
   simp [go_sem, *] at hm
  clear hK K
  try w_num
  refine Goes.step rfl (fun _ h₁ => ?_)
  replace hF := rl hF h₁
  clear h₁
  rw [stepG_region_end]
  simp only [goes_go]
  refine ⟨di_nil, ?_⟩
  refine Goes.step rfl (fun _ h₁ => ?_)
  replace hF := rl hF h₁
  clear h₁
  rw [stepG_seq]
  simp only [goes_go]
  refine ⟨di_nil, ?_⟩
  refine Goes.step rfl (fun _ h₁ => ?_)
  replace hF := rl hF h₁
  clear h₁
  rw [stepG_cond (t := false) rfl]
  simp only [goes_go, if_true, if_false, Bool.false_eq_true, ↓reduceIte]
  refine ⟨di_nil, ?_⟩
  refine Goes.step rfl (fun _ h₁ => ?_)
  replace hF := rl hF h₁
  clear h₁
  refine goes_exit rfl ?_
  refine ⟨di_nil, ?_⟩
  refine Goes.step rfl (fun _ h₁ => ?_)
  replace hF := rl hF h₁
  clear h₁
  rw [stepG_end]
  simp only [goes_go]
  refine ⟨di_nil, ?_⟩
  refine Goes.stop (fun w₁ h₁ => ?_)
  replace hF := rl hF h₁
  clear h₁
  refine ⟨rfl, mayWake_returning rfl, fun s r tm hch => ⟨_, rfl, stepG_unwind_close rfl hch loud65, mT + 1, ?_⟩⟩
  replace hF : F (w₁.setChan φ.Ch 0 #[] true s r tm) := rl hF (Frm.of_ch Gφ (aside_setChan _ _ _ _ _ _ _ _))
  refine Goes.step rfl (fun _ h₁ => ?_)
  replace hF := rl hF h₁
  clear h₁
  refine goes_leave0 rfl rfl Try.func65 rfl ⟨di_nil, ?_⟩
  walk_nrm
  exact hT _ hF
 | succ r ih =>
  intro hr
  obtain ⟨m, ih⟩ := ih (by omega)
  refine ⟨30, fun b₀ a₀ ops₀ i₀ rest₀ k₀ cs hT ats ty cst T w hs t1 t2 t8 t9 hF => ?_⟩
  obtain ⟨v0, v1, v2, v3, v4, v5, v6, v7, v8, v9, v10, v11, v12, v13, v14, v15, v16, v17, v18, v19, rfl⟩ := array20 T hs
  simp only [List.getElem?_toArray, List.getElem?_cons_zero, List.getElem?_cons_succ, Option.some.injEq] at t1 t2 t8 t9
  subst t1 t2 t8 t9
  simp only [G65, L65, Try.f65] at ih ⊢
  simp only [HS]
  obtain ⟨k, hk⟩ : ∃ k, n - (r + 1) = k := ⟨_, rfl⟩
  have hlt : (k : Int) < (n : Int) := by omega
  have hw : IntKind.i64.wrap ((k : Int) + 1) = ((n - r : Nat) : Int) := by rw [IntKind.wrap_i64]; omega
  rw [hk]
  clear hk
  refine Goes.step rfl (fun _ h₁ => ?_)
  replace hF := rl hF h₁
  clear h₁
  rw [stepG_seq]
  simp only [goes_go]
  refine ⟨di_nil, ?_⟩
  refine Goes.step rfl (fun _ h₁ => ?_)
  replace hF := rl hF h₁
  clear h₁
  rw [stepG_region]
  simp only [goes_go, List.size_toArray, List.length_cons, List.length_nil, Nat.reduceAdd, Nat.zero_add, List.range, List.range.loop]
  refine ⟨di_nil, ?_⟩
  refine Goes.step rfl (fun _ h₁ => ?_)
  replace hF := rl hF h₁
  clear h₁
  refine goes_oper_k rfl rfl (by k_ne) (fun K hK => ?_)
  go_simp
  refine hK _ _ ⟨?_, ?_⟩
  ·refine di_none ?_
   intro ex hex
   have hm := mem_listed hex
   simp [go_sem, *] at hm
  clear hK K
  try w_num
  refine Goes.step rfl (fun _ h₁ => ?_)
  replace hF := rl hF h₁
  clear h₁
  rw [stepG_region_end]
  simp only [goes_go]
  refine ⟨di_nil, ?_⟩
  refine Goes.step rfl (fun _ h₁ => ?_)
  replace hF := rl hF h₁
  clear h₁
  rw [stepG_seq]
  simp only [goes_go]
  refine ⟨di_nil, ?_⟩
  refine Goes.step rfl (fun _ h₁ => ?_)
  replace hF := rl hF h₁
  clear h₁
  rw [stepG_cond (t := true) rfl]
  simp only [goes_go, if_true, if_false, Bool.false_eq_true, ↓reduceIte]
  refine ⟨di_nil, ?_⟩
  refine Goes.step rfl (fun _ h₁ => ?_)
  replace hF := rl hF h₁
  clear h₁
  rw [stepG_skip]
  simp only [goes_go]
  refine ⟨di_nil, ?_⟩
  refine Goes.step rfl (fun _ h₁ => ?_)
  replace hF := rl hF h₁
  clear h₁
  rw [stepG_seq]
  simp only [goes_go]
  refine ⟨di_nil, ?_⟩
  refine Goes.step rfl (fun _ h₁ => ?_)
  replace hF := rl hF h₁
  clear h₁
  rw [stepG_block]
  simp only [goes_go]
  refine ⟨di_nil, ?_⟩
  refine Goes.step rfl (fun _ h₁ => ?_)
  replace hF := rl hF h₁
  clear h₁
  rw [stepG_seq]
  simp only [goes_go]
  refine ⟨di_nil, ?_⟩
  refine Goes.step rfl (fun _ h₁ => ?_)
  replace hF := rl hF h₁
  clear h₁
  rw [stepG_region]
  simp only [goes_go, List.size_toArray, List.length_cons, List.length_nil, Nat.reduceAdd, Nat.zero_add, List.range, List.range.loop]
  refine ⟨di_nil, ?_⟩
  iterate 2
   refine Goes.step rfl (fun _ h₁ => ?_)
   replace hF := rl hF h₁
   clear h₁
   refine goes_oper_k rfl rfl (by k_ne) (fun K hK => ?_)
   go_simp
   refine hK _ _ ⟨?_, ?_⟩
   ·refine di_none ?_
    intro ex hex
    have hm := mem_listed hex
    simp [go_sem, *] at hm
   clear hK K
   try w_num
  refine Goes.step rfl (fun _ h₁ => ?_)
  replace hF := rl hF h₁
  clear h₁
  rw [stepG_region_end]
  iterate 3
   simp only [goes_go]
   refine ⟨di_nil, ?_⟩
   refine Goes.step rfl (fun _ h₁ => ?_)
   replace hF := rl hF h₁
   clear h₁
   rw [stepG_seq]
  iterate 3
   simp only [goes_go]
   refine ⟨di_nil, ?_⟩
   refine Goes.step rfl (fun _ h₁ => ?_)
   replace hF := rl hF h₁
   clear h₁
   rw [stepG_region]
   simp only [goes_go, List.size_toArray, List.length_cons, List.length_nil, Nat.reduceAdd, Nat.zero_add, List.range, List.range.loop]
   refine ⟨di_nil, ?_⟩
   refine Goes.step rfl (fun _ h₁ => ?_)
   replace hF := rl hF h₁
   clear h₁
   refine goes_oper_k rfl rfl (by k_ne) (fun K hK => ?_)
   go_simp
   refine hK _ _ ⟨?_, ?_⟩
   ·refine di_none ?_
    intro ex hex
    have hm := mem_listed hex
    simp [go_sem, *] at hm
   clear hK K
   try w_num
   refine Goes.step rfl (fun _ h₁ => ?_)
   replace hF := rl hF h₁
   clear h₁
   rw [stepG_region_end]
  simp only [goes_go]
  refine ⟨di_nil, ?_⟩
  refine Goes.step rfl (fun _ h₁ => ?_)
  replace hF := rl hF h₁
  clear h₁
  rw [stepG_seq]
  simp only [goes_go]
  refine ⟨di_nil, ?_⟩
  refine Goes.step rfl (fun _ h₁ => ?_)
  replace hF := rl hF h₁
  clear h₁
  rw [stepG_region]
  simp only [goes_go, List.size_toArray, List.length_cons, List.length_nil, Nat.reduceAdd, Nat.zero_add, List.range, List.range.loop]
  refine ⟨di_nil, ?_⟩
  refine Goes.stop (fun w₁ h₁ => ?_)
  replace hF := rl hF h₁
  clear h₁
  refine ⟨rfl, _, .int .i64 0, .agg #[], .select, ⟨rfl, rfl, rfl⟩, fun w₂ h₂ => ?_⟩
  replace hF := rl hF h₂
  clear h₂
  refine ⟨⟨_, stepG_comm rfl (by rfl) (by k_ne) (by simp [go_sem, Act.eval, rcase, scase]), ?_⟩, ?_, fun x => ⟨mT + 40, ?_⟩⟩
  ·intro e he
   have hm := mem_listed he
   simp [go_sem, Act.eval] at hm
  ·rw [finishComm_sel, served_G]
   refine hand_of (m := m + 30) ?_
   walk_nrm
   iterate 3
    refine Goes.step rfl (fun _ h₁ => ?_)
    replace hF := rl hF h₁
    clear h₁
    refine goes_oper_k rfl rfl (by k_ne) (fun K hK => ?_)
    go_simp
    refine hK _ _ ⟨?_, ?_⟩
    ·refine di_none ?_
     intro ex hex
     have hm := mem_listed hex
     simp [go_sem, *] at hm
    clear hK K
    try w_num
   refine Goes.step rfl (fun _ h₁ => ?_)
   replace hF := rl hF h₁
   clear h₁
   rw [stepG_region_end]
   simp only [goes_go]
   refine ⟨di_nil, ?_⟩
   refine Goes.step rfl (fun _ h₁ => ?_)
   replace hF := rl hF h₁
   clear h₁
   rw [stepG_block]
   simp only [goes_go]
   refine ⟨di_nil, ?_⟩
   refine Goes.step rfl (fun _ h₁ => ?_)
   replace hF := rl hF h₁
   clear h₁
   rw [stepG_cond (t := true) rfl]
   simp only [goes_go, if_true, if_false, Bool.false_eq_true, ↓reduceIte]
   refine ⟨di_nil, ?_⟩
   refine Goes.step rfl (fun _ h₁ => ?_)
   replace hF := rl hF h₁
   clear h₁
   rw [stepG_skip]
   iterate 2
    simp only [goes_go]
    refine ⟨di_nil, ?_⟩
    refine Goes.step rfl (fun _ h₁ => ?_)
    replace hF := rl hF h₁
    clear h₁
    rw [stepG_inBlock]
   simp only [goes_go]
   refine ⟨di_nil, ?_⟩
   refine Goes.step rfl (fun _ h₁ => ?_)
   replace hF := rl hF h₁
   clear h₁
   rw [stepG_region]
   simp only [goes_go, List.size_toArray, List.length_cons, List.length_nil, Nat.reduceAdd, Nat.zero_add, List.range, List.range.loop]
   refine ⟨di_nil, ?_⟩
   iterate 2
    refine Goes.step rfl (fun _ h₁ => ?_)
    replace hF := rl hF h₁
    clear h₁
    refine goes_oper_k rfl rfl (by k_ne) (fun K hK => ?_)
    go_simp
    refine hK _ _ ⟨?_, ?_⟩
    ·refine di_none ?_
     intro ex hex
     have hm := mem_listed hex
     simp [go_sem, *] at hm
    clear hK K
    try w_num
   refine Goes.step rfl (fun _ h₁ => ?_)
   replace hF := rl hF h₁
   clear h₁
   rw [stepG_region_end]
   simp only [goes_go]
   refine ⟨di_nil, ?_⟩
   refine Goes.step rfl (fun _ h₁ => ?_)
   replace hF := rl hF h₁
   clear h₁
   rw [stepG_inLoop]
   simp only [goes_go]
   refine ⟨di_nil, ?_⟩
   exact (ih _ _ _ _ _ _ _ hT _ _ _ _ _ (by simp) (by simp) (by simp) (by simp) (by simp) hF).mono (by omega)
  ·rw [finishComm_sel1, served_G]
   walk_nrm
   iterate 3
    refine Goes.step rfl (fun _ h₁ => ?_)
    replace hF := rl hF h₁
    clear h₁
    refine goes_oper_k rfl rfl (by k_ne) (fun K hK => ?_)
    go_simp
    refine hK _ _ ⟨?_, ?_⟩
    ·refine di_none ?_
     intro ex hex
     have hm := mem_listed hex
     simp [go_sem, *] at hm
    clear hK K
    try w_num
   refine Goes.step rfl (fun _ h₁ => ?_)
   replace hF := rl hF h₁
   clear h₁
   rw [stepG_region_end]
   simp only [goes_go]
   refine ⟨di_nil, ?_⟩
   refine Goes.step rfl (fun _ h₁ => ?_)
   replace hF := rl hF h₁
   clear h₁
   rw [stepG_block]
   simp only [goes_go]
   refine ⟨di_nil, ?_⟩
   refine Goes.step rfl (fun _ h₁ => ?_)
   replace hF := rl hF h₁
   clear h₁
   rw [stepG_cond (t := false) rfl]
   simp only [goes_go, if_true, if_false, Bool.false_eq_true, ↓reduceIte]
   refine ⟨di_nil, ?_⟩
   refine Goes.step rfl (fun _ h₁ => ?_)
   replace hF := rl hF h₁
   clear h₁
   rw [stepG_cond (t := true) rfl]
   simp only [goes_go, if_true, if_false, Bool.false_eq_true, ↓reduceIte]
   refine ⟨di_nil, ?_⟩
   refine Goes.step rfl (fun _ h₁ => ?_)
   replace hF := rl hF h₁
   clear h₁
   rw [stepG_ret']
   simp only [goes_go]
   refine ⟨di_nil, ?_⟩
   refine Goes.stop (fun w₁ h₁ => ?_)
   replace hF := rl hF h₁
   clear h₁
   refine ⟨rfl, mayWake_returning rfl, fun s r tm hch => ⟨_, rfl, stepG_unwind_close rfl hch loud65, mT + 1, ?_⟩⟩
   replace hF : F (w₁.setChan φ.Ch 0 #[] true s r tm) := rl hF (Frm.of_ch Gφ (aside_setChan _ _ _ _ _ _ _ _))
   refine Goes.step rfl (fun _ h₁ => ?_)
   replace hF := rl hF h₁
   clear h₁
   refine goes_leave0 rfl rfl Try.func65 rfl ⟨di_nil, ?_⟩
   walk_nrm
   exact hT _ hF
set_option maxRecDepth 100000 in
theorem start65 (Gφ : Geo φ) (hn : n < 9223372036854775808) (rl : ∀ {w w'}, F w → Frm φ own0 w w' → F w') (mT : Nat) :
  ∃ m, ∀ (b₀ : Frame) (a₀ : Act) (ops₀ : Array Oper) (i₀ : Nat) (rest₀ : List Nat) (k₀ : List Item) (cs : List Frame), Behind φ AnW F mT b₀ a₀ ops₀ i₀ rest₀ k₀ cs → ∀ w, F w → Goes Try.prog true (Frm φ own0) (DI φ own0 0) (HS φ n AnW n) m
   (Go.Conc.G (b65.at ⟨#[.int .i64 n, .chan (some φ.Ch), .chan (some φ.En), undef, undef, undef, undef, undef, undef, undef, undef, undef, undef, undef, undef, undef, undef, undef, undef, undef], []⟩ [.code body65]) (b₀.at a₀ (.inRegion ops₀ (i₀ :: rest₀) :: k₀) :: cs)) w := by
 obtain ⟨m, hA⟩ := head65 (φ := φ) (n := n) (AnW := AnW) (F := F) Gφ hn rl mT n (Nat.le_refl n)
 refine ⟨m + 20, fun b₀ a₀ ops₀ i₀ rest₀ k₀ cs hT w hF => ?_⟩
 simp only [G65, L65, Try.f65, body65, Option.getD_some, Nat.sub_self] at hA ⊢
 refine Goes.step rfl (fun _ h₁ => ?_)
 replace hF := rl hF h₁
 clear h₁
 rw [stepG_seq]
 simp only [goes_go]
 refine ⟨di_nil, ?_⟩
 refine Goes.step rfl (fun _ h₁ => ?_)
 replace hF := rl hF h₁
 clear h₁
 rw [stepG_region]
 simp only [goes_go, List.size_toArray, List.length_cons, List.length_nil, Nat.reduceAdd, Nat.zero_add, List.range, List.range.loop]
 refine ⟨di_nil, ?_⟩
 refine Goes.step rfl (fun _ h₁ => ?_)
 replace hF := rl hF h₁
 clear h₁
 refine goes_oper_k rfl rfl (by k_ne) (fun K hK => ?_)
 go_simp
 refine hK _ _ ⟨?_, ?_⟩
 ·refine di_none ?_
  intro ex hex
  have hm := mem_listed hex
  simp [go_sem, *] at hm
 clear hK K
 try w_num
 refine Goes.step rfl (fun _ h₁ => ?_)
 replace hF := rl hF h₁
 clear h₁
 refine goes_defer_close rfl (by rfl) (by k_ne) rfl (fun cst => ?_)
 refine ⟨di_nil, ?_⟩
 walk_nrm
 refine Goes.step rfl (fun _ h₁ => ?_)
 replace hF := rl hF h₁
 clear h₁
 rw [stepG_region_end]
 simp only [goes_go]
 refine ⟨di_nil, ?_⟩
 refine Goes.step rfl (fun _ h₁ => ?_)
 replace hF := rl hF h₁
 clear h₁
 rw [stepG_seq]
 simp only [goes_go]
 refine ⟨di_nil, ?_⟩
 refine Goes.step rfl (fun _ h₁ => ?_)
 replace hF := rl hF h₁
 clear h₁
 rw [stepG_region]
 simp only [goes_go, List.size_toArray, List.length_cons, List.length_nil, Nat.reduceAdd, Nat.zero_add, List.range, List.range.loop]
 refine ⟨di_nil, ?_⟩
 iterate 2
  refine Goes.step rfl (fun _ h₁ => ?_)
  replace hF := rl hF h₁
  clear h₁
  refine goes_oper_k rfl rfl (by k_ne) (fun K hK => ?_)
  go_simp
  refine hK _ _ ⟨?_, ?_⟩
  ·refine di_none ?_
   intro ex hex
   have hm := mem_listed hex
   simp [go_sem, *] at hm
  clear hK K
  try w_num
 refine Goes.step rfl (fun _ h₁ => ?_)
 replace hF := rl hF h₁
 clear h₁
 rw [stepG_region_end]
 simp only [goes_go]
 refine ⟨di_nil, ?_⟩
 refine Goes.step rfl (fun _ h₁ => ?_)
 replace hF := rl hF h₁
 clear h₁
 rw [stepG_block]
 simp only [goes_go]
 refine ⟨di_nil, ?_⟩
 refine Goes.step rfl (fun _ h₁ => ?_)
 replace hF := rl hF h₁
 clear h₁
 rw [stepG_loop]
 simp only [goes_go]
 refine ⟨di_nil, ?_⟩
 exact (hA _ _ _ _ _ _ _ hT _ _ _ _ _ (by simp) (by simp) (by simp) (by simp) (by simp) hF).mono (by omega)
end
end Go.Pool
end
