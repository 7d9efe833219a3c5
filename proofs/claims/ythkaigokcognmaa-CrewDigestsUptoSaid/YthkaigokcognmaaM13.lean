/- A part of the proof of CrewDigestsUpto (no statement of its own): Cr7. -/
import Derived.Test.YthkaigokcognmaaM10
import Derived.Test.YthkaigokcognmaaM11
import Derived.Test.YthkaigokcognmaaM12
section
set_option linter.unusedSimpArgs false
namespace Go.Pool
open Go.Conc Go.RowKit Go.Proofs Go.ConcN Go.Conc.Lib Go.ConcR.Gen Go.ConcN.Gen
open Go.ConcR (KK wgBlock WgAt stA smA rd wr mk DC0)
noncomputable def body49 : Code := Try.f49.body.getD .skip
noncomputable def L49 : Code := match Try.f49.body with
 | some (.seq _ (.seq _ (.seq _ (.seq (.seq _ (.block _ (.loop c))) _)))) => c
 | _ => .skip
noncomputable def K49 : Code := match Try.f49.body with
 | some (.seq _ (.seq _ (.seq _ (.seq _ c)))) => c
 | _ => .skip
noncomputable def ops49 : Array Oper := match Try.f49.body with
 | some (.seq _ (.seq _ (.seq _ (.seq _ (.seq _ (.region _ ops _)))))) => ops
 | _ => #[]
def b49 : Frame := base 49
theorem array22 (T : Array Value) (h : T.size = 22) : ∃ v0 v1 v2 v3 v4 v5 v6 v7 v8 v9 v10 v11 v12 v13 v14 v15 v16 v17 v18 v19 v20 v21, T = #[v0, v1, v2, v3, v4, v5, v6, v7, v8, v9, v10, v11, v12, v13, v14, v15, v16, v17, v18, v19, v20, v21] :=
 ⟨T[0], T[1], T[2], T[3], T[4], T[5], T[6], T[7], T[8], T[9], T[10], T[11], T[12], T[13], T[14], T[15], T[16], T[17], T[18], T[19], T[20], T[21], by
  apply Array.ext (by simp [h])
  intro i h1 h2
  have hi : i < 22 := by omega
  iterate 22 (rcases i with _ | i; · rfl)
  omega⟩
noncomputable def G49 (T : Array Value) (cs : List Frame) : Goroutine := Go.Conc.G (b49.at ⟨T, []⟩ [.code L49, .inLoop L49, .inBlock 0, .code K49]) cs
structure M49 (φ : Ph) (Bj Bb Be : Nat) (fv : Value) (F : World → Prop) (w : World) : Prop where
 wk : WK φ Bj Bb Be fv F w
 ce : w.cell? ⟨Be, 0, none⟩ = some (.chan (some φ.En))
section
variable {φ : Ph} {n N : Nat} {Pre Done : Nat → World → Prop} {Bj Bb Be : Nat} {jf : FuncId} {jcap : Array Value} {F : World → Prop} {cs : List Frame}
theorem M49.rely {fv : Value} (hj : Still φ Bj) (hb : Still φ Bb) (he : Still φ Be) (hF2 : Firm φ F) {w w₁ : World} (h : M49 φ Bj Bb Be fv F w) (r : Frm φ own0 w w₁) : M49 φ Bj Bb Be fv F w₁ :=
 ⟨h.wk.rely hj hb he hF2 r, (he.cell r 0).trans h.ce⟩
def An49 (φ : Ph) (F : World → Prop) (cs : List Frame) (g : Goroutine) (w : World) : Prop :=
 ∃ T : Array Value, T.size = 22 ∧ AnchP Try.link φ F (b49.at ⟨T, []⟩ [.inRegion ops49 [0]]) cs g w
def Nx49 (φ : Ph) (n : Nat) (Done : Nat → World → Prop) (F : World → Prop) (cs : List Frame) (g : Goroutine) (w : World) : Prop :=
 (∃ T : Array Value, T.size = 22 ∧ g = Go.Conc.G (b49.at ⟨T, []⟩ [.inRegion ops49 []]) cs) ∧ F w ∧ Fin φ n Done w
theorem W1S.more {P : Program} {Nx A A' : Goroutine → World → Prop} (h : ∀ g w, A g w → A' g w) {g : Goroutine} {w : World} (x : W1S P φ n Done Nx A g w) : W1S P φ n Done Nx A' g w := by
 refine ⟨x.1, fun v hv hw => ?_⟩
 obtain ⟨g', h1, h2, h3⟩ := x.2 v hv hw
 refine ⟨g', h1, h2, fun hne => ?_⟩
 obtain ⟨m, hm⟩ := h3 hne
 refine ⟨m, Goes.weak (fun _ _ h => h) (fun g w y => ?_) hm⟩
 refine ⟨y.1, fun v' hv' hw' => ⟨(y.2 v' hv' hw').1, fun hvv => ?_⟩⟩
 obtain ⟨g'', h4, m', h5⟩ := (y.2 v' hv' hw').2 hvv
 exact ⟨g'', h4, m', Goes.weak (fun _ _ h => h) h h5⟩
theorem KdS.more {P : Program} {A A' : Goroutine → World → Prop} (h : ∀ g w, A g w → A' g w) {g : Goroutine} {w : World} (x : KdS P φ A g w) : KdS P φ A' g w :=
 ⟨x.1, let ⟨g', h1, m, h2⟩ := x.2; ⟨g', h1, m, Goes.weak (fun _ _ h => h) h h2⟩⟩
theorem an49_running {g : Goroutine} {w : World} (h : An49 φ F cs g w) : g.status = .running := by
 obtain ⟨T, _, T', rfl, _⟩ := h
 rfl
theorem an49 (Gφ : Geo φ) (J : Jobs φ n Pre Done) (hty : φ.ty = 87) (hF2 : ∀ w w', Frm φ own0 w w' → F w → F w') (g : Goroutine) (w : World) (h : An49 φ F cs g w) :
  ∃ m, Goes Try.prog true (Frm φ own0) (DI φ own0 0) (W1S Try.prog φ n Done (Nx49 φ n Done F cs) (An49 φ F cs)) m g w := by
 obtain ⟨T, hT, hA⟩ := h
 have hT' : ∀ w, F w → WgLive φ.ty φ.Wg w → Fin φ n Done w → Goes Try.prog true AtRel (DI φ own0 0) (Nx49 φ n Done F cs) 0 (Go.Conc.G (b49.at ((⟨T, []⟩ : Act).put ((ops49[0]?).bind (·.dst)) (.tuple #[])) [.inRegion ops49 []]) cs) w := fun w hF _ hD => Goes.stop fun w₁ h₁ => by
  obtain ⟨d, rfl⟩ := h₁
  exact ⟨⟨_, by simpa [Act.put, ops49, Try.f49] using hT, rfl⟩, hF2 _ _ (Frm.at _ d) hF, let ⟨H, h1, h2, h3, h4⟩ := hD; ⟨H, h1, h2, fun k hk => J.done k w _ (fun _ _ => rfl) (h3 k hk), h4⟩⟩
 obtain ⟨m, hm⟩ := waitP (L := Try.link) (φ := φ) (n := n) (Pre := Pre) (Done := Done) (Nx := Nx49 φ n Done F cs) (F := F) (mT := 0) Try.wgLib Gφ J hty hF2 hT' g w hA
 exact ⟨m, Goes.weak (fun _ _ h => h) (fun g w x => x.more fun g w y => ⟨T, hT, y⟩) hm⟩
def SS (φ : Ph) (n : Nat) (Pre Done : Nat → World → Prop) (An AnW : Goroutine → World → Prop) : Nat → Goroutine → World → Prop
 | 0 => HS φ n AnW n
 | r + 1 => KdP Try.prog φ n Pre Done An (Spawns Try.prog φ n Pre Done An (Hand Try.prog φ n AnW n) r)
theorem spawns_of {An AnW : Goroutine → World → Prop} {r m : Nat} {g : Goroutine} {w : World} (h : Goes Try.prog true (Frm φ own0) (DI φ own0 0) (SS φ n Pre Done An AnW r) m g w) : Spawns Try.prog φ n Pre Done An (Hand Try.prog φ n AnW n) r g w := by
 cases r with
 | zero => exact hand_of h
 | succ r => exact ⟨m, h⟩
set_option maxRecDepth 100000 in
set_option maxHeartbeats 2000000 in
theorem head49 (Gφ : Geo φ) (J : Jobs φ n Pre Done) (hty : φ.ty = 87) (hj : Still φ Bj) (hb : Still φ Bb) (he : Still φ Be) (hn : n < 9223372036854775808) (hN : N < 2147483648) (hjob : JobK φ n Pre Done Bj Bb Be jf jcap F) (hF2 : Firm φ F) :
  ∀ r, r ≤ N → ∃ m, ∀ (T : Array Value) (w : World), T.size = 22 → T[0]? = some (.int .i64 n) → T[5]? = some (.pointer (some ⟨Bb, 0, none⟩)) → T[6]? = some (.pointer (some ⟨Bj, 0, none⟩)) → T[7]? = some (.pointer (some ⟨Be, 0, none⟩)) →
   T[8]? = some (.pointer (some ⟨φ.Wg, 0, none⟩)) → T[11]? = some (.int .i64 N) → T[12]? = some (.int .i64 ((N - r : Nat) : Int)) → M49 φ Bj Bb Be (.func (.func jf) #[] jcap) F w →
   Goes Try.prog true (Frm φ own0) (DI φ own0 0) (SS φ n Pre Done (An63 φ Bj Bb Be (.func (.func jf) #[] jcap) F) (An49 φ (M49 φ Bj Bb Be (.func (.func jf) #[] jcap) F) cs) r) m (G49 T cs) w := by
 have rl : ∀ {w w₁ : World}, M49 φ Bj Bb Be (.func (.func jf) #[] jcap) F w → Frm φ own0 w w₁ → M49 φ Bj Bb Be (.func (.func jf) #[] jcap) F w₁ := fun h r => h.rely hj hb he hF2 r
 intro r
 induction r with
 | zero =>
  intro _
  obtain ⟨m, hH⟩ := start65 (φ := φ) (n := n) (AnW := An49 φ (M49 φ Bj Bb Be (.func (.func jf) #[] jcap) F) cs) (F := M49 φ Bj Bb Be (.func (.func jf) #[] jcap) F) Gφ hn rl 20
  refine ⟨m + 40, fun T w hs t0 t5 t6 t7 t8 t11 t12 hF => ?_⟩
  obtain ⟨v0, v1, v2, v3, v4, v5, v6, v7, v8, v9, v10, v11, v12, v13, v14, v15, v16, v17, v18, v19, v20, v21, rfl⟩ := array22 T hs
  simp only [List.getElem?_toArray, List.getElem?_cons_zero, List.getElem?_cons_succ, Option.some.injEq] at t0 t5 t6 t7 t8 t11 t12
  subst t0 t5 t6 t7 t8 t11 t12
  simp only [SS]
  simp only [G49, L49, K49, Try.f49, Nat.sub_zero, body65, Try.f65, Option.getD_some] at hH ⊢
  have hlt : ¬ (N : Int) < (N : Int) := by omega
  refine Goes.step rfl (fun _ h₁ => ?_)
  replace hF := rl hF h₁
  clear h₁
  rw [stepG_seq]
  simp only [goes_go]
  refine ⟨di_nil, ?_⟩
  refine Goes.step rfl (fun _ h₁ => ?_)
  replace hF := rl hF h₁
  clear h₁
  rw [stepG_region]
  simp only [goes_go, List.size_toArray, List.length_cons, List.length_nil, Nat.reduceAdd, Nat.zero_add, List.range, List.range.loop]
  refine ⟨di_nil, ?_⟩
  refine Goes.step rfl (fun _ h₁ => ?_)
  replace hF := rl hF h₁
  clear h₁
  refine goes_oper_k rfl rfl (by k_ne) (fun K hK => ?_)
  go_simp
  refine hK _ _ ⟨?_, ?_⟩
  ·refine di_none ?_
   intro ex hex
   have hm := mem_listed hex
   simp [go_sem, *] at hm
  clear hK K
  try w_num
  refine Goes.step rfl (fun _ h₁ => ?_)
  replace hF := rl hF h₁
  clear h₁
  rw [stepG_region_end]
  simp only [goes_go]
  refine ⟨di_nil, ?_⟩
  refine Goes.step rfl (fun _ h₁ => ?_)
  replace hF := rl hF h₁
  clear h₁
  rw [stepG_seq]
  simp only [goes_go]
  refine ⟨di_nil, ?_⟩
  refine Goes.step rfl (fun _ h₁ => ?_)
  replace hF := rl hF h₁
  clear h₁
  rw [stepG_cond (t := false) rfl]
  simp only [goes_go, if_true, if_false, Bool.false_eq_true, ↓reduceIte]
  refine ⟨di_nil, ?_⟩
  refine Goes.step rfl (fun _ h₁ => ?_)
  replace hF := rl hF h₁
  clear h₁
  refine goes_exit rfl ?_
  refine ⟨di_nil, ?_⟩
  refine Goes.step rfl (fun _ h₁ => ?_)
  replace hF := rl hF h₁
  clear h₁
  rw [stepG_seq]
  simp only [goes_go]
  refine ⟨di_nil, ?_⟩
  refine Goes.step rfl (fun _ h₁ => ?_)
  replace hF := rl hF h₁
  clear h₁
  rw [stepG_region]
  simp only [goes_go, List.size_toArray, List.length_cons, List.length_nil, Nat.reduceAdd, Nat.zero_add, List.range, List.range.loop]
  refine ⟨di_nil, ?_⟩
  refine Goes.step rfl (fun _ h₁ => ?_)
  replace hF := rl hF h₁
  clear h₁
  refine goes_oper_k rfl rfl (by k_ne) (fun K hK => ?_)
  go_simp
  refine hK _ _ ⟨?_, ?_⟩
  ·refine di_none ?_
   intro ex hex
   have hm := mem_listed hex
   simp [go_sem, *] at hm
  clear hK K
  try w_num
  refine Goes.step rfl (fun _ h₁ => ?_)
  replace hF := rl hF h₁
  clear h₁
  refine goes_oper_k rfl rfl (by k_ne) (fun K hK => ?_)
  have hcj := hF.wk.cj
  go_simp
  refine hK _ _ ⟨⟨⟨_, rfl⟩, fun ex hex => ?_⟩, ?_⟩
  ·have hm := mem_listed hex
   simp [go_sem, *] at hm
   subst hm
   exact evp_read hj 0 _ _
  clear hK K
  clear hcj
  refine Goes.step rfl (fun _ h₁ => ?_)
  replace hF := rl hF h₁
  clear h₁
  refine goes_oper_k rfl rfl (by k_ne) (fun K hK => ?_)
  have hce := hF.ce
  go_simp
  refine hK _ _ ⟨⟨⟨_, rfl⟩, fun ex hex => ?_⟩, ?_⟩
  ·have hm := mem_listed hex
   simp [go_sem, *] at hm
   subst hm
   exact evp_read he 0 _ _
  clear hK K
  clear hce
  refine Goes.step rfl (fun _ h₁ => ?_)
  replace hF := rl hF h₁
  clear h₁
  refine goes_call rfl rfl (by k_ne) rfl Try.func65 nm65 rfl ⟨di_nil, ?_⟩
  walk_nrmf Try.f65
  refine (hH _ _ _ _ _ _ _ (fun w hF => ?_) _ hF).mono (by omega)
  clear hH
  have hW := fun b₀ a₀ ops₀ i₀ rest₀ k₀ cs => waitStartP (L := Try.link) (φ := φ) (F := M49 φ Bj Bb Be (.func (.func jf) #[] jcap) F) (b₀ := b₀) (a₀ := a₀) (ops₀ := ops₀) (i₀ := i₀) (rest₀ := rest₀) (k₀ := k₀) (cs := cs) Try.wgLib hty (fun w w' r h => rl h r)
  simp only [body_wait, waitFn, Option.getD_some] at hW
  walk_nrm
  refine Goes.step rfl (fun _ h₁ => ?_)
  replace hF := rl hF h₁
  clear h₁
  rw [stepG_region_end]
  simp only [goes_go]
  refine ⟨di_nil, ?_⟩
  refine Goes.step rfl (fun _ h₁ => ?_)
  replace hF := rl hF h₁
  clear h₁
  rw [stepG_region]
  simp only [goes_go, List.size_toArray, List.length_cons, List.length_nil, Nat.reduceAdd, Nat.zero_add, List.range, List.range.loop]
  refine ⟨di_nil, ?_⟩
  refine Goes.step rfl (fun _ h₁ => ?_)
  replace hF := rl hF h₁
  clear h₁
  refine goes_call rfl rfl (by k_ne) rfl Try.func66 (nm_wait Try.link) rfl ⟨di_nil, ?_⟩
  walk_nrmf Try.f66
  refine Goes.weak (fun _ _ h => h) (fun g w x => KdS.more (fun g w y => ?_) x) ((hW _ _ _ _ _ _ _ _ ⟨hF, hF.wk.live⟩).mono (by omega))
  exact ⟨_, by rfl, y⟩
 | succ r ih =>
  intro hr
  obtain ⟨m, ih⟩ := ih (by omega)
  refine ⟨40, fun T w hs t0 t5 t6 t7 t8 t11 t12 hF => ?_⟩
  obtain ⟨v0, v1, v2, v3, v4, v5, v6, v7, v8, v9, v10, v11, v12, v13, v14, v15, v16, v17, v18, v19, v20, v21, rfl⟩ := array22 T hs
  simp only [List.getElem?_toArray, List.getElem?_cons_zero, List.getElem?_cons_succ, Option.some.injEq] at t0 t5 t6 t7 t8 t11 t12
  subst t0 t5 t6 t7 t8 t11 t12
  have hA := fun b₀ a₀ ops₀ i₀ rest₀ k₀ cs' mT => addP (L := Try.link) (φ := φ) (n := n) (Pre := Pre) (Done := Done) (An := An63 φ Bj Bb Be (.func (.func jf) #[] jcap) F) (Next := Spawns Try.prog φ n Pre Done (An63 φ Bj Bb Be (.func (.func jf) #[] jcap) F) (Hand Try.prog φ n (An49 φ (M49 φ Bj Bb Be (.func (.func jf) #[] jcap) F) cs) n) r)
   (F := M49 φ Bj Bb Be (.func (.func jf) #[] jcap) F) (b₀ := b₀) (a₀ := a₀) (ops₀ := ops₀) (i₀ := i₀) (rest₀ := rest₀) (k₀ := k₀) (cs := cs') (mT := mT) Try.wgLib Gφ hty (fun w w' r h => rl h r)
  simp only [SS]
  simp only [G49, L49, K49, Try.f49, body_add, addFn, Option.getD_some] at ih hA ⊢
  obtain ⟨k, hk⟩ : ∃ k, N - (r + 1) = k := ⟨_, rfl⟩
  have hlt : (k : Int) < (N : Int) := by omega
  have hw : IntKind.i64.wrap ((k : Int) + 1) = ((N - r : Nat) : Int) := by rw [IntKind.wrap_i64]; omega
  rw [hk]
  clear hk
  refine Goes.step rfl (fun _ h₁ => ?_)
  replace hF := rl hF h₁
  clear h₁
  rw [stepG_seq]
  simp only [goes_go]
  refine ⟨di_nil, ?_⟩
  refine Goes.step rfl (fun _ h₁ => ?_)
  replace hF := rl hF h₁
  clear h₁
  rw [stepG_region]
  simp only [goes_go, List.size_toArray, List.length_cons, List.length_nil, Nat.reduceAdd, Nat.zero_add, List.range, List.range.loop]
  refine ⟨di_nil, ?_⟩
  refine Goes.step rfl (fun _ h₁ => ?_)
  replace hF := rl hF h₁
  clear h₁
  refine goes_oper_k rfl rfl (by k_ne) (fun K hK => ?_)
  go_simp
  refine hK _ _ ⟨?_, ?_⟩
  ·refine di_none ?_
   intro ex hex
   have hm := mem_listed hex
   simp [go_sem, *] at hm
  clear hK K
  try w_num
  refine Goes.step rfl (fun _ h₁ => ?_)
  replace hF := rl hF h₁
  clear h₁
  rw [stepG_region_end]
  simp only [goes_go]
  refine ⟨di_nil, ?_⟩
  refine Goes.step rfl (fun _ h₁ => ?_)
  replace hF := rl hF h₁
  clear h₁
  rw [stepG_seq]
  simp only [goes_go]
  refine ⟨di_nil, ?_⟩
  refine Goes.step rfl (fun _ h₁ => ?_)
  replace hF := rl hF h₁
  clear h₁
  rw [stepG_cond (t := true) rfl]
  simp only [goes_go, if_true, if_false, Bool.false_eq_true, ↓reduceIte]
  refine ⟨di_nil, ?_⟩
  refine Goes.step rfl (fun _ h₁ => ?_)
  replace hF := rl hF h₁
  clear h₁
  rw [stepG_skip]
  simp only [goes_go]
  refine ⟨di_nil, ?_⟩
  refine Goes.step rfl (fun _ h₁ => ?_)
  replace hF := rl hF h₁
  clear h₁
  rw [stepG_seq]
  simp only [goes_go]
  refine ⟨di_nil, ?_⟩
  refine Goes.step rfl (fun _ h₁ => ?_)
  replace hF := rl hF h₁
  clear h₁
  rw [stepG_block]
  simp only [goes_go]
  refine ⟨di_nil, ?_⟩
  refine Goes.step rfl (fun _ h₁ => ?_)
  replace hF := rl hF h₁
  clear h₁
  rw [stepG_seq]
  simp only [goes_go]
  refine ⟨di_nil, ?_⟩
  refine Goes.step rfl (fun _ h₁ => ?_)
  replace hF := rl hF h₁
  clear h₁
  rw [stepG_region]
  simp only [goes_go, List.size_toArray, List.length_cons, List.length_nil, Nat.reduceAdd, Nat.zero_add, List.range, List.range.loop]
  refine ⟨di_nil, ?_⟩
  refine Goes.step rfl (fun _ h₁ => ?_)
  replace hF := rl hF h₁
  clear h₁
  refine goes_call rfl rfl (by k_ne) rfl Try.func62 (nm_add Try.link) rfl ⟨di_nil, ?_⟩
  walk_nrmf Try.f62
  refine (hA _ _ _ _ _ _ _ 20 (fun w hF _ => ?_) _ ⟨hF, hF.wk.live⟩).mono (by omega)
  clear hA
  walk_nrm
  refine Goes.step rfl (fun _ h₁ => ?_)
  replace hF := rl hF h₁
  clear h₁
  rw [stepG_region_end]
  simp only [goes_go]
  refine ⟨di_nil, ?_⟩
  refine Goes.step rfl (fun _ h₁ => ?_)
  replace hF := rl hF h₁
  clear h₁
  rw [stepG_region]
  simp only [goes_go, List.size_toArray, List.length_cons, List.length_nil, Nat.reduceAdd, Nat.zero_add, List.range, List.range.loop]
  refine ⟨di_nil, ?_⟩
  refine Goes.step rfl (fun _ h₁ => ?_)
  replace hF := rl hF h₁
  clear h₁
  refine goes_oper_k rfl rfl (by k_ne) (fun K hK => ?_)
  go_simp
  refine hK _ _ ⟨?_, ?_⟩
  ·refine di_none ?_
   intro ex hex
   have hm := mem_listed hex
   simp [go_sem, Instr.makeFunc] at hm
  clear hK K
  refine Goes.stop (fun w₂ r₂ => ?_)
  replace hF := rl hF r₂
  clear r₂
  refine ⟨rfl, ?_⟩
  rw [stepG_spawn (d := call63 φ Bj Bb Be) (w' := w₂) (f := .func 63) (c := #[.pointer (some ⟨φ.Wg, 0, none⟩), .pointer (some ⟨Bj, 0, none⟩), .pointer (some ⟨Bb, 0, none⟩), .pointer (some ⟨Be, 0, none⟩)]) rfl rfl (by k_ne) (by simp [go_sem, call63, Deferred.ofValue]) rfl]
  generalize hL : listed _ _ _ _ _ = Lx
  have hLx : Lx = #[] := by
   rw [← hL]
   simp [listed, go_sem, seen, Deferred.ofValue]
   rfl
  subst hLx
  clear hL
  refine ⟨_, _, rfl, rfl, ⟨20, child63 J hty hj hb he hF2 hjob w₂ hF.wk⟩, spawns_of (m := m + 20) ?_⟩
  walk_nrm
  refine Goes.step rfl (fun _ h₁ => ?_)
  replace hF := rl hF h₁
  clear h₁
  rw [stepG_region_end]
  simp only [goes_go]
  refine ⟨di_nil, ?_⟩
  refine Goes.step rfl (fun _ h₁ => ?_)
  replace hF := rl hF h₁
  clear h₁
  rw [stepG_inBlock]
  simp only [goes_go]
  refine ⟨di_nil, ?_⟩
  refine Goes.step rfl (fun _ h₁ => ?_)
  replace hF := rl hF h₁
  clear h₁
  rw [stepG_region]
  simp only [goes_go, List.size_toArray, List.length_cons, List.length_nil, Nat.reduceAdd, Nat.zero_add, List.range, List.range.loop]
  refine ⟨di_nil, ?_⟩
  iterate 2
   refine Goes.step rfl (fun _ h₁ => ?_)
   replace hF := rl hF h₁
   clear h₁
   refine goes_oper_k rfl rfl (by k_ne) (fun K hK => ?_)
   go_simp
   refine hK _ _ ⟨?_, ?_⟩
   ·refine di_none ?_
    intro ex hex
    have hm := mem_listed hex
    simp [go_sem, *] at hm
   clear hK K
   try w_num
  refine Goes.step rfl (fun _ h₁ => ?_)
  replace hF := rl hF h₁
  clear h₁
  rw [stepG_region_end]
  simp only [goes_go]
  refine ⟨di_nil, ?_⟩
  refine Goes.step rfl (fun _ h₁ => ?_)
  replace hF := rl hF h₁
  clear h₁
  rw [stepG_inLoop]
  simp only [goes_go]
  refine ⟨di_nil, ?_⟩
  exact (ih _ _ (by simp) (by simp) (by simp) (by simp) (by simp) (by simp) (by simp) (by simp) hF).mono (by omega)
end
end Go.Pool
end
