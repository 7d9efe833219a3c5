/- A part of the proof of CrewDigestsUpto (no statement of its own): WgLib, Cr5. -/
import Derived.Test.YthkaigokcognmaaChecked
import Derived.Test.YthkaigokcognmaaM08
import Derived.Conc.WgGenN3
import Derived.Laws.Tables
section
namespace Go.Proofs
abbrev Try.link : Go.Conc.Lib.WgLink := { add := 62, done := 64, wait := 66, relMerge := 71, disable := 72, enable := 73, inBubble := 74, associate := 75, fatal := 76, uOr := 77, uAdd := 78, raceRead := 79, uLoad := 80, uStore := 81, disassociate := 82, semrelease := 83, acquire := 84, isAssociated := 85, uCas := 86, raceWrite := 87, semacquire := 88, orU64 := 90, addU64 := 91, loadU64 := 92, storeU64 := 93, casU64 := 94, tWgP := 93, tUP := 95, tAssoc := 96, tWg := 87, tAU := 85, tU64 := 83, tUint := 62, tU32 := 37, tPU32 := 99, tPAU := 110, tPU64 := 112, tNoCopy := 80, tANoCopy := 81, tAlign64 := 82 }
theorem Try.wgLib : Go.Conc.Lib.WgLib Try.prog Try.link :=
 ⟨Try.func62, Try.func64, Try.func66, Try.func71, Try.func72, Try.func73, Try.func74, Try.func75, Try.func76, Try.func77, Try.func78, Try.func79, Try.func80, Try.func81, Try.func82, Try.func83, Try.func84, Try.func85, Try.func86, Try.func87, Try.func88, Try.func90, Try.func91, Try.func92, Try.func93, Try.func94, Try.underlying93, Try.runUnderlying93, Try.sizeOf93, Try.isAgg93, Try.zeroValue93, Try.underlying95, Try.runUnderlying95, Try.sizeOf95, Try.isAgg95, Try.zeroValue95, Try.underlying96, Try.runUnderlying96, Try.sizeOf96, Try.isAgg96, Try.zeroValue96, Try.underlying87, Try.runUnderlying87, Try.sizeOf87, Try.isAgg87, Try.zeroValue87, Try.underlying85, Try.runUnderlying85, Try.sizeOf85, Try.isAgg85, Try.zeroValue85, Try.underlying83, Try.runUnderlying83, Try.sizeOf83, Try.isAgg83, Try.zeroValue83, Try.underlying62, Try.runUnderlying62, Try.sizeOf62, Try.isAgg62, Try.zeroValue62, Try.underlying37, Try.runUnderlying37, Try.sizeOf37, Try.isAgg37, Try.zeroValue37, Try.underlying99, Try.runUnderlying99, Try.sizeOf99, Try.isAgg99, Try.zeroValue99, Try.underlying110, Try.runUnderlying110, Try.sizeOf110, Try.isAgg110, Try.zeroValue110, Try.underlying112, Try.runUnderlying112, Try.sizeOf112, Try.isAgg112, Try.zeroValue112, Try.underlying0, Try.runUnderlying0, Try.sizeOf0, Try.isAgg0, Try.zeroValue0, Try.underlying3, Try.runUnderlying3, Try.sizeOf3, Try.isAgg3, Try.zeroValue3, Try.underlying4, Try.runUnderlying4, Try.sizeOf4, Try.isAgg4, Try.zeroValue4, Try.underlying9, Try.runUnderlying9, Try.sizeOf9, Try.isAgg9, Try.zeroValue9, Try.underlying20, Try.runUnderlying20, Try.sizeOf20, Try.isAgg20, Try.zeroValue20, Try.underlying21, Try.runUnderlying21, Try.sizeOf21, Try.isAgg21, Try.zeroValue21, (by kernel_rfl), (by kernel_rfl)⟩
end Go.Proofs
end
section
set_option linter.unusedSimpArgs false
namespace Go.Pool
open Go.Conc Go.RowKit Go.Proofs Go.ConcN Go.Conc.Lib Go.ConcR.Gen Go.ConcN.Gen
open Go.ConcR (KK wgBlock WgAt stA smA rd wr mk DC0)
theorem Goes.weakD {P : Program} {main : Bool} {R : World → World → Prop} {D D' : World → World → Array Event → Prop} {S : Goroutine → World → Prop} (hD : ∀ w w' es, D w w' es → D' w w' es) : ∀ {n : Nat} {g : Goroutine} {w : World}, Goes P main R D S n g w → Goes P main R D' S n g w
 | 0, _, _, h => h
 | n + 1, g, w, h => by
  rcases h with h | ⟨hs, h⟩
  ·exact .inl h
  ·refine .inr ⟨hs, fun w₁ h₁ => ?_⟩
   have := h w₁ h₁
   revert this
   cases stepG P main g w₁ <;> simp only [GStep.goes, imp_self]
   exact fun ⟨d, x⟩ => ⟨hD _ _ _ d, Goes.weakD hD x⟩
theorem di_of_dc0 {φ : Ph} {own : Nat → Prop} {g : Nat} (w w' : World) (es : Array Event) (h : DC0 w w' es) : DI φ own g w w' es := by
 obtain ⟨rfl, rfl⟩ := h
 exact di_nil
noncomputable def bot : Frame := { (default : Frame) with fn := Try.prog.funcs.size, defers := [], mode := .panicking [goexitEntry] }
noncomputable def body63 : Code := Try.f63.body.getD .skip
noncomputable def L63 : Code := match Try.f63.body with
 | some (.seq _ (.seq _ (.block _ (.loop c)))) => c
 | _ => .skip
def b63 : Frame := baseD 63
def call63 (φ : Ph) (Bj Bb Be : Nat) : Deferred := { target := .fn (.func 63) #[.pointer (some ⟨φ.Wg, 0, none⟩), .pointer (some ⟨Bj, 0, none⟩), .pointer (some ⟨Bb, 0, none⟩), .pointer (some ⟨Be, 0, none⟩)], args := #[] }
def dDone (φ : Ph) : Deferred := dcall 64 #[.pointer (some ⟨φ.Wg, 0, none⟩)]
structure WK (φ : Ph) (Bj Bb Be : Nat) (fv : Value) (F : World → Prop) (w : World) : Prop where
 cj : w.cell? ⟨Bj, 0, none⟩ = some (.chan (some φ.Ch))
 cb : w.cell? ⟨Bb, 0, none⟩ = some fv
 ce : w.cell? ⟨Be, 0, none⟩ = some (.chan (some φ.En))
 live : WgLive φ.ty φ.Wg w
 f : F w
abbrev Firm (φ : Ph) (F : World → Prop) : Prop := ∀ (own : Nat → Prop) w w', Frm φ own w w' → F w → F w'
theorem WK.rely {φ : Ph} {Bj Bb Be : Nat} {fv : Value} {F : World → Prop} (hj : Still φ Bj) (hb : Still φ Bb) (he : Still φ Be) (hF2 : Firm φ F) {own : Nat → Prop} {w w₁ : World} (h : WK φ Bj Bb Be fv F w) (r : Frm φ own w w₁) : WK φ Bj Bb Be fv F w₁ :=
 ⟨(hj.cell r 0).trans h.cj, (hb.cell r 0).trans h.cb, (he.cell r 0).trans h.ce, r.live h.live, hF2 _ _ _ r h.f⟩
def An63 (φ : Ph) (Bj Bb Be : Nat) (fv : Value) (F : World → Prop) (g : Goroutine) (w : World) : Prop :=
 ∃ T : Array Value, g = Go.Conc.G (b63.at ⟨T, [dDone φ]⟩ [.code L63, .inLoop L63, .inBlock 0]) [bot] ∧ T.size = 17 ∧ T[0]? = some (.pointer (some ⟨φ.Wg, 0, none⟩)) ∧ T[1]? = some (.pointer (some ⟨Bj, 0, none⟩)) ∧ T[2]? = some (.pointer (some ⟨Bb, 0, none⟩)) ∧
  T[3]? = some (.pointer (some ⟨Be, 0, none⟩)) ∧ T[5]? = some (.chan (some φ.Ch)) ∧ WK φ Bj Bb Be fv F w
theorem array17 (T : Array Value) (h : T.size = 17) : ∃ v0 v1 v2 v3 v4 v5 v6 v7 v8 v9 v10 v11 v12 v13 v14 v15 v16, T = #[v0, v1, v2, v3, v4, v5, v6, v7, v8, v9, v10, v11, v12, v13, v14, v15, v16] :=
 ⟨T[0], T[1], T[2], T[3], T[4], T[5], T[6], T[7], T[8], T[9], T[10], T[11], T[12], T[13], T[14], T[15], T[16], by
  apply Array.ext (by simp [h])
  intro i h1 h2
  have hi : i < 17 := by omega
  iterate 17 (rcases i with _ | i; · rfl)
  omega⟩
theorem quits63 (T : Array Value) : QuitsD Try.prog 2 0 (Go.Conc.G { b63.at ⟨T, []⟩ [] with mode := .returning } [bot]) := by
 refine QuitsD.ctl (g' := Go.Conc.G bot []) rfl (fun w => ?_) ?_
 ·simp [Go.Conc.G, stepG, unwind, doReturn, results, Frame.at, b63, baseD, bot, Try.func63, Try.f63, seen, GStep.after, goexitEntry]
 refine QuitsD.ctl (g' := { Go.Conc.G bot [] with status := .finished }) rfl (fun w => ?_) ⟨rfl, rfl⟩
 simp [Go.Conc.G, stepG, unwind, bot, goexitEntry, Frame.catches]
 rfl
theorem born63 (φ : Ph) (Bj Bb Be : Nat) (w : World) : stepG Try.prog false (born Try.prog (call63 φ Bj Bb Be)) w =
  .go (Go.Conc.G (b63.at ⟨#[.pointer (some ⟨φ.Wg, 0, none⟩), .pointer (some ⟨Bj, 0, none⟩), .pointer (some ⟨Bb, 0, none⟩), .pointer (some ⟨Be, 0, none⟩), undef, undef, undef, undef, undef, undef, undef, undef, undef, undef, undef, undef, undef], []⟩ [.code body63]) [bot]) w #[] := by
 simp [born, call63, stepG, unwind, callDeferred, invoke, callFunc, Try.func63, Try.f63, seen, GStep.after, Go.Conc.G, Frame.enter, Frame.at, b63, baseD, bot, body63]
section
variable {φ : Ph} {n : Nat} {Pre Done : Nat → World → Prop} {Bj Bb Be : Nat} {jf : FuncId} {jcap : Array Value} {F : World → Prop}
abbrev JobC (φ : Ph) (n : Nat) (Pre Done : Nat → World → Prop) (Bj Bb Be : Nat) (jf : FuncId) (jcap : Array Value) (F : World → Prop) : Prop :=
 ∀ k, k < n → ∃ mf, ∀ w, WK φ Bj Bb Be (.func (.func jf) #[] jcap) F w → Pre k w → CallsC Try.prog false (Frm φ (· = k)) (DJ φ k) jf (#[.int .i64 k] ++ jcap) mf w fun v w' => v = .bool false ∧ WK φ Bj Bb Be (.func (.func jf) #[] jcap) F w' ∧ Done k w'
abbrev JobK (φ : Ph) (n : Nat) (Pre Done : Nat → World → Prop) (Bj Bb Be : Nat) (jf : FuncId) (jcap : Array Value) (F : World → Prop) : Prop :=
 ∀ k, k < n → ∀ (b : Frame) (a : Act) (ops : Array Oper) (i : Nat) (rest : List Nat) (o : Oper) (x : Operand) (args : Array Operand) (ats : Array TypeId) (kk : List Item) (cs : List Frame), ops[i]? = some o → Region.wanted o (yielded ops a.tmps) = true → b.kind ≠ .early →
  o.op = .call { callee := .value x, args, argTypes := ats } → a.eval x = .func (.func jf) #[] jcap → args.map a.eval = #[.int .i64 k] →
  (∀ L w, WK φ Bj Bb Be (.func (.func jf) #[] jcap) F w → Done k w → ¬ φ.p k → GoesX Try.prog (RJ φ k) (DJO φ k) (JobS Try.prog φ Done (An63 φ Bj Bb Be (.func (.func jf) #[] jcap) F) k) L (Go.Conc.G (b.at (a.put o.dst (.bool false)) (.inRegion ops rest :: kk)) cs) w) →
  (∃ m, ∀ w, WK φ Bj Bb Be (.func (.func jf) #[] jcap) F w → φ.p k → Goes Try.prog false (Frm φ own0) (DI φ own0 1) (EnoS Try.prog φ (An63 φ Bj Bb Be (.func (.func jf) #[] jcap) F)) m (Go.Conc.G (b.at (a.put o.dst (.bool true)) (.inRegion ops rest :: kk)) cs) w) →
  ∀ w, WK φ Bj Bb Be (.func (.func jf) #[] jcap) F w → Pre k w → GoesX Try.prog (RJ φ k) (DJO φ k) (JobS Try.prog φ Done (An63 φ Bj Bb Be (.func (.func jf) #[] jcap) F) k) [] (Go.Conc.G (b.at a (.inRegion ops (i :: rest) :: kk)) cs) w
theorem goesX_seq {P : Program} {k : Nat} {L : List Nat} {S : Goroutine → World → Prop} {n : Nat} {g : Goroutine} {w : World} (h : Goes P false (Frm φ (· = k)) (DJ φ k) (fun g w => GoesX P (RJ φ k) (DJO φ k) S L g w) n g w) : GoesX P (RJ φ k) (DJO φ k) S L g w :=
 GoesX.of_goes (R' := Frm φ (· = k)) (D' := DJ φ k) (fun _ _ h => h.1) (fun w => .refl w) (fun _ _ _ d => .of_dj d) h
theorem djo_none {k : Nat} {L : List Nat} {w : World} {es : Array Event} (h : ∀ e ∈ es, False) : DJO φ k L w w es := .of_dj (dj_none h)
theorem djo_nil {k : Nat} {L : List Nat} {w : World} : DJO φ k L w w #[] := djo_none (by simp)
theorem jobK_of_jobC (hp : ∀ k, ¬ φ.p k) (h : JobC φ n Pre Done Bj Bb Be jf jcap F) : JobK φ n Pre Done Bj Bb Be jf jcap F := by
 intro k hk
 obtain ⟨mf, hjb⟩ := h k hk
 refine fun b a ops i rest o x args ats kk cs ho hw hke hop hx hargs h1 _ w hF hpre => ?_
 refine goesX_seq (n := 0 + mf + 3) (goes_callvC (termsJ φ k) (nf := mf) (m := 0) (first := #[]) (cap := jcap) (Post := fun v w' => v = .bool false ∧ WK φ Bj Bb Be (.func (.func jf) #[] jcap) F w' ∧ Done k w') ho hw hke hop hx ?_ ?_)
 ·rw [hargs]; simpa using hjb _ hF hpre
 ·rintro v w' ⟨rfl, hw1, hw2⟩
  exact Goes.stop fun w₁ h₁ => (h1 [] w' hw1 hw2 (hp k)).rely (termsRJ φ k) ⟨h₁, by simp⟩
theorem bld79 (w : World) : (Instr.build 79 #[]).run Try.prog w = .ok (.agg #[]) w := run_build (P := Try.prog) w 79 #[] #[] (by kernel_rfl)
theorem und79 : Try.prog.underlying 79 = some (.struct #[]) := by kernel_rfl
theorem bld79e (w : World) (es : Array Event) : (Instr.build 79 #[]).events Try.prog w es = es := by
 unfold Instr.build
 simp [run_underlying und79, go_sem]
theorem finishComm_sel0 (g : Goroutine) (c : Nat) (v z : Value) : g.finishComm Try.prog #[scase c v z] .select 0 undef false = Go.Conc.served g (.tuple #[.int .i64 0, .bool false]) := by
 simp [Goroutine.finishComm, commResult, Go.Conc.served, goInt, scase]
theorem finishComm_selD (g : Goroutine) (c : Nat) (v z : Value) : g.finishComm Try.prog #[scase c v z] .select (-1) undef false = Go.Conc.served g (.tuple #[.int .i64 (-1), .bool false]) := by
 simp [Goroutine.finishComm, commResult, Go.Conc.served, goInt, scase]
set_option maxRecDepth 100000 in
theorem an63 (J : Jobs φ n Pre Done) (hty : φ.ty = 87) (hj : Still φ Bj) (hb : Still φ Bb) (he : Still φ Be) (hF2 : Firm φ F) (hjob : JobK φ n Pre Done Bj Bb Be jf jcap F) (g : Goroutine) (w : World) (h : An63 φ Bj Bb Be (.func (.func jf) #[] jcap) F g w) :
  Goes Try.prog false (Frm φ own0) (DI φ own0 1) (RecvS Try.prog φ n Pre Done (An63 φ Bj Bb Be (.func (.func jf) #[] jcap) F)) 2 g w := by
 obtain ⟨T, rfl, hT, t0, t1, t2, t3, t5, hF⟩ := h
 obtain ⟨v0, v1, v2, v3, v4, v5, v6, v7, v8, v9, v10, v11, v12, v13, v14, v15, v16, rfl⟩ := array17 T hT
 simp only [List.getElem?_toArray, List.getElem?_cons_zero, List.getElem?_cons_succ, Option.some.injEq] at t0 t1 t2 t3 t5
 subst t0 t1 t2 t3 t5
 have rl : ∀ {own : Nat → Prop} {w w₁ : World}, WK φ Bj Bb Be (.func (.func jf) #[] jcap) F w → Frm φ own w w₁ → WK φ Bj Bb Be (.func (.func jf) #[] jcap) F w₁ := fun h r => h.rely hj hb he hF2 r
 simp only [L63, Try.f63]
 refine Goes.step rfl (fun _ h₁ => ?_)
 replace hF := rl hF h₁
 clear h₁
 rw [stepG_seq]
 simp only [goes_go]
 refine ⟨di_nil, ?_⟩
 refine Goes.step rfl (fun _ h₁ => ?_)
 replace hF := rl hF h₁
 clear h₁
 rw [stepG_region]
 simp only [goes_go, List.size_toArray, List.length_cons, List.length_nil, Nat.reduceAdd, Nat.zero_add, List.range, List.range.loop]
 refine ⟨di_nil, ?_⟩
 refine Goes.stop (fun w₁ h₁ => ?_)
 replace hF := rl hF h₁
 clear h₁
 refine ⟨rfl, _, .int .i64 0, .recv true, ⟨rfl, rfl, rfl⟩, fun w₂ h₂ => ?_⟩
 replace hF := rl hF h₂
 clear h₂
 refine ⟨⟨_, stepG_comm rfl (by rfl) (by k_ne) (by simp [go_sem, Act.eval, rcase]), ?_⟩, ?_, ?_⟩
 ·intro e he
  have hm := mem_listed he
  simp [go_sem, Act.eval] at hm
 ·intro k hk hpre
  rw [finishComm_recv, served_G]
  simp only [recvd, if_true]
  walk_nrm
  have rlk : ∀ {w w₁ : World}, WK φ Bj Bb Be (.func (.func jf) #[] jcap) F w ∧ Pre k w → RJ φ k [] w w₁ → WK φ Bj Bb Be (.func (.func jf) #[] jcap) F w₁ ∧ Pre k w₁ := fun h r => ⟨rl h.1 r.1, J.pre k _ _ (fun b hb => r.1.own b k hb rfl) h.2⟩
  have rld : ∀ {L : List Nat} {w w₁ : World}, WK φ Bj Bb Be (.func (.func jf) #[] jcap) F w ∧ Done k w → RJ φ k L w w₁ → WK φ Bj Bb Be (.func (.func jf) #[] jcap) F w₁ ∧ Done k w₁ := fun h r => ⟨rl h.1 r.1, J.done k _ _ (fun b hb => r.1.own b k hb rfl) h.2⟩
  replace hF := And.intro hF hpre
  clear hpre
  refine GoesX.step rfl (fun _ h₁ => ?_)
  replace hF := rlk hF h₁
  clear h₁
  refine goes_oper_k rfl rfl (by k_ne) (fun K hK => ?_)
  go_simp
  refine hK _ _ ⟨?_, ?_⟩
  ·refine djo_none ?_
   intro ex hex
   have hm := mem_listed hex
   simp [go_sem, *] at hm
  clear hK K
  try w_num
  refine GoesX.step rfl (fun _ h₁ => ?_)
  replace hF := rlk hF h₁
  clear h₁
  rw [stepG_region_end]
  simp only [goes_go]
  refine ⟨djo_nil, ?_⟩
  refine GoesX.step rfl (fun _ h₁ => ?_)
  replace hF := rlk hF h₁
  clear h₁
  rw [stepG_seq]
  simp only [goes_go]
  refine ⟨djo_nil, ?_⟩
  refine GoesX.step rfl (fun _ h₁ => ?_)
  replace hF := rlk hF h₁
  clear h₁
  rw [stepG_cond (t := true) rfl]
  simp only [goes_go, if_true, if_false, Bool.false_eq_true, ↓reduceIte]
  refine ⟨djo_nil, ?_⟩
  refine GoesX.step rfl (fun _ h₁ => ?_)
  replace hF := rlk hF h₁
  clear h₁
  rw [stepG_skip]
  simp only [goes_go]
  refine ⟨djo_nil, ?_⟩
  refine GoesX.step rfl (fun _ h₁ => ?_)
  replace hF := rlk hF h₁
  clear h₁
  rw [stepG_block]
  simp only [goes_go]
  refine ⟨djo_nil, ?_⟩
  refine GoesX.step rfl (fun _ h₁ => ?_)
  replace hF := rlk hF h₁
  clear h₁
  rw [stepG_seq]
  simp only [goes_go]
  refine ⟨djo_nil, ?_⟩
  refine GoesX.step rfl (fun _ h₁ => ?_)
  replace hF := rlk hF h₁
  clear h₁
  rw [stepG_region]
  simp only [goes_go, List.size_toArray, List.length_cons, List.length_nil, Nat.reduceAdd, Nat.zero_add, List.range, List.range.loop]
  refine ⟨djo_nil, ?_⟩
  iterate 2
   refine GoesX.step rfl (fun _ h₁ => ?_)
   replace hF := rlk hF h₁
   clear h₁
   refine goes_oper_k rfl rfl (by k_ne) (fun K hK => ?_)
   go_simp
   refine hK _ _ ⟨?_, ?_⟩
   ·refine djo_none ?_
    intro ex hex
    have hm := mem_listed hex
    simp [go_sem, *] at hm
   clear hK K
   try w_num
  refine GoesX.step rfl (fun _ h₁ => ?_)
  replace hF := rlk hF h₁
  clear h₁
  rw [stepG_region_end]
  simp only [goes_go]
  refine ⟨djo_nil, ?_⟩
  refine GoesX.step rfl (fun _ h₁ => ?_)
  replace hF := rlk hF h₁
  clear h₁
  rw [stepG_seq]
  simp only [goes_go]
  refine ⟨djo_nil, ?_⟩
  refine GoesX.step rfl (fun _ h₁ => ?_)
  replace hF := rlk hF h₁
  clear h₁
  rw [stepG_region]
  simp only [goes_go, List.size_toArray, List.length_cons, List.length_nil, Nat.reduceAdd, Nat.zero_add, List.range, List.range.loop]
  refine ⟨djo_nil, ?_⟩
  refine GoesX.step rfl (fun _ h₁ => ?_)
  replace hF := rlk hF h₁
  clear h₁
  refine goes_oper_k rfl rfl (by k_ne) (fun K hK => ?_)
  have hcb := hF.1.cb
  go_simp
  refine hK _ _ ⟨⟨.of_job (.refl k _), fun ex hex => ?_⟩, ?_⟩
  ·have hm := mem_listed hex
   simp [go_sem, *] at hm
   subst hm
   exact .of_evP (evp_read hb 0 _ _)
  clear hK K
  clear hcb
  refine GoesX.step rfl (fun _ h₁ => ?_)
  replace hF := rlk hF h₁
  clear h₁
  refine goes_oper_k rfl rfl (by k_ne) (fun K hK => ?_)
  go_simp
  refine hK _ _ ⟨?_, ?_⟩
  ·refine djo_none ?_
   intro ex hex
   have hm := mem_listed hex
   simp [go_sem, *] at hm
  clear hK K
  try w_num
  refine hjob k hk _ _ _ _ _ _ _ _ _ _ _ rfl (by rfl) (by k_ne) rfl (by rfl) (by simp [Act.eval]) ?_ ?_ _ hF.1 hF.2
  ·clear hF
   intro LL w' hw1 hw2 hnp
   have hF := And.intro hw1 hw2
   clear hw1 hw2
   walk_nrm
   refine GoesX.step rfl (fun _ h₁ => ?_)
   replace hF := rld hF h₁
   clear h₁
   rw [stepG_region_end]
   simp only [goes_go]
   refine ⟨djo_nil, ?_⟩
   refine GoesX.step rfl (fun _ h₁ => ?_)
   replace hF := rld hF h₁
   clear h₁
   rw [stepG_cond (t := false) rfl]
   simp only [goes_go, if_true, if_false, Bool.false_eq_true, ↓reduceIte]
   refine ⟨djo_nil, ?_⟩
   refine GoesX.step rfl (fun _ h₁ => ?_)
   replace hF := rld hF h₁
   clear h₁
   rw [stepG_skip]
   simp only [goes_go]
   refine ⟨djo_nil, ?_⟩
   refine GoesX.step rfl (fun _ h₁ => ?_)
   replace hF := rld hF h₁
   clear h₁
   rw [stepG_inBlock]
   simp only [goes_go]
   refine ⟨djo_nil, ?_⟩
   refine GoesX.step rfl (fun _ h₁ => ?_)
   replace hF := rld hF h₁
   clear h₁
   rw [stepG_inLoop]
   simp only [goes_go]
   refine ⟨djo_nil, ?_⟩
   exact GoesX.stop (fun w₃ h₃ => ⟨(rld hF h₃).2, .inl ⟨hnp, _, rfl, by simp, by simp, by simp, by simp, by simp, by simp, (rld hF h₃).1⟩⟩)
  ·clear hF
   refine ⟨40, fun w' hF hp => ?_⟩
   walk_nrm
   refine Goes.step rfl (fun _ h₁ => ?_)
   replace hF := rl hF h₁
   clear h₁
   rw [stepG_region_end]
   simp only [goes_go]
   refine ⟨di_nil, ?_⟩
   refine Goes.step rfl (fun _ h₁ => ?_)
   replace hF := rl hF h₁
   clear h₁
   rw [stepG_cond (t := true) rfl]
   simp only [goes_go, if_true, if_false, Bool.false_eq_true, ↓reduceIte]
   iterate 2
    refine ⟨di_nil, ?_⟩
    refine Goes.step rfl (fun _ h₁ => ?_)
    replace hF := rl hF h₁
    clear h₁
    rw [stepG_seq]
    simp only [goes_go]
   refine ⟨di_nil, ?_⟩
   refine Goes.step rfl (fun _ h₁ => ?_)
   replace hF := rl hF h₁
   clear h₁
   rw [stepG_region]
   simp only [goes_go, List.size_toArray, List.length_cons, List.length_nil, Nat.reduceAdd, Nat.zero_add, List.range, List.range.loop]
   refine ⟨di_nil, ?_⟩
   refine Goes.step rfl (fun _ h₁ => ?_)
   replace hF := rl hF h₁
   clear h₁
   refine goes_oper_k rfl rfl (by k_ne) (fun K hK => ?_)
   have hce := hF.ce
   go_simp
   refine hK _ _ ⟨⟨⟨_, rfl⟩, fun ex hex => ?_⟩, ?_⟩
   ·have hm := mem_listed hex
    simp [go_sem, *] at hm
    subst hm
    exact evp_read he 0 _ _
   clear hK K
   clear hce
   refine Goes.step rfl (fun _ h₁ => ?_)
   replace hF := rl hF h₁
   clear h₁
   rw [stepG_region_end]
   simp only [goes_go]
   refine ⟨di_nil, ?_⟩
   refine Goes.step rfl (fun _ h₁ => ?_)
   replace hF := rl hF h₁
   clear h₁
   rw [stepG_region]
   simp only [goes_go, List.size_toArray, List.length_cons, List.length_nil, Nat.reduceAdd, Nat.zero_add, List.range, List.range.loop]
   refine ⟨di_nil, ?_⟩
   refine Goes.step rfl (fun _ h₁ => ?_)
   replace hF := rl hF h₁
   clear h₁
   refine goes_oper_k rfl rfl (by k_ne) (fun K hK => ?_)
   have hb1 := bld79
   have hb2 := bld79e
   go_simp
   refine hK _ _ ⟨?_, ?_⟩
   ·refine di_none ?_
    intro ex hex
    have hm := mem_listed hex
    simp [go_sem, hb2] at hm
   clear hK K hb1 hb2
   refine Goes.step rfl (fun _ h₁ => ?_)
   replace hF := rl hF h₁
   clear h₁
   rw [stepG_region_end]
   simp only [goes_go]
   refine ⟨di_nil, ?_⟩
   refine Goes.step rfl (fun _ h₁ => ?_)
   replace hF := rl hF h₁
   clear h₁
   rw [stepG_seq]
   simp only [goes_go]
   refine ⟨di_nil, ?_⟩
   refine Goes.step rfl (fun _ h₁ => ?_)
   replace hF := rl hF h₁
   clear h₁
   rw [stepG_region]
   simp only [goes_go, List.size_toArray, List.length_cons, List.length_nil, Nat.reduceAdd, Nat.zero_add, List.range, List.range.loop]
   refine ⟨di_nil, ?_⟩
   refine Goes.stop (fun w₁ h₁ => ?_)
   replace hF := rl hF h₁
   clear h₁
   refine ⟨rfl, _, .agg #[], .agg #[], .select, _, stepG_comm rfl (by rfl) (by k_ne) (by simp [go_sem, Act.eval, scase]), ?_, fun w₂ h₂ => ?_⟩
   ·intro e he
    have hm := mem_listed he
    simp [go_sem, Act.eval] at hm
   ·replace hF := rl hF h₂
    clear h₂
    refine ⟨⟨40, ?_⟩, ⟨40, ?_⟩⟩
    ·rw [finishComm_sel0, served_G]
     walk_nrm
     iterate 2
      refine Goes.step rfl (fun _ h₁ => ?_)
      replace hF := rl hF h₁
      clear h₁
      refine goes_oper_k rfl rfl (by k_ne) (fun K hK => ?_)
      go_simp
      refine hK _ _ ⟨?_, ?_⟩
      ·refine di_none ?_
       intro ex hex
       have hm := mem_listed hex
       simp [go_sem, *] at hm
      clear hK K
      try w_num
     refine Goes.step rfl (fun _ h₁ => ?_)
     replace hF := rl hF h₁
     clear h₁
     rw [stepG_region_end]
     simp only [goes_go]
     refine ⟨di_nil, ?_⟩
     refine Goes.step rfl (fun _ h₁ => ?_)
     replace hF := rl hF h₁
     clear h₁
     rw [stepG_block]
     simp only [goes_go]
     refine ⟨di_nil, ?_⟩
     refine Goes.step rfl (fun _ h₁ => ?_)
     replace hF := rl hF h₁
     clear h₁
     rw [stepG_cond (t := true) rfl]
     simp only [goes_go, if_true, if_false, Bool.false_eq_true, ↓reduceIte]
     refine ⟨di_nil, ?_⟩
     refine Goes.step rfl (fun _ h₁ => ?_)
     replace hF := rl hF h₁
     clear h₁
     rw [stepG_skip]
     iterate 2
      simp only [goes_go]
      refine ⟨di_nil, ?_⟩
      refine Goes.step rfl (fun _ h₁ => ?_)
      replace hF := rl hF h₁
      clear h₁
      rw [stepG_inBlock]
     simp only [goes_go]
     refine ⟨di_nil, ?_⟩
     refine Goes.step rfl (fun _ h₁ => ?_)
     replace hF := rl hF h₁
     clear h₁
     rw [stepG_inLoop]
     simp only [goes_go]
     refine ⟨di_nil, ?_⟩
     exact Goes.stop (fun w₃ h₃ => ⟨_, rfl, by simp, by simp, by simp, by simp, by simp, by simp, rl hF h₃⟩)
    ·rw [finishComm_selD, served_G]
     walk_nrm
     iterate 2
      refine Goes.step rfl (fun _ h₁ => ?_)
      replace hF := rl hF h₁
      clear h₁
      refine goes_oper_k rfl rfl (by k_ne) (fun K hK => ?_)
      go_simp
      refine hK _ _ ⟨?_, ?_⟩
      ·refine di_none ?_
       intro ex hex
       have hm := mem_listed hex
       simp [go_sem, *] at hm
      clear hK K
      try w_num
     refine Goes.step rfl (fun _ h₁ => ?_)
     replace hF := rl hF h₁
     clear h₁
     rw [stepG_region_end]
     simp only [goes_go]
     refine ⟨di_nil, ?_⟩
     refine Goes.step rfl (fun _ h₁ => ?_)
     replace hF := rl hF h₁
     clear h₁
     rw [stepG_block]
     simp only [goes_go]
     refine ⟨di_nil, ?_⟩
     refine Goes.step rfl (fun _ h₁ => ?_)
     replace hF := rl hF h₁
     clear h₁
     rw [stepG_cond (t := false) rfl]
     simp only [goes_go, if_true, if_false, Bool.false_eq_true, ↓reduceIte]
     refine ⟨di_nil, ?_⟩
     refine Goes.step rfl (fun _ h₁ => ?_)
     replace hF := rl hF h₁
     clear h₁
     rw [stepG_skip]
     iterate 2
      simp only [goes_go]
      refine ⟨di_nil, ?_⟩
      refine Goes.step rfl (fun _ h₁ => ?_)
      replace hF := rl hF h₁
      clear h₁
      rw [stepG_inBlock]
     simp only [goes_go]
     refine ⟨di_nil, ?_⟩
     refine Goes.step rfl (fun _ h₁ => ?_)
     replace hF := rl hF h₁
     clear h₁
     rw [stepG_inLoop]
     simp only [goes_go]
     refine ⟨di_nil, ?_⟩
     exact Goes.stop (fun w₃ h₃ => ⟨_, rfl, by simp, by simp, by simp, by simp, by simp, by simp, rl hF h₃⟩)
 ·refine ⟨60, ?_⟩
  rw [finishComm_recv, served_G]
  simp only [recvd, if_true]
  walk_nrm
  refine Goes.step rfl (fun _ h₁ => ?_)
  replace hF := rl hF h₁
  clear h₁
  refine goes_oper_k rfl rfl (by k_ne) (fun K hK => ?_)
  go_simp
  refine hK _ _ ⟨?_, ?_⟩
  ·refine di_none ?_
   intro ex hex
   have hm := mem_listed hex
   simp [go_sem, *] at hm
  clear hK K
  try w_num
  refine Goes.step rfl (fun _ h₁ => ?_)
  replace hF := rl hF h₁
  clear h₁
  rw [stepG_region_end]
  simp only [goes_go]
  refine ⟨di_nil, ?_⟩
  refine Goes.step rfl (fun _ h₁ => ?_)
  replace hF := rl hF h₁
  clear h₁
  rw [stepG_seq]
  simp only [goes_go]
  refine ⟨di_nil, ?_⟩
  refine Goes.step rfl (fun _ h₁ => ?_)
  replace hF := rl hF h₁
  clear h₁
  rw [stepG_cond (t := false) rfl]
  simp only [goes_go, if_true, if_false, Bool.false_eq_true, ↓reduceIte]
  refine ⟨di_nil, ?_⟩
  refine Goes.step rfl (fun _ h₁ => ?_)
  replace hF := rl hF h₁
  clear h₁
  refine goes_exit rfl ?_
  refine ⟨di_nil, ?_⟩
  refine Goes.step rfl (fun _ h₁ => ?_)
  replace hF := rl hF h₁
  clear h₁
  rw [stepG_end]
  simp only [goes_go]
  refine ⟨di_nil, ?_⟩
  refine Goes.step rfl (fun _ h₁ => ?_)
  replace hF := rl hF h₁
  clear h₁
  rw [stepG_unwind_enter rfl Try.func64 (nm_done Try.link) rfl]
  simp only [goes_go]
  refine ⟨di_nil, ?_⟩
  walk_nrmf Try.f64
  have hA := doneP (φ := φ) (c := { b63.at ⟨#[.pointer (some ⟨φ.Wg, 0, none⟩), .pointer (some ⟨Bj, 0, none⟩), .pointer (some ⟨Bb, 0, none⟩), .pointer (some ⟨Be, 0, none⟩), v4, .chan (some φ.Ch), .tuple #[.int .i64 0, .bool false], .bool false, v8, v9, v10, v11, v12, v13, v14, v15, v16], []⟩ [] with mode := .returning }) (cs := [bot]) Try.wgLib hty hj.wg hj.ch hj.en hj.fd hj.pb hj.low rfl (quits63 _)
  simp only [body_done, doneFn, Option.getD_some] at hA
  exact (Goes.weakD di_of_dc0 (hA _ hF.live ⟨_, hF.cj⟩)).mono (by omega)
set_option maxRecDepth 100000 in
theorem child63 (J : Jobs φ n Pre Done) (hty : φ.ty = 87) (hj : Still φ Bj) (hb : Still φ Bb) (he : Still φ Be) (hF2 : Firm φ F) (hjob : JobK φ n Pre Done Bj Bb Be jf jcap F) (w : World) (hF : WK φ Bj Bb Be (.func (.func jf) #[] jcap) F w) :
  Goes Try.prog false (Frm φ own0) (DI φ own0 1) (RecvS Try.prog φ n Pre Done (An63 φ Bj Bb Be (.func (.func jf) #[] jcap) F)) 20 (born Try.prog (call63 φ Bj Bb Be)) w := by
 have rl : ∀ {own : Nat → Prop} {w w₁ : World}, WK φ Bj Bb Be (.func (.func jf) #[] jcap) F w → Frm φ own w w₁ → WK φ Bj Bb Be (.func (.func jf) #[] jcap) F w₁ := fun h r => h.rely hj hb he hF2 r
 refine Goes.step rfl (fun _ h₁ => ?_)
 replace hF := rl hF h₁
 clear h₁
 rw [born63]
 simp only [goes_go]
 refine ⟨di_nil, ?_⟩
 have hA := an63 (Be := Be) J hty hj hb he hF2 hjob
 simp only [An63, L63] at hA
 simp only [body63, Try.f63, Option.getD_some] at hA ⊢
 refine Goes.step rfl (fun _ h₁ => ?_)
 replace hF := rl hF h₁
 clear h₁
 rw [stepG_seq]
 simp only [goes_go]
 refine ⟨di_nil, ?_⟩
 refine Goes.step rfl (fun _ h₁ => ?_)
 replace hF := rl hF h₁
 clear h₁
 rw [stepG_region]
 simp only [goes_go, List.size_toArray, List.length_cons, List.length_nil, Nat.reduceAdd, Nat.zero_add, List.range, List.range.loop]
 refine ⟨di_nil, ?_⟩
 refine Goes.step rfl (fun _ h₁ => ?_)
 replace hF := rl hF h₁
 clear h₁
 rw [stepG_defer rfl rfl (by k_ne) rfl]
 simp only [goes_go]
 refine ⟨di_nil, ?_⟩
 walk_nrm
 refine Goes.step rfl (fun _ h₁ => ?_)
 replace hF := rl hF h₁
 clear h₁
 rw [stepG_region_end]
 simp only [goes_go]
 refine ⟨di_nil, ?_⟩
 refine Goes.step rfl (fun _ h₁ => ?_)
 replace hF := rl hF h₁
 clear h₁
 rw [stepG_seq]
 simp only [goes_go]
 refine ⟨di_nil, ?_⟩
 refine Goes.step rfl (fun _ h₁ => ?_)
 replace hF := rl hF h₁
 clear h₁
 rw [stepG_region]
 simp only [goes_go, List.size_toArray, List.length_cons, List.length_nil, Nat.reduceAdd, Nat.zero_add, List.range, List.range.loop]
 refine ⟨di_nil, ?_⟩
 refine Goes.step rfl (fun _ h₁ => ?_)
 replace hF := rl hF h₁
 clear h₁
 refine goes_oper_k rfl rfl (by k_ne) (fun K hK => ?_)
 have hcj := hF.cj
 go_simp
 refine hK _ _ ⟨⟨⟨_, rfl⟩, fun ex hex => ?_⟩, ?_⟩
 ·have hm := mem_listed hex
  simp [go_sem, *] at hm
  subst hm
  exact evp_read hj 0 _ _
 clear hK K
 clear hcj
 refine Goes.step rfl (fun _ h₁ => ?_)
 replace hF := rl hF h₁
 clear h₁
 rw [stepG_region_end]
 simp only [goes_go]
 refine ⟨di_nil, ?_⟩
 refine Goes.step rfl (fun _ h₁ => ?_)
 replace hF := rl hF h₁
 clear h₁
 rw [stepG_block]
 simp only [goes_go]
 refine ⟨di_nil, ?_⟩
 refine Goes.step rfl (fun _ h₁ => ?_)
 replace hF := rl hF h₁
 clear h₁
 rw [stepG_loop]
 simp only [goes_go]
 refine ⟨di_nil, ?_⟩
 exact (hA _ _ ⟨_, rfl, by simp, by simp, by simp, by simp, by simp, by simp, hF⟩).mono (by omega)
end
end Go.Pool
end
