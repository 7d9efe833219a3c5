/- A part of the proof of CrewDigestsUpto (no statement of its own): Priv7, Priv8, Priv9, Priv10. -/
import Derived.Test.YthkaigokcognmaaM03
import Derived.Conc.Listed
section
set_option linter.unusedSimpArgs false
namespace Go.Priv
open Go
section
variable {P : Program} {FS : List FuncId} {RF : FuncId → Tmp → Bool} {RR : FuncId → Bool} {ρ : List Nat} {f : FuncId} {o : Oper}
theorem fldB_ex {s : TypeId} {n : Nat} (h : fldB P s n = true) : ∃ fs fi, P.underlying s = some (.struct fs) ∧ fs[n]? = some fi ∧ P.cellsOf fi.type ≠ 0 := by
 unfold fldB at h
 cases h1 : P.underlying s with
 | none => rw [h1] at h; cases h
 | some d =>
  rw [h1] at h
  cases d with
  | struct fs =>
   dsimp only at h
   cases h2 : fs[n]? with
   | none => rw [h2] at h; cases h
   | some fi =>
    rw [h2] at h
    exact ⟨fs, fi, rfl, h2, by simpa using h⟩
  | _ => cases h
theorem Sim.pureV {v v' : Value} (h : VV ρ v v') (hd : Flat v ∨ dstRef (RF f) o = true) : Sim P ρ (Pure.pure (Next.value v)) (Pure.pure (Next.value v')) (NR FS RF RR f o) := Sim.pure (.value h hd)
theorem Sim.execOp {fr fr' : Frame} (h : TR (RF f) ρ fr.tmps fr'.tmps) (hFS : ∀ g ∈ FS, ∃ fn, P.funcs[g]? = some fn ∧ (fn.name == "runtime.NumGoroutine") = false ∧ fn.body.isNone = false) (hok : okOper P FS RF RR f o = true) :
  Sim P ρ (Go.execOp fr.eval o) (Go.execOp fr'.eval o) (NR FS RF RR f o) := by
 unfold okOper at hok
 unfold Go.execOp
 have mv : ∀ {x : Operand}, (xFlat (RF f) x || (xAny x && dstRef (RF f) o)) = true → Sim P ρ (Pure.pure (Next.value (fr.eval x))) (Pure.pure (Next.value (fr'.eval x))) (NR FS RF RR f o) := fun {x} hx => by
  rw [Bool.or_eq_true, Bool.and_eq_true] at hx
  rcases hx with hx | ⟨hx, hd⟩
  ·have := h.flat hx
   exact Sim.pureV (.inl this) (.inl this.1)
  ·exact Sim.pureV (h.any hx) (.inr hd)
 cases hop : o.op with
 | move x => rw [hop] at hok; exact mv hok
 | assign x => rw [hop] at hok; exact mv hok
 | pick c a b =>
  rw [hop] at hok
  simp only [Bool.and_eq_true, Bool.or_eq_true] at hok
  obtain ⟨hc, hab⟩ := hok
  refine Sim.bind (Sim.asBool (h.any hc)) ?_
  rintro ρ1 p1 _ q rfl
  rcases hab with ⟨ha, hb⟩ | ⟨⟨ha, hb⟩, hd⟩
  ·cases q with
   | true => have := h.flat ha; exact Sim.pureV (.inl this) (.inl this.1)
   | false => have := h.flat hb; exact Sim.pureV (.inl this) (.inl this.1)
  ·cases q with
   | true => exact Sim.pureV ((h.any ha).mono p1) (.inr hd)
   | false => exact Sim.pureV ((h.any hb).mono p1) (.inr hd)
 | alloc t =>
  rw [hop] at hok
  simp only [Bool.and_eq_true] at hok
  exact Sim.valR (Sim.alloc (zB_ZF hok.1)) hok.2
 | box t x =>
  rw [hop] at hok
  simp only [Bool.and_eq_true] at hok
  have := h.flat hok.1
  dsimp only
  rw [this.2]
  exact Sim.valR (Sim.box this.1) hok.2
 | build t ps =>
  rw [hop] at hok
  simp only [Bool.and_eq_true] at hok
  have := flat_parts h hok.2
  dsimp only
  rw [this.2]
  exact Sim.valF (Sim.build (zB_ZF hok.1) this.1)
 | buildSlice t n ps =>
  rw [hop] at hok
  simp only [Bool.and_eq_true] at hok
  have := flat_parts h hok.1.2
  obtain ⟨e, he, hz⟩ := slB_ex hok.1.1
  dsimp only
  rw [this.2]
  exact Sim.valR (Sim.buildSlice he hz this.1) hok.2
 | load t a =>
  rw [hop] at hok
  exact Sim.valF (Sim.loadAt (h.any hok))
 | store t a x =>
  rw [hop] at hok
  simp only [Bool.and_eq_true] at hok
  have := h.flat hok.2
  dsimp only
  rw [this.2]
  exact Sim.unit (Sim.storeAt (h.any hok.1) this.1)
 | nilCheck x =>
  rw [hop] at hok
  simp only [Bool.and_eq_true] at hok
  have hx := h.any hok.1
  dsimp only
  generalize fr.eval x = v at hx ⊢
  generalize fr'.eval x = v' at hx ⊢
  rcases hx with ⟨hf, rfl⟩ | hr
  ·cases hf <;> exact Sim.pureV (.inl ⟨by constructor <;> assumption, rfl⟩) (.inr hok.2)
  ·cases hr with
   | p0 => exact Sim.rpNil
   | p ha => exact Sim.pureV (.inr (.p ha)) (.inr hok.2)
   | trr h1 h2 => exact Sim.pureV (.inr (.trr h1 h2)) (.inr hok.2)
   | trf h1 h2 => exact Sim.pureV (.inr (.trf h1 h2)) (.inr hok.2)
   | tfr h1 h2 => exact Sim.pureV (.inr (.tfr h1 h2)) (.inr hok.2)
   | s0 n c => exact Sim.pureV (.inr (.s0 n c)) (.inr hok.2)
   | s n c ha => exact Sim.pureV (.inr (.s n c ha)) (.inr hok.2)
 | binOp op t x y yt =>
  rw [hop] at hok
  simp only [Bool.and_eq_true, Bool.or_eq_true] at hok
  rcases hok with ⟨⟨hx, hy⟩, he⟩ | ⟨⟨⟨he, hx⟩, hy⟩, ht⟩
  ·have fx := h.flat hx
   have fy := h.flat hy
   have ho : (op = .eql ∨ op = .neq) → ∃ k, P.underlying t = some (.int k) := fun e => by
    have := isEq_iff.1 e
    rw [this] at he
    simp at he
    exact intB_ex he
   dsimp only
   rw [fx.2, fy.2]
   refine Sim.valF (Sim.bind (Sim.eqGuard fx.1 fy.1 ho) ?_)
   rintro ρ1 p1 _ _ _
   exact Sim.binOp fx.1 fy.1 ho
  ·cases y with
   | const v =>
    cases v with
    | pointer a =>
     cases a with
     | some a => cases hy
     | none =>
      obtain ⟨e, hp⟩ := ptrB_ex ht
      have vx := h.any hx
      refine Sim.valF (Sim.bind (Sim.eqGuardNil vx) ?_)
      rintro ρ1 p1 _ _ _
      exact Sim.binNil hp (isEq_iff.2 he) (vx.mono p1)
    | _ => cases hy
   | _ => cases hy
 | unOp op t x =>
  rw [hop] at hok
  have := h.flat hok
  dsimp only
  rw [this.2]
  exact Sim.valF (Sim.unary this.1)
 | convert s d x =>
  rw [hop] at hok
  simp only [Bool.and_eq_true] at hok
  obtain ⟨hx, hc⟩ := hok
  have vx := h.any hx
  unfold convB at hc
  cases hs : P.underlying s with
  | none => rw [hs] at hc; cases hc
  | some sd =>
   cases hd : P.underlying d with
   | none => rw [hs, hd] at hc; cases sd <;> cases hc
   | some dd =>
    rw [hs, hd] at hc
    cases sd <;> cases dd <;> first
     | exact Sim.valF (Sim.convII hs hd vx)
     | (simp only [Bool.and_eq_true] at hc; exact Sim.valR (Sim.convSB hs hd (u8B_ex hc.1) vx) hc.2)
     | exact Sim.valF (Sim.convBS hs hd (u8B_ex hc) vx)
     | cases hc
 | makeSlice t l c =>
  rw [hop] at hok
  simp only [Bool.and_eq_true] at hok
  obtain ⟨e, he, hz⟩ := slB_ex hok.1.1.1
  exact Sim.valR (Sim.makeSlice he hz (h.any hok.1.1.2) (h.any hok.1.2)) hok.2
 | slice t x lo hi mx =>
  rw [hop] at hok
  cases mx with
  | some m => cases hok
  | none =>
   simp only [Bool.and_eq_true] at hok
   obtain ⟨⟨⟨hx, hlo⟩, hhi⟩, ht⟩ := hok
   unfold sliB at ht
   cases hu : P.underlying t with
   | none => rw [hu] at ht; cases ht
   | some d =>
    rw [hu] at ht
    cases d with
    | string => exact Sim.valF (Sim.sliceStr hu (h.any hx) (OV.of h hlo) (OV.of h hhi))
    | slice e => exact Sim.valR (Sim.sliceSl hu (h.any hx) (OV.of h hlo) (OV.of h hhi)) ht
    | _ => cases ht
 | fieldAddr s x n =>
  rw [hop] at hok
  simp only [Bool.and_eq_true] at hok
  obtain ⟨fs, fi, h1, h2, h3⟩ := fldB_ex hok.2
  exact Sim.valR (Sim.fieldAt h1 h2 h3 (h.any hok.1.1)) hok.1.2
 | indexAddr t x i =>
  rw [hop] at hok
  simp only [Bool.and_eq_true] at hok
  exact Sim.valR (Sim.indexAt (h.any hok.1.1) (h.any hok.1.2)) hok.2
 | index t x i =>
  rw [hop] at hok
  simp only [Bool.and_eq_true] at hok
  have := h.flat hok.1
  dsimp only
  rw [this.2]
  exact Sim.valF (Sim.index this.1 (h.any hok.2))
 | extract x i =>
  rw [hop] at hok
  rw [Bool.or_eq_true, Bool.and_eq_true] at hok
  rcases hok with hok | ⟨hx, hd⟩
  ·have := h.flat hok
   dsimp only
   rw [this.2]
   exact Sim.valF (Sim.extract this.1)
  ·refine Sim.bind (Sim.extractV (h.any hx)) ?_
   rintro ρ1 p1 v v' hv
   exact Sim.pure (.value hv (.inr hd))
 | call c =>
  rw [hop] at hok
  exact Sim.okCall h hFS hok
 | _ => rw [hop] at hok; cases hok
end
end Go.Priv
end
section
set_option linter.unusedSimpArgs false
namespace Go.Priv
open Go
section
variable (P : Program) (FS : List FuncId) (RF : FuncId → Tmp → Bool) (RR : FuncId → Bool)
def okCode (f : FuncId) : Code → Bool
 | .skip | .ret | .exit _ | .label _ => true
 | .seq a b => okCode f a && okCode f b
 | .region _ ops _ => ops.all (okOper P FS RF RR f)
 | .cond c a b => xAny c && okCode f a && okCode f b
 | .block _ b => okCode f b
 | .loop b => okCode f b
 | .scope b => okCode f b
 | _ => false
def okItem (f : FuncId) : Item → Bool
 | .code c => okCode P FS RF RR f c
 | .inBlock _ => true
 | .inLoop c => okCode P FS RF RR f c
 | .inScope c => okCode P FS RF RR f c
 | .inRegion ops _ => ops.all (okOper P FS RF RR f)
 | _ => false
def resB (f : FuncId) : List ResultVar → Bool
 | [] => true
 | [.tmp t] => RR f || !RF f t
 | [.cell _ _] => true
 | [.tmp t, .tmp u] => RR f || (!RF f t && !RF f u)
 | _ => false
def okFn (f : FuncId) : Bool := match P.funcs[f]? with
 | some fn => !(fn.name == "runtime.NumGoroutine") && (match fn.body with | some c => okCode P FS RF RR f c | none => false) && resB RF RR f fn.results.toList
 | none => false
def nxt (fr : Frame) (cs : List Frame) : Sem (Frame × List Frame) :=
 match fr.mode with
 | .run => match fr.todo with
  | [] => pure ({ fr with mode := .returning }, cs)
  | .code .ret :: _ => pure ({ fr with mode := .returning }, cs)
  | .code .skip :: k => pure ({ fr with todo := k }, cs)
  | .code (.label _) :: k => pure ({ fr with todo := k }, cs)
  | .inBlock _ :: k => pure ({ fr with todo := k }, cs)
  | .inScope _ :: k => pure ({ fr with todo := k }, cs)
  | .code (.seq a b) :: k => pure ({ fr with todo := .code a :: .code b :: k }, cs)
  | .code (.cond c thn els) :: k => match fr.eval c with
   | .bool b => pure ({ fr with todo := .code (if b then thn else els) :: k }, cs)
   | _ => .halt (.stuck "")
  | .code (.block id body) :: k => pure ({ fr with todo := .code body :: .inBlock id :: k }, cs)
  | .code (.loop body) :: k => pure ({ fr with todo := .code body :: .inLoop body :: k }, cs)
  | .inLoop body :: k => pure ({ fr with todo := .code body :: .inLoop body :: k }, cs)
  | .code (.scope body) :: k => pure ({ fr with todo := .code body :: .inScope body :: k }, cs)
  | .code (.exit id) :: k => match exitTo id k with
   | some k' => pure ({ fr with todo := k' }, cs)
   | none => .halt (.stuck "")
  | .code (.region id ops draw) :: k =>
   if draw then do
    let t ← choose (.order fr.fn id)
    pure ({ fr with todo := .inRegion ops (Region.schedule (P.follows .mixedOrders) ops t) :: k }, cs)
   else pure ({ fr with todo := .inRegion ops (List.range ops.size) :: k }, cs)
  | .inRegion _ [] :: k => pure ({ fr with todo := k }, cs)
  | .inRegion ops (i :: _) :: _ =>
   match ops[i]? with
   | some o => if Region.wanted o (yielded ops fr.tmps) then do
     match ← execOp fr.eval o with
     | .value v => pure (fr.finish v, cs)
     | .skip => pure (fr.finish undef, cs)
     | .enter f args => pure (Frame.enter P f args .normal, fr :: cs)
     | _ => .halt (.stuck "")
    else pure (fr.finish undef, cs)
   | none => pure (fr.finish undef, cs)
  | _ => .halt (.stuck "")
 | .returning => match P.funcs[fr.fn]?, cs with
  | some fn, c :: rest => do
   let v ← results fn fr.tmps
   pure (c.finish v, rest)
  | _, _ => .halt (.stuck "")
 | _ => .halt (.stuck "")
end
structure FK (P : Program) (FS : List FuncId) (RF : FuncId → Tmp → Bool) (RR : FuncId → Bool) (fr : Frame) : Prop where
 fs : fr.fn ∈ FS
 todo : ∀ it ∈ fr.todo, okItem P FS RF RR fr.fn it = true
 defers : fr.defers = []
 mode : fr.mode = .run ∨ fr.mode = .returning
 kind : fr.kind = .normal
 round : fr.roundOf = none
structure FR (P : Program) (FS : List FuncId) (RF : FuncId → Tmp → Bool) (RR : FuncId → Bool) (ρ : List Nat) (fr fr' : Frame) : Prop where
 k : FK P FS RF RR fr
 tm : TR (RF fr.fn) ρ fr.tmps fr'.tmps
 same : fr' = { fr with tmps := fr'.tmps }
inductive SR (P : Program) (FS : List FuncId) (RF : FuncId → Tmp → Bool) (RR : FuncId → Bool) (ρ : List Nat) : FuncId → List Frame → List Frame → Prop
 | nil {g : FuncId} : RR g = false → SR P FS RF RR ρ g [] []
 | cons {g : FuncId} {fr fr' : Frame} {l l' : List Frame} {ops : Array Oper} {i : Nat} {rest : List Nat} {kk : List Item} {o : Oper} : FR P FS RF RR ρ fr fr' → fr.mode = .run → fr.todo = .inRegion ops (i :: rest) :: kk → ops[i]? = some o → (RR g = true → dstRef (RF fr.fn) o = true) → SR P FS RF RR ρ fr.fn l l' → SR P FS RF RR ρ g (fr :: l) (fr' :: l')
section
variable {P : Program} {FS : List FuncId} {RF : FuncId → Tmp → Bool} {RR : FuncId → Bool} {ρ : List Nat}
theorem FR.mono {ρ' : List Nat} {fr fr' : Frame} (h : FR P FS RF RR ρ fr fr') (p : Pre ρ ρ') : FR P FS RF RR ρ' fr fr' := ⟨h.k, h.tm.mono p, h.same⟩
theorem SR.mono {ρ' : List Nat} {g : FuncId} {l l' : List Frame} (h : SR P FS RF RR ρ g l l') (p : Pre ρ ρ') : SR P FS RF RR ρ' g l l' := by
 induction h with
 | nil h => exact .nil h
 | cons h1 h2 h3 h4 h5 _ ih => exact .cons (h1.mono p) h2 h3 h4 h5 ih
theorem FR.turn {fr fr' : Frame} (h : FR P FS RF RR ρ fr fr') {todo : List Item} {mode : FrameMode} (ht : ∀ it ∈ todo, okItem P FS RF RR fr.fn it = true) (hm : mode = .run ∨ mode = .returning) :
  FR P FS RF RR ρ { fr with todo := todo, mode := mode } { fr' with todo := todo, mode := mode } := by
 refine ⟨⟨h.k.fs, ht, h.k.defers, hm, h.k.kind, h.k.round⟩, h.tm, ?_⟩
 have := h.same
 rw [this]
theorem TR.put {rf : Tmp → Bool} {tm tm' : Array Value} (h : TR rf ρ tm tm') {v v' : Value} (hv : VV ρ v v') {d : Tmp} (hd : Flat v ∨ rf d = true) : TR rf ρ (tm.setIfInBounds d v) (tm'.setIfInBounds d v') := by
 refine ⟨by simp [h.1], fun t x x' e e' => ?_⟩
 rw [Array.getElem?_setIfInBounds] at e e'
 by_cases hdt : d = t
 ·subst hdt
  simp only [if_true] at e e'
  split at e
  ·split at e'
   ·cases e; cases e'
    exact ⟨hv, fun hr => hd.elim id fun x => by rw [hr] at x; cases x⟩
   ·cases e'
  ·cases e
 ·simp only [hdt, if_false] at e e'
  exact h.2 t x x' e e'
theorem FR.finish {fr fr' : Frame} (h : FR P FS RF RR ρ fr fr') {ops : Array Oper} {i : Nat} {rest : List Nat} {kk : List Item} (ht : fr.todo = .inRegion ops (i :: rest) :: kk) (hm : fr.mode = .run) {v v' : Value} (hv : VV ρ v v') (hd : Flat v ∨ ∀ o, ops[i]? = some o → dstRef (RF fr.fn) o = true) :
  FR P FS RF RR ρ (fr.finish v) (fr'.finish v') ∧ (fr.finish v).fn = fr.fn := by
 have hs := h.same
 have ht' : fr'.todo = .inRegion ops (i :: rest) :: kk := by rw [hs]; exact ht
 unfold Frame.finish
 rw [ht, ht']
 refine ⟨⟨⟨h.k.fs, fun it hit => ?_, h.k.defers, .inl hm, h.k.kind, h.k.round⟩, ?_, ?_⟩, rfl⟩
 ·rcases List.mem_cons.1 hit with rfl | hit
  ·exact h.k.todo (.inRegion ops (i :: rest)) (by rw [ht]; exact List.mem_cons_self)
  ·exact h.k.todo _ (by rw [ht]; exact List.mem_cons_of_mem _ hit)
 ·dsimp only
  cases ho : ops[i]? with
  | none => exact h.tm
  | some o =>
   cases hdst : o.dst with
   | none => simp only [Option.bind_some, hdst]; exact h.tm
   | some d =>
    simp only [Option.bind_some, hdst]
    refine h.tm.put hv (hd.imp id fun x => ?_)
    have := x o ho
    unfold dstRef at this
    rw [hdst] at this
    exact this
 ·dsimp only
  rw [hs]
theorem yielded_same {rf : Tmp → Bool} {tm tm' : Array Value} (h : TR rf ρ tm tm') (ops : Array Oper) (j : Nat) : yielded ops tm' j = yielded ops tm j := by
 unfold yielded
 cases (ops[j]?).bind (·.dst) with
 | none => rfl
 | some d =>
  simp only [Option.bind_some]
  by_cases hl : d < tm.size
  ·have hl' : d < tm'.size := h.1 ▸ hl
   have := (h.2 d _ _ (Array.getElem?_eq_getElem hl) (Array.getElem?_eq_getElem hl')).1
   rw [Array.getElem?_eq_getElem hl, Array.getElem?_eq_getElem hl']
   generalize tm[d] = x at this ⊢
   generalize tm'[d] = y at this ⊢
   rcases this with ⟨_, rfl⟩ | r
   ·rfl
   ·cases r <;> rfl
  ·have hl' : ¬ d < tm'.size := h.1 ▸ hl
   rw [Array.getElem?_eq_none (Nat.le_of_not_lt hl'), Array.getElem?_eq_none (Nat.le_of_not_lt hl)]
theorem exitTo_sub {id : Nat} : ∀ {k k' : List Item}, exitTo id k = some k' → ∀ it ∈ k', it ∈ k
 | [], _, e => by cases e
 | x :: k, k', e => by
  intro it hit
  cases x <;> first
   | exact List.mem_cons_of_mem _ (exitTo_sub (by simpa [exitTo] using e) it hit)
   | skip
  rename_i id'
  unfold exitTo at e
  split at e
  ·cases e; exact List.mem_cons_of_mem _ hit
  ·exact List.mem_cons_of_mem _ (exitTo_sub e it hit)
theorem Sim.results {f : FuncId} {fn : Func} (hr : resB RF RR f fn.results.toList = true) {tm tm' : Array Value} (h : TR (RF f) ρ tm tm') : Sim P ρ (Go.results fn tm) (Go.results fn tm') fun ρ' v v' => VV ρ' v v' ∧ (Flat v ∨ RR f = true) := by
 unfold Go.results
 rw [Array.mapM_eq_mapM_toList, Array.mapM_eq_mapM_toList]
 generalize fn.results.toList = l at hr
 unfold resB at hr
 split at hr
 ·exact Sim.pure ⟨.inl ⟨.tuple (by simp), rfl⟩, .inl (.tuple (by simp))⟩
 ·rename_i t
  have := h.get t
  refine Sim.pure ⟨this.1, ?_⟩
  rw [Bool.or_eq_true] at hr
  exact hr.symm.imp (fun x => this.2 (by simpa using x)) id
 ·rename_i a t
  simp only [List.mapM_cons, List.mapM_nil]
  refine Sim.bind (Q := fun _ (a b : Array Value) => ∃ v, Flat v ∧ a = #[v] ∧ b = #[v]) ?_ ?_
  ·refine Sim.map (Q := fun _ (a b : List Value) => ∃ v, Flat v ∧ a = [v] ∧ b = [v]) ?_ fun _ _ _ _ ⟨v, hv, e, e'⟩ => ⟨v, hv, by rw [e], by rw [e']⟩
   refine Sim.bind (Q := FQ) ?_ ?_
   ·refine Sim.bind (Sim.asAddr (h.get a).1) ?_
    rintro ρ1 p1 x x' hx
    exact Sim.loadVar hx
   ·rintro ρ1 p1 _ v ⟨hv, rfl⟩
    exact Sim.pure ⟨v, hv, rfl, rfl⟩
  ·rintro ρ1 p1 _ _ ⟨v, hv, rfl, rfl⟩
   exact Sim.pure ⟨.inl ⟨hv, rfl⟩, .inl hv⟩
 ·rename_i t u
  have h1 := h.get t
  have h2 := h.get u
  refine Sim.pure ?_
  show VV ρ (.tuple #[tm.getD t undef, tm.getD u undef]) (.tuple #[tm'.getD t undef, tm'.getD u undef]) ∧ _
  have ff : Flat (tm.getD t undef) → Flat (tm.getD u undef) → Flat (.tuple #[tm.getD t undef, tm.getD u undef]) := fun f1 f2 => .tuple fun c hc => by
   simp only [List.mem_toArray, List.mem_cons, List.not_mem_nil, or_false] at hc
   rcases hc with rfl | rfl
   ·exact f1
   ·exact f2
  rw [Bool.or_eq_true, Bool.and_eq_true] at hr
  refine ⟨?_, hr.symm.imp (fun ⟨x, y⟩ => ff (h1.2 (by simpa using x)) (h2.2 (by simpa using y))) id⟩
  rcases h1.1 with ⟨f1, e1⟩ | r1
  ·rcases h2.1 with ⟨f2, e2⟩ | r2
   ·rw [e1, e2]; exact .inl ⟨ff f1 f2, rfl⟩
   ·rw [e1]; exact .inr (.tfr f1 r2)
  ·rcases h2.1 with ⟨f2, e2⟩ | r2
   ·rw [e2]; exact .inr (.trf r1 f2)
   ·exact .inr (.trr r1 r2)
 ·cases hr
end
end Go.Priv
end
section
set_option linter.unusedSimpArgs false
namespace Go.Priv
open Go
section
variable {P : Program} {FS : List FuncId} {RF : FuncId → Tmp → Bool} {RR : FuncId → Bool} {ρ : List Nat}
theorem okFn_ex {g : FuncId} (h : okFn P FS RF RR g = true) : ∃ fn c, P.funcs[g]? = some fn ∧ (fn.name == "runtime.NumGoroutine") = false ∧ fn.body = some c ∧ okCode P FS RF RR g c = true ∧ resB RF RR g fn.results.toList = true := by
 unfold okFn at h
 cases e : P.funcs[g]? with
 | none => rw [e] at h; cases h
 | some fn =>
  rw [e] at h
  simp only [Bool.and_eq_true, Bool.not_eq_true'] at h
  obtain ⟨⟨h1, h2⟩, h3⟩ := h
  cases eb : fn.body with
  | none => rw [eb] at h2; cases h2
  | some c => rw [eb] at h2; exact ⟨fn, c, rfl, h1, eb, h2, h3⟩
theorem FR.enter {g : FuncId} (hg : g ∈ FS) (hok : okFn P FS RF RR g = true) {args args' : Array Value} (ha : TR (RF g) ρ args args') : FR P FS RF RR ρ (Frame.enter P g args .normal) (Frame.enter P g args' .normal) := by
 obtain ⟨fn, c, e1, _, e3, e4, _⟩ := okFn_ex hok
 refine ⟨⟨hg, fun it hit => ?_, rfl, .inl rfl, rfl, rfl⟩, ?_, ?_⟩
 ·simp only [Frame.enter, e1, Option.bind_some, e3, Option.getD_some, List.mem_cons, List.not_mem_nil, or_false] at hit
  subst hit
  exact e4
 ·show TR (RF g) ρ (args ++ Array.replicate _ undef) (args' ++ Array.replicate _ undef)
  rw [← ha.1]
  refine ⟨by simp [ha.1], fun t v v' e e' => ?_⟩
  rw [Array.getElem?_append] at e e'
  rw [← ha.1] at e'
  split at e
  ·rename_i hl
   rw [if_pos hl] at e'
   exact ha.2 t v v' e e'
  ·rename_i hl
   rw [if_neg hl] at e'
   rw [Array.getElem?_replicate] at e e'
   split at e
   ·rename_i h2
    rw [if_pos h2] at e'
    cases e; cases e'
    exact ⟨.inl ⟨flat_undef, rfl⟩, fun _ => flat_undef⟩
   ·cases e
 ·simp only [Frame.enter]
abbrev NQ (P : Program) (FS : List FuncId) (RF : FuncId → Tmp → Bool) (RR : FuncId → Bool) (dd cc : List Frame) (ρ : List Nat) (x x' : Frame × List Frame) : Prop :=
 ∃ l l', x.2 = l ++ dd ∧ x'.2 = l' ++ cc ∧ FR P FS RF RR ρ x.1 x'.1 ∧ SR P FS RF RR ρ x.1.fn l l'
theorem Sim.nxt (hok : ∀ g ∈ FS, okFn P FS RF RR g = true) {fr fr' : Frame} {l l' dd cc : List Frame} (h : FR P FS RF RR ρ fr fr') (hs : SR P FS RF RR ρ fr.fn l l') (hne : ¬ (fr.mode = .returning ∧ l = [])) :
  Sim P ρ (nxt P fr (l ++ dd)) (nxt P fr' (l' ++ cc)) (NQ P FS RF RR dd cc) := by
 have hFS : ∀ g ∈ FS, ∃ fn, P.funcs[g]? = some fn ∧ (fn.name == "runtime.NumGoroutine") = false ∧ fn.body.isNone = false := fun g hg => by
  obtain ⟨fn, c, e1, e2, e3, _⟩ := okFn_ex (hok g hg)
  exact ⟨fn, e1, e2, by rw [e3]; rfl⟩
 have hsame := h.same
 have hmode := h.k.mode
 have htd := h.k.todo
 obtain ⟨f, tm, td, df, md, kd, rn⟩ := fr
 obtain ⟨f', tm', td', df', md', kd', rn'⟩ := fr'
 cases hsame
 dsimp only at hmode htd hs
 rcases hmode with hm | hm
 ·subst hm
  have go : ∀ todo, (∀ it ∈ todo, okItem P FS RF RR f it = true) → ∀ {ρ1 : List Nat}, Pre ρ ρ1 → Sim P ρ1 (Pure.pure ((⟨f, tm, todo, df, .run, kd, rn⟩ : Frame), l ++ dd)) (Pure.pure ((⟨f, tm', todo, df, .run, kd, rn⟩ : Frame), l' ++ cc)) (NQ P FS RF RR dd cc) := fun todo ht ρ1 p => by
   refine Sim.pure ⟨l, l', rfl, rfl, ?_, hs.mono p⟩
   exact (h.mono p).turn (todo := todo) (mode := .run) ht (.inl rfl)
  have ret : Sim P ρ (Pure.pure ((⟨f, tm, td, df, .returning, kd, rn⟩ : Frame), l ++ dd)) (Pure.pure ((⟨f, tm', td, df, .returning, kd, rn⟩ : Frame), l' ++ cc)) (NQ P FS RF RR dd cc) := by
   refine Sim.pure ⟨l, l', rfl, rfl, ?_, hs⟩
   exact h.turn (todo := td) (mode := .returning) htd (.inr rfl)
  unfold Priv.nxt
  dsimp only
  cases td with
  | nil => exact ret
  | cons x k =>
   have hx := htd x List.mem_cons_self
   have hk : ∀ it ∈ k, okItem P FS RF RR f it = true := fun it hit => htd it (List.mem_cons_of_mem _ hit)
   have cons : ∀ (y : Item) {k' : List Item}, okItem P FS RF RR f y = true → (∀ it ∈ k', okItem P FS RF RR f it = true) → ∀ it ∈ y :: k', okItem P FS RF RR f it = true := fun y k' hy hk' it hit => by
    rcases List.mem_cons.1 hit with rfl | hit
    ·exact hy
    ·exact hk' it hit
   cases x with
   | code c =>
    cases c with
    | skip => exact go k hk (Pre.refl _)
    | ret => exact ret
    | label _ => exact go k hk (Pre.refl _)
    | seq a b =>
     have hx' : okCode P FS RF RR f a = true ∧ okCode P FS RF RR f b = true := by simpa [okItem, okCode] using hx
     exact go _ (cons (.code a) hx'.1 (cons (.code b) hx'.2 hk)) (Pre.refl _)
    | cond c a b =>
     have hx' : (xAny c = true ∧ okCode P FS RF RR f a = true) ∧ okCode P FS RF RR f b = true := by simpa [okItem, okCode] using hx
     have hv := h.tm.any hx'.1.1
     dsimp only
     generalize Frame.eval _ c = v at hv ⊢
     generalize Frame.eval _ c = v' at hv ⊢
     rcases hv with ⟨hf, rfl⟩ | hr
     ·cases hf with
      | bool q =>
       cases q with
       | true => exact go _ (cons (.code a) hx'.1.2 hk) (Pre.refl _)
       | false => exact go _ (cons (.code b) hx'.2 hk) (Pre.refl _)
      | _ => exact Sim.halt rfl
     ·cases hr <;> exact Sim.halt rfl
    | block id b => exact go _ (cons (.code b) hx (cons (.inBlock id) rfl hk)) (Pre.refl _)
    | loop b => exact go _ (cons (.code b) hx (cons (.inLoop b) hx hk)) (Pre.refl _)
    | scope b => exact go _ (cons (.code b) hx (cons (.inScope b) hx hk)) (Pre.refl _)
    | exit id =>
     dsimp only
     cases he : exitTo id k with
     | none => exact Sim.halt rfl
     | some k' => exact go k' (fun it hit => hk it (exitTo_sub he it hit)) (Pre.refl _)
    | region id ops draw =>
     dsimp only
     cases draw with
     | false => exact go _ (cons (.inRegion ops (List.range ops.size)) hx hk) (Pre.refl _)
     | true =>
      simp only [if_true]
      refine Sim.bind (Sim.choose _) ?_
      rintro ρ1 p1 _ t rfl
      exact go _ (cons (.inRegion ops (Region.schedule (P.follows .mixedOrders) ops t)) hx hk) p1
    | _ => cases hx
   | inBlock _ => exact go k hk (Pre.refl _)
   | inScope _ => exact go k hk (Pre.refl _)
   | inLoop b => exact go _ (cons (.code b) hx (cons (.inLoop b) hx hk)) (Pre.refl _)
   | inRegion ops todo =>
    cases todo with
    | nil => exact go k hk (Pre.refl _)
    | cons i rest =>
     dsimp only
     have fin : ∀ {ρ1 : List Nat} {v v' : Value}, Pre ρ ρ1 → VV ρ1 v v' → (Flat v ∨ ∀ o, ops[i]? = some o → dstRef (RF f) o = true) → Sim P ρ1 (Pure.pure (Frame.finish ⟨f, tm, .inRegion ops (i :: rest) :: k, df, .run, kd, rn⟩ v, l ++ dd)) (Pure.pure (Frame.finish ⟨f, tm', .inRegion ops (i :: rest) :: k, df, .run, kd, rn⟩ v', l' ++ cc)) (NQ P FS RF RR dd cc) := fun {ρ1 v v'} p hv hd => by
      have := (h.mono p).finish rfl rfl hv hd
      exact Sim.pure ⟨l, l', rfl, rfl, this.1, by rw [this.2]; exact hs.mono p⟩
     cases ho : ops[i]? with
     | none => exact fin (Pre.refl _) (.inl ⟨flat_undef, rfl⟩) (.inl flat_undef)
     | some o =>
      have ey : yielded ops tm' = yielded ops tm := funext fun j => yielded_same h.tm ops j
      dsimp only
      rw [ey]
      split
      ·have hoo : okOper P FS RF RR f o = true := Array.all_eq_true_iff_forall_mem.1 hx o (Array.mem_of_getElem? ho)
       refine Sim.bind (Sim.execOp h.tm hFS hoo) ?_
       rintro ρ1 p1 n n' hn
       cases hn with
       | value hv hd => exact fin p1 hv (hd.imp id fun x o' e => by rw [ho] at e; cases e; exact x)
       | skip => exact fin p1 (.inl ⟨flat_undef, rfl⟩) (.inl flat_undef)
       | enter hg ha hr =>
        exact Sim.pure ⟨_ :: l, _ :: l', rfl, rfl, FR.enter hg (hok _ hg) ha, .cons (h.mono p1) rfl rfl ho hr (hs.mono p1)⟩
      ·exact fin (Pre.refl _) (.inl ⟨flat_undef, rfl⟩) (.inl flat_undef)
   | _ => cases hx
 ·subst hm
  cases hs with
  | nil _ => exact absurd ⟨rfl, rfl⟩ hne
  | cons h1 h2 h3 h4 h5 h6 =>
   obtain ⟨fn, c, e1, e2, e3, e4, e5⟩ := okFn_ex (hok _ h.k.fs)
   unfold Priv.nxt
   dsimp only [List.cons_append]
   rw [e1]
   dsimp only
   refine Sim.bind (Sim.results e5 h.tm) ?_
   rintro ρ1 p1 v v' ⟨hv, hf⟩
   have := (h1.mono p1).finish h3 h2 hv (hf.imp id fun x o e => by rw [h4] at e; cases e; exact h5 x)
   exact Sim.pure ⟨_, _, rfl, rfl, this.1, by rw [this.2]; exact h6.mono p1⟩
end
end Go.Priv
end
section
set_option linter.unusedSimpArgs false
namespace Go.Priv
open Go Go.Conc
section
variable {P : Program} {FS : List FuncId} {RF : FuncId → Tmp → Bool} {RR : FuncId → Bool} {ρ : List Nat}
abbrev gor (fr : Frame) (cs : List Frame) : Goroutine := { frame := fr, callers := cs, status := .running, dying := none }
theorem runT_choose {α : Type} {q : Question} {k : Nat → Sem α} {w : World} {es : Array Event} : (Go.choose q >>= k).runT P w es = if q.forced then (k 0).runT P w es else (k (q.cut (w.tape w.drawn q))).runT P { w with drawn := w.drawn + 1 } es := by
 show (Sem.bind (.choose q .pure) k).runT P w es = _
 simp only [Sem.bind, Sem.runT]
theorem step_go {main : Bool} {fr fr' : Frame} {cs cs' : List Frame} {w w' : World} {es : Array Event} (hd : fr.defers = []) (hk : fr.kind = .normal) (hr : fr.roundOf = none) (h : (nxt P fr cs).runT P w #[] = (.ok (fr', cs') w', es)) :
  ∃ es', stepG P main (gor fr cs) w = .go (gor fr' cs') w' es' ∧ ∀ e ∈ es', e ∈ es := by
 obtain ⟨f, tm, td, df, md, kd, rn⟩ := fr
 dsimp only at hd hk hr
 subst hd hk hr
 unfold Priv.nxt at h
 have stuck : ∀ {X : Prop}, (Sem.halt (.stuck "") : Sem (Frame × List Frame)).runT P w #[] = (.ok (fr', cs') w', es) → X := fun h => by cases h
 have pure : ∀ {x : Frame × List Frame} {X : Prop}, (Pure.pure x : Sem (Frame × List Frame)).runT P w #[] = (.ok (fr', cs') w', es) → (x = (fr', cs') → w = w' → es = #[] → X) → X := fun h k => by
  cases h; exact k rfl rfl rfl
 cases md with
 | panicking ch => exact stuck h
 | returning =>
  dsimp only at h
  cases hf : P.funcs[f]? with
  | none => rw [hf] at h; exact stuck h
  | some fn =>
   rw [hf] at h
   cases cs with
   | nil => exact stuck h
   | cons c rest =>
    dsimp only at h
    have hb : ((Go.results fn tm).bind fun v => Sem.pure (c.finish v, rest)).runT P w #[] = (.ok (fr', cs') w', es) := h
    rw [Sem.runT_bind'] at hb
    cases hres : (Go.results fn tm).runT P w #[] with
    | mk r es1 =>
     rw [hres] at hb
     cases r with
     | halt hh w1 => cases hb
     | ok v w1 =>
      cases hb
      refine ⟨seen P f es, ?_, fun e he => mem_seen he⟩
      simp [stepG, unwind, hf, hres, doReturn, GStep.after, -Sem.runT_eq]
 | run =>
  dsimp only at h
  cases td with
  | nil => exact pure h fun e e1 e2 => by cases e; cases e1; exact ⟨#[], rfl, by simp⟩
  | cons x k =>
   cases x with
   | code c =>
    cases c with
    | skip => exact pure h fun e e1 e2 => by cases e; cases e1; exact ⟨#[], rfl, by simp⟩
    | ret => exact pure h fun e e1 e2 => by cases e; cases e1; exact ⟨#[], rfl, by simp⟩
    | label _ => exact pure h fun e e1 e2 => by cases e; cases e1; exact ⟨#[], rfl, by simp⟩
    | seq a b => exact pure h fun e e1 e2 => by cases e; cases e1; exact ⟨#[], rfl, by simp⟩
    | block id b => exact pure h fun e e1 e2 => by cases e; cases e1; exact ⟨#[], rfl, by simp⟩
    | loop b => exact pure h fun e e1 e2 => by cases e; cases e1; exact ⟨#[], rfl, by simp⟩
    | scope b => exact pure h fun e e1 e2 => by cases e; cases e1; exact ⟨#[], rfl, by simp⟩
    | cond c a b =>
     dsimp only at h
     cases hv : Frame.eval ⟨f, tm, .code (.cond c a b) :: k, [], .run, .normal, none⟩ c with
     | bool q =>
      rw [hv] at h
      exact pure h fun e e1 e2 => by cases e; cases e1; exact ⟨#[], by simp [stepG, stepG.exec, hv], by simp⟩
     | _ => rw [hv] at h; exact stuck h
    | exit id =>
     dsimp only at h
     cases he : exitTo id k with
     | none => rw [he] at h; exact stuck h
     | some k' =>
      rw [he] at h
      exact pure h fun e e1 e2 => by cases e; cases e1; exact ⟨#[], by simp [stepG, stepG.exec, he], by simp⟩
    | region id ops draw =>
     dsimp only at h
     cases draw with
     | false => exact pure h fun e e1 e2 => by cases e; cases e1; exact ⟨#[], by simp [stepG, stepG.exec], by simp⟩
     | true =>
      simp only [if_true] at h
      rw [runT_choose] at h
      have hfo : Question.forced (.order f id) = false := rfl
      rw [hfo] at h
      simp only [Bool.false_eq_true, if_false] at h
      cases h
      exact ⟨#[], by simp [stepG, stepG.exec, Go.choose, Sem.run, hfo], by simp⟩
    | _ => exact stuck h
   | inBlock _ => exact pure h fun e e1 e2 => by cases e; cases e1; exact ⟨#[], rfl, by simp⟩
   | inScope _ => exact pure h fun e e1 e2 => by cases e; cases e1; exact ⟨#[], rfl, by simp⟩
   | inLoop b => exact pure h fun e e1 e2 => by cases e; cases e1; exact ⟨#[], rfl, by simp⟩
   | inRegion ops todo =>
    cases todo with
    | nil => exact pure h fun e e1 e2 => by cases e; cases e1; exact ⟨#[], rfl, by simp⟩
    | cons i rest =>
     dsimp only at h
     cases ho : ops[i]? with
     | none =>
      rw [ho] at h
      exact pure h fun e e1 e2 => by cases e; cases e1; exact ⟨#[], by simp [stepG, stepG.exec, ho], by simp⟩
     | some o =>
      rw [ho] at h
      dsimp only at h
      split at h
      ·rename_i hw
       have hb : ((execOp (Frame.eval ⟨f, tm, .inRegion ops (i :: rest) :: k, [], .run, .normal, none⟩) o).bind fun n => match n with
        | .value v => Pure.pure (Frame.finish ⟨f, tm, .inRegion ops (i :: rest) :: k, [], .run, .normal, none⟩ v, cs)
        | .skip => Pure.pure (Frame.finish ⟨f, tm, .inRegion ops (i :: rest) :: k, [], .run, .normal, none⟩ undef, cs)
        | .enter g args => Pure.pure (Frame.enter P g args .normal, ⟨f, tm, .inRegion ops (i :: rest) :: k, [], .run, .normal, none⟩ :: cs)
        | _ => Sem.halt (.stuck "")).runT P w #[] = (.ok (fr', cs') w', es) := h
       rw [Sem.runT_bind'] at hb
       cases hE : (execOp (Frame.eval ⟨f, tm, .inRegion ops (i :: rest) :: k, [], .run, .normal, none⟩) o).runT P w #[] with
       | mk r es1 =>
        rw [hE] at hb
        cases r with
        | halt hh w1 => cases hb
        | ok n w1 =>
         dsimp only at hb
         refine ⟨seen P f es, ?_, fun e he => mem_seen he⟩
         cases n <;> first | (cases hb; done) | skip
         all_goals
          cases hb
          simp [stepG, stepG.exec, stepG.oper, stepG.apply, Frame.oper?, ho, hw, hE, GStep.after, -Sem.runT_eq]
      ·rename_i hw
       exact pure h fun e e1 e2 => by cases e; cases e1; exact ⟨#[], by simp [stepG, stepG.exec, ho, hw], by simp⟩
   | _ => exact stuck h
end
end Go.Priv
end
