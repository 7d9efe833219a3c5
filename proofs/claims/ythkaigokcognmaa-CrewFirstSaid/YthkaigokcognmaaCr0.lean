/-
  CREW 0: small laws of own steps: a call through a function value; 'defer close(c)'; the deferred close.
-/
import Derived.Test.YthkaigokcognmaaPool2
import Derived.Conc.TokenWalk
import Derived.Conc.DeferLaws
set_option linter.unusedSimpArgs false
namespace Go.Pool
open Go.Conc
variable {P : Program} {main : Bool} {b : Frame} {a : Act} {k : List Item} {cs : List Frame} {w : World}

theorem run_callv {o : Oper} {x : Operand} {f : FuncId} {fn : Func} {args : Array Operand} {ats : Array TypeId} {first cap : Array Value} (hop : o.op = .call { callee := .value x, args, argTypes := ats }) (hx : a.eval x = .func (.func f) first cap)
    (hf : P.funcs[f]? = some fn) (hname : (fn.name == "runtime.NumGoroutine") = false) (hb : fn.body.isNone = false) : (execOp a.eval o).run P w = .ok (.enter f (first ++ args.map a.eval ++ cap)) w := by
  have h1 : ¬ fn.name = "runtime.NumGoroutine" := by simpa using hname
  have h2 : ¬ fn.body = none := by cases hx : fn.body <;> simp_all
  unfold execOp
  simp [hop, resolve, Deferred.ofValue, hx, invoke, callFunc, hf, h1, h2]

theorem events_callv {o : Oper} {x : Operand} {f : FuncId} {fn : Func} {args : Array Operand} {ats : Array TypeId} {first cap : Array Value} (hop : o.op = .call { callee := .value x, args, argTypes := ats }) (hx : a.eval x = .func (.func f) first cap)
    (hf : P.funcs[f]? = some fn) (hname : (fn.name == "runtime.NumGoroutine") = false) (hb : fn.body.isNone = false) (es : Array Event) : (execOp a.eval o).events P w es = es := by
  have h1 : ¬ fn.name = "runtime.NumGoroutine" := by simpa using hname
  have h2 : ¬ fn.body = none := by cases hx : fn.body <;> simp_all
  unfold execOp
  simp [hop, resolve, Deferred.ofValue, hx, invoke, callFunc, hf, h1, h2]

/-- A CALL THROUGH A FUNCTION VALUE. -/
theorem goes_callv {ops : Array Oper} {i : Nat} {rest : List Nat} {o : Oper} {K : Goroutine → World → Array Event → Prop} {x : Operand} {f : FuncId} {fn : Func} {c : Code} {args : Array Operand} {ats : Array TypeId} {first cap : Array Value}
    (ho : ops[i]? = some o) (hw : Region.wanted o (yielded ops a.tmps) = true) (hk : b.kind ≠ .early) (hop : o.op = .call { callee := .value x, args, argTypes := ats }) (hx : a.eval x = .func (.func f) first cap)
    (hf : P.funcs[f]? = some fn) (hname : (fn.name == "runtime.NumGoroutine") = false) (hb : fn.body = some c)
    (h : K (Go.Conc.G ((base f).at { tmps := (first ++ args.map a.eval ++ cap) ++ Array.replicate (fn.ntmps - (first ++ args.map a.eval ++ cap).size) undef, defers := [] } [.code c]) (b.at a (.inRegion ops (i :: rest) :: k) :: cs)) w #[]) :
    (stepG P main (Go.Conc.G (b.at a (.inRegion ops (i :: rest) :: k)) cs) w).goes K := by
  have hb' : fn.body.isNone = false := by rw [hb]; rfl
  rw [stepG_enter ho hw hk (run_callv hop hx hf hname hb'), enter_at _ hf hb]
  have : listed P b.fn a o w = #[] := by unfold listed; rw [events_callv hop hx hf hname hb']; exact seen_none P _
  rw [this]
  exact h

/-- The deferred close of channel c, as the statement lays it. -/
def dclose (ats : Array TypeId) (ty : TypeId) (cst : Array Bool) (v : Value) : Deferred := { target := .builtin .close ats ty cst, args := #[v] }

theorem stepG_defer_close {ops : Array Oper} {i : Nat} {rest : List Nat} {o : Oper} {x : Operand} {ats : Array TypeId} (ho : ops[i]? = some o) (hw : Region.wanted o (yielded ops a.tmps) = true) (hk : b.kind ≠ .early)
    (hop : o.op = .defer { callee := .builtin .close, args := #[x], argTypes := ats }) :
    ∃ cst, stepG P main (Go.Conc.G (b.at a (.inRegion ops (i :: rest) :: k)) cs) w = .go (Go.Conc.G (b.at (Act.put ⟨a.tmps, dclose ats o.type cst (a.eval x) :: a.defers⟩ o.dst undef) (.inRegion ops rest :: k)) cs) w #[] := by
  have hr : ∃ cst, (execOp a.eval o).run P w = .ok (.defer (dclose ats o.type cst (a.eval x))) w := by
    unfold execOp
    simp [hop, resolve, dclose]
  obtain ⟨cst, hr⟩ := hr
  refine ⟨cst, ?_⟩
  have he : (execOp a.eval o).events P w #[] = #[] := by
    unfold execOp
    simp [hop, resolve]
  have hfin : (b.at ⟨a.tmps, dclose ats o.type cst (a.eval x) :: a.defers⟩ (.inRegion ops (i :: rest) :: k)).finish undef = b.at (Act.put ⟨a.tmps, dclose ats o.type cst (a.eval x) :: a.defers⟩ o.dst undef) (.inRegion ops rest :: k) := by rw [Frame.finish_at, ho]; rfl
  have hk' : (b.kind == CallKind.early) = false := by simpa using hk
  rw [stepG_oper ho hw, ← hfin]
  simp [stepG.apply, hr, he, Go.Conc.G, Frame.at, hk', GStep.after, seen_none]

/-- THE DEFERRED CLOSE. -/
theorem stepG_unwind_close {todo : List Item} {ds : List Deferred} {ats : Array TypeId} {ty : TypeId} {cst : Array Bool} {c cap s r : Nat} {buf : Array Value} {tm : Bool} (hd : a.defers = dclose ats ty cst (.chan (some c)) :: ds)
    (hc : w.heap[c]? = some (.chan cap buf false s r tm)) (hq : (P.funcs[b.fn]?).any (·.norace) = false) :
    stepG P main (Go.Conc.G { b.at a todo with mode := .returning } cs) w = .go (Go.Conc.G { b.at ⟨a.tmps, ds⟩ todo with mode := .returning } cs) (w.setChan c cap buf true s r tm) (clEv c) := by
  have hr : (invoke (.builtin .close ats ty cst) #[.chan (some c)]).run P w = .ok (.value (.tuple #[])) (w.setChan c cap buf true s r tm) := by
    unfold invoke
    simp [go_sem, run_close_open _ _ hc, World.setChan]
  have he : (invoke (.builtin .close ats ty cst) #[.chan (some c)]).events P w #[] = clEv c := by
    unfold invoke
    simp [go_sem, events_close_open _ _ hc, clEv]
  have hs : seen P b.fn (clEv c) = clEv c := seen_eq hq (by intro e he f; simp only [clEv, List.mem_toArray, List.mem_cons, List.not_mem_nil, or_false] at he; rcases he with rfl | rfl <;> simp)
  simp [Go.Conc.G, stepG, unwind, callDeferred, Frame.at, hd, dclose, hr, he, hs, GStep.after]

theorem mayWake_returning {g : Goroutine} (h : g.frame.mode = .returning) : mayWake P g = true := by
  unfold mayWake
  rw [h]
end Go.Pool
