/- A part of the proof of CrewDigestsUpto (no statement of its own): Priv11, Priv12, Priv13, Dg1. -/
import Derived.Test.YthkaigokcognmaaM04
import Derived.Test.YthkaigokcognmaaRows
import Derived.Calls
section
set_option linter.unusedSimpArgs false
namespace Go.Priv
open Go Go.Conc
section
variable {P : Program} {FS : List FuncId} {RF : FuncId → Tmp → Bool} {RR : FuncId → Bool} {ρ : List Nat}
def Bad (P : Program) (fr : Frame) (cs : List Frame) (w : World) : Prop :=
 (∃ o w1, (stepG P true (gor fr cs) w).bare = .ended o w1) ∨ ∃ fr1 w1 ch, (stepG P true (gor fr cs) w).bare = .go (gor fr1 cs) w1 ∧ fr1.mode = .panicking ch ∧ fr1.defers = [] ∧ fr1.fn = fr.fn
def plainN : Next → Bool
 | .value _ | .skip | .enter _ _ => true
 | _ => false
theorem step_bad {fr : Frame} {cs : List Frame} {w w' : World} {hh : Halt} (hok : ∀ g ∈ FS, okFn P FS RF RR g = true) (hfr : FK P FS RF RR fr) (hcs : cs ≠ []) (h : (nxt P fr cs).run P w = .halt hh w') (hh0 : OkHalt hh = true)
  (hN : ∀ o, okOper P FS RF RR fr.fn o = true → ∀ n w1, (execOp fr.eval o).run P w = .ok n w1 → plainN n = true) : Bad P fr cs w := by
 obtain ⟨hfs, htd, hd, hm, hk, hr⟩ := hfr
 obtain ⟨fn, c, e1, e2, e3, e4, e5⟩ := okFn_ex (hok _ hfs)
 obtain ⟨f, tm, td, df, md, kd, rn⟩ := fr
 dsimp only at hd hk hr hm htd e1 hN
 subst hd hk hr
 unfold Priv.nxt at h
 rcases hm with rfl | rfl
 ·dsimp only at h
  cases td with
  | nil => cases h
  | cons x k =>
   have hx := htd x List.mem_cons_self
   cases x with
   | code c =>
    cases c with
    | cond c a b =>
     dsimp only at h
     cases hv : Frame.eval ⟨f, tm, .code (.cond c a b) :: k, [], .run, .normal, none⟩ c with
     | bool q => rw [hv] at h; cases h
     | _ => exact .inl ⟨_, _, by simp [stepG, stepG.exec, hv]; exact ⟨rfl, rfl⟩⟩
    | exit id =>
     dsimp only at h
     cases he : exitTo id k with
     | none => exact .inl ⟨_, _, by simp [stepG, stepG.exec, he]; exact ⟨rfl, rfl⟩⟩
     | some k' => rw [he] at h; cases h
    | region id ops draw =>
     dsimp only at h
     cases draw with
     | false => cases h
     | true =>
      simp only [if_true] at h
      rw [Sem.run_bind] at h
      cases h
    | _ => first | (cases h; done) | (cases hx; done)
   | inRegion ops todo =>
    cases todo with
    | nil => cases h
    | cons i rest =>
     dsimp only at h
     cases ho : ops[i]? with
     | none => rw [ho] at h; cases h
     | some o =>
      rw [ho] at h
      dsimp only at h
      split at h
      ·rename_i hw
       have hoo : okOper P FS RF RR f o = true := Array.all_eq_true_iff_forall_mem.1 hx o (Array.mem_of_getElem? ho)
       rw [Sem.run_bind] at h
       cases hE : (execOp (Frame.eval ⟨f, tm, .inRegion ops (i :: rest) :: k, [], .run, .normal, none⟩) o).run P w with
       | ok n w1 =>
        have hp := hN o hoo n w1 hE
        rw [hE] at h
        cases n <;> first | (cases hp; done) | (cases h; done)
       | halt h2 w1 =>
        rw [hE] at h
        cases h
        cases hh with
        | panic v => exact .inr ⟨⟨f, tm, .inRegion ops (i :: rest) :: k, [], .panicking [{ v, recovered := false }], .normal, none⟩, w', [{ v, recovered := false }], by simp [stepG, stepG.exec, stepG.oper, stepG.apply, Frame.oper?, ho, hw, hE, GStep.after, Frame.raise], rfl, rfl, rfl⟩
        | exit c => exact .inl ⟨_, _, by simp [stepG, stepG.exec, stepG.oper, stepG.apply, Frame.oper?, ho, hw, hE, GStep.after]; exact ⟨rfl, rfl⟩⟩
        | stuck s => exact .inl ⟨_, _, by simp [stepG, stepG.exec, stepG.oper, stepG.apply, Frame.oper?, ho, hw, hE, GStep.after]; exact ⟨rfl, rfl⟩⟩
        | unsupported u =>
         cases u with
         | initOrder g => cases hh0
         | _ => exact .inl ⟨_, _, by simp [stepG, stepG.exec, stepG.oper, stepG.apply, Frame.oper?, ho, hw, hE, GStep.after]; exact ⟨rfl, rfl⟩⟩
        | _ => cases hh0
      ·cases h
   | _ => first | (cases h; done) | (cases hx; done)
 ·dsimp only at h
  rw [e1] at h
  cases cs with
  | nil => exact absurd rfl hcs
  | cons c0 rest =>
   dsimp only at h
   rw [Sem.run_bind] at h
   cases hE : (Go.results fn tm).run P w with
   | ok v w1 => rw [hE] at h; cases h
   | halt h2 w1 =>
    left
    cases h2 <;> exact ⟨_, _, by simp [stepG, unwind, e1, hE, GStep.after]; exact ⟨rfl, rfl⟩⟩
end
end Go.Priv
end
section
set_option linter.unusedSimpArgs false
namespace Go.Priv
open Go Go.Conc
def door (P : Program) : Frame := { fn := P.funcs.size, tmps := #[], todo := [.call default false "fmt's door" #[]], defers := [], mode := .run, kind := .normal }
theorem no_row : Extern.next "fmt's door" = none := by rfl
theorem door_word : ("fmt's door".startsWith "fmt's door") = true := by decide +kernel
theorem lone_inj {fr fr' : Frame} {cs cs' : List Frame} {w w' : World} (h : lone fr cs w = lone fr' cs' w') : fr = fr' ∧ cs = cs' ∧ w = w' := by
 simp only [lone, Machine.mk.injEq] at h
 obtain ⟨h1, h2, _⟩ := h
 have h3 := congrArg (fun a : Array Goroutine => a.toList) h2
 simp only [List.cons.injEq, Goroutine.mk.injEq] at h3
 exact ⟨h3.1.1, h3.1.2.1, h1⟩
section
variable {P : Program} {FS : List FuncId} {RF : FuncId → Tmp → Bool} {RR : FuncId → Bool}
theorem steps_cases {m m' : Machine} (h : Steps P m m') : m' = m ∨ ∃ m1, step P m = .next m1 ∧ Steps P m1 m' := by
 obtain ⟨n, hn⟩ := h
 cases n with
 | zero => cases hn; exact .inl rfl
 | succ n =>
  simp only [runN] at hn
  cases hs : step P m with
  | next m1 => rw [hs] at hn; exact .inr ⟨m1, rfl, n, hn⟩
  | ended o w => rw [hs] at hn; cases hn
def Tgt (P : Program) (f : FuncId) (v0 : Value) (M : Machine) : Prop := ∃ frT wT, M = lone frT [door P] wT ∧ frT.fn = f ∧ frT.leaving P wT (.returned v0)
def Fini (P : Program) (f : FuncId) (v0 : Value) (M : Machine) : Prop := ∃ M', Steps P M M' ∧ Tgt P f v0 M'
theorem fini_next {f : FuncId} {v0 : Value} {M M1 : Machine} (h : Fini P f v0 M) (hn : ¬ Tgt P f v0 M) (hs : step P M = .next M1) : Fini P f v0 M1 := by
 obtain ⟨M', h1, h2⟩ := h
 rcases steps_cases h1 with rfl | ⟨m1, e, h3⟩
 ·exact absurd h2 hn
 ·rw [hs] at e; cases e; exact ⟨M', h3, h2⟩
theorem fini_ended {f : FuncId} {v0 : Value} {M : Machine} {o : Outcome} {w : World} (h : Fini P f v0 M) (hn : ¬ Tgt P f v0 M) (hs : step P M = .ended o w) : False := by
 obtain ⟨M', h1, h2⟩ := h
 rcases steps_cases h1 with rfl | ⟨m1, e, h3⟩
 ·exact hn h2
 ·rw [hs] at e; cases e
theorem tgt_mode {f : FuncId} {v0 : Value} {fr : Frame} {cs : List Frame} {w : World} (h : Tgt P f v0 (lone fr cs w)) : fr.mode = .returning ∧ cs = [door P] := by
 obtain ⟨frT, wT, e, _, h1, _⟩ := h
 obtain ⟨rfl, rfl, rfl⟩ := lone_inj e
 exact ⟨h1, rfl⟩
theorem panic_no {f : FuncId} {v0 : Value} : ∀ (l : List Frame) (fr : Frame) (w : World) (ch : List PanicEntry), fr.mode = .panicking ch → fr.defers = [] → (∃ fn, P.funcs[fr.fn]? = some fn) → (∀ c ∈ l, c.defers = [] ∧ c.mode = .run ∧ ∃ fn, P.funcs[c.fn]? = some fn) → ¬ Fini P f v0 (lone fr (l ++ [door P]) w)
 | [], fr, w, ch, hm, hd, ⟨fn, hf⟩, _, h => by
  have hnt : ¬ Tgt P f v0 (lone fr ([] ++ [door P]) w) := fun x => by have := (tgt_mode x).1; rw [hm] at this; cases this
  have hs : step P (lone fr ([] ++ [door P]) w) = .next (lone ((door P).raise ch) [] w) :=
   step_lone_go (by simp [stepG, unwind, hm, hd, Frame.catches, hf])
  have h1 := fini_next h hnt hs
  have hnt2 : ¬ Tgt P f v0 (lone ((door P).raise ch) [] w) := fun x => by have := (tgt_mode x).2; cases this
  have hcat : ((door P).raise ch).catches P = true := by
   show (match P.funcs[P.funcs.size]?, [Item.call default false "fmt's door" #[]] with
    | none, .call _ _ resume _ :: _ => resume.startsWith "fmt's door"
    | _, _ => false) = true
   rw [Array.getElem?_eq_none (Nat.le_refl _)]
   exact door_word
  have hm2 : ((door P).raise ch).mode = .panicking ch := rfl
  have hd2 : ((door P).raise ch).defers = [] := rfl
  have : ∃ o w2, step P (lone ((door P).raise ch) [] w) = .ended o w2 := ⟨_, _, step_lone_ended (by simp only [stepG, hm2, unwind, hd2, hcat, if_true]; rfl)⟩
  obtain ⟨o, w2, e'⟩ := this
  exact fini_ended h1 hnt2 e'
 | c :: l, fr, w, ch, hm, hd, ⟨fn, hf⟩, hl, h => by
  have hnt : ¬ Tgt P f v0 (lone fr (c :: l ++ [door P]) w) := fun x => by have := (tgt_mode x).1; rw [hm] at this; cases this
  have hs : step P (lone fr (c :: l ++ [door P]) w) = .next (lone (c.raise ch) (l ++ [door P]) w) :=
   step_lone_go (by simp [stepG, unwind, hm, hd, Frame.catches, hf])
  obtain ⟨h1, h2, h3⟩ := hl c (by simp)
  have hr : c.raise ch = { c with mode := .panicking ch } := by unfold Frame.raise; rw [h2]
  refine panic_no l (c.raise ch) w ch (by rw [hr]) (by rw [hr]; exact h1) (by rw [hr]; exact h3) (fun x hx => hl x (by simp [hx])) (fini_next h hnt hs)
theorem ret_is {f : FuncId} {v0 : Value} {fr : Frame} {w : World} {fn : Func} (hm : fr.mode = .returning) (hd : fr.defers = []) (hk : fr.kind = .normal) (hf : P.funcs[fr.fn]? = some fn) (h : Fini P f v0 (lone fr [door P] w)) : (results fn fr.tmps).run P w = .ok v0 w := by
 obtain ⟨M', h1, h2⟩ := h
 rcases steps_cases h1 with rfl | ⟨m1, e, h3⟩
 ·obtain ⟨frT, wT, e, _, _, _, _, fn', hf', hr⟩ := h2
  obtain ⟨rfl, _, rfl⟩ := lone_inj e
  rw [hf] at hf'; cases hf'
  exact hr
 ·exfalso
  cases hres : (results fn fr.tmps).run P w with
  | halt hh w1 =>
   have : ∃ o w2, step P (lone fr [door P] w) = .ended o w2 := by
    cases hh <;> exact ⟨_, _, step_lone_ended (by simp [stepG, unwind, hm, hd, hf, hres, GStep.after]; exact ⟨rfl, rfl⟩)⟩
   obtain ⟨o, w2, e'⟩ := this
   rw [e'] at e; cases e
  | ok v w1 =>
   have hs : step P (lone fr [door P] w) = .next (lone ((door P).finish v) [] w1) :=
    step_lone_go (by simp [stepG, unwind, hm, hd, hf, hres, GStep.after, doReturn, hk])
   rw [hs] at e; cases e
   have hnt2 : ¬ Tgt P f v0 (lone ((door P).finish v) [] w1) := fun x => by have := (tgt_mode x).2; cases this
   have : ∃ o w2, step P (lone ((door P).finish v) [] w1) = .ended o w2 := ⟨_, _, step_lone_ended (by
    show (stepG P true { frame := { door P with todo := [.extern "fmt's door" (#[].push v)] }, callers := [], status := .running, dying := none } w1).bare = _
    simp only [stepG, door, stepG.exec, no_row]
    rfl)⟩
   obtain ⟨o, w2, e'⟩ := this
   exact fini_ended ⟨M', h3, h2⟩ hnt2 e'
end
end Go.Priv
end
section
set_option linter.unusedSimpArgs false
namespace Go.Priv
open Go Go.Conc
structure St where
 fr : Frame
 l : List Frame
 h : Array Obj
 m : Nat
 τ : Nat → Question → Nat
section
variable (P : Program) (FS : List FuncId) (RF : FuncId → Tmp → Bool) (RR : FuncId → Bool)
inductive Reach (f : FuncId) (args : Array Value) (τ : Nat → Question → Nat) : Frame → List Frame → Array Obj → Nat → Nat → Prop
 | start : Reach f args τ (Frame.enter P f args .normal) [] #[] 0 0
 | step {fr fr' : Frame} {l l' : List Frame} {h h' : Array Obj} {m k i : Nat} : Reach f args τ fr l h m i → FK P FS RF RR fr → Runs P (nxt P fr (l ++ [door P])) h τ m (fr', l' ++ [door P]) h' k → Reach f args τ fr' l' h' (m + k) (i + 1)
def Succ (z' z : St) : Prop := FK P FS RF RR z.fr ∧ (∀ j q, j < z.m → z'.τ j q = z.τ j q) ∧ ∃ k, z'.m = z.m + k ∧ Runs P (nxt P z.fr (z.l ++ [door P])) z.h z'.τ z.m (z'.fr, z'.l ++ [door P]) z'.h k
end
section
variable {P : Program} {FS : List FuncId} {RF : FuncId → Tmp → Bool} {RR : FuncId → Bool} {f : FuncId} {args : Array Value} {v0 : Value}
theorem Runs.tape {α : Type} {s : Sem α} {h : Array Obj} {τ τ' : Nat → Question → Nat} {m : Nat} {a : α} {h2 : Array Obj} {k : Nat} (r : Runs P s h τ m a h2 k) (e : ∀ j q, m ≤ j → j < m + k → τ' j q = τ j q) : Runs P s h τ' m a h2 k :=
 fun τ2 h2 => r τ2 fun j q h3 h4 => (h2 j q h3 h4).trans (e j q h3 h4)
theorem Reach.tape {τ τ' : Nat → Question → Nat} {fr : Frame} {l : List Frame} {h : Array Obj} {m i : Nat} (r : Reach P FS RF RR f args τ fr l h m i) : (∀ j q, j < m → τ' j q = τ j q) → Reach P FS RF RR f args τ' fr l h m i := by
 induction r with
 | start => exact fun _ => .start
 | step _ hk hr ih => exact fun e => .step (ih fun j q hj => e j q (by omega)) hk (Runs.tape hr fun j q _ hj => e j q hj)
theorem runs_step {fr fr' : Frame} {cs cs' : List Frame} {h h' : Array Obj} {τ : Nat → Question → Nat} {m k : Nat} (hk : FK P FS RF RR fr) (r : Runs P (nxt P fr cs) h τ m (fr', cs') h' k) : step P (lone fr cs (lw h τ m)) = .next (lone fr' cs' (lw h' τ (m + k))) := by
 have h1 := r.self
 have h2 := Sem.runT_fst P (nxt P fr cs) (lw h τ m) #[]
 cases hT : (nxt P fr cs).runT P (lw h τ m) #[] with
 | mk res es =>
  rw [hT] at h2
  dsimp only at h2
  rw [h1] at h2
  subst h2
  obtain ⟨es', e, _⟩ := step_go (main := true) hk.defers hk.kind hk.round hT
  exact step_lone_go (by rw [show stepG P true { frame := fr, callers := cs, status := .running, dying := none } (lw h τ m) = _ from e]; rfl)
theorem not_tgt {fr fr' : Frame} {l l' : List Frame} {h h' : Array Obj} {τ : Nat → Question → Nat} {m k : Nat} (r : Runs P (nxt P fr (l ++ [door P])) h τ m (fr', l' ++ [door P]) h' k) {w : World} : ¬ Tgt P f v0 (lone fr (l ++ [door P]) w) := by
 intro x
 obtain ⟨h1, h2⟩ := tgt_mode x
 have hl : l = [] := by
  cases l with
  | nil => rfl
  | cons c l => have := congrArg List.length h2; simp at this
 subst hl
 have e := r.self
 unfold Priv.nxt at e
 rw [h1] at e
 dsimp only [List.nil_append] at e
 cases hf : P.funcs[fr.fn]? with
 | none => rw [hf] at e; cases e
 | some fn =>
  rw [hf] at e
  dsimp only at e
  rw [Sem.run_bind] at e
  cases hres : (results fn fr.tmps).run P (lw h τ m) with
  | halt hh w1 => rw [hres] at e; cases e
  | ok v w1 =>
   rw [hres] at e
   have e1 := (Result.ok.inj e).1
   have e2 := congrArg Prod.snd e1
   have := congrArg List.length e2
   simp at this
theorem reach_fini {τ : Nat → Question → Nat} {fr : Frame} {l : List Frame} {h : Array Obj} {m i : Nat} (r : Reach P FS RF RR f args τ fr l h m i) (h0 : Fini P f v0 (lone (Frame.enter P f args .normal) [door P] (lw #[] τ 0))) : Fini P f v0 (lone fr (l ++ [door P]) (lw h τ m)) := by
 induction r with
 | start => exact h0
 | step _ hk hr ih => exact fini_next ih (not_tgt hr) (runs_step hk hr)
theorem reach_run {τ : Nat → Question → Nat} {fr : Frame} {l : List Frame} {h : Array Obj} {m i : Nat} (r : Reach P FS RF RR f args τ fr l h m i) : runN P i (lone (Frame.enter P f args .normal) [door P] (lw #[] τ 0)) = .next (lone fr (l ++ [door P]) (lw h τ m)) := by
 induction r with
 | start => rfl
 | step _ hk hr ih =>
  rw [runN_add, ih]
  simp only [runN, runs_step hk hr]
theorem acc_of (hstart : ∀ τ, Fini P f v0 (lone (Frame.enter P f args .normal) [door P] (lw #[] τ 0))) (z : St) {i0 : Nat} (hz : Reach P FS RF RR f args z.τ z.fr z.l z.h z.m i0) : Acc (Succ P FS RF RR) z := by
 apply Classical.byContradiction
 intro hna
 have nxt1 : ∀ z : { z : St // ¬ Acc (Succ P FS RF RR) z }, ∃ z' : { z : St // ¬ Acc (Succ P FS RF RR) z }, Succ P FS RF RR z'.1 z.1 := fun z => by
  apply Classical.byContradiction
  intro hno
  exact z.2 ⟨z.1, fun y hy => Classical.byContradiction fun hy' => hno ⟨⟨y, hy'⟩, hy⟩⟩
 let c : Nat → { z : St // ¬ Acc (Succ P FS RF RR) z } := fun n => Nat.rec ⟨z, hna⟩ (fun _ z => Classical.choose (nxt1 z)) n
 have hc : ∀ n, Succ P FS RF RR (c (n + 1)).1 (c n).1 := fun n => Classical.choose_spec (nxt1 (c n))
 have hm : ∀ n, (c n).1.m ≤ (c (n + 1)).1.m := fun n => by obtain ⟨_, _, k, e, _⟩ := hc n; omega
 have hmm : ∀ n d, (c n).1.m ≤ (c (n + d)).1.m := fun n d => by
  induction d with
  | zero => exact Nat.le_refl _
  | succ d ih => exact Nat.le_trans ih (hm (n + d))
 have hτ : ∀ n d j q, j < (c n).1.m → (c (n + d)).1.τ j q = (c n).1.τ j q := fun n d => by
  induction d with
  | zero => exact fun _ _ _ => rfl
  | succ d ih =>
   intro j q hj
   have := (hc (n + d)).2.1 j q (Nat.lt_of_lt_of_le hj (hmm n d))
   exact this.trans (ih j q hj)
 let T : Nat → Question → Nat := fun j q => @dite Nat (∃ n, j < (c n).1.m) (Classical.propDecidable _) (fun hx => (c (Classical.choose hx)).1.τ j q) fun _ => 0
 have hT : ∀ n j q, j < (c n).1.m → T j q = (c n).1.τ j q := fun n j q hj => by
  have hx : ∃ n, j < (c n).1.m := ⟨n, hj⟩
  have h1 := Classical.choose_spec hx
  have h2 : T j q = (c (Classical.choose hx)).1.τ j q := dif_pos hx
  rw [h2]
  rcases Nat.le_total (Classical.choose hx) n with h | h
  ·obtain ⟨d, rfl⟩ := Nat.exists_eq_add_of_le h
   exact (hτ _ d j q h1).symm
  ·obtain ⟨d, hd⟩ := Nat.exists_eq_add_of_le h
   rw [hd]
   exact hτ n d j q hj
 have hR : ∀ n, Reach P FS RF RR f args T (c n).1.fr (c n).1.l (c n).1.h (c n).1.m (i0 + n) := fun n => by
  induction n with
  | zero => exact Reach.tape hz fun j q hj => hT 0 j q hj
  | succ n ih =>
   obtain ⟨hk, _, k, e, hr⟩ := hc n
   rw [e]
   exact .step ih hk (Runs.tape hr fun j q _ hj => hT (n + 1) j q (by omega))
 have hrun : ∀ n, ∃ fr l w, runN P n (lone (Frame.enter P f args .normal) [door P] (lw #[] T 0)) = .next (lone fr (l ++ [door P]) w) ∧ ¬ Tgt P f v0 (lone fr (l ++ [door P]) w) := by
  have pre : ∀ {fr : Frame} {l : List Frame} {h : Array Obj} {m i : Nat}, Reach P FS RF RR f args T fr l h m i → ∀ n, n < i → ∃ fr l w, runN P n (lone (Frame.enter P f args .normal) [door P] (lw #[] T 0)) = .next (lone fr (l ++ [door P]) w) ∧ ¬ Tgt P f v0 (lone fr (l ++ [door P]) w) := fun {fr l h m i} r => by
   induction r with
   | start => exact fun n hn => absurd hn (Nat.not_lt_zero n)
   | step r1 hk hr ih =>
    intro n hn
    rcases Nat.lt_or_eq_of_le (Nat.le_of_lt_succ hn) with h | rfl
    ·exact ih n h
    ·exact ⟨_, _, _, reach_run r1, not_tgt hr⟩
  exact fun n => pre (hR (n + 1)) n (by omega)
 obtain ⟨M', ⟨n, hn⟩, ht⟩ := hstart T
 obtain ⟨fr, l, w, e, hnt⟩ := hrun n
 rw [hn] at e
 cases e
 exact hnt ht
structure Chg (ρ ρ' : List Nat) (w w' : World) (es : Array Event) : Prop where
 grow : ∃ n : Nat, ρ' = ρ ++ List.range' w.heap.size n ∧ w'.heap.size = w.heap.size + n
 block : ∀ b, b < w.heap.size → b ∉ ρ → w'.heap[b]? = w.heap[b]?
 os : w'.os = w.os
 tape : w'.tape = w.tape
 output : w'.output = w.output
 ev : ∀ e ∈ es, Own ρ' e
theorem priv {main : Bool} {K : List Nat → Goroutine → World → Prop} {Rly : List Nat → World → World → Prop} (hok : ∀ g ∈ FS, okFn P FS RF RR g = true) (hf : f ∈ FS) (hRR : RR f = false) (hargs : ∀ a ∈ args, Flat a) (hv0 : Flat v0)
  (hcall : ∀ w, Calls P f args w fun e _ => e = .returned v0)
  (hR : ∀ ρ w w₁, Rly ρ w w₁ → ∀ b ∈ ρ, w₁.heap[b]? = w.heap[b]?)
  (hK : ∀ ρ (fr : Frame) (cs : List Frame) w, (∀ w₁, Rly ρ w w₁ → ∃ fr' cs' w' es ρ', stepG P main (gor fr cs) w₁ = .go (gor fr' cs') w' es ∧ Chg ρ ρ' w₁ w' es ∧ K ρ' (gor fr' cs') w') → K ρ (gor fr cs) w)
  {c₀ : Frame} {cs₀ : List Frame} (hend : ∀ ρ w, K ρ (gor (c₀.finish v0) cs₀) w) (w : World) : K [] (gor (Frame.enter P f args .normal) (c₀ :: cs₀)) w := by
 have hstart : ∀ τ, Fini P f v0 (lone (Frame.enter P f args .normal) [door P] (lw #[] τ 0)) := fun τ => by
  obtain ⟨e, w', fr, rfl, h1, h2, h3⟩ := hcall (lw #[] τ 0) [door P]
  exact ⟨_, h1, fr, w', rfl, h2, h3⟩
 have hT0 : TR (RF f) [] args args := ⟨rfl, fun t v v' e e' => by
  rw [e] at e'; cases e'
  have := hargs v (Array.mem_of_getElem? e)
  exact ⟨.inl ⟨this, rfl⟩, fun _ => this⟩⟩
 have hFR0 : FR P FS RF RR [] (Frame.enter P f args .normal) (Frame.enter P f args .normal) := FR.enter hf (hok f hf) hT0
 have hFS : ∀ g ∈ FS, ∃ fn, P.funcs[g]? = some fn ∧ (fn.name == "runtime.NumGoroutine") = false ∧ fn.body.isNone = false := fun g hg => by
  obtain ⟨fn, c, e1, e2, e3, _⟩ := okFn_ex (hok g hg)
  exact ⟨fn, e1, e2, by rw [e3]; rfl⟩
 have main1 : ∀ z : St, Acc (Succ P FS RF RR) z → ∀ i, Reach P FS RF RR f args z.τ z.fr z.l z.h z.m i → ∀ (ρ : List Nat) (fr₂ : Frame) (l₂ : List Frame) (w₂ : World), HR ρ z.h w₂.heap → FR P FS RF RR ρ z.fr fr₂ → SR P FS RF RR ρ z.fr.fn z.l l₂ → K ρ (gor fr₂ (l₂ ++ c₀ :: cs₀)) w₂ := by
  intro z hz
  induction hz with
  | intro z _ ih =>
  intro i hr ρ fr₂ l₂ w₂ hH hF hS
  refine hK ρ fr₂ (l₂ ++ c₀ :: cs₀) w₂ fun w₁ h₁ => ?_
  have hH1 := hH.keep (hR ρ w₂ w₁ h₁)
  obtain ⟨τ', hτ'⟩ : ∃ τ' : Nat → Question → Nat, τ' = fun j q => if j < z.m then z.τ j q else w₁.tape (w₁.drawn + (j - z.m)) q := ⟨_, rfl⟩
  have hτ : ∀ j q, j < z.m → τ' j q = z.τ j q := fun j q hj => by rw [hτ']; simp only [hj, if_true]
  have hag : ∀ j q, w₁.tape (w₁.drawn + j) q = τ' (z.m + j) q := fun j q => by
   rw [hτ']
   simp only [show ¬ z.m + j < z.m by omega, if_false, Nat.add_sub_cancel_left]
  clear hτ'
  have hr' := Reach.tape hr hτ
  have hfin := reach_fini hr' (hstart τ')
  have hs2 := hF.same
  have hd2 : fr₂.defers = [] := by rw [hs2]; exact hF.k.defers
  have hk2 : fr₂.kind = .normal := by rw [hs2]; exact hF.k.kind
  have hr2 : fr₂.roundOf = none := by rw [hs2]; exact hF.k.round
  have hm2 : fr₂.mode = z.fr.mode := by rw [hs2]
  have hf2 : fr₂.fn = z.fr.fn := by rw [hs2]
  by_cases hne : z.fr.mode = .returning ∧ z.l = []
  ·obtain ⟨hm, hl⟩ := hne
   rw [hl] at hS hfin
   cases hS with
   | nil hrr =>
   obtain ⟨fn, c, e1, e2, e3, e4, e5⟩ := okFn_ex (hok _ hF.k.fs)
   have hret := ret_is hm hF.k.defers hF.k.kind e1 hfin
   rcases Sim.results e5 hF.tm z.h τ' z.m w₁ hH1 hag with ⟨hh, v, e, _⟩ | ⟨v, h2, k, e, hc⟩
   ·rw [hret] at e; cases e
   ·have e' := e.self
    rw [hret] at e'
    have ev := (Result.ok.inj e').1
    obtain ⟨v', w', es, ρ', r, hA, hv, _⟩ := hc #[]
    have hv' : v' = v0 := by rw [ev]; exact hv.flat (by rw [← ev]; exact hv0)
    have hn : (nxt P fr₂ ([] ++ c₀ :: cs₀)).runT P w₁ #[] = (.ok (c₀.finish v', cs₀) w', #[] ++ es) := by
     unfold Priv.nxt
     rw [hm2, hm, hf2]
     dsimp only [List.nil_append]
     rw [e1]
     show (Sem.bind _ _).runT P w₁ #[] = _
     rw [Sem.runT_bind', r]
     rfl
    obtain ⟨es', g, hs⟩ := step_go (main := main) hd2 hk2 hr2 hn
    exact ⟨_, _, w', es', ρ', g, ⟨hA.grow, hA.block, hA.os, hA.tape, hA.output, fun e he => hA.ev e (by simpa using hs e he)⟩, by rw [hv']; exact hend ρ' w'⟩
  ·have hnt : ∀ w, ¬ Tgt P f v0 (lone z.fr (z.l ++ [door P]) w) := fun w x => by
    obtain ⟨h1, h2⟩ := tgt_mode x
    refine hne ⟨h1, ?_⟩
    cases hl : z.l with
    | nil => rfl
    | cons c l => rw [hl] at h2; have := congrArg List.length h2; simp at this
   rcases Sim.nxt (dd := [door P]) (cc := c₀ :: cs₀) hok hF hS hne z.h τ' z.m w₁ hH1 hag with ⟨hh, v, e, ho⟩ | ⟨⟨fr', cs'⟩, h2, k, e, hc⟩
   ·exfalso
    have hb : Bad P z.fr (z.l ++ [door P]) (lw z.h τ' z.m) := step_bad hok hF.k (by simp) e ho fun o hoo n w1 hn => by
     rcases Sim.execOp hF.tm hFS hoo z.h τ' z.m w₁ hH1 hag with ⟨hh, v, e, _⟩ | ⟨n2, h2, k, e, hc⟩
     ·rw [hn] at e; cases e
     ·have e' := e.self
      rw [hn] at e'
      obtain ⟨rfl, _⟩ := Result.ok.inj e'
      obtain ⟨n', w', es, ρ', _, _, hq⟩ := hc #[]
      cases hq <;> rfl
    have hcl : ∀ {ρ : List Nat} {g : FuncId} {l l' : List Frame}, SR P FS RF RR ρ g l l' → ∀ c ∈ l, c.defers = [] ∧ c.mode = .run ∧ ∃ fn, P.funcs[c.fn]? = some fn := fun {ρ g l l'} h => by
     induction h with
     | nil _ => exact fun c hc => by simp at hc
     | cons h1 h2 _ _ _ _ ih =>
      intro c hc
      rcases List.mem_cons.1 hc with rfl | hc
      ·obtain ⟨fn, e1, _⟩ := hFS _ h1.k.fs
       exact ⟨h1.k.defers, h2, fn, e1⟩
      ·exact ih c hc
    rcases hb with ⟨o, w1, hb⟩ | ⟨fr1, w1, ch, hb, hm1, hd1, hf1⟩
    ·exact fini_ended hfin (hnt _) (step_lone_ended hb)
    ·obtain ⟨fn, e1, _⟩ := hFS _ hF.k.fs
     exact panic_no z.l fr1 w1 ch hm1 hd1 ⟨fn, by rw [hf1]; exact e1⟩ (hcl hS) (fini_next hfin (hnt _) (step_lone_go hb))
   ·obtain ⟨⟨fr₂', cs₂'⟩, w', es, ρ', r, hA, l1, l1', q1, q2, hF', hS'⟩ := hc #[]
    dsimp only at q1 q2 hF' hS'
    subst q1 q2
    obtain ⟨es', g, hs⟩ := step_go (main := main) hd2 hk2 hr2 r
    refine ⟨fr₂', l1' ++ c₀ :: cs₀, w', es', ρ', g, ⟨hA.grow, hA.block, hA.os, hA.tape, hA.output, fun e he => hA.ev e (by simpa using hs e he)⟩, ?_⟩
    exact ih ⟨fr', l1, h2, z.m + k, τ'⟩ ⟨hF.k, hτ, k, rfl, e⟩ (i + 1) (.step hr' hF.k e) ρ' fr₂' l1' w' hA.hr hF' hS'
 exact main1 ⟨Frame.enter P f args .normal, [], #[], 0, fun _ _ => 0⟩ (acc_of hstart _ .start) 0 .start [] (Frame.enter P f args .normal) [] w ⟨rfl, List.nodup_nil, fun i b e => by simp at e⟩ hFR0 (.nil hRR)
#print axioms priv
end
end Go.Priv
end
section
namespace Go.Dig
open Go Go.Priv Go.Proofs
def FS : List FuncId := [54, 21, 13, 17, 18, 20, 23, 42, 43, 44, 45, 60, 58, 59, 22, 15, 26, 40, 41, 57, 69]
def refs : List (Nat × List Nat) := [(54, [1, 6, 8]), (21, [12]), (13, [3, 4, 5, 8]), (17, [0, 3]), (18, [0, 4, 7, 8, 9, 14, 15, 16, 17, 18, 25, 26, 27, 28, 33, 34, 37, 40, 41]), (20, [0, 3, 5, 7, 10, 13, 14, 15, 17, 18, 19, 20, 21, 25, 26, 27, 32, 33, 34, 35, 41, 42, 43, 44, 45, 48, 54, 58, 65, 77, 78, 80]), (23, [3, 8, 14, 25, 26, 28]), (42, [0]), (43, [0, 3, 6, 7, 8]), (44, [2, 4, 5, 10, 57, 65, 69, 74, 87, 99, 101, 103, 105, 107, 109, 111, 113, 115, 140, 144, 194, 198]), (60, [3, 9, 10, 13, 14, 15]), (59, [0]), (22, [12]), (15, [3, 4, 5, 6, 7, 8, 10, 11]), (26, [3, 11, 22, 23, 24]), (40, [1, 2, 7, 10, 12, 14, 15, 16, 17, 18, 22, 23, 24, 29, 38, 39, 41, 46, 47, 51, 52, 53, 58, 59, 61, 65, 67, 72, 74, 79, 81, 85, 86, 87]), (41, [0, 1, 2, 3]), (57, [0, 1, 2, 6, 7, 14, 20, 26, 27, 30, 34, 38, 43, 47, 52, 56, 60, 61, 66, 69, 71, 74, 92, 93, 96, 100, 103, 109, 110, 111, 112, 113, 118, 119, 121, 122, 124, 125, 137, 138, 143, 144, 149, 151, 154, 156, 168, 169, 173, 174, 178, 179, 181, 182, 191, 192, 194, 195, 197, 198, 200, 201, 206, 207, 209, 210, 212, 213, 215, 220, 221, 223, 225, 227, 231, 232, 233])]
def RF (f : FuncId) (t : Tmp) : Bool := ((refs.lookup f).getD []).contains t
def RR (f : FuncId) : Bool := [17, 41, 57].contains f
theorem ok54 : okFn Try.prog FS RF RR 54 = true := by decide +kernel
theorem ok21 : okFn Try.prog FS RF RR 21 = true := by decide +kernel
theorem ok13 : okFn Try.prog FS RF RR 13 = true := by decide +kernel
theorem ok17 : okFn Try.prog FS RF RR 17 = true := by decide +kernel
theorem ok18 : okFn Try.prog FS RF RR 18 = true := by decide +kernel
theorem ok20 : okFn Try.prog FS RF RR 20 = true := by decide +kernel
theorem ok23 : okFn Try.prog FS RF RR 23 = true := by decide +kernel
theorem ok42 : okFn Try.prog FS RF RR 42 = true := by decide +kernel
theorem ok43 : okFn Try.prog FS RF RR 43 = true := by decide +kernel
theorem ok44 : okFn Try.prog FS RF RR 44 = true := by decide +kernel
theorem ok45 : okFn Try.prog FS RF RR 45 = true := by decide +kernel
theorem ok60 : okFn Try.prog FS RF RR 60 = true := by decide +kernel
theorem ok58 : okFn Try.prog FS RF RR 58 = true := by decide +kernel
theorem ok59 : okFn Try.prog FS RF RR 59 = true := by decide +kernel
theorem ok22 : okFn Try.prog FS RF RR 22 = true := by decide +kernel
theorem ok15 : okFn Try.prog FS RF RR 15 = true := by decide +kernel
theorem ok26 : okFn Try.prog FS RF RR 26 = true := by decide +kernel
theorem ok40 : okFn Try.prog FS RF RR 40 = true := by decide +kernel
theorem ok41 : okFn Try.prog FS RF RR 41 = true := by decide +kernel
theorem ok57 : okFn Try.prog FS RF RR 57 = true := by decide +kernel
theorem ok69 : okFn Try.prog FS RF RR 69 = true := by decide +kernel
theorem okAll : ∀ g ∈ FS, okFn Try.prog FS RF RR g = true := fun g hg => by
 simp only [FS, List.mem_cons, List.not_mem_nil, or_false] at hg
 rcases hg with rfl | rfl | rfl | rfl | rfl | rfl | rfl | rfl | rfl | rfl | rfl | rfl | rfl | rfl | rfl | rfl | rfl | rfl | rfl | rfl | rfl
 ·exact ok54
 ·exact ok21
 ·exact ok13
 ·exact ok17
 ·exact ok18
 ·exact ok20
 ·exact ok23
 ·exact ok42
 ·exact ok43
 ·exact ok44
 ·exact ok45
 ·exact ok60
 ·exact ok58
 ·exact ok59
 ·exact ok22
 ·exact ok15
 ·exact ok26
 ·exact ok40
 ·exact ok41
 ·exact ok57
 ·exact ok69
end Go.Dig
end
