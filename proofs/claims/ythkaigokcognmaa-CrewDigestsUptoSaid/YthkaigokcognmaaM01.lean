/- A part of the proof of CrewDigestsUpto (no statement of its own): Priv1, Priv2. -/
import Derived.Control
import Derived.StepT
import Derived.RunT
import Derived.Laws.Sem
import Derived.Conc.Events
section
set_option linter.unusedSimpArgs false
namespace Go.Priv
open Go
inductive Flat : Value → Prop
 | bool (b : Bool) : Flat (.bool b)
 | int (k : IntKind) (n : Int) : Flat (.int k n)
 | string (s : ByteArray) : Flat (.string s)
 | agg {cs : Array Value} : (∀ c ∈ cs, Flat c) → Flat (.agg cs)
 | tuple {cs : Array Value} : (∀ c ∈ cs, Flat c) → Flat (.tuple cs)
 | func (f : FuncId) : Flat (.func (.func f) #[] #[])
def AR (ρ : List Nat) (a a' : Addr) : Prop := ρ[a.block]? = some a'.block ∧ a'.off = a.off ∧ a'.spot = a.spot
inductive Ref (ρ : List Nat) : Value → Value → Prop
 | p0 : Ref ρ (.pointer none) (.pointer none)
 | p {a a' : Addr} : AR ρ a a' → Ref ρ (.pointer (some a)) (.pointer (some a'))
 | s0 (n c : Nat) : Ref ρ (.slice none n c) (.slice none n c)
 | s {a a' : Addr} (n c : Nat) : AR ρ a a' → Ref ρ (.slice (some a) n c) (.slice (some a') n c)
 | trr {v v' u u' : Value} : Ref ρ v v' → Ref ρ u u' → Ref ρ (.tuple #[v, u]) (.tuple #[v', u'])
 | trf {v v' u : Value} : Ref ρ v v' → Flat u → Ref ρ (.tuple #[v, u]) (.tuple #[v', u])
 | tfr {v u u' : Value} : Flat v → Ref ρ u u' → Ref ρ (.tuple #[v, u]) (.tuple #[v, u'])
def VV (ρ : List Nat) (v v' : Value) : Prop := (Flat v ∧ v' = v) ∨ Ref ρ v v'
def Pre (ρ ρ' : List Nat) : Prop := ∀ i b : Nat, ρ[i]? = some b → ρ'[i]? = some b
theorem Pre.refl (ρ : List Nat) : Pre ρ ρ := fun _ _ h => h
theorem Pre.trans {ρ ρ' ρ'' : List Nat} (h : Pre ρ ρ') (h' : Pre ρ' ρ'') : Pre ρ ρ'' := fun i b e => h' i b (h i b e)
theorem Pre.app (ρ l : List Nat) : Pre ρ (ρ ++ l) := fun i b e => by
 have hi : i < ρ.length := (List.getElem?_eq_some_iff.1 e).1
 rw [List.getElem?_append_left hi]; exact e
theorem Pre.mem {ρ ρ' : List Nat} (h : Pre ρ ρ') {b : Nat} (hb : b ∈ ρ) : b ∈ ρ' := by
 obtain ⟨i, hi, e⟩ := List.getElem_of_mem hb
 exact List.mem_of_getElem? (h i b (by rw [List.getElem?_eq_getElem hi, e]))
theorem AR.mono {ρ ρ' : List Nat} {a a' : Addr} (h : AR ρ a a') (p : Pre ρ ρ') : AR ρ' a a' := ⟨p _ _ h.1, h.2⟩
theorem Ref.mono {ρ ρ' : List Nat} {v v' : Value} (h : Ref ρ v v') (p : Pre ρ ρ') : Ref ρ' v v' := by
 induction h with
 | p0 => exact .p0
 | p h => exact .p (h.mono p)
 | s0 n c => exact .s0 n c
 | s n c h => exact .s n c (h.mono p)
 | trr _ _ h1 h2 => exact .trr h1 h2
 | trf _ h2 h1 => exact .trf h1 h2
 | tfr h1 _ h2 => exact .tfr h1 h2
theorem VV.mono {ρ ρ' : List Nat} {v v' : Value} (h : VV ρ v v') (p : Pre ρ ρ') : VV ρ' v v' := h.imp id fun x => x.mono p
theorem AR.add {ρ : List Nat} {a a' : Addr} (h : AR ρ a a') (n : Nat) : AR ρ (a.add n) (a'.add n) := by
 unfold Addr.add
 split
 ·exact h
 ·exact ⟨h.1, by simp [h.2.1], rfl⟩
structure HR (ρ : List Nat) (h h' : Array Obj) : Prop where
 size : ρ.length = h.size
 nodup : ρ.Nodup
 cells : ∀ i b : Nat, ρ[i]? = some b → ∃ (cs : Array Value) (ty : TypeId) (fz : Nat × Nat), h[i]? = some (Obj.cells cs ty fz) ∧ h'[b]? = some (Obj.cells cs ty fz) ∧ ∀ c ∈ cs, Flat c
theorem HR.lt {ρ : List Nat} {h h' : Array Obj} (H : HR ρ h h') {b : Nat} (hb : b ∈ ρ) : b < h'.size := by
 obtain ⟨i, hi, e⟩ := List.getElem_of_mem hb
 obtain ⟨_, _, _, _, h2, _⟩ := H.cells i b (by rw [List.getElem?_eq_getElem hi, e])
 exact (Array.getElem?_eq_some_iff.1 h2).1
theorem HR.keep {ρ : List Nat} {h h' h'' : Array Obj} (H : HR ρ h h') (e : ∀ b ∈ ρ, h''[b]? = h'[b]?) : HR ρ h h'' :=
 ⟨H.size, H.nodup, fun i b hb => let ⟨cs, ty, fz, h1, h2, h3⟩ := H.cells i b hb; ⟨cs, ty, fz, h1, (e b (List.mem_of_getElem? hb)).trans h2, h3⟩⟩
def Own (ρ : List Nat) (e : Event) : Prop := (∃ a, e.loc = .cell a ∧ e.sync = false ∧ a.block ∈ ρ) ∨ e.loc = .mark .noRoom
theorem Own.mono {ρ ρ' : List Nat} {e : Event} (h : Own ρ e) (p : Pre ρ ρ') : Own ρ' e := h.imp (fun ⟨a, x, s, y⟩ => ⟨a, x, s, p.mem y⟩) id
structure After (ρ : List Nat) (w : World) (h2 : Array Obj) (k : Nat) (ρ' : List Nat) (w' : World) (es : Array Event) : Prop where
 grow : ∃ n : Nat, ρ' = ρ ++ List.range' w.heap.size n ∧ w'.heap.size = w.heap.size + n
 hr : HR ρ' h2 w'.heap
 block : ∀ b, b < w.heap.size → b ∉ ρ → w'.heap[b]? = w.heap[b]?
 os : w'.os = w.os
 tape : w'.tape = w.tape
 output : w'.output = w.output
 drawn : w'.drawn = w.drawn + k
 ev : ∀ e ∈ es, Own ρ' e
theorem After.pre {ρ : List Nat} {w : World} {h2 : Array Obj} {k : Nat} {ρ' : List Nat} {w' : World} {es : Array Event} (h : After ρ w h2 k ρ' w' es) : Pre ρ ρ' := by
 obtain ⟨n, e, _⟩ := h.grow
 rw [e]; exact Pre.app _ _
theorem After.nil {ρ : List Nat} {w : World} {h : Array Obj} (hr : HR ρ h w.heap) : After ρ w h 0 ρ w #[] :=
 ⟨⟨0, by simp, rfl⟩, hr, fun _ _ _ => rfl, rfl, rfl, rfl, rfl, by simp⟩
theorem After.trans {ρ ρ' ρ'' : List Nat} {w w' w'' : World} {h2 h3 : Array Obj} {k k' : Nat} {es es' : Array Event} (h : After ρ w h2 k ρ' w' es) (h' : After ρ' w' h3 k' ρ'' w'' es') : After ρ w h3 (k + k') ρ'' w'' (es ++ es') := by
 obtain ⟨n, e, s⟩ := h.grow
 obtain ⟨n', e', s'⟩ := h'.grow
 refine ⟨⟨n + n', ?_, by omega⟩, h'.hr, fun b hb hn => ?_, h'.os.trans h.os, h'.tape.trans h.tape, h'.output.trans h.output, by have := h.drawn; have := h'.drawn; omega, fun x hx => ?_⟩
 ·rw [e', e, s, List.append_assoc, List.range'_append_1]
 ·refine (h'.block b (by omega) fun hm => ?_).trans (h.block b hb hn)
  rw [e] at hm
  rcases List.mem_append.1 hm with hm | hm
  ·exact hn hm
  ·have := (List.mem_range'_1.1 hm).1; omega
 ·rcases Array.mem_append.1 hx with hx | hx
  ·exact (h.ev x hx).mono h'.pre
  ·exact h'.ev x hx
def lw (h : Array Obj) (τ : Nat → Question → Nat) (m : Nat) : World := { heap := h, tape := τ, drawn := m, os := default, output := #[] }
def OkHalt : Halt → Bool
 | .panic _ | .stuck _ | .exit _ => true
 | .unsupported (.initOrder _) => false
 | .unsupported _ => true
 | _ => false
def Runs (P : Program) {α : Type} (s : Sem α) (h : Array Obj) (τ : Nat → Question → Nat) (m : Nat) (a : α) (h2 : Array Obj) (k : Nat) : Prop :=
 ∀ τ' : Nat → Question → Nat, (∀ j q, m ≤ j → j < m + k → τ' j q = τ j q) → s.run P (lw h τ' m) = .ok a (lw h2 τ' (m + k))
theorem Runs.self {P : Program} {α : Type} {s : Sem α} {h : Array Obj} {τ : Nat → Question → Nat} {m : Nat} {a : α} {h2 : Array Obj} {k : Nat} (r : Runs P s h τ m a h2 k) : s.run P (lw h τ m) = .ok a (lw h2 τ (m + k)) := r τ fun _ _ _ _ => rfl
def Sim (P : Program) (ρ : List Nat) {α β : Type} (s : Sem α) (s' : Sem β) (Q : List Nat → α → β → Prop) : Prop :=
 ∀ (h : Array Obj) (τ : Nat → Question → Nat) (m : Nat) (w : World), HR ρ h w.heap → (∀ j q, w.tape (w.drawn + j) q = τ (m + j) q) →
  (∃ hh v, s.run P (lw h τ m) = .halt hh v ∧ OkHalt hh = true) ∨
  ∃ a h2 k, Runs P s h τ m a h2 k ∧ ∀ es, ∃ a' w' es' ρ', s'.runT P w es = (.ok a' w', es ++ es') ∧ After ρ w h2 k ρ' w' es' ∧ Q ρ' a a'
section
variable {P : Program} {ρ : List Nat} {α β γ δ : Type}
theorem Sim.pure {Q : List Nat → α → β → Prop} {a : α} {b : β} (h : Q ρ a b) : Sim P ρ (Pure.pure a : Sem α) (Pure.pure b : Sem β) Q :=
 fun h0 τ m w hr _ => .inr ⟨a, h0, 0, fun _ _ => rfl, fun es => ⟨b, w, #[], ρ, by simp only [Array.append_empty]; rfl, .nil hr, h⟩⟩
theorem Sim.halt {Q : List Nat → α → β → Prop} {hh : Halt} {s' : Sem β} (h : OkHalt hh = true) : Sim P ρ (Sem.halt hh : Sem α) s' Q :=
 fun _ _ _ _ _ _ => .inl ⟨hh, _, rfl, h⟩
theorem Sim.bind {Q : List Nat → α → β → Prop} {R : List Nat → γ → δ → Prop} {s : Sem α} {s' : Sem β} {f : α → Sem γ} {f' : β → Sem δ} (hs : Sim P ρ s s' Q)
  (hf : ∀ ρ', Pre ρ ρ' → ∀ a a', Q ρ' a a' → Sim P ρ' (f a) (f' a') R) : Sim P ρ (s >>= f) (s' >>= f') R := by
 intro h τ m w hr ht
 rcases hs h τ m w hr ht with ⟨hh, v, e, ho⟩ | ⟨a, h2, k, e, hc⟩
 ·exact .inl ⟨hh, v, by rw [Sem.run_bind, e]; rfl, ho⟩
 ·obtain ⟨a1, w1, es1, ρ1, _, hA1, hQ1⟩ := hc #[]
  have ht1 : ∀ j q, w1.tape (w1.drawn + j) q = τ (m + k + j) q := fun j q => by
   rw [hA1.tape, hA1.drawn, Nat.add_assoc, Nat.add_assoc]; exact ht _ _
  rcases hf ρ1 hA1.pre a a1 hQ1 h2 τ (m + k) w1 hA1.hr ht1 with ⟨hh, v, e2, ho⟩ | ⟨b, h3, k2, e2, _⟩
  ·exact .inl ⟨hh, v, by rw [Sem.run_bind, e.self]; exact e2, ho⟩
  ·refine .inr ⟨b, h3, k + k2, fun τ' hτ' => ?_, fun es => ?_⟩
   ·rw [Sem.run_bind, e τ' fun j q h1 h2 => hτ' j q h1 (by omega), ← Nat.add_assoc]
    exact e2 τ' fun j q h1 h2 => hτ' j q (by omega) (by omega)
   obtain ⟨a', w', es', ρ', r1, hA, hQ⟩ := hc es
   have ht' : ∀ j q, w'.tape (w'.drawn + j) q = τ (m + k + j) q := fun j q => by
    rw [hA.tape, hA.drawn, Nat.add_assoc, Nat.add_assoc]; exact ht _ _
   have e2s := e2.self
   rcases hf ρ' hA.pre a a' hQ h2 τ (m + k) w' hA.hr ht' with ⟨hh, v, e3, ho⟩ | ⟨b', h3', k2', e3, hc3⟩
   ·rw [e2s] at e3; cases e3
   ·have e3s := e3.self
    rw [e2s] at e3s
    have e4 := Result.ok.inj e3s
    obtain ⟨rfl, e5⟩ := e4
    have e6 : h3 = h3' := congrArg World.heap e5
    have e7 : m + k + k2 = m + k + k2' := congrArg World.drawn e5
    have e8 : k2 = k2' := by omega
    subst e6 e8
    obtain ⟨b1, w2, es2, ρ2, r2, hA2, hQ2⟩ := hc3 (es ++ es')
    refine ⟨b1, w2, es' ++ es2, ρ2, ?_, hA.trans hA2, hQ2⟩
    show (s'.bind f').runT P w es = _
    rw [Sem.runT_bind', r1, ← Array.append_assoc]
    exact r2
theorem Sim.mono {Q R : List Nat → α → β → Prop} {s : Sem α} {s' : Sem β} (hs : Sim P ρ s s' Q) (h : ∀ ρ', Pre ρ ρ' → ∀ a a', Q ρ' a a' → R ρ' a a') : Sim P ρ s s' R := by
 intro h0 τ m w hr ht
 rcases hs h0 τ m w hr ht with x | ⟨a, h2, k, e, hc⟩
 ·exact .inl x
 ·exact .inr ⟨a, h2, k, e, fun es => let ⟨a', w', es', ρ', r, hA, hQ⟩ := hc es; ⟨a', w', es', ρ', r, hA, h ρ' hA.pre a a' hQ⟩⟩
theorem Sim.map {Q : List Nat → α → β → Prop} {R : List Nat → γ → δ → Prop} {s : Sem α} {s' : Sem β} {f : α → γ} {f' : β → δ} (hs : Sim P ρ s s' Q)
  (hf : ∀ ρ', Pre ρ ρ' → ∀ a a', Q ρ' a a' → R ρ' (f a) (f' a')) : Sim P ρ (f <$> s) (f' <$> s') R :=
 Sim.bind (f := fun a => Pure.pure (f a)) (f' := fun a => Pure.pure (f' a)) hs fun ρ' p a a' h => .pure (hf ρ' p a a' h)
theorem Sim.load {a a' : Addr} (ha : AR ρ a a') : Sim P ρ (Go.load a) (Go.load a') fun _ v v' => Flat v ∧ v' = v := by
 intro h τ m w hr _
 obtain ⟨cs, ty, fz, h1, h2, h3⟩ := hr.cells _ _ ha.1
 have c1 : ∀ τ, (lw h τ m).cell? a = if a.spot.isSome then none else cs[a.off]? := fun τ => by simp [World.cell?, lw, h1]
 have c2 : w.cell? a' = if a.spot.isSome then none else cs[a.off]? := by simp [World.cell?, h2, ha.2.1, ha.2.2]
 cases hc : (if a.spot.isSome then none else cs[a.off]? : Option Value) with
 | none =>
  replace c1 := (c1 τ).trans hc
  refine .inl ⟨.stuck "load: no such cell", lw h τ m, ?_, rfl⟩
  rw [run_load, c1]
  simp [World.farLoad, World.noCell, lw, h1]
 | some v =>
  rw [hc] at c2
  have hv : v ∈ cs := by
   split at hc
   ·cases hc
   ·exact Array.mem_of_getElem? hc
  refine .inr ⟨v, h, 0, fun τ' _ => by rw [run_load, (c1 τ').trans hc]; rfl, fun es => ⟨v, w, #[⟨.cell a', false, false⟩], ρ, ?_, ⟨⟨0, by simp, rfl⟩, hr, fun _ _ _ => rfl, rfl, rfl, rfl, rfl, fun e he => ?_⟩, h3 v hv, rfl⟩⟩
  ·show (Sem.load .plain a' Sem.pure).runT P w es = _
   simp only [Sem.runT, c2]
   rfl
  ·simp only [List.mem_toArray, List.mem_cons, List.not_mem_nil, or_false] at he
   subst he
   exact .inl ⟨a', rfl, rfl, List.mem_of_getElem? ha.1⟩
theorem get_set_cells {h : Array Obj} {b : Nat} {cs : Array Value} {ty : TypeId} {fz : Nat × Nat} (hb : h[b]? = some (.cells cs ty fz)) (f : Obj → Obj) (i : Nat) : (h.modify b f)[i]? = if b = i then some (f (.cells cs ty fz)) else h[i]? := by
 rw [Array.getElem?_modify]
 split
 ·rename_i e; subst e; rw [hb]; rfl
 ·rfl
theorem HR.modify {h h' : Array Obj} (H : HR ρ h h') {i b : Nat} (hb : ρ[i]? = some b) {cs : Array Value} {ty : TypeId} {fz : Nat × Nat} (h1 : h[i]? = some (.cells cs ty fz)) (h2 : h'[b]? = some (.cells cs ty fz)) {f : Obj → Obj} {cs' : Array Value} {fz' : Nat × Nat} (hf : f (.cells cs ty fz) = .cells cs' ty fz') (hc : ∀ c ∈ cs', Flat c) : HR ρ (h.modify i f) (h'.modify b f) := by
 refine ⟨by simp [H.size], H.nodup, fun j c hj => ?_⟩
 obtain ⟨cs2, ty2, fz2, g1, g2, g3⟩ := H.cells j c hj
 rw [get_set_cells h1, get_set_cells h2, hf]
 by_cases e : i = j
 ·subst e
  rw [hb] at hj; cases hj
  simp only [if_true]
  exact ⟨cs', ty, fz', rfl, rfl, hc⟩
 ·have e' : b ≠ c := fun e' => by
   subst e'
   have l1 := (List.getElem?_eq_some_iff.1 hb).1
   exact e ((List.getElem?_inj l1 H.nodup).1 (hb.trans hj.symm))
  simp only [e, e', if_false]
  exact ⟨cs2, ty2, fz2, g1, g2, g3⟩
def nested : Value → Bool
 | .agg _ | .tuple _ => true
 | _ => false
theorem Sim.store {a a' : Addr} (ha : AR ρ a a') {v : Value} (hv : Flat v) : Sim P ρ (Go.store a v) (Go.store a' v) fun _ _ _ => True := by
 intro h τ m w hr _
 obtain ⟨cs, ty, fz, h1, h2, h3⟩ := hr.cells _ _ ha.1
 have c1 : ∀ τ, (lw h τ m).cell? a = if a.spot.isSome then none else cs[a.off]? := fun τ => by simp [World.cell?, lw, h1]
 have c2 : w.cell? a' = if a.spot.isSome then none else cs[a.off]? := by simp [World.cell?, h2, ha.2.1, ha.2.2]
 have z1 : ∀ τ, (lw h τ m).frozen? a = (decide (fz.1 ≤ a.off) && decide (a.off < fz.2)) := fun τ => by simp [World.frozen?, lw, h1]
 have z2 : w.frozen? a' = (decide (fz.1 ≤ a.off) && decide (a.off < fz.2)) := by simp [World.frozen?, h2, ha.2.1]
 by_cases hag : nested v = true
 ·refine .inl ⟨.stuck "store: not the value of one cell", lw h τ m, ?_, rfl⟩
  cases v <;> first | rfl | cases hag
 cases hc : (if a.spot.isSome then none else cs[a.off]? : Option Value) with
 | none =>
  replace c1 := (c1 τ).trans hc
  refine .inl ⟨.stuck "store: no such cell", lw h τ m, ?_, rfl⟩
  cases v <;> first | exact absurd rfl hag | (simp only [Go.store, Sem.run, c1]; simp [World.farStore, World.noCell, lw, h1])
 | some x =>
  rw [hc] at c2
  have hsp : a.spot = none := by
   cases hsp : a.spot with
   | none => rfl
   | some s => rw [hsp] at hc; cases hc
  cases hz : (decide (fz.1 ≤ a.off) && decide (a.off < fz.2)) with
  | true =>
   replace z1 := (z1 τ).trans hz
   replace c1 := (c1 τ).trans hc
   refine .inl ⟨.unsupported (.unsafePointer "a write to bytes that a string shares"), lw h τ m, ?_, rfl⟩
   cases v <;> first | exact absurd rfl hag | (simp only [Go.store, Sem.run, c1, z1, if_true])
  | false =>
   rw [hz] at z2
   refine .inr ⟨(), h.modify a.block fun | .cells c elem frozen => .cells (if a.spot.isSome then c else c.setIfInBounds a.off v) elem frozen | o => o, 0, fun τ' _ => ?_, fun es => ⟨(), w.setCell a' v, #[⟨.cell a', true, false⟩], ρ, ?_, ?_, trivial⟩⟩
   ·have c1' := (c1 τ').trans hc
    have z1' := (z1 τ').trans hz
    cases v <;> first | exact absurd rfl hag | (simp only [Go.store, Sem.run, c1', z1']; rfl)
   ·cases v <;> first | exact absurd rfl hag | (simp only [Go.store, Sem.runT, c2, z2]; rfl)
   ·have hm : HR ρ (h.modify a.block fun | .cells c elem frozen => .cells (if a.spot.isSome then c else c.setIfInBounds a.off v) elem frozen | o => o) (w.setCell a' v).heap := by
     unfold World.setCell
     rw [ha.2.1, ha.2.2]
     refine hr.modify ha.1 h1 h2 (cs' := cs.setIfInBounds a.off v) (fz' := fz) (by simp [hsp]) fun c hcm => ?_
     rcases Array.mem_or_eq_of_mem_setIfInBounds hcm with hm | rfl
     ·exact h3 c hm
     ·exact hv
    refine ⟨⟨0, by simp, by simp [World.setCell]⟩, hm, fun b hb hn => ?_, rfl, rfl, rfl, rfl, fun e he => ?_⟩
    ·have : a'.block ≠ b := fun e => hn (e ▸ List.mem_of_getElem? ha.1)
     simp [World.setCell, Array.getElem?_modify, this]
    ·simp only [List.mem_toArray, List.mem_cons, List.not_mem_nil, or_false] at he
     subst he
     exact .inl ⟨a', rfl, rfl, List.mem_of_getElem? ha.1⟩
theorem Sim.newRow {ty : TypeId} {cs : Array Value} (hc : ∀ c ∈ cs, Flat c) : Sim P ρ (Go.newRow ty cs) (Go.newRow ty cs) fun ρ' a a' => AR ρ' a a' := by
 intro h τ m w hr _
 refine .inr ⟨⟨h.size, 0, none⟩, h.push (.cells cs ty), 0, fun _ _ => rfl, fun es => ⟨⟨w.heap.size, 0, none⟩, { w with heap := w.heap.push (.cells cs ty) }, #[], ρ ++ [w.heap.size], by simp only [Array.append_empty]; rfl, ⟨⟨1, by simp [List.range'], by simp⟩, ⟨by simp [hr.size], ?_, fun i b hb => ?_⟩, fun b hb _ => ?_, rfl, rfl, rfl, rfl, by simp⟩, ?_⟩⟩
 ·refine List.nodup_append.2 ⟨hr.nodup, by simp, fun x hx y hy => ?_⟩
  simp at hy
  subst hy
  have := hr.lt hx
  omega
 ·by_cases hi : i < ρ.length
  ·rw [List.getElem?_append_left hi] at hb
   obtain ⟨c2, t2, f2, g1, g2, g3⟩ := hr.cells i b hb
   have l1 := (Array.getElem?_eq_some_iff.1 g1).1
   have l2 := (Array.getElem?_eq_some_iff.1 g2).1
   exact ⟨c2, t2, f2, by rw [Array.getElem?_push_lt l1]; rw [Array.getElem?_eq_getElem l1] at g1; exact g1, by rw [Array.getElem?_push_lt l2]; rw [Array.getElem?_eq_getElem l2] at g2; exact g2, g3⟩
  ·rw [List.getElem?_append_right (by omega)] at hb
   have hi2 : i = ρ.length := by
    have := (List.getElem?_eq_some_iff.1 hb).1
    simp at this
    omega
   subst hi2
   simp at hb
   subst hb
   exact ⟨cs, ty, (0, 0), by rw [hr.size]; simp, by simp, hc⟩
 ·exact Array.getElem?_push_lt hb |>.trans (Array.getElem?_eq_getElem hb).symm
 ·exact ⟨by show (ρ ++ [w.heap.size])[h.size]? = _; rw [← hr.size]; simp, rfl, rfl⟩
theorem Sim.shape {b b' : Nat} (hb : ρ[b]? = some b') : Sim P ρ (Go.shape b) (Go.shape b') fun _ x x' => x' = x ∧ x.isSome = true := by
 intro h τ m w hr _
 obtain ⟨cs, ty, fz, h1, h2, h3⟩ := hr.cells _ _ hb
 refine .inr ⟨some (ty, cs.size), h, 0, fun τ' _ => ?_, fun es => ⟨some (ty, cs.size), w, #[], ρ, ?_, .nil hr, rfl, rfl⟩⟩
 ·show Result.ok ((lw h τ' m).shape? b) _ = _
  simp [World.shape?, lw, h1]
 ·show (Result.ok (w.shape? b') w, es) = _
  simp [World.shape?, h2]
theorem Sim.frozen {a a' : Addr} (ha : ρ[a.block]? = some a'.block) (ho : a'.off = a.off) : Sim P ρ (Go.frozen a) (Go.frozen a') fun _ x x' => x' = x := by
 intro h τ m w hr _
 obtain ⟨cs, ty, fz, h1, h2, h3⟩ := hr.cells _ _ ha
 refine .inr ⟨(decide (fz.1 ≤ a.off) && decide (a.off < fz.2)), h, 0, fun τ' _ => ?_, fun es => ⟨(decide (fz.1 ≤ a.off) && decide (a.off < fz.2)), w, #[], ρ, ?_, .nil hr, rfl⟩⟩
 ·show Result.ok ((lw h τ' m).frozen? a) _ = _
  simp [World.frozen?, lw, h1]
 ·show (Result.ok (w.frozen? a') w, es) = _
  simp [World.frozen?, h2, ho]
theorem Sim.freeze {a a' : Addr} (ha : ρ[a.block]? = some a'.block) (ho : a'.off = a.off) (n : Nat) : Sim P ρ (Go.freeze a n) (Go.freeze a' n) fun _ _ _ => True := by
 intro h τ m w hr _
 obtain ⟨cs, ty, fz, h1, h2, h3⟩ := hr.cells _ _ ha
 by_cases hn : n = 0
 ·subst hn
  exact .inr ⟨(), h, 0, fun _ _ => rfl, fun es => ⟨(), w, #[], ρ, by simp only [Array.append_empty]; rfl, .nil hr, trivial⟩⟩
 ·refine .inr ⟨(), h.modify a.block fun | .cells c elem (lo, hi) => .cells c elem (if lo == hi then (a.off, a.off + n) else (min lo a.off, max hi (a.off + n))) | o => o, 0, fun τ' _ => ?_, fun es => ⟨(), w.freeze a' n, #[], ρ, by simp only [Array.append_empty]; rfl, ?_, trivial⟩⟩
  ·show Result.ok () ((lw h τ' m).freeze a n) = _
   simp only [World.freeze, hn, if_false]; rfl
  ·have hm : HR ρ (h.modify a.block fun | .cells c elem (lo, hi) => .cells c elem (if lo == hi then (a.off, a.off + n) else (min lo a.off, max hi (a.off + n))) | o => o) (w.freeze a' n).heap := by
    simp only [World.freeze, hn, if_false]
    rw [ho]
    exact hr.modify ha h1 h2 rfl h3
   refine ⟨⟨0, by simp, by simp [World.freeze, hn]⟩, hm, fun b hb hnm => ?_, by simp [World.freeze, hn], by simp [World.freeze, hn], by simp [World.freeze, hn], by simp [World.freeze, hn], by simp⟩
   have : a'.block ≠ b := fun e => hnm (e ▸ List.mem_of_getElem? ha)
   simp [World.freeze, hn, Array.getElem?_modify, this]
theorem Sim.choose (q : Question) : Sim P ρ (Go.choose q) (Go.choose q) fun _ x x' => x' = x := by
 intro h τ m w hr ht
 by_cases hq : q.forced = true
 ·refine .inr ⟨0, h, 0, fun τ' _ => ?_, fun es => ⟨0, w, #[], ρ, ?_, .nil hr, rfl⟩⟩
  ·simp only [Go.choose, Sem.run, hq, if_true]; rfl
  ·simp only [Go.choose, Sem.runT, hq, if_true, Array.append_empty]
 ·refine .inr ⟨q.cut (τ m q), h, 1, fun τ' hτ' => ?_, fun es => ⟨q.cut (τ m q), { w with drawn := w.drawn + 1 }, #[], ρ, ?_, ⟨⟨0, by simp, rfl⟩, hr, fun _ _ _ => rfl, rfl, rfl, rfl, rfl, by simp⟩, rfl⟩⟩
  ·rw [← hτ' m q (Nat.le_refl _) (by omega)]
   simp only [Go.choose, Sem.run, hq]; rfl
  ·have := ht 0 q
   simp only [Nat.add_zero] at this
   simp only [Go.choose, Sem.runT, hq, this, Array.append_empty]; rfl
theorem Sim.program : Sim P ρ Go.program Go.program fun _ x x' => P = x ∧ P = x' :=
 fun h τ m w hr _ => .inr ⟨P, h, 0, fun _ _ => rfl, fun es => ⟨P, w, #[], ρ, by simp only [Array.append_empty]; rfl, .nil hr, rfl, rfl⟩⟩
theorem Sim.noRoom : Sim P ρ (Go.mark .noRoom) (Go.mark .noRoom) fun _ _ _ => True :=
 fun h τ m w hr _ => .inr ⟨(), h, 0, fun _ _ => rfl, fun es => ⟨(), w, #[⟨.mark .noRoom, false, true⟩], ρ, rfl, ⟨⟨0, by simp, rfl⟩, hr, fun _ _ _ => rfl, rfl, rfl, rfl, rfl, fun e he => by simp at he; subst he; exact .inr rfl⟩, trivial⟩⟩
end
end Go.Priv
end
section
set_option linter.unusedSimpArgs false
namespace Go.Priv
open Go
abbrev FQ : List Nat → Value → Value → Prop := fun _ v v' => Flat v ∧ v' = v
abbrev RQ : List Nat → Value → Value → Prop := fun ρ v v' => Ref ρ v v'
abbrev EQ {α : Type} : List Nat → α → α → Prop := fun _ a a' => a' = a
abbrev AQ : List Nat → Array Value → Array Value → Prop := fun _ a a' => (∀ c ∈ a, Flat c) ∧ a' = a
theorem mem_extract {c : Value} {cs : Array Value} {a b : Nat} (h : c ∈ cs.extract a b) : c ∈ cs := by
 obtain ⟨i, hi, e⟩ := Array.getElem_of_mem h
 rw [Array.getElem_extract] at e
 exact e ▸ Array.getElem_mem _
theorem Flat.cells {v : Value} (h : Flat v) : ∀ c ∈ v.cells, Flat c := by
 cases h with
 | agg h => exact h
 | bool b => intro c hc; simp [Value.cells] at hc; subst hc; exact .bool b
 | int k n => intro c hc; simp [Value.cells] at hc; subst hc; exact .int k n
 | string s => intro c hc; simp [Value.cells] at hc; subst hc; exact .string s
 | tuple h => intro c hc; simp [Value.cells] at hc; subst hc; exact .tuple h
 | func f => intro c hc; simp [Value.cells] at hc; subst hc; exact .func f
section
variable {P : Program} {ρ : List Nat} {α β : Type} {Q : List Nat → α → β → Prop}
theorem Sim.stuck {why : String} {s' : Sem β} : Sim P ρ (Go.stuck why : Sem α) s' Q := .halt rfl
theorem Sim.unsup {u : Unsupported} {s' : Sem β} (h : OkHalt (.unsupported u) = true) : Sim P ρ (Go.unsupported u : Sem α) s' Q := .halt h
theorem Sim.rpError {m : String} {s' : Sem β} : Sim P ρ (Go.runtimePanic (.error m) : Sem α) s' Q := fun _ _ _ _ _ _ => .inl ⟨_, _, rfl, rfl⟩
theorem Sim.rpNil {s' : Sem β} : Sim P ρ (Go.runtimePanic .nilDeref : Sem α) s' Q := fun _ _ _ _ _ _ => .inl ⟨_, _, rfl, rfl⟩
theorem Sim.boundsPanic {k : IntKind} {x y : Int} {c : BoundsCode} {s' : Sem β} : Sim P ρ (Go.boundsPanic k x y c : Sem α) s' Q := by
 intro h τ m w _ _
 left
 unfold Go.boundsPanic
 split
 ·exact ⟨_, _, rfl, rfl⟩
 ·exact ⟨_, _, rfl, rfl⟩
theorem Sim.typeInfo {t : TypeId} : Sim P ρ (Go.typeInfo t) (Go.typeInfo t) fun _ i i' => i' = i ∧ P.info? t = some i := by
 unfold Go.typeInfo
 refine Sim.bind Sim.program ?_
 rintro ρ' p _ _ ⟨rfl, rfl⟩
 cases h : P.info? t with
 | none => exact Sim.stuck
 | some i => exact Sim.pure ⟨rfl, rfl⟩
theorem Sim.underlying {t : TypeId} : Sim P ρ (Go.underlying t) (Go.underlying t) fun _ i i' => i' = i ∧ P.underlying t = some i := by
 unfold Go.underlying
 refine Sim.bind Sim.program ?_
 rintro ρ' p _ _ ⟨rfl, rfl⟩
 cases h : P.underlying t with
 | none => exact Sim.stuck
 | some i => exact Sim.pure ⟨rfl, rfl⟩
theorem Sim.sizeOf {t : TypeId} : Sim P ρ (Go.sizeOf t) (Go.sizeOf t) fun _ i i' => i' = i ∧ i = P.cellsOf t := by
 unfold Go.sizeOf
 refine Sim.bind Sim.typeInfo ?_
 rintro ρ' p _ i ⟨rfl, e⟩
 exact Sim.pure ⟨rfl, by simp [Program.cellsOf, e]⟩
def ZF (P : Program) (t : TypeId) : Prop := ∀ i v, P.info? t = some i → i.zero = some v → Flat v
theorem Sim.zeroValue {t : TypeId} (hz : ZF P t) : Sim P ρ (Go.zeroValue t) (Go.zeroValue t) FQ := by
 unfold Go.zeroValue
 refine Sim.bind Sim.typeInfo ?_
 rintro ρ' p _ i ⟨rfl, e⟩
 cases h : i.zero with
 | none => exact Sim.unsup rfl
 | some v => exact Sim.pure ⟨hz i v e h, rfl⟩
theorem Sim.isAgg {t : TypeId} : Sim P ρ (Go.isAgg t) (Go.isAgg t) EQ := by
 unfold Go.isAgg
 refine Sim.bind Sim.underlying ?_
 rintro ρ' p _ i ⟨rfl, e⟩
 cases i <;> exact Sim.pure rfl
theorem Sim.loadCellsFrom {a a' : Addr} : ∀ (n i : Nat) (acc : Array Value) {ρ : List Nat}, AR ρ a a' → (∀ c ∈ acc, Flat c) → Sim P ρ (Go.loadCellsFrom a i n acc) (Go.loadCellsFrom a' i n acc) AQ
 | 0, i, acc, ρ, _, hc => Sim.pure ⟨hc, rfl⟩
 | n + 1, i, acc, ρ, ha, hc => by
  unfold Go.loadCellsFrom
  refine Sim.bind (Sim.load (ha.add i)) ?_
  rintro ρ' p _ v ⟨hv, rfl⟩
  exact Sim.loadCellsFrom n (i + 1) _ (ha.mono p) fun c h => (Array.mem_push.1 h).elim (hc c) fun e => e ▸ hv
theorem Sim.loadCells {a a' : Addr} (ha : AR ρ a a') (n : Nat) : Sim P ρ (Go.loadCells a n) (Go.loadCells a' n) AQ := Sim.loadCellsFrom n 0 #[] ha (by simp)
theorem Sim.storeCells {a a' : Addr} : ∀ (vs : List Value) (i : Nat) {ρ : List Nat}, AR ρ a a' → (∀ c ∈ vs, Flat c) → Sim P ρ (Go.storeCells a vs i) (Go.storeCells a' vs i) fun _ _ _ => True
 | [], i, ρ, _, _ => Sim.pure trivial
 | v :: rest, i, ρ, ha, hc => by
  unfold Go.storeCells
  refine Sim.bind (Sim.store (ha.add i) (hc v (by simp))) ?_
  rintro ρ' p _ _ _
  exact Sim.storeCells rest (i + 1) (ha.mono p) fun c h => hc c (by simp [h])
theorem Sim.loadVar {t : TypeId} {a a' : Addr} (ha : AR ρ a a') : Sim P ρ (Go.loadVar t a) (Go.loadVar t a') FQ := by
 unfold Go.loadVar
 refine Sim.bind Sim.isAgg ?_
 rintro ρ1 p1 _ b rfl
 cases b with
 | false => exact Sim.load (ha.mono p1)
 | true =>
  simp only [if_true]
  refine Sim.bind Sim.sizeOf ?_
  rintro ρ2 p2 _ n ⟨rfl, _⟩
  refine Sim.bind (Sim.loadCells (ha.mono (p1.trans p2)) n) ?_
  rintro ρ3 p3 _ cs ⟨hc, rfl⟩
  exact Sim.pure ⟨.agg hc, rfl⟩
theorem Sim.storeVar {t : TypeId} {a a' : Addr} (ha : AR ρ a a') {v : Value} (hv : Flat v) : Sim P ρ (Go.storeVar t a v) (Go.storeVar t a' v) fun _ _ _ => True := by
 unfold Go.storeVar
 refine Sim.bind Sim.sizeOf ?_
 rintro ρ1 p1 _ n ⟨rfl, _⟩
 split
 ·exact Sim.bind (Q := fun _ _ _ => True) Sim.stuck fun _ _ _ _ _ => Sim.storeCells _ _ (ha.mono (p1.trans (by assumption))) (by simpa using hv.cells)
 ·exact Sim.storeCells _ _ (ha.mono p1) (by simpa using hv.cells)
theorem Sim.newVar {t : TypeId} {v : Value} (hv : Flat v) : Sim P ρ (Go.newVar t v) (Go.newVar t v) fun ρ' a a' => AR ρ' a a' := Sim.newRow hv.cells
theorem Sim.part {t : TypeId} {cs : Array Value} {off : Nat} (hc : ∀ c ∈ cs, Flat c) : Sim P ρ (Go.part t cs off) (Go.part t cs off) FQ := by
 unfold Go.part
 refine Sim.bind Sim.isAgg ?_
 rintro ρ1 p1 _ b rfl
 cases b with
 | true =>
  simp only [if_true]
  refine Sim.bind Sim.sizeOf ?_
  rintro ρ2 p2 _ n ⟨rfl, _⟩
  exact Sim.pure ⟨.agg fun c h => hc c (mem_extract h), rfl⟩
 | false =>
  simp only [Bool.false_eq_true, if_false]
  cases h : cs[off]? with
  | none => exact Sim.stuck
  | some v => exact Sim.pure ⟨hc v (Array.mem_of_getElem? h), rfl⟩
theorem Sim.asIntOf {x x' : Value} (hx : VV ρ x x') : Sim P ρ (Go.asIntOf x) (Go.asIntOf x') EQ := by
 rcases hx with ⟨h, rfl⟩ | h
 ·cases h <;> first | exact Sim.pure rfl | exact Sim.stuck
 ·cases h <;> first | exact Sim.unsup rfl | exact Sim.stuck
theorem Sim.asInt {x x' : Value} (hx : VV ρ x x') : Sim P ρ (Go.asInt x) (Go.asInt x') EQ := by
 unfold Go.asInt
 refine Sim.bind (Sim.asIntOf hx) ?_
 rintro _ _ _ _ rfl
 exact Sim.pure rfl
theorem Sim.asBool {x x' : Value} (hx : VV ρ x x') : Sim P ρ (Go.asBool x) (Go.asBool x') EQ := by
 rcases hx with ⟨h, rfl⟩ | h
 ·cases h <;> first | exact Sim.pure rfl | exact Sim.stuck
 ·cases h <;> exact Sim.stuck
theorem Sim.asAddr {x x' : Value} (hx : VV ρ x x') : Sim P ρ (Go.asAddr x) (Go.asAddr x') AR := by
 rcases hx with ⟨h, rfl⟩ | h
 ·cases h <;> exact Sim.stuck
 ·cases h <;> first | exact Sim.stuck | exact Sim.rpNil | exact Sim.pure (by assumption)
theorem Sim.sureAddr {x x' : Value} (hx : VV ρ x x') : Sim P ρ (Instr.sureAddr x) (Instr.sureAddr x') AR := by
 rcases hx with ⟨h, rfl⟩ | h
 ·cases h <;> exact Sim.stuck
 ·cases h <;> first | exact Sim.stuck | exact Sim.pure (by assumption)
theorem Sim.askRoom {n : Nat} : Sim P ρ (Go.askRoom n) (Go.askRoom n) fun _ _ _ => True := by
 unfold Go.askRoom
 split
 ·exact Sim.noRoom
 ·exact Sim.pure trivial
theorem Sim.alloc {t : TypeId} (hz : ZF P t) : Sim P ρ (Instr.alloc t true (.tuple #[])) (Instr.alloc t true (.tuple #[])) RQ := by
 unfold Instr.alloc
 refine Sim.bind (Sim.zeroValue hz) ?_
 rintro ρ1 p1 _ v ⟨hv, rfl⟩
 refine Sim.bind (Sim.newVar hv) ?_
 rintro ρ2 p2 a a' ha
 exact Sim.pure (.p ha)
theorem Sim.box {t : TypeId} {v : Value} (hv : Flat v) : Sim P ρ (Instr.box t v) (Instr.box t v) RQ := by
 unfold Instr.box
 refine Sim.bind (Sim.newVar hv) ?_
 rintro ρ2 p2 a a' ha
 exact Sim.pure (.p ha)
theorem Sim.loadAt {t : TypeId} {x x' : Value} (hx : VV ρ x x') : Sim P ρ (Instr.loadAt t x) (Instr.loadAt t x') FQ := by
 unfold Instr.loadAt
 refine Sim.bind (Sim.sureAddr hx) ?_
 rintro ρ2 p2 a a' ha
 exact Sim.loadVar ha
theorem Sim.storeAt {t : TypeId} {x x' v : Value} (hx : VV ρ x x') (hv : Flat v) : Sim P ρ (Instr.storeAt t x v) (Instr.storeAt t x' v) fun _ _ _ => True := by
 unfold Instr.storeAt
 refine Sim.bind (Sim.sureAddr hx) ?_
 rintro ρ2 p2 a a' ha
 exact Sim.storeVar ha hv
theorem Sim.extract {x : Value} {i : Nat} (hx : Flat x) : Sim P ρ (Instr.extract x i) (Instr.extract x i) FQ := by
 cases hx <;> try exact Sim.stuck
 rename_i cs hc
 unfold Instr.extract
 simp only
 cases h : cs[i]? with
 | none => exact Sim.stuck
 | some v => exact Sim.pure ⟨hc v (Array.mem_of_getElem? h), rfl⟩
theorem Sim.extractV {x x' : Value} {i : Nat} (hx : VV ρ x x') : Sim P ρ (Instr.extract x i) (Instr.extract x' i) VV := by
 rcases hx with ⟨hf, rfl⟩ | h
 ·exact Sim.mono (Sim.extract hf) fun _ _ _ _ h => .inl h
 ·cases h with
  | trr h1 h2 =>
   unfold Instr.extract
   rcases i with _ | _ | i
   ·exact Sim.pure (.inr h1)
   ·exact Sim.pure (.inr h2)
   ·exact Sim.stuck
  | trf h1 h2 =>
   unfold Instr.extract
   rcases i with _ | _ | i
   ·exact Sim.pure (.inr h1)
   ·exact Sim.pure (.inl ⟨h2, rfl⟩)
   ·exact Sim.stuck
  | tfr h1 h2 =>
   unfold Instr.extract
   rcases i with _ | _ | i
   ·exact Sim.pure (.inl ⟨h1, rfl⟩)
   ·exact Sim.pure (.inr h2)
   ·exact Sim.stuck
  | _ => exact Sim.stuck
theorem Sim.index {t : TypeId} {x i i' : Value} (hx : Flat x) (hi : VV ρ i i') : Sim P ρ (Instr.index t x i) (Instr.index t x i') FQ := by
 unfold Instr.index
 refine Sim.bind (Sim.asIntOf hi) ?_
 rintro ρ1 p1 _ ⟨k, n⟩ rfl
 refine Sim.bind Sim.underlying ?_
 rintro ρ2 p2 _ d ⟨rfl, _⟩
 cases hx <;> cases d <;> try exact Sim.stuck
 ·rename_i s _
  simp only
  cases h : (if 0 ≤ n then s[n.toNat]? else none : Option UInt8) with
  | none => exact Sim.boundsPanic
  | some b => exact Sim.pure ⟨.int _ _, rfl⟩
 ·rename_i hc _ _ _
  simp only
  split
  ·refine Sim.bind Sim.sizeOf ?_
   rintro ρ3 p3 _ m ⟨rfl, _⟩
   exact Sim.part hc
  ·exact Sim.boundsPanic
end
end Go.Priv
end
