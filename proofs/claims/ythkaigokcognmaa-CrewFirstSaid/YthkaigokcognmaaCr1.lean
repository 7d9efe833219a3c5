/-
  CREW 1: a drawn region with a call in it, by an invariant over what has come up; a call through a function value by its contract.
-/
import Derived.Test.YthkaigokcognmaaCr0
import Derived.Conc.CompanyDraw
import Derived.Conc.CompanyCalls
namespace Go.Pool
open Go.Conc

section
variable {P : Program} {main : Bool} {R : World → World → Prop} {D : World → World → Array Event → Prop} {fn : FuncId} {ops : Array Oper} {Q : Exit → Act → World → Prop} {md : Region.Mode}

/-- A REGION THAT DRAWS ITS ORDER, by an invariant: 'I f listed': f operations are still to come up; 'c' steps at most for one. -/
theorem region_inv_go (T : Terms R D) (c : Nat) (I : Nat → Array Bool → Act → World → Prop)
    (h0 : ∀ listed a w, I 0 listed a w → Q .normal a w) (hne : ∀ f listed a w, I (f + 1) listed a w → Region.ready md ops listed ≠ [])
    (hop : ∀ f listed a w i, I (f + 1) listed a w → i ∈ Region.ready md ops listed → ∀ rest m, (∀ a' w', I f (listed.setIfInBounds i true) a' w' → OpsC P main R D fn ops rest m Q a' w') → OpsC P main R D fn ops (i :: rest) (m + c) Q a w) :
    ∀ (f t : Nat) (listed : Array Bool) (a : Act) (w : World), I f listed a w → OpsC P main R D fn ops (Region.linearise.go md ops f t listed []) (f * c + 1) Q a w := by
  intro f
  induction f with
  | zero => intro t listed a w h; simpa [Region.linearise.go] using opsC_nil T (h0 _ _ _ h)
  | succ f ih =>
    intro t listed a w h
    simp only [Region.linearise.go]
    change OpsC P main R D fn ops (match (Region.ready md ops listed)[t % (Region.ready md ops listed).length]? with
      | some i => Region.linearise.go md ops f (t / (Region.ready md ops listed).length) (listed.setIfInBounds i true) [i]
      | none => [].reverse) ((f + 1) * c + 1) Q a w
    cases hi : (Region.ready md ops listed)[t % (Region.ready md ops listed).length]? with
    | none =>
      exfalso
      have hn := hne f listed a w h
      have hlt : t % (Region.ready md ops listed).length < (Region.ready md ops listed).length := Nat.mod_lt _ (List.length_pos_iff.2 hn)
      rw [List.getElem?_eq_getElem hlt] at hi
      cases hi
    | some i =>
      simp only []
      rw [linearise_go_acc, List.reverse_singleton, List.singleton_append]
      have := hop f listed a w i h (List.mem_of_getElem? hi) (Region.linearise.go md ops f (t / (Region.ready md ops listed).length) (listed.setIfInBounds i true) []) (f * c + 1) (fun a' w' x => ih _ _ a' w' x)
      have e : (f + 1) * c + 1 = f * c + 1 + c := by rw [Nat.succ_mul]; omega
      rw [e]
      exact this

theorem region_inv (T : Terms R D) (hd : LetsDraw D) (hm : P.follows .mixedOrders = true) {id : Nat} {a : Act} {w : World} (c : Nat) (I : Nat → Array Bool → Act → World → Prop)
    (hst : ∀ w₁, R w w₁ → I ops.size (Array.replicate ops.size false) a { w₁ with drawn := w₁.drawn + 1 })
    (h0 : ∀ listed a w, I 0 listed a w → Q .normal a w) (hne : ∀ f listed a w, I (f + 1) listed a w → Region.ready .any ops listed ≠ [])
    (hop : ∀ f listed a w i, I (f + 1) listed a w → i ∈ Region.ready .any ops listed → ∀ rest m, (∀ a' w', I f (listed.setIfInBounds i true) a' w' → OpsC P main R D fn ops rest m Q a' w') → OpsC P main R D fn ops (i :: rest) (m + c) Q a w) :
    (Code.region id ops true).wpC P main R D fn (ops.size * c + 1 + 1) Q a w :=
  wpC_region_draw hd fun w₁ h₁ t => by
    simp only [Region.schedule, hm, Bool.true_or, if_true]
    exact region_inv_go T c I h0 hne hop ops.size t _ a _ (hst w₁ h₁)

/-- THROUGH A CALL OF A FUNCTION VALUE, BY THE CALLEE's CONTRACT. -/
theorem goes_callvC (T : Terms R D) {b : Frame} {a : Act} {k : List Item} {cs : List Frame} {w : World} {i : Nat} {rest : List Nat} {o : Oper} {x : Operand} {f : FuncId} {args : Array Operand} {ats : Array TypeId} {first cap : Array Value}
    {nf m : Nat} {Post : Value → World → Prop} {Stop : Goroutine → World → Prop}
    (ho : ops[i]? = some o) (hw : Region.wanted o (yielded ops a.tmps) = true) (hk : b.kind ≠ .early) (hop : o.op = .call { callee := .value x, args, argTypes := ats }) (hx : a.eval x = .func (.func f) first cap)
    (hcall : CallsC P main R D f (first ++ args.map a.eval ++ cap) nf w Post)
    (hnext : ∀ v w', Post v w' → Goes P main R D Stop m (Go.Conc.G (b.at (a.put o.dst v) (.inRegion ops rest :: k)) cs) w') :
    Goes P main R D Stop (m + nf + 3) (Go.Conc.G (b.at a (.inRegion ops (i :: rest) :: k)) cs) w := by
  obtain ⟨fn', c, hf, hname, hbody, hwp⟩ := hcall
  have hfin : ∀ v, (b.at a (.inRegion ops (i :: rest) :: k)).finish v = b.at (a.put o.dst v) (.inRegion ops rest :: k) := fun v => by rw [Frame.finish_at, ho]; rfl
  have hleave : ∀ (a' : Act) (w' : World) (todo : List Item), (a'.defers = [] ∧ ∃ v, ResultsC P fn' a'.tmps v ∧ Post v w') →
      Goes P main R D Stop (m + 1) (Go.Conc.G { (base f).at a' todo with mode := .returning } (b.at a (.inRegion ops (i :: rest) :: k) :: cs)) w' := by
    rintro a' w' todo ⟨hd, v, hr, hp⟩
    refine Goes.step rfl fun w₁ h₁ => ?_
    rw [stepG_leave (b := base f) rfl hd hf (hr w₁).1 (hr w₁).2, hfin]
    exact ⟨T.idle _, (hnext v w' hp).rely T.trans h₁⟩
  have hbodyG : Goes P main R D Stop (m + 2 + nf) (Go.Conc.G ((base f).at { tmps := (first ++ args.map a.eval ++ cap) ++ Array.replicate (fn'.ntmps - (first ++ args.map a.eval ++ cap).size) undef, defers := [] } [.code c]) (b.at a (.inRegion ops (i :: rest) :: k) :: cs)) w := by
    refine hwp (base f) [] _ Stop (m + 2) rfl (by simp [base]) fun e a' w' q => ?_
    cases e with
    | normal => exact Goes.step rfl fun w₁ h₁ => by rw [stepG_end]; exact ⟨T.idle _, (hleave a' w' [] q).rely T.trans h₁⟩
    | ret => exact fun todo => (hleave a' w' todo q).more
    | exit id => exact q.elim
    | goto l => exact q.elim
    | panic ch => exact q.elim
    | outgrown => exact q.elim
  have e : m + nf + 3 = (m + 2 + nf) + 1 := by omega
  rw [e]
  exact Goes.step rfl fun w₁ h₁ => goes_callv ho hw hk hop hx hf hname hbody ⟨T.idle _, hbodyG.rely T.trans h₁⟩

/-- The same as a rule of the judgement. -/
theorem opsC_callv (T : Terms R D) {a : Act} {w : World} {i : Nat} {rest : List Nat} {o : Oper} {x : Operand} {f : FuncId} {args : Array Operand} {ats : Array TypeId} {first cap : Array Value} {nf n : Nat} {Post : Value → World → Prop}
    (ho : ops[i]? = some o) (hw : Region.wanted o (yielded ops a.tmps) = true) (hop : o.op = .call { callee := .value x, args, argTypes := ats }) (hx : a.eval x = .func (.func f) first cap)
    (hcall : CallsC P main R D f (first ++ args.map a.eval ++ cap) nf w Post) (hnext : ∀ v w', Post v w' → OpsC P main R D fn ops rest n Q (a.put o.dst v) w') : OpsC P main R D fn ops (i :: rest) (n + nf + 3) Q a w := by
  intro b k cs Stop m hb hk hc
  have := goes_callvC (Stop := Stop) (m := m + n) (b := b) (k := k) (cs := cs) T ho hw hk hop hx hcall fun v w' hp => hnext v w' hp b k cs Stop m hb hk hc
  exact this.mono (by omega)
end
end Go.Pool
