/- A part of the proof of CrewDigestsUpto (no statement of its own): Cr1, Cr2, Cr3, Wg2, WgM. -/
import Derived.Test.YthkaigokcognmaaM07
import Derived.Test.YthkaigokcognmaaChecked
import Derived.Conc.CompanyDraw
import Derived.Conc.CompanyCalls
import Derived.Conc.CompanyMem
import Derived.RowKit
import Derived.KernelRfl
import Derived.Conc.WgGenN3
section
namespace Go.Pool
open Go.Conc
section
variable {P : Program} {main : Bool} {R : World → World → Prop} {D : World → World → Array Event → Prop} {fn : FuncId} {ops : Array Oper} {Q : Exit → Act → World → Prop} {md : Region.Mode}
theorem region_inv_go (T : Terms R D) (c : Nat) (I : Nat → Array Bool → Act → World → Prop)
  (h0 : ∀ listed a w, I 0 listed a w → Q .normal a w) (hne : ∀ f listed a w, I (f + 1) listed a w → Region.ready md ops listed ≠ [])
  (hop : ∀ f listed a w i, I (f + 1) listed a w → i ∈ Region.ready md ops listed → ∀ rest m, (∀ a' w', I f (listed.setIfInBounds i true) a' w' → OpsC P main R D fn ops rest m Q a' w') → OpsC P main R D fn ops (i :: rest) (m + c) Q a w) :
  ∀ (f t : Nat) (listed : Array Bool) (a : Act) (w : World), I f listed a w → OpsC P main R D fn ops (Region.linearise.go md ops f t listed []) (f * c + 1) Q a w := by
 intro f
 induction f with
 | zero => intro t listed a w h; simpa [Region.linearise.go] using opsC_nil T (h0 _ _ _ h)
 | succ f ih =>
  intro t listed a w h
  simp only [Region.linearise.go]
  change OpsC P main R D fn ops (match (Region.ready md ops listed)[t % (Region.ready md ops listed).length]? with
   | some i => Region.linearise.go md ops f (t / (Region.ready md ops listed).length) (listed.setIfInBounds i true) [i]
   | none => [].reverse) ((f + 1) * c + 1) Q a w
  cases hi : (Region.ready md ops listed)[t % (Region.ready md ops listed).length]? with
  | none =>
   exfalso
   have hn := hne f listed a w h
   have hlt : t % (Region.ready md ops listed).length < (Region.ready md ops listed).length := Nat.mod_lt _ (List.length_pos_iff.2 hn)
   rw [List.getElem?_eq_getElem hlt] at hi
   cases hi
  | some i =>
   simp only []
   rw [linearise_go_acc, List.reverse_singleton, List.singleton_append]
   have := hop f listed a w i h (List.mem_of_getElem? hi) (Region.linearise.go md ops f (t / (Region.ready md ops listed).length) (listed.setIfInBounds i true) []) (f * c + 1) (fun a' w' x => ih _ _ a' w' x)
   have e : (f + 1) * c + 1 = f * c + 1 + c := by rw [Nat.succ_mul]; omega
   rw [e]
   exact this
theorem region_inv (T : Terms R D) (hd : LetsDraw D) (hm : P.follows .mixedOrders = true) {id : Nat} {a : Act} {w : World} (c : Nat) (I : Nat → Array Bool → Act → World → Prop)
  (hst : ∀ w₁, R w w₁ → I ops.size (Array.replicate ops.size false) a { w₁ with drawn := w₁.drawn + 1 })
  (h0 : ∀ listed a w, I 0 listed a w → Q .normal a w) (hne : ∀ f listed a w, I (f + 1) listed a w → Region.ready .any ops listed ≠ [])
  (hop : ∀ f listed a w i, I (f + 1) listed a w → i ∈ Region.ready .any ops listed → ∀ rest m, (∀ a' w', I f (listed.setIfInBounds i true) a' w' → OpsC P main R D fn ops rest m Q a' w') → OpsC P main R D fn ops (i :: rest) (m + c) Q a w) :
  (Code.region id ops true).wpC P main R D fn (ops.size * c + 1 + 1) Q a w :=
 wpC_region_draw hd fun w₁ h₁ t => by
  simp only [Region.schedule, hm, Bool.true_or, if_true]
  exact region_inv_go T c I h0 hne hop ops.size t _ a _ (hst w₁ h₁)
theorem goes_callvC (T : Terms R D) {b : Frame} {a : Act} {k : List Item} {cs : List Frame} {w : World} {i : Nat} {rest : List Nat} {o : Oper} {x : Operand} {f : FuncId} {args : Array Operand} {ats : Array TypeId} {first cap : Array Value}
  {nf m : Nat} {Post : Value → World → Prop} {Stop : Goroutine → World → Prop}
  (ho : ops[i]? = some o) (hw : Region.wanted o (yielded ops a.tmps) = true) (hk : b.kind ≠ .early) (hop : o.op = .call { callee := .value x, args, argTypes := ats }) (hx : a.eval x = .func (.func f) first cap)
  (hcall : CallsC P main R D f (first ++ args.map a.eval ++ cap) nf w Post)
  (hnext : ∀ v w', Post v w' → Goes P main R D Stop m (Go.Conc.G (b.at (a.put o.dst v) (.inRegion ops rest :: k)) cs) w') :
  Goes P main R D Stop (m + nf + 3) (Go.Conc.G (b.at a (.inRegion ops (i :: rest) :: k)) cs) w := by
 obtain ⟨fn', c, hf, hname, hbody, hwp⟩ := hcall
 have hfin : ∀ v, (b.at a (.inRegion ops (i :: rest) :: k)).finish v = b.at (a.put o.dst v) (.inRegion ops rest :: k) := fun v => by rw [Frame.finish_at, ho]; rfl
 have hleave : ∀ (a' : Act) (w' : World) (todo : List Item), (a'.defers = [] ∧ ∃ v, ResultsC P fn' a'.tmps v ∧ Post v w') →
   Goes P main R D Stop (m + 1) (Go.Conc.G { (base f).at a' todo with mode := .returning } (b.at a (.inRegion ops (i :: rest) :: k) :: cs)) w' := by
  rintro a' w' todo ⟨hd, v, hr, hp⟩
  refine Goes.step rfl fun w₁ h₁ => ?_
  rw [stepG_leave (b := base f) rfl hd hf (hr w₁).1 (hr w₁).2, hfin]
  exact ⟨T.idle _, (hnext v w' hp).rely T.trans h₁⟩
 have hbodyG : Goes P main R D Stop (m + 2 + nf) (Go.Conc.G ((base f).at { tmps := (first ++ args.map a.eval ++ cap) ++ Array.replicate (fn'.ntmps - (first ++ args.map a.eval ++ cap).size) undef, defers := [] } [.code c]) (b.at a (.inRegion ops (i :: rest) :: k) :: cs)) w := by
  refine hwp (base f) [] _ Stop (m + 2) rfl (by simp [base]) fun e a' w' q => ?_
  cases e with
  | normal => exact Goes.step rfl fun w₁ h₁ => by rw [stepG_end]; exact ⟨T.idle _, (hleave a' w' [] q).rely T.trans h₁⟩
  | ret => exact fun todo => (hleave a' w' todo q).more
  | exit id => exact q.elim
  | goto l => exact q.elim
  | panic ch => exact q.elim
  | outgrown => exact q.elim
 have e : m + nf + 3 = (m + 2 + nf) + 1 := by omega
 rw [e]
 exact Goes.step rfl fun w₁ h₁ => goes_callv ho hw hk hop hx hf hname hbody ⟨T.idle _, hbodyG.rely T.trans h₁⟩
theorem opsC_callv (T : Terms R D) {a : Act} {w : World} {i : Nat} {rest : List Nat} {o : Oper} {x : Operand} {f : FuncId} {args : Array Operand} {ats : Array TypeId} {first cap : Array Value} {nf n : Nat} {Post : Value → World → Prop}
  (ho : ops[i]? = some o) (hw : Region.wanted o (yielded ops a.tmps) = true) (hop : o.op = .call { callee := .value x, args, argTypes := ats }) (hx : a.eval x = .func (.func f) first cap)
  (hcall : CallsC P main R D f (first ++ args.map a.eval ++ cap) nf w Post) (hnext : ∀ v w', Post v w' → OpsC P main R D fn ops rest n Q (a.put o.dst v) w') : OpsC P main R D fn ops (i :: rest) (n + nf + 3) Q a w := by
 intro b k cs Stop m hb hk hc
 have := goes_callvC (Stop := Stop) (m := m + n) (b := b) (k := k) (cs := cs) T ho hw hk hop hx hcall fun v w' hp => hnext v w' hp b k cs Stop m hb hk hc
 exact this.mono (by omega)
end
end Go.Pool
end
section
namespace Go.Pool
open Go.Conc Go.RowKit Go.Proofs
theorem termsJ (φ : Ph) (k : Nat) : Terms (Frm φ (· = k)) (DJ φ k) := ⟨Frm.trans', fun _ => dj_none (by simp)⟩
theorem drawJ (φ : Ph) (k : Nat) : LetsDraw (DJ φ k) := fun w => ⟨.at k w _, by simp⟩
theorem ownDrawJ (φ : Ph) (k : Nat) (w : World) : Frm φ (· = k) w { w with drawn := w.drawn + 1 } := Frm.at w _
structure Still (φ : Ph) (b : Nat) : Prop where
 wg : b ≠ φ.Wg
 ch : b ≠ φ.Ch
 en : b ≠ φ.En
 fd : φ.Fd ≠ some b
 pb : ¬ φ.pb b
 shun : ∀ a : Addr, a.block = b → ¬ φ.Shun (.cell a)
 low : b < φ.B
theorem Still.cell {φ : Ph} {b : Nat} (h : Still φ b) {own : Nat → Prop} {w w₁ : World} (r : Frm φ own w w₁) (o : Nat) : w₁.cell? ⟨b, o, none⟩ = w.cell? ⟨b, o, none⟩ := cell_block (r.block b h.low h.wg h.ch h.en h.fd h.pb) o
theorem evp_read {φ : Ph} {b : Nat} (h : Still φ b) (o : Nat) (own : Nat → Prop) (g : Nat) : EvP φ own g ⟨.cell ⟨b, o, none⟩, false, false⟩ := by
 refine ⟨fun x hx => ?_, by simp, by simp, by simp, ?_⟩
 ·rw [ofEvent_cell0] at hx
  simp only [MemAct.touch?, Option.some.injEq] at hx
  subst hx
  exact .inr (.inl ⟨rfl, rfl, _, rfl, h.wg, h.pb, h.shun _ rfl, h.low⟩)
 ·rw [ofEvent_cell0]; exact h.low
theorem evp_own {φ : Ph} {b k : Nat} (h : φ.pb b) (hB : b < φ.B) (wr : Bool) (g : Nat) : EvP φ (· = k) g ⟨.cell ⟨b, k, none⟩, wr, false⟩ := by
 refine ⟨fun x hx => ?_, by simp, by simp, by simp, ?_⟩
 ·rw [ofEvent_cell0] at hx
  simp only [MemAct.touch?, Option.some.injEq] at hx
  subst hx
  exact .inr (.inr (.inl ⟨rfl, k, rfl, _, rfl, h, rfl⟩))
 ·rw [ofEvent_cell0]; exact hB
section
variable {φ : Ph} {k : Nat} {S : World → Prop}
set_option maxRecDepth 100000 in
theorem f51_c (hS : ∀ w w₁, S w → Frm φ (· = k) w w₁ → S w₁) (x : Int) : ∃ m, ∀ w, S w → CallsC Try.prog false (Frm φ (· = k)) (DJ φ k) 51 #[.int .i64 x] m w fun v w' => v = .int .i64 (IntKind.i64.wrap (x + x)) ∧ S w' := by
 co_apply Exists.intro
 intro w hF
 co_apply callsC_of_wpC Try.func51 (by rfl) rfl
 simp only [Try.ntmps51, List.size_toArray, List.length_cons, List.length_nil, Nat.reduceAdd, Nat.reduceSub, Array.replicate_succ, Array.replicate_zero, List.push_toArray, List.append_toArray, List.nil_append, List.cons_append]
 co_go (termsJ φ k) (fun h r => hS _ _ h r) hF (co_quiet (termsJ φ k))
 exact ⟨rfl, _, resultsC_tmp (by rfl) _, by simp, hF⟩
end
end Go.Pool
end
section
namespace Go.Pool
open Go.Conc Go.RowKit Go.Proofs
noncomputable def ops50 : Array Oper := match Try.f50.body with
 | some (.seq _ (.seq (.region _ ops _) _)) => ops
 | _ => #[]
theorem ready50 : ∀ l0 l1 l2 l3 l4 l5 l6 l7 l8 l9 : Bool, Region.ready .any ops50 #[l0, l1, l2, l3, l4, l5, l6, l7, l8, l9] = [] → (l0 && l1 && l2 && l3 && l4 && l5 && l6 && l7 && l8 && l9) = true := by
 decide +kernel
theorem deps50b : ∀ l0 l1 l2 l3 l4 l5 l6 l7 l8 l9 : Bool, ((Region.ready .any ops50 #[l0, l1, l2, l3, l4, l5, l6, l7, l8, l9]).all fun i =>
  (i == 0 && !l0) || (i == 1 && !l1) || (i == 2 && !l2) || (i == 3 && !l3) || (i == 4 && !l4) || (i == 5 && !l5 && l3 && l4) || (i == 6 && !l6 && l5) || (i == 7 && !l7 && l2 && l6) || (i == 8 && !l8 && l0 && l1) || (i == 9 && !l9 && l7 && l8)) = true := by
 decide +kernel
theorem deps50 {l0 l1 l2 l3 l4 l5 l6 l7 l8 l9 : Bool} {i : Nat} (hi : i ∈ Region.ready .any ops50 #[l0, l1, l2, l3, l4, l5, l6, l7, l8, l9]) :
  (i = 0 ∧ l0 = false) ∨ (i = 1 ∧ l1 = false) ∨ (i = 2 ∧ l2 = false) ∨ (i = 3 ∧ l3 = false) ∨ (i = 4 ∧ l4 = false) ∨ (i = 5 ∧ l5 = false ∧ l3 = true ∧ l4 = true) ∨ (i = 6 ∧ l6 = false ∧ l5 = true) ∨
  (i = 7 ∧ l7 = false ∧ l2 = true ∧ l6 = true) ∨ (i = 8 ∧ l8 = false ∧ l0 = true ∧ l1 = true) ∨ (i = 9 ∧ l9 = false ∧ l7 = true ∧ l8 = true) := by
 have := List.all_eq_true.1 (deps50b l0 l1 l2 l3 l4 l5 l6 l7 l8 l9) i hi
 simp only [Bool.or_eq_true, Bool.and_eq_true, beq_iff_eq, Bool.not_eq_true'] at this
 simpa only [or_assoc, and_assoc] using this
theorem dj_mk {φ : Ph} {k : Nat} {w : World} {es : Array Event} (h : ∀ e ∈ es, EvP φ (· = k) 1 e) : DJ φ k w w es := ⟨.refl k w, h⟩
theorem heap_setCell_at {w : World} {b o : Nat} {v : Value} {cs : Array Value} {ty : TypeId} {fz : Nat × Nat} (h : w.heap[b]? = some (.cells cs ty fz)) : (w.setCell ⟨b, o, none⟩ v).heap[b]? = some (.cells (cs.setIfInBounds o v) ty fz) := by
 simp [World.setCell, Array.getElem?_modify, h]
theorem job_set {φ : Ph} {Out k : Nat} (hpb : φ.pb Out) (w : World) (v : Value) : Job φ k w (w.setCell ⟨Out, k, none⟩ v) := by
 have A := aside_setCell w ⟨Out, k, none⟩ v
 refine ⟨A.tape, A.os, A.output, A.size, fun b hb => A.block b fun e => hb (by rw [e]; exact hpb), fun b hb cs ty fz hc => ?_, fun b k' _ hk => World.cell?_setCell_other _ _ _ _ fun e => hk ?_⟩
 ·by_cases e : b = Out
  ·subst e; exact ⟨_, heap_setCell_at hc, by simp⟩
  ·exact ⟨cs, (A.block b e).trans hc, rfl⟩
 ·have := congrArg Addr.off e
  exact this.symm
def gv (b : Bool) (v : Value) : Value := if b then v else undef
theorem gv_t (v : Value) : gv true v = v := rfl
def cntF (b : Bool) : Nat := if b then 0 else 1
theorem cntF_eq {b : Bool} (h : cntF b = 0) : b = true := by cases b <;> simp_all [cntF]
section
variable (φ : Ph) (k : Nat)
structure V50 (Bf Bi Bo Bin oin Out n ncap : Nat) (fv : Value) (x : Int) (w : World) : Prop where
 cf : w.cell? ⟨Bf, 0, none⟩ = some fv
 ci : w.cell? ⟨Bi, 0, none⟩ = some (.slice (some ⟨Bin, oin, none⟩) n ncap)
 co : w.cell? ⟨Bo, 0, none⟩ = some (.slice (some ⟨Out, 0, none⟩) n n)
 cx : w.cell? ⟨Bin, oin + k, none⟩ = some (.int .i64 x)
 out : ∃ cs, w.heap[Out]? = some (.cells cs 3) ∧ cs.size = n
end
section
variable {φ : Ph} {k Bf Bi Bo Bin oin Out n ncap : Nat} {fv : Value} {x y : Int} {X0 X1 : World → Prop} {ff : FuncId} {first cap : Array Value}
theorem V50.rely (hf : Still φ Bf) (hi : Still φ Bi) (ho : Still φ Bo) (hin : Still φ Bin) (hpb : φ.pb Out) {w w₁ : World} (h : V50 k Bf Bi Bo Bin oin Out n ncap fv x w) (r : Frm φ (· = k) w w₁) : V50 k Bf Bi Bo Bin oin Out n ncap fv x w₁ := by
 obtain ⟨cs, hc, hs⟩ := h.out
 obtain ⟨cs', hc', hs'⟩ := r.shape Out hpb cs _ _ hc
 exact ⟨(hf.cell r 0).trans h.cf, (hi.cell r 0).trans h.ci, (ho.cell r 0).trans h.co, (hin.cell r _).trans h.cx, cs', hc', hs'.trans hs⟩
def I50 (k : Nat) (Bf Bi Bo Bin oin Out n ncap : Nat) (fv : Value) (x y : Int) (X0 X1 : World → Prop) (f : Nat) (listed : Array Bool) (a : Act) (w : World) : Prop :=
 ∃ l0 l1 l2 l3 l4 l5 l6 l7 l8 l9 : Bool, listed = #[l0, l1, l2, l3, l4, l5, l6, l7, l8, l9] ∧
  f = cntF l0 + cntF l1 + cntF l2 + cntF l3 + cntF l4 + cntF l5 + cntF l6 + cntF l7 + cntF l8 + cntF l9 ∧
  a = ⟨#[.int .i64 k, .pointer (some ⟨Bf, 0, none⟩), .pointer (some ⟨Bi, 0, none⟩), .pointer (some ⟨Bo, 0, none⟩), undef, .bool false,
   gv l0 (.slice (some ⟨Out, 0, none⟩) n n), gv l1 (.int .i64 k), gv l2 fv, gv l3 (.slice (some ⟨Bin, oin, none⟩) n ncap), gv l4 (.int .i64 k), gv l5 (.pointer (some ⟨Bin, oin + k, none⟩)), gv l6 (.int .i64 x), gv l7 (.int .i64 y), gv l8 (.pointer (some ⟨Out, k, none⟩))], []⟩ ∧
  V50 k Bf Bi Bo Bin oin Out n ncap fv x w ∧ (if l7 then X1 w else X0 w) ∧ (l9 = true → l7 = true ∧ w.cell? ⟨Out, k, none⟩ = some (.int .i64 y))
def W50 (k Bf Bi Bo Bin oin Out n ncap : Nat) (fv : Value) (x y : Int) (X0 X1 : World → Prop) (l7 l9 : Bool) (w : World) : Prop :=
 V50 k Bf Bi Bo Bin oin Out n ncap fv x w ∧ (if l7 then X1 w else X0 w) ∧ (l9 = true → l7 = true ∧ w.cell? ⟨Out, k, none⟩ = some (.int .i64 y))
theorem W50.rely (hf : Still φ Bf) (hi : Still φ Bi) (ho : Still φ Bo) (hin : Still φ Bin) (hpb : φ.pb Out) (h0 : ∀ w w₁, X0 w → Frm φ (· = k) w w₁ → X0 w₁) (h1 : ∀ w w₁, X1 w → Frm φ (· = k) w w₁ → X1 w₁) {l7 l9 : Bool} {w w₁ : World}
  (h : W50 k Bf Bi Bo Bin oin Out n ncap fv x y X0 X1 l7 l9 w) (r : Frm φ (· = k) w w₁) : W50 k Bf Bi Bo Bin oin Out n ncap fv x y X0 X1 l7 l9 w₁ := by
 refine ⟨h.1.rely hf hi ho hin hpb r, ?_, fun e => ⟨(h.2.2 e).1, (r.own Out k hpb rfl).trans (h.2.2 e).2⟩⟩
 have := h.2.1
 cases l7
 ·exact h0 _ _ this r
 ·exact h1 _ _ this r
theorem I50.of {f : Nat} {l0 l1 l2 l3 l4 l5 l6 l7 l8 l9 : Bool} {w : World} (hf : f = cntF l0 + cntF l1 + cntF l2 + cntF l3 + cntF l4 + cntF l5 + cntF l6 + cntF l7 + cntF l8 + cntF l9)
  (h : W50 k Bf Bi Bo Bin oin Out n ncap fv x y X0 X1 l7 l9 w) : I50 k Bf Bi Bo Bin oin Out n ncap fv x y X0 X1 f #[l0, l1, l2, l3, l4, l5, l6, l7, l8, l9]
   ⟨#[.int .i64 k, .pointer (some ⟨Bf, 0, none⟩), .pointer (some ⟨Bi, 0, none⟩), .pointer (some ⟨Bo, 0, none⟩), undef, .bool false,
   gv l0 (.slice (some ⟨Out, 0, none⟩) n n), gv l1 (.int .i64 k), gv l2 fv, gv l3 (.slice (some ⟨Bin, oin, none⟩) n ncap), gv l4 (.int .i64 k), gv l5 (.pointer (some ⟨Bin, oin + k, none⟩)), gv l6 (.int .i64 x), gv l7 (.int .i64 y), gv l8 (.pointer (some ⟨Out, k, none⟩))], []⟩ w :=
 ⟨l0, l1, l2, l3, l4, l5, l6, l7, l8, l9, rfl, hf, rfl, h⟩
set_option maxRecDepth 100000 in
set_option maxHeartbeats 4000000 in
theorem job50_c (hf : Still φ Bf) (hi : Still φ Bi) (ho : Still φ Bo) (hin : Still φ Bin) (hpb : φ.pb Out) (hOB : Out < φ.B) (hk : k < n) (h0 : ∀ w w₁, X0 w → Frm φ (· = k) w w₁ → X0 w₁) (h1 : ∀ w w₁, X1 w → Frm φ (· = k) w w₁ → X1 w₁)
  (h1s : ∀ w v, X1 w → X1 (w.setCell ⟨Out, k, none⟩ v)) {mf : Nat}
  (hcall : ∀ w, V50 k Bf Bi Bo Bin oin Out n ncap (.func (.func ff) first cap) x w → X0 w → CallsC Try.prog false (Frm φ (· = k)) (DJ φ k) ff (first ++ #[.int .i64 x] ++ cap) mf w fun v w' => v = .int .i64 y ∧ V50 k Bf Bi Bo Bin oin Out n ncap (.func (.func ff) first cap) x w' ∧ X1 w') :
  ∃ m, ∀ w, V50 k Bf Bi Bo Bin oin Out n ncap (.func (.func ff) first cap) x w → X0 w →
   CallsC Try.prog false (Frm φ (· = k)) (DJ φ k) 50 #[.int .i64 k, .pointer (some ⟨Bf, 0, none⟩), .pointer (some ⟨Bi, 0, none⟩), .pointer (some ⟨Bo, 0, none⟩)] m w fun v w' => v = .bool false ∧ X1 w' ∧ w'.cell? ⟨Out, k, none⟩ = some (.int .i64 y) := by
 have T := termsJ φ k
 co_apply Exists.intro
 intro w hV hX
 co_apply callsC_of_wpC Try.func50 (by rfl) rfl
 simp only [Try.ntmps50, List.size_toArray, List.length_cons, List.length_nil, Nat.reduceAdd, Nat.reduceSub, Array.replicate_succ, Array.replicate_zero, List.push_toArray, List.append_toArray, List.nil_append, List.cons_append]
 have hF : W50 k Bf Bi Bo Bin oin Out n ncap (.func (.func ff) first cap) x y X0 X1 false false w := ⟨hV, hX, by simp⟩
 clear hV hX
 co_stmt T (W50.rely hf hi ho hin hpb h0 h1) hF (co_quiet T)
 co_ctl T
 refine region_inv T (drawJ φ k) (by first | kernel_rfl | rfl) (mf + 5) (I50 k Bf Bi Bo Bin oin Out n ncap (.func (.func ff) first cap) x y X0 X1) ?_ ?_ ?_ ?_
 ·intro w₁ r
  have hF' := W50.rely hf hi ho hin hpb h0 h1 (W50.rely hf hi ho hin hpb h0 h1 hF r) (ownDrawJ φ k w₁)
  exact ⟨false, false, false, false, false, false, false, false, false, false, rfl, rfl, rfl, hF'⟩
 ·rintro listed a w ⟨l0, l1, l2, l3, l4, l5, l6, l7, l8, l9, rfl, hc, rfl, hF⟩
  obtain rfl := cntF_eq (b := l0) (by omega)
  obtain rfl := cntF_eq (b := l1) (by omega)
  obtain rfl := cntF_eq (b := l2) (by omega)
  obtain rfl := cntF_eq (b := l3) (by omega)
  obtain rfl := cntF_eq (b := l4) (by omega)
  obtain rfl := cntF_eq (b := l5) (by omega)
  obtain rfl := cntF_eq (b := l6) (by omega)
  obtain rfl := cntF_eq (b := l7) (by omega)
  obtain rfl := cntF_eq (b := l8) (by omega)
  obtain rfl := cntF_eq (b := l9) (by omega)
  replace hF : W50 k Bf Bi Bo Bin oin Out n ncap (.func (.func ff) first cap) x y X0 X1 true true w := hF
  co_then
  co_go T (W50.rely hf hi ho hin hpb h0 h1) hF (co_quiet T)
  exact ⟨rfl, _, resultsC_tmp (by rfl) _, by rfl, hF.2.1, (hF.2.2 rfl).2⟩
 ·rintro f listed a w ⟨l0, l1, l2, l3, l4, l5, l6, l7, l8, l9, rfl, hc, rfl, hF⟩ hn
  have := ready50 l0 l1 l2 l3 l4 l5 l6 l7 l8 l9 hn
  simp only [Bool.and_eq_true] at this
  obtain ⟨⟨⟨⟨⟨⟨⟨⟨⟨rfl, rfl⟩, rfl⟩, rfl⟩, rfl⟩, rfl⟩, rfl⟩, rfl⟩, rfl⟩, rfl⟩ := this
  simp [cntF] at hc
 ·rintro f listed a w i ⟨l0, l1, l2, l3, l4, l5, l6, l7, l8, l9, rfl, hc, rfl, hF⟩ hmem rest m hnext
  replace hF : W50 k Bf Bi Bo Bin oin Out n ncap (.func (.func ff) first cap) x y X0 X1 l7 l9 w := hF
  rcases deps50 hmem with ⟨rfl, rfl⟩ | ⟨rfl, rfl⟩ | ⟨rfl, rfl⟩ | ⟨rfl, rfl⟩ | ⟨rfl, rfl⟩ | ⟨rfl, rfl, rfl, rfl⟩ | ⟨rfl, rfl, rfl⟩ | ⟨rfl, rfl, rfl, rfl⟩ | ⟨rfl, rfl, rfl, rfl⟩ | ⟨rfl, rfl, rfl, rfl⟩
  ·refine opsC_more (n := m + 1) ?_ (by omega)
   co_opw (W50.rely hf hi ho hin hpb h0 h1) hF (have hld := hF.1.co) (refine dj_mk ?_; co_evs (exact evp_read ho 0 _ _))
   exact hnext _ _ (I50.of (by simp [cntF] at hc ⊢; omega) hF)
  ·refine opsC_more (n := m + 1) ?_ (by omega)
   co_op (W50.rely hf hi ho hin hpb h0 h1) hF (co_quiet T)
   exact hnext _ _ (I50.of (by simp [cntF] at hc ⊢; omega) hF)
  ·refine opsC_more (n := m + 1) ?_ (by omega)
   co_opw (W50.rely hf hi ho hin hpb h0 h1) hF (have hld := hF.1.cf) (refine dj_mk ?_; co_evs (exact evp_read hf 0 _ _))
   exact hnext _ _ (I50.of (by simp [cntF] at hc ⊢; omega) hF)
  ·refine opsC_more (n := m + 1) ?_ (by omega)
   co_opw (W50.rely hf hi ho hin hpb h0 h1) hF (have hld := hF.1.ci) (refine dj_mk ?_; co_evs (exact evp_read hi 0 _ _))
   exact hnext _ _ (I50.of (by simp [cntF] at hc ⊢; omega) hF)
  ·refine opsC_more (n := m + 1) ?_ (by omega)
   co_op (W50.rely hf hi ho hin hpb h0 h1) hF (co_quiet T)
   exact hnext _ _ (I50.of (by simp [cntF] at hc ⊢; omega) hF)
  ·refine opsC_more (n := m + 1) ?_ (by omega)
   have hkn : (k : Int) < (n : Int) := by omega
   simp only [gv_t]
   co_op (W50.rely hf hi ho hin hpb h0 h1) hF (co_still T)
   exact hnext _ _ (I50.of (by simp [cntF] at hc ⊢; omega) hF)
  ·refine opsC_more (n := m + 1) ?_ (by omega)
   simp only [gv_t]
   co_opw (W50.rely hf hi ho hin hpb h0 h1) hF (have hld := hF.1.cx) (refine dj_mk ?_; co_evs (exact evp_read hin _ _ _))
   exact hnext _ _ (I50.of (by simp [cntF] at hc ⊢; omega) hF)
  ·refine opsC_more (n := m + mf + 3) ?_ (by omega)
   simp only [gv_t]
   refine opsC_callv T (nf := mf) (first := first) (cap := cap) (Post := fun v w' => v = .int .i64 y ∧ V50 k Bf Bi Bo Bin oin Out n ncap (.func (.func ff) first cap) x w' ∧ X1 w') rfl (by rfl) rfl rfl (by have := hcall w hF.1 hF.2.1; simpa [Act.eval] using this) (fun v w' ⟨hv, hV', hX'⟩ => ?_)
   subst hv
   exact hnext _ _ (I50.of (by simp [cntF] at hc ⊢; omega) ⟨hV', hX', fun e => absurd (hF.2.2 e).1 (by simp)⟩)
  ·refine opsC_more (n := m + 1) ?_ (by omega)
   have hkn : (k : Int) < (n : Int) := by omega
   simp only [gv_t]
   co_op (W50.rely hf hi ho hin hpb h0 h1) hF (co_still T)
   exact hnext _ _ (I50.of (by simp [cntF] at hc ⊢; omega) hF)
  ·refine opsC_more (n := m + 1) ?_ (by omega)
   simp only [gv_t]
   co_apply opsC_cons_k rfl (by rfl)
   intro w₁ hR K hK
   replace hF := W50.rely hf hi ho hin hpb h0 h1 hF hR
   clear hR
   obtain ⟨cs, hcs, hcn⟩ := hF.1.out
   have hlt : k < cs.size := by omega
   have hcell : w₁.cell? ⟨Out, k, none⟩ = some cs[k] := by simp [World.cell?, hcs, hlt]
   have hfr : w₁.frozen? ⟨Out, k, none⟩ = false := by simp [World.frozen?, hcs]
   go_simp
   try (unfold stored; go_simp)
   refine hK _ _ ⟨⟨job_set hpb w₁ _, ?_⟩, ?_⟩
   ·co_evs (exact evp_own hpb hOB true _)
   refine hnext _ _ (I50.of (by simp [cntF] at hc ⊢; omega) ⟨?_, h1s _ _ hF.2.1, fun _ => ⟨rfl, World.cell?_setCell_same' _ _ _ (by rw [hcell]; rfl)⟩⟩)
   have A := aside_setCell w₁ ⟨Out, k, none⟩ (.int .i64 y)
   have hb : ∀ b o, ¬ φ.pb b → (w₁.setCell ⟨Out, k, none⟩ (.int .i64 y)).cell? ⟨b, o, none⟩ = w₁.cell? ⟨b, o, none⟩ := fun b o hb => cell_block (A.block b fun e => hb (by rw [e]; exact hpb)) o
   exact ⟨(hb _ _ hf.pb).trans hF.1.cf, (hb _ _ hi.pb).trans hF.1.ci, (hb _ _ ho.pb).trans hF.1.co, (hb _ _ hin.pb).trans hF.1.cx, _, heap_setCell_at hcs, by simp [hcn]⟩
end
end Go.Pool
end
section
set_option linter.unusedSimpArgs false
namespace Go.Pool
open Go.Conc Go.ConcN Go.RowKit Go.Conc.Lib Go.ConcR.Gen Go.ConcN.Gen
open Go.ConcR (KK wgBlock WgAt stA smA rd wr mk DC0 Payload)
section
variable {P : Program} {main : Bool} {R R' : World → World → Prop} {D D' : World → World → Array Event → Prop} {S S' : Goroutine → World → Prop}
theorem Goes.weak (hR : ∀ a b, R a b → R' a b) (hS : ∀ g w, S' g w → S g w) : ∀ {n : Nat} {g : Goroutine} {w : World}, Goes P main R' D S' n g w → Goes P main R D S n g w
 | 0, _, _, h => fun w₁ h₁ => hS _ _ (h w₁ (hR _ _ h₁))
 | n + 1, g, w, h => by
  rcases h with h | ⟨hs, h⟩
  ·exact .inl fun w₁ h₁ => hS _ _ (h w₁ (hR _ _ h₁))
  ·refine .inr ⟨hs, fun w₁ h₁ => ?_⟩
   have := h w₁ (hR _ _ h₁)
   revert this
   cases stepG P main g w₁ <;> simp only [GStep.goes, imp_self]
   exact fun ⟨d, x⟩ => ⟨d, Goes.weak hR hS x⟩
def Lists (P : Program) (main : Bool) (e : Event) (g : Goroutine) (w : World) : Prop := ∃ g', stepG P main g w = .go g' w #[e]
theorem lock_out {e e' : Event} (hee : e ≠ e') (refl : ∀ w, R w w) (refl' : ∀ w, R' w w) (hS : ∀ g w, S' g w → Lists P main e g w) (hD : ∀ w w' es, D' w w' es → e' ∉ es) :
  ∀ (m k : Nat) (g : Goroutine) (w : World), Goes P main R DC0 (Lists P main e') m g w → Goes P main R' D' S' k g w → False := by
 have stop : ∀ (k : Nat) (g : Goroutine) (w : World), Lists P main e' g w → Goes P main R' D' S' k g w → False := by
  rintro k g w ⟨g', h1⟩ h
  have hs : ¬ S' g w := fun hs => by
   obtain ⟨g'', h2⟩ := hS g w hs
   rw [h1] at h2
   cases h2
   exact hee rfl
  cases k with
  | zero => exact hs (h w (refl' w))
  | succ k =>
   rcases h with h | ⟨_, h⟩
   ·exact hs (h w (refl' w))
   ·have := h w (refl' w)
    rw [h1, goes_go] at this
    exact hD _ _ _ this.1 (by simp)
 intro m
 induction m with
 | zero => exact fun k g w h h' => stop k g w (h w (refl w)) h'
 | succ m ih =>
  intro k g w h h'
  rcases h with h | ⟨_, h⟩
  ·exact stop k g w (h w (refl w)) h'
  ·have h1 := h w (refl w)
   cases hg : stepG P main g w with
   | go g' w' es =>
    rw [hg, goes_go] at h1
    obtain ⟨⟨rfl, rfl⟩, h2⟩ := h1
    have hs : ¬ S' g w' := fun hs => by
     obtain ⟨g'', h3⟩ := hS g w' hs
     rw [hg] at h3
     cases h3
    cases k with
    | zero => exact hs (h' _ (refl' _))
    | succ k =>
     rcases h' with h' | ⟨_, h'⟩
     ·exact hs (h' _ (refl' _))
     ·have h3 := h' _ (refl' _)
      rw [hg, goes_go] at h3
      exact ih k g' _ h2 h3.2
   | _ => rw [hg] at h1; exact h1.elim
theorem lock {e e' : Event} (hee : e ≠ e') (refl : ∀ w, R w w) (refl' : ∀ w, R' w w) (hR : ∀ a b, R a b → R' a b) (hS : ∀ g w, S' g w → Lists P main e g w) (hD : ∀ w w' es, D' w w' es → e' ∉ es) (trans' : ∀ a b c, R' a b → R' b c → R' a c) :
  ∀ (m k : Nat) (g : Goroutine) (w : World), Goes P main R DC0 (fun g w => ∃ g', stepG P main g w = .go g' w #[e] ∧ ∃ m, Goes P main R DC0 (Lists P main e') m g' w) m g w → Goes P main R' D' S' k g w → Goes P main R DC0 S' m g w := by
 have stop : ∀ (k : Nat) (g : Goroutine) (w : World), (∃ g', stepG P main g w = .go g' w #[e] ∧ ∃ m, Goes P main R DC0 (Lists P main e') m g' w) → Goes P main R' D' S' k g w → S' g w := by
  rintro k g w ⟨g', h1, m, h2⟩ h
  cases k with
  | zero => exact h w (refl' w)
  | succ k =>
   rcases h with h | ⟨_, h⟩
   ·exact h w (refl' w)
   ·have := h w (refl' w)
    rw [h1, goes_go] at this
    exact (lock_out hee refl refl' hS hD m k g' w h2 this.2).elim
 intro m
 induction m with
 | zero => exact fun k g w h h' w₁ h₁ => stop k g w₁ (h w₁ h₁) (h'.rely trans' (hR _ _ h₁))
 | succ m ih =>
  intro k g w h h'
  rcases h with h | ⟨hs, h⟩
  ·exact .inl fun w₁ h₁ => stop k g w₁ (h w₁ h₁) (h'.rely trans' (hR _ _ h₁))
  ·refine .inr ⟨hs, fun w₁ h₁ => ?_⟩
   have h1 := h w₁ h₁
   cases hg : stepG P main g w₁ with
   | go g' w' es =>
    rw [hg, goes_go] at h1
    obtain ⟨⟨rfl, rfl⟩, h2⟩ := h1
    have hl := h'.rely trans' (hR _ _ h₁)
    have hns : ¬ S' g w' := fun hs => by
     obtain ⟨g'', h3⟩ := hS g w' hs
     rw [hg] at h3
     cases h3
    rw [goes_go]
    refine ⟨⟨rfl, rfl⟩, ?_⟩
    cases k with
    | zero => exact absurd (hl _ (refl' _)) hns
    | succ k =>
     rcases hl with hl | ⟨_, hl⟩
     ·exact absurd (hl _ (refl' _)) hns
     ·have h3 := hl _ (refl' _)
      rw [hg, goes_go] at h3
      exact ih k g' _ h2 h3.2
   | _ => rw [hg] at h1; exact h1.elim
end
section
variable {L : WgLink} {φ : Ph} {P : Program}
theorem lv_rely {φ : Ph} {own : Nat → Prop} {w w₁ : World} (h : WgLive φ.ty φ.Wg w) (r : Frm φ own w w₁) : WgLive φ.ty φ.Wg w₁ := r.live h
set_option maxRecDepth 100000 in
set_option maxHeartbeats 8000000 in
theorem doneWalk (H : WgLib P L) (_hty : φ.ty = L.tWg) {c : Frame} {cs : List Frame} (w : World) (hK : WgLive φ.ty φ.Wg w) :
  Goes P false (Frm φ own0) DC0 (fun g w => ∃ g', stepG P false g w = .go g' w #[mk (.releaseMerge (stA φ.Wg))] ∧ ∃ m, Goes P false (Frm φ own0) DC0 (Lists P false (mk .disable)) m g' w) 40
   (Go.Conc.G ((baseD L.done).at ⟨#[.pointer (some ⟨φ.Wg, 0, none⟩), undef, undef, undef], []⟩ [.code (body_done L)]) (c :: cs)) w := by
 lib_facts
 simp only [body_done, doneFn, Option.getD_some]
 u_reg lv_rely hK
 u_op lv_rely hK
 u_in lv_rely hK
 refine goes_call rfl rfl (by k_ne) rfl H.f_add (nm_add L) rfl ⟨by u_nil, ?_⟩
 walk_nrmf addFn
 refine Goes.step rfl (fun _ h₁ => ?_)
 replace hK := lv_rely hK h₁
 clear h₁
 rw [stepG_seq]
 simp only [goes_go]
 refine ⟨(dc0_none (by simp)), ?_⟩
 refine Goes.step rfl (fun _ h₁ => ?_)
 replace hK := lv_rely hK h₁
 clear h₁
 rw [stepG_cond (t := true) rfl]
 simp only [goes_go, if_true, if_false, Bool.false_eq_true, ↓reduceIte]
 iterate 2
  refine ⟨(dc0_none (by simp)), ?_⟩
  refine Goes.step rfl (fun _ h₁ => ?_)
  replace hK := lv_rely hK h₁
  clear h₁
  rw [stepG_seq]
  simp only [goes_go]
 refine ⟨(dc0_none (by simp)), ?_⟩
 refine Goes.step rfl (fun _ h₁ => ?_)
 replace hK := lv_rely hK h₁
 clear h₁
 rw [stepG_region]
 simp only [goes_go, List.size_toArray, List.length_cons, List.length_nil, Nat.reduceAdd, Nat.zero_add, List.range, List.range.loop]
 refine ⟨(dc0_none (by simp)), ?_⟩
 iterate 2
  refine Goes.step rfl (fun _ h₁ => ?_)
  replace hK := lv_rely hK h₁
  clear h₁
  refine goes_oper_k rfl rfl (by k_ne) (fun K hK => ?_)
  go_simp
  refine hK _ _ ⟨?_, ?_⟩
  ·refine dc0_none ?_
   intro ex hex
   have hm := mem_listed hex
   simp [go_sem, *] at hm
  clear hK K
  try w_num
 refine Goes.step rfl (fun _ h₁ => ?_)
 replace hK := lv_rely hK h₁
 clear h₁
 rw [stepG_region_end]
 simp only [goes_go]
 refine ⟨(dc0_none (by simp)), ?_⟩
 refine Goes.step rfl (fun _ h₁ => ?_)
 replace hK := lv_rely hK h₁
 clear h₁
 rw [stepG_cond (t := true) rfl]
 simp only [goes_go, if_true, if_false, Bool.false_eq_true, ↓reduceIte]
 refine ⟨(dc0_none (by simp)), ?_⟩
 refine Goes.step rfl (fun _ h₁ => ?_)
 replace hK := lv_rely hK h₁
 clear h₁
 rw [stepG_region]
 simp only [goes_go, List.size_toArray, List.length_cons, List.length_nil, Nat.reduceAdd, Nat.zero_add, List.range, List.range.loop]
 refine ⟨(dc0_none (by simp)), ?_⟩
 refine Goes.step rfl (fun _ h₁ => ?_)
 replace hK := lv_rely hK h₁
 clear h₁
 refine goes_oper_k rfl rfl (by k_ne) (fun K hK => ?_)
 go_simp
 refine hK _ _ ⟨?_, ?_⟩
 ·refine dc0_none ?_
  intro ex hex
  have hm := mem_listed hex
  simp [go_sem, *] at hm
 clear hK K
 try w_num
 u_conv H.underlying_tWgP H.room_tWg (WgLive.cell0 hK).choose_spec lv_rely hK
 refine Goes.stop (fun w₁ h₁ => ?_)
 replace hK := lv_rely hK h₁
 clear h₁
 refine ⟨_, stepG_markAt .releaseMerge (by simp) rfl rfl (by k_ne) rfl H.f_relMerge (x_relMerge_n L) (x_relMerge_b L) (x_relMerge_x L) (x_relMerge_f L) (by simp [Act.eval, stA]), 10, ?_⟩
 walk_nrm
 refine Goes.step rfl (fun _ h₁ => ?_)
 replace hK := lv_rely hK h₁
 clear h₁
 rw [stepG_region_end]
 simp only [goes_go]
 refine ⟨(dc0_none (by simp)), ?_⟩
 refine Goes.step rfl (fun _ h₁ => ?_)
 replace hK := lv_rely hK h₁
 clear h₁
 rw [stepG_seq]
 simp only [goes_go]
 refine ⟨(dc0_none (by simp)), ?_⟩
 refine Goes.step rfl (fun _ h₁ => ?_)
 replace hK := lv_rely hK h₁
 clear h₁
 rw [stepG_region]
 simp only [goes_go, List.size_toArray, List.length_cons, List.length_nil, Nat.reduceAdd, Nat.zero_add, List.range, List.range.loop]
 refine ⟨(dc0_none (by simp)), ?_⟩
 refine Goes.stop (fun w₁ h₁ => ?_)
 exact ⟨_, stepG_mark0 .disable (by simp) rfl rfl (by k_ne) rfl H.f_disable (x_disable_n L) (x_disable_b L) (x_disable_x L) (x_disable_f L)⟩
section
theorem rw_of_frm [Payload] {C n : Nat} (h1 : C ≠ φ.Wg) (h2 : C ≠ φ.Ch) (h3 : C ≠ φ.En) (hfd : φ.Fd ≠ some C) (h4 : ¬ φ.pb C) (hlt : C < φ.B) {w w₁ : World} (h : Frm φ own0 w w₁) : RW φ.ty φ.Wg C n 0 0 w w₁ :=
 ⟨fun b hb => absurd hb (by omega), h.live, fun ⟨cs, hc, hn⟩ => ⟨cs, (h.block C hlt h1 h2 h3 hfd h4).trans hc, hn⟩, cell_block (h.block C hlt h1 h2 h3 hfd h4) 0⟩
theorem r0_of_lib [Payload] {C n : Nat} {v : Value} (hR : ∀ a b, Frm φ own0 a b → RW φ.ty φ.Wg C n 0 0 a b) : ∀ g w, AtR0 P φ.ty φ.Wg C n 0 1 v g w → R0S P φ g w := by
 have h4 : ∀ g w, AtD4 P φ.ty φ.Wg g w → D4S P φ g w := fun _ _ h => h
 have h3 : ∀ g w, AtD3 P φ.ty φ.Wg C n 0 1 g w → D3S P φ g w := fun _ _ h => ⟨h.1, fun x => let ⟨g', a, m, b⟩ := h.2 x; ⟨g', a, m, Goes.weak hR h4 b⟩⟩
 have h2 : ∀ g w, AtD2 P φ.ty φ.Wg C n 0 1 g w → D2S P φ g w := fun _ _ h => ⟨h.1, fun x => let ⟨g', a, m, b⟩ := h.2 x; ⟨g', a, m, Goes.weak hR h3 b⟩⟩
 have h1 : ∀ g w, AtD1 P φ.ty φ.Wg C n 0 1 g w → D1S P φ g w := fun _ _ h => ⟨h.1, fun v wt a1 a2 a3 => let ⟨g', a, b, c⟩ := h.2 v wt a1 a2 a3; ⟨g', a, fun x => let ⟨m, y⟩ := b x; ⟨m, Goes.weak hR h2 y⟩, c⟩⟩
 have hk : ∀ g w, AtK1 P φ.ty φ.Wg C n 0 1 g w → K1S P φ g w := fun _ _ h => let ⟨a, g', b, m, c⟩ := h; ⟨a, g', b, m, Goes.weak hR h1 c⟩
 exact fun _ _ h => let ⟨a, _, g', b, m, c⟩ := h; ⟨a, g', b, m, Goes.weak hR hk c⟩
theorem doneP (H : WgLib P L) (hty : φ.ty = L.tWg) {C : Nat} (h1 : C ≠ φ.Wg) (h2 : C ≠ φ.Ch) (h3 : C ≠ φ.En) (hfd : φ.Fd ≠ some C) (h4 : ¬ φ.pb C) (hlt : C < φ.B) {c : Frame} {cs : List Frame} {qt : Nat} (hcm : c.mode = .returning) (hT : QuitsD P qt 0 (Go.Conc.G c cs)) (w : World) (hK : WgLive φ.ty φ.Wg w) (hv : ∃ v, w.cell? ⟨C, 0, none⟩ = some v) :
  Goes P false (Frm φ own0) DC0 (R0S P φ) 40 (Go.Conc.G ((baseD L.done).at ⟨#[.pointer (some ⟨φ.Wg, 0, none⟩), undef, undef, undef], []⟩ [.code (body_done L)]) (c :: cs)) w := by
 letI : Payload := ⟨0⟩
 obtain ⟨v, hv⟩ := hv
 have hR : ∀ a b, Frm φ own0 a b → RW φ.ty φ.Wg C 0 0 0 a b := fun _ _ => rw_of_frm h1 h2 h3 hfd h4 hlt
 have hlib := doneN (Own := fun _ _ => False) (Rd := fun _ _ => False) (C := C) (n := 0) (Low := 0) (k := 1) (val := v) H hcm hT w ⟨by rw [← hty]; exact hK, hv⟩
 rw [← hty] at hlib
 have := lock (R := Frm φ own0) (e := mk (.releaseMerge (stA φ.Wg))) (e' := mk .disable) (by simp [mk]) Frm.refl (fun w => RW.refl w) hR (fun g w h => let ⟨_, _, g', b, _⟩ := h; ⟨g', b⟩) (fun w w' es h he => (h.2 _ he).2.1 rfl) (fun _ _ _ a b => a.trans b) 40 _ _ w (doneWalk H hty w hK) hlib
 exact Goes.weak (fun _ _ h => h) (r0_of_lib hR) this
end
end
end Go.Pool
end
section
namespace Go.Pool
open Go.Conc Go.ConcN Go.RowKit Go.Conc.Lib Go.ConcR.Gen Go.ConcN.Gen
open Go.ConcR (KK wgBlock WgAt stA smA rd wr mk)
theorem di_nil {φ : Ph} {own : Nat → Prop} {g : Nat} {w : World} : DI φ own g w w #[] := di_none (by simp)
theorem fr_rely {φ : Ph} {own : Nat → Prop} {F : World → Prop} (hF2 : ∀ w w', Frm φ own w w' → F w → F w') {w w₁ : World} (h : F w ∧ WgLive φ.ty φ.Wg w) (r : Frm φ own w w₁) : F w₁ ∧ WgLive φ.ty φ.Wg w₁ := ⟨hF2 _ _ r h.1, r.live h.2⟩
theorem evp_said {φ : Ph} (G : Geo φ) (a : Addr) (h : a.block = φ.Wg) (m : Mark) (hm : m = .read a ∨ m = .write a) : EvP φ own0 0 ⟨.mark m, false, true⟩ := by
 rcases hm with rfl | rfl
 ·refine ⟨fun x hx => ?_, by simp, by simp, by simp, ?_⟩
  ·simp only [MemAct.ofEvent, MemAct.touch?, Option.some.injEq] at hx
   subst hx
   exact .inl ⟨⟨a, rfl, h⟩, by simp, by simp⟩
  ·have := G.wgB; rw [← h] at this; exact this
 ·refine ⟨fun x hx => ?_, by simp, by simp, by simp, ?_⟩
  ·simp only [MemAct.ofEvent, MemAct.touch?, Option.some.injEq] at hx
   subst hx
   exact .inl ⟨⟨a, rfl, h⟩, by simp, by simp⟩
  ·have := G.wgB; rw [← h] at this; exact this
end Go.Pool
end
