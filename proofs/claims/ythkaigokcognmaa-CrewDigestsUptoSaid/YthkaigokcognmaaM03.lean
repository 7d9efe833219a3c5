/- A part of the proof of CrewDigestsUpto (no statement of its own): Priv5, Priv6. -/
import Derived.Test.YthkaigokcognmaaM02
section
set_option linter.unusedSimpArgs false
namespace Go.Priv
open Go
section
variable {P : Program} {ρ : List Nat}
theorem Sim.len {ts : Array TypeId} {t : TypeId} {x x' : Value} (hx : VV ρ x x') : Sim P ρ (Builtin.len_ ts t #[x]) (Builtin.len_ ts t #[x']) FQ := by
 unfold Builtin.len_
 cases h : ts[0]? with
 | none => exact Sim.stuck
 | some t0 =>
  refine Sim.bind Sim.underlying ?_
  rintro ρ1 p1 _ d ⟨rfl, e1⟩
  have hx1 := hx.mono p1
  clear hx
  cases d with
  | array n el => exact Sim.pure ⟨.int _ _, rfl⟩
  | pointer arr =>
   refine Sim.bind Sim.underlying ?_
   rintro ρ2 p2 _ d ⟨rfl, e1⟩
   cases d <;> first | exact Sim.stuck | exact Sim.pure ⟨.int _ _, rfl⟩
  | _ =>
   rcases hx1 with ⟨h, rfl⟩ | h
   ·cases h <;> first | exact Sim.stuck | exact Sim.pure ⟨.int _ _, rfl⟩
   ·cases h <;> first | exact Sim.stuck | exact Sim.pure ⟨.int _ _, rfl⟩
theorem Sim.holdsCells {a a' : Addr} (ha : AR ρ a a') {n : Nat} : Sim P ρ (Builtin.holdsCells a n) (Builtin.holdsCells a' n) EQ := by
 unfold Builtin.holdsCells
 refine Sim.bind (Sim.shape ha.1) ?_
 rintro ρ1 p1 _ s ⟨rfl, hs⟩
 cases s with
 | none => cases hs
 | some s => exact Sim.pure (by rw [ha.2.1, ha.2.2])
def BR (ρ : List Nat) : Option Addr → Option Addr → Prop
 | none, none => True
 | some a, some a' => AR ρ a a'
 | _, _ => False
theorem BR.mono {ρ ρ' : List Nat} {x x' : Option Addr} (h : BR ρ x x') (p : Pre ρ ρ') : BR ρ' x x' := by
 cases x <;> cases x' <;> first | exact h | exact AR.mono h p
theorem AR.addr_add_block {a : Addr} {n : Nat} : (a.add n).block = a.block := by unfold Addr.add; split <;> rfl
theorem Sim.mayShare {size sLen n : Nat} {b b' : Option Addr} (hb : BR ρ b b') {x x' : Value} (hx : VV ρ x x') : Sim P ρ (Builtin.mayShare size sLen n b x) (Builtin.mayShare size sLen n b' x') fun _ _ _ => True := by
 unfold Builtin.mayShare
 have fin : ∀ {ρ1 : List Nat} (f f' : Bool → Sem Bool) (q : Bool), (∀ ρ2, Pre ρ1 ρ2 → Sim P ρ2 (f q) (f' q) fun _ _ _ => True) → Sim P ρ1 (do let there ← Pure.pure q; f there) (do let there ← Pure.pure q; f' there) fun _ _ _ => True := fun {ρ1} f f' q h => by
  refine Sim.bind (Q := fun _ y y' => y = q ∧ y' = q) (Sim.pure ⟨rfl, rfl⟩) ?_
  rintro ρ2 p2 _ _ ⟨rfl, rfl⟩
  exact h ρ2 p2
 have two : ∀ {a a' : Addr} (f f' : Bool → Sem Bool), AR ρ a a' → (∀ q ρ2, Pre ρ ρ2 → Sim P ρ2 (f q) (f' q) fun _ _ _ => True) →
   Sim P ρ (do let y ← Builtin.holdsCells a (sLen * size); let z ← Go.frozen (a.add (sLen / 2 * size)); let there ← Pure.pure (y && !z); f there) (do let y ← Builtin.holdsCells a' (sLen * size); let z ← Go.frozen (a'.add (sLen / 2 * size)); let there ← Pure.pure (y && !z); f' there) fun _ _ _ => True := fun {a a'} f f' ha h => by
  refine Sim.bind (Sim.holdsCells ha) ?_
  rintro ρ1 p1 _ y rfl
  refine Sim.bind (Sim.frozen (by rw [AR.addr_add_block, AR.addr_add_block]; exact p1 _ _ ha.1) (ha.add _).2.1) ?_
  rintro ρ2 p2 _ z rfl
  exact fin _ _ (y && !z) fun ρ3 p3 => h _ ρ3 (p1.trans (p2.trans p3))
 rcases hx with ⟨h, rfl⟩ | h
 ·cases h <;> cases b <;> cases b' <;> first
   | exact hb.elim
   | exact fin _ _ true fun _ _ => Sim.pure trivial
   | exact two _ _ hb fun q _ _ => by cases q <;> exact Sim.pure trivial
 ·cases h with
  | s n c ha =>
   have hc : ∀ {ρ2 : List Nat} {g : Bool → Bool} {g' : Bool → Bool} {m : Nat}, Pre ρ ρ2 → Sim P ρ2 (do let y ← Builtin.holdsCells _ m; Pure.pure (g y)) (do let y ← Builtin.holdsCells _ m; Pure.pure (g' y)) fun _ _ _ => True := fun {ρ2 g g' m} p2 => by
    refine Sim.bind (Sim.holdsCells (ha.mono p2)) ?_
    rintro ρ1 p1 _ y rfl
    exact Sim.pure trivial
   cases b <;> cases b' <;> first
    | exact hb.elim
    | exact fin _ _ true fun _ p2 => hc p2
    | exact two _ _ hb fun q _ p2 => by cases q <;> first | exact Sim.pure trivial | exact hc p2
  | _ =>
   cases b <;> cases b' <;> first
    | exact hb.elim
    | exact fin _ _ true fun _ _ => Sim.pure trivial
    | exact two _ _ hb fun q _ _ => by cases q <;> exact Sim.pure trivial
theorem Sim.lenOf {x x' : Value} (hx : VV ρ x x') : Sim P ρ (Builtin.lenOf x) (Builtin.lenOf x') EQ := by
 rcases hx with ⟨h, rfl⟩ | h
 ·cases h <;> first | exact Sim.stuck | exact Sim.pure rfl
 ·cases h <;> first | exact Sim.stuck | exact Sim.pure rfl
theorem Sim.firstCells {size n : Nat} {x x' : Value} (hx : VV ρ x x') : Sim P ρ (Builtin.firstCells size n x) (Builtin.firstCells size n x') AQ := by
 rcases hx with ⟨h, rfl⟩ | h
 ·cases h <;> try exact Sim.stuck
  refine Sim.pure ⟨fun c hc => ?_, rfl⟩
  obtain ⟨b, _, rfl⟩ := Array.mem_map.1 hc
  exact .int _ _
 ·cases h with
  | s0 n c => exact Sim.pure ⟨by simp, rfl⟩
  | s n c ha => exact Sim.loadCells ha _
  | _ => exact Sim.stuck
theorem flat_zeroCells {z : Array Value} (h : ∀ c ∈ z, Flat c) (n : Nat) : ∀ c ∈ Builtin.zeroCells z n, Flat c := fun c hc => by
 obtain ⟨j, _, rfl⟩ := Array.mem_map.1 hc
 exact flat_get h _
theorem Sim.append {ts : Array TypeId} {t sT e : TypeId} (h0 : ts[0]? = some sT) (hs : P.underlying sT = some (.slice e)) (hz : ZF P e) (h1 : ∀ xT, ts[1]? = some xT → ∀ k, P.underlying xT ≠ some (.int k))
    {s s' x x' : Value} (hv : VV ρ s s') (hx : VV ρ x x') : Sim P ρ (Builtin.append_ ts t #[s, x]) (Builtin.append_ ts t #[s', x']) RQ := by
  unfold Builtin.append_
  rw [h0]
  refine Sim.bind Sim.underlying ?_
  rintro ρ1 p1 _ d ⟨rfl, e1⟩
  rw [hs] at e1; cases e1
  have hv1 := hv.mono p1
  clear hv
  by_cases hS : ∃ b b' sl sc, BR ρ1 b b' ∧ s = .slice b sl sc ∧ s' = .slice b' sl sc
  · obtain ⟨b, b', sLen, sCap, hb, rfl, rfl⟩ := hS
    refine Sim.bind Sim.sizeOf ?_
    rintro ρ3 p3 _ size ⟨rfl, _⟩
    have hx3 := hx.mono (p1.trans p3)
    have fork1 : ∀ {f f' : Bool → Sem Value}, (∀ ρz, Pre ρ3 ρz → Sim P ρz (f false) (f' false) RQ) → Sim P ρ3 (do let zeros ← Pure.pure false; f zeros) (do let zeros ← Pure.pure false; f' zeros) RQ := fun {f f'} h => by
      refine Sim.bind (Q := fun _ y y' => y = false ∧ y' = false) (Sim.pure ⟨rfl, rfl⟩) ?_
      rintro ρz pz _ _ ⟨rfl, rfl⟩
      exact h ρz pz
    have fork2 : ∀ {f f' : Bool → Sem Value} {xT : TypeId} {g : TypeDesc → Bool}, (∀ d, P.underlying xT = some d → g d = false) → (∀ ρz, Pre ρ3 ρz → Sim P ρz (f false) (f' false) RQ) → Sim P ρ3 (do let d ← Go.underlying xT; let zeros ← Pure.pure (g d); f zeros) (do let d ← Go.underlying xT; let zeros ← Pure.pure (g d); f' zeros) RQ := fun {f f' xT g} hg h => by
      refine Sim.bind Sim.underlying ?_
      rintro ρ4 p4 _ d ⟨rfl, ed⟩
      rw [hg d ed]
      refine Sim.bind (Q := fun _ y y' => y = false ∧ y' = false) (Sim.pure ⟨rfl, rfl⟩) ?_
      rintro ρz pz _ _ ⟨rfl, rfl⟩
      exact h ρz (p4.trans pz)
    cases h1t : ts[1]?
    all_goals first
      | refine fork1 ?_
      | (refine fork2 (fun d ed => ?_) ?_
         · cases d <;> first | rfl | exact absurd ed (h1 _ h1t _))
    all_goals
      intro ρz pz
      have hxz := hx3.mono pz
      refine Sim.bind (Sim.lenOf hxz) ?_
      rintro ρ4 p4 _ n rfl
      have hx4 := hxz.mono p4
      have hb4 := hb.mono (p3.trans (pz.trans p4))
      simp only [Bool.not_false, if_true, Bool.false_eq_true, if_false, false_or]
      split
      · refine Sim.bind (Sim.firstCells hx4) ?_
        rintro ρ5 p5 _ new ⟨hc, rfl⟩
        have hb5 := hb4.mono p5
        cases b <;> cases b' <;> try exact hb5.elim
        · exact Sim.pure (.s0 _ _)
        · refine Sim.bind (Sim.storeCells _ _ (AR.add hb5 _) (by simpa using hc)) ?_
          rintro ρ6 p6 _ _ _
          exact Sim.pure (.s _ _ (AR.mono hb5 p6))
      · refine Sim.bind Sim.typeInfo ?_
        rintro ρ5 p5 _ i5 ⟨rfl, _⟩
        split
        · exact Sim.bind (Q := fun _ _ _ => False) Sim.rpError fun _ _ _ _ h => h.elim
        refine Sim.bind Sim.typeInfo ?_
        rintro ρ6 p6 _ i6 ⟨rfl, _⟩
        split
        · refine Sim.bind (Q := fun _ _ _ => False) ?_ fun _ _ _ _ h => h.elim
          refine Sim.bind (Sim.mayShare (hb4.mono (p5.trans p6)) (hx4.mono (p5.trans p6))) ?_
          rintro ρ7 p7 q q' _
          intro h τ m w _ _
          cases q <;> exact .inl ⟨_, _, rfl, rfl⟩
        refine Sim.bind (Sim.choose _) ?_
        rintro ρ7 p7 _ nc rfl
        refine Sim.bind Sim.typeInfo ?_
        rintro ρ8 p8 _ i8 ⟨rfl, _⟩
        refine Sim.bind Sim.askRoom ?_
        rintro ρ9 p9 _ _ _
        have p49 := p5.trans (p6.trans (p7.trans (p8.trans p9)))
        have hsl : VV ρ9 (.slice b sLen sCap) (.slice b' sLen sCap) := by
          have hb9 := hb4.mono p49
          cases b <;> cases b' <;> try exact hb9.elim
          · exact .inr (.s0 _ _)
          · exact .inr (.s _ _ hb9)
        refine Sim.bind (Sim.firstCells hsl) ?_
        rintro ρ10 p10 _ old ⟨ho, rfl⟩
        refine Sim.bind (Sim.firstCells (hx4.mono (p49.trans p10))) ?_
        rintro ρ11 p11 _ new ⟨hn, rfl⟩
        refine Sim.bind (Sim.zeroValue hz) ?_
        rintro ρ12 p12 _ z ⟨hzv, rfl⟩
        refine Sim.bind (Sim.newRow ?_) ?_
        · intro c hc
          rcases Array.mem_append.1 hc with h | h
          · rcases Array.mem_append.1 h with h | h
            · exact ho c h
            · exact hn c h
          · exact flat_zeroCells hzv.cells _ c h
        · rintro ρ13 p13 a a' ha
          exact Sim.pure (.s _ _ ha)
  · rcases hv1 with ⟨h, rfl⟩ | h
    · cases h <;> exact Sim.stuck
    · cases h with
      | s0 sl sc => exact absurd ⟨none, none, sl, sc, trivial, rfl, rfl⟩ hS
      | s sl sc ha => exact absurd ⟨some _, some _, sl, sc, ha, rfl, rfl⟩ hS
      | _ => exact Sim.stuck
theorem Sim.copy {ts : Array TypeId} {t : TypeId} {s s' x x' : Value} (hv : VV ρ s s') (hx : VV ρ x x') : Sim P ρ (Builtin.copy_ ts t #[s, x]) (Builtin.copy_ ts t #[s', x']) FQ := by
 unfold Builtin.copy_
 cases h0 : ts[0]? with
 | none => exact Sim.stuck
 | some sT =>
 refine Sim.bind Sim.underlying ?_
 rintro ρ1 p1 _ d ⟨rfl, e1⟩
 have hv1 := hv.mono p1
 clear hv
 cases d with
 | slice e =>
  rcases hv1 with ⟨h, rfl⟩ | h
  ·cases h <;> exact Sim.stuck
  ·cases h with
   | s0 sl sc =>
    refine Sim.bind (Sim.lenOf (hx.mono p1)) ?_
    rintro ρ2 p2 _ n rfl
    refine Sim.bind Sim.sizeOf ?_
    rintro ρ3 p3 _ z ⟨rfl, _⟩
    refine Sim.bind (Sim.firstCells (hx.mono (p1.trans (p2.trans p3)))) ?_
    rintro ρ4 p4 _ cs ⟨hc, rfl⟩
    exact Sim.pure ⟨.int _ _, rfl⟩
   | s sl sc ha =>
    refine Sim.bind (Sim.lenOf (hx.mono p1)) ?_
    rintro ρ2 p2 _ n rfl
    refine Sim.bind Sim.sizeOf ?_
    rintro ρ3 p3 _ z ⟨rfl, _⟩
    refine Sim.bind (Sim.firstCells (hx.mono (p1.trans (p2.trans p3)))) ?_
    rintro ρ4 p4 _ cs ⟨hc, rfl⟩
    refine Sim.bind (Sim.storeCells _ _ (ha.mono (p2.trans (p3.trans p4))) (by simpa using hc)) ?_
    rintro ρ5 p5 _ _ _
    exact Sim.pure ⟨.int _ _, rfl⟩
   | _ => exact Sim.stuck
 | _ => exact Sim.stuck
theorem Sim.loadBytes : ∀ (n : Nat) {ρ : List Nat} {a a' : Addr} (acc : ByteArray), AR ρ a a' → Sim P ρ (Go.loadBytes a acc n) (Go.loadBytes a' acc n) EQ
 | 0, ρ, a, a', acc, ha => Sim.pure rfl
 | n + 1, ρ, a, a', acc, ha => by
  unfold Go.loadBytes
  refine Sim.bind (Sim.load ha) ?_
  rintro ρ1 p1 _ v ⟨hv, rfl⟩
  cases hv with
  | int k m => cases k <;> first | exact Sim.stuck | exact Sim.loadBytes n _ ((ha.mono p1).add 1)
  | _ => exact Sim.stuck
theorem Sim.variablesAt {a a' : Addr} (ha : AR ρ a a') {u : TypeId} {n : Nat} : Sim P ρ (Go.variablesAt a u n) (Go.variablesAt a' u n) EQ := by
 unfold Go.variablesAt
 refine Sim.bind Sim.program ?_
 rintro ρ1 p1 _ _ ⟨rfl, rfl⟩
 refine Sim.bind (Sim.shape (p1 _ _ ha.1)) ?_
 rintro ρ2 p2 _ s ⟨rfl, hs⟩
 cases s with
 | none => cases hs
 | some s => exact Sim.pure (by rw [ha.2.1])
theorem Sim.elemOf {t : TypeId} : Sim P ρ (Go.elemOf t) (Go.elemOf t) EQ := by
 unfold Go.elemOf
 refine Sim.bind Sim.underlying ?_
 rintro ρ1 p1 _ d ⟨rfl, e1⟩
 cases d <;> first | exact Sim.stuck | exact Sim.pure rfl
theorem Sim.unsafeString {ts : Array TypeId} {t : TypeId} {x x' l l' : Value} (hx : VV ρ x x') (hl : VV ρ l l') : Sim P ρ (Builtin.unsafeString_ ts t #[x, l]) (Builtin.unsafeString_ ts t #[x', l']) FQ := by
 unfold Builtin.unsafeString_
 have go : ∀ {b b' : Option Addr}, BR ρ b b' → Sim P ρ (Builtin.unsafeString_ ts t #[.pointer b, l]) (Builtin.unsafeString_ ts t #[.pointer b', l']) FQ := fun {b b'} hb => by
  unfold Builtin.unsafeString_
  refine Sim.bind (Sim.asInt hl) ?_
  rintro ρ1 p1 _ n rfl
  cases h0 : ts[0]? with
  | none => exact Sim.stuck
  | some pt =>
   dsimp only
   split
   ·exact Sim.bind (Q := fun _ _ _ => False) Sim.rpError fun _ _ _ _ h => h.elim
   split
   ·exact Sim.bind (Q := fun _ _ _ => False) (Sim.unsup rfl) fun _ _ _ _ h => h.elim
   have hb1 := hb.mono p1
   cases b <;> cases b' <;> try exact hb1.elim
   ·dsimp only
    split
    ·exact Sim.pure ⟨.string _, rfl⟩
    ·exact Sim.rpError
   ·dsimp only
    split
    ·exact Sim.pure ⟨.string _, rfl⟩
    ·refine Sim.bind Sim.elemOf ?_
     rintro ρ2 p2 _ e rfl
     refine Sim.bind (Sim.variablesAt (AR.mono hb1 p2)) ?_
     rintro ρ3 p3 _ q rfl
     cases q with
     | false => exact Sim.unsup rfl
     | true =>
      simp only [if_true]
      have ha3 := AR.mono hb1 (p2.trans p3)
      refine Sim.bind (Sim.loadBytes _ _ ha3) ?_
      rintro ρ4 p4 _ s rfl
      refine Sim.bind (Sim.freeze (p4 _ _ ha3.1) ha3.2.1 _) ?_
      rintro ρ5 p5 _ _ _
      exact Sim.pure ⟨.string _, rfl⟩
 rcases hx with ⟨h, rfl⟩ | h
 ·cases h <;> exact Sim.stuck
 ·cases h with
  | p0 => exact go (b := none) (b' := none) trivial
  | p ha => exact go (b := some _) (b' := some _) ha
  | _ => exact Sim.stuck
theorem flat_foldl {l : List (Value × Nat)} {off : Nat} : ∀ {cs : Array Value}, (∀ c ∈ cs, Flat c) → (∀ x ∈ l, Flat x.1) → ∀ c ∈ l.foldl (fun cs (x : Value × Nat) => cs.setIfInBounds (off + x.2) x.1) cs, Flat c := by
 induction l with
 | nil => exact fun h _ => h
 | cons x l ih =>
  intro cs h1 h2
  refine ih (fun c hc => ?_) fun y hy => h2 y (by simp [hy])
  rcases Array.mem_or_eq_of_mem_setIfInBounds hc with h | rfl
  ·exact h1 c h
  ·exact h2 x (by simp)
theorem flat_fill {place : Nat → Option (Nat × Nat)} : ∀ {l : List (Nat × Value)} {cs out : Array Value}, (∀ c ∈ cs, Flat c) → (∀ x ∈ l, Flat x.2) → Instr.fill place cs l = some out → ∀ c ∈ out, Flat c
 | [], cs, out, h1, _, e => by unfold Instr.fill at e; cases e; exact h1
 | (i, v) :: l, cs, out, h1, h2, e => by
  unfold Instr.fill at e
  split at e
  ·cases e
  ·dsimp only at e
   split at e
   ·cases e
   ·refine flat_fill (fun c hc => ?_) (fun x hx => h2 x (by simp [hx])) e
    rw [← Array.foldl_toList] at hc
    refine flat_foldl (l := v.cells.zipIdx.toList) h1 (fun x hx => ?_) c hc
    have hx' : x ∈ v.cells.zipIdx := Array.mem_toList_iff.1 hx
    have := Array.fst_mem_of_mem_zipIdx hx'
    exact (h2 (i, v) (by simp)).cells _ this
theorem Sim.mapML {α β : Type} {f : α → Sem β} (hf : ∀ a ρ', Sim P ρ' (f a) (f a) EQ) : ∀ (l : List α) {ρ : List Nat}, Sim P ρ (l.mapM f) (l.mapM f) EQ
 | [], ρ => Sim.pure rfl
 | a :: l, ρ => by
  rw [List.mapM_cons]
  refine Sim.bind (hf a ρ) ?_
  rintro ρ1 p1 _ b rfl
  refine Sim.bind (Sim.mapML hf l) ?_
  rintro ρ2 p2 _ bs rfl
  exact Sim.pure rfl
theorem Sim.mapMA {α β : Type} {f : α → Sem β} (hf : ∀ a ρ', Sim P ρ' (f a) (f a) EQ) (l : Array α) : Sim P ρ (l.mapM f) (l.mapM f) EQ := by
 rw [Array.mapM_eq_mapM_toList]
 exact Sim.map (Sim.mapML hf _) fun _ _ _ _ e => by subst e; rfl
theorem Sim.build {t : TypeId} (hz : ZF P t) {ps : Array (Nat × Value)} (hp : ∀ x ∈ ps, Flat x.2) : Sim P ρ (Instr.build t ps) (Instr.build t ps) FQ := by
 unfold Instr.build
 refine Sim.bind (Sim.zeroValue hz) ?_
 rintro ρ1 p1 _ z ⟨hzv, rfl⟩
 refine Sim.bind Sim.underlying ?_
 rintro ρ2 p2 _ d ⟨rfl, e1⟩
 have fin : ∀ {place : Nat → Option (Nat × Nat)} {ρ3 : List Nat} {why : String}, Sim P ρ3 (match Instr.fill place z.cells ps.toList with | some cells => Pure.pure (Value.agg cells) | _ => Go.stuck why) (match Instr.fill place z.cells ps.toList with | some cells => Pure.pure (Value.agg cells) | _ => Go.stuck why) FQ := fun {place ρ3 why} => by
  cases h : Instr.fill place z.cells ps.toList with
  | none => exact Sim.stuck
  | some cs => exact Sim.pure ⟨.agg (flat_fill hzv.cells (by simpa using hp) h), rfl⟩
 cases d with
 | struct fs =>
  refine Sim.bind (Sim.mapMA (fun f ρ' => ?_) _) ?_
  ·refine Sim.bind Sim.sizeOf ?_
   rintro ρ3 p3 _ n ⟨rfl, _⟩
   exact Sim.pure rfl
  ·rintro ρ3 p3 _ n rfl
   exact fin
 | array n e =>
  refine Sim.bind Sim.sizeOf ?_
  rintro ρ3 p3 _ n ⟨rfl, _⟩
  exact fin
 | _ => exact Sim.stuck
theorem Sim.buildSlice {t e : TypeId} (ht : P.underlying t = some (.slice e)) (hz : ZF P e) {n : Nat} {ps : Array (Nat × Value)} (hp : ∀ x ∈ ps, Flat x.2) : Sim P ρ (Instr.buildSlice t n ps) (Instr.buildSlice t n ps) RQ := by
 unfold Instr.buildSlice
 refine Sim.bind Sim.underlying ?_
 rintro ρ1 p1 _ d ⟨rfl, e1⟩
 rw [ht] at e1; cases e1
 refine Sim.bind Sim.sizeOf ?_
 rintro ρ2 p2 _ s ⟨rfl, _⟩
 dsimp only
 split
 ·exact Sim.bind (Q := fun _ _ _ => False) (Sim.unsup rfl) fun _ _ _ _ h => h.elim
 have fin : ∀ {zero : Array Value} {ρ3 : List Nat}, (∀ c ∈ zero, Flat c) → Sim P ρ3 (match Instr.fill (fun i => some (i * s, s)) ((Array.range (n * s)).map (zero[· % zero.size]!)) ps.toList with | some cells => do let a ← Go.newRow e cells; Pure.pure (Value.slice (some a) n n) | _ => Go.stuck "buildSlice: a part of the wrong size")
   (match Instr.fill (fun i => some (i * s, s)) ((Array.range (n * s)).map (zero[· % zero.size]!)) ps.toList with | some cells => do let a ← Go.newRow e cells; Pure.pure (Value.slice (some a) n n) | _ => Go.stuck "buildSlice: a part of the wrong size") RQ := fun {zero ρ3} hf => by
  cases h : Instr.fill (fun i => some (i * s, s)) ((Array.range (n * s)).map (zero[· % zero.size]!)) ps.toList with
  | none => exact Sim.stuck
  | some cs =>
   refine Sim.bind (Sim.newRow (flat_fill (fun c hc => ?_) (by simpa using hp) h)) ?_
   ·obtain ⟨j, _, rfl⟩ := Array.mem_map.1 hc
    exact flat_get hf _
   ·rintro ρ8 p8 a a' ha
    exact Sim.pure (.s _ _ ha)
 split
 ·refine Sim.bind (Q := AQ) (Sim.pure ⟨by simp, rfl⟩) ?_
  rintro ρ3 p3 _ zero ⟨hf, rfl⟩
  exact fin hf
 ·refine Sim.bind (Sim.zeroValue hz) ?_
  rintro ρ3 p3 _ v ⟨hv, rfl⟩
  exact fin hv.cells
end
end Go.Priv
end
section
set_option linter.unusedSimpArgs false
namespace Go.Priv
open Go
def numB : Value → Bool
 | .bool _ | .int _ _ | .string _ => true
 | _ => false
theorem numB_flat {v : Value} (h : numB v = true) : Flat v := by
 cases v <;> first | exact .bool _ | exact .int _ _ | exact .string _ | cases h
def nilB : Value → Bool
 | .pointer none | .slice none _ _ => true
 | _ => false
theorem nilB_ref {ρ : List Nat} {v : Value} (h : nilB v = true) : Ref ρ v v := by
 cases v with
 | pointer a => cases a <;> first | exact .p0 | cases h
 | slice a n c => cases a <;> first | exact .s0 _ _ | cases h
 | _ => cases h
def flat1 : Value → Bool
 | .agg cs => cs.all numB
 | v => numB v
theorem flat1_flat {v : Value} (h : flat1 v = true) : Flat v := by
 by_cases hn : numB v = true
 ·exact numB_flat hn
 ·cases v <;> first | exact absurd h hn | skip
  exact .agg fun c hc => numB_flat (Array.all_eq_true_iff_forall_mem.1 h c hc)
def xFlat (rf : Tmp → Bool) : Operand → Bool
 | .tmp t => !rf t
 | .const v => numB v
 | _ => false
def xAny : Operand → Bool
 | .tmp _ => true
 | .const v => numB v || nilB v
 | _ => false
def zB (P : Program) (t : TypeId) : Bool := match (P.info? t).bind (·.zero) with
 | some v => flat1 v
 | none => true
theorem zB_ZF {P : Program} {t : TypeId} (h : zB P t = true) : ZF P t := fun i v e1 e2 => by
 have : (P.info? t).bind (·.zero) = some v := by rw [e1]; exact e2
 unfold zB at h
 rw [this] at h
 exact flat1_flat h
def slB (P : Program) (t : TypeId) : Bool := match P.underlying t with
 | some (.slice e) => zB P e
 | _ => false
theorem slB_ex {P : Program} {t : TypeId} (h : slB P t = true) : ∃ e, P.underlying t = some (.slice e) ∧ ZF P e := by
 unfold slB at h
 cases h1 : P.underlying t with
 | none => rw [h1] at h; cases h
 | some d => rw [h1] at h; cases d <;> first | exact ⟨_, rfl, zB_ZF h⟩ | cases h
def u8B (P : Program) (t : TypeId) : Bool := match P.underlying t with
 | some (.int .u8) => true
 | _ => false
theorem u8B_ex {P : Program} {t : TypeId} (h : u8B P t = true) : P.underlying t = some (.int .u8) := by
 unfold u8B at h
 cases h1 : P.underlying t with
 | none => rw [h1] at h; cases h
 | some d =>
  rw [h1] at h
  cases d with
  | int k => cases k <;> first | rfl | cases h
  | _ => cases h
def intB (P : Program) (t : TypeId) : Bool := match P.underlying t with
 | some (.int _) => true
 | _ => false
theorem intB_ex {P : Program} {t : TypeId} (h : intB P t = true) : ∃ k, P.underlying t = some (.int k) := by
 unfold intB at h
 cases h1 : P.underlying t with
 | none => rw [h1] at h; cases h
 | some d => rw [h1] at h; cases d <;> first | exact ⟨_, rfl⟩ | cases h
def ptrB (P : Program) (t : TypeId) : Bool := match P.underlying t with
 | some (.pointer _) => true
 | _ => false
theorem ptrB_ex {P : Program} {t : TypeId} (h : ptrB P t = true) : ∃ k, P.underlying t = some (.pointer k) := by
 unfold ptrB at h
 cases h1 : P.underlying t with
 | none => rw [h1] at h; cases h
 | some d => rw [h1] at h; cases d <;> first | exact ⟨_, rfl⟩ | cases h
def isEq : BinOp → Bool
 | .eql | .neq => true
 | _ => false
theorem isEq_iff {op : BinOp} : (op = .eql ∨ op = .neq) ↔ isEq op = true := by cases op <;> simp [isEq]
def isNilC : Operand → Bool
 | .const (.pointer none) => true
 | _ => false
def dstRef (rf : Tmp → Bool) (o : Oper) : Bool := match o.dst with
 | none => true
 | some d => rf d
def convB (P : Program) (s d : TypeId) (r : Bool) : Bool := match P.underlying s, P.underlying d with
 | some (.int _), some (.int _) => true
 | some .string, some (.slice e) => u8B P e && r
 | some (.slice e), some .string => u8B P e
 | _, _ => false
def fldB (P : Program) (s : TypeId) (f : Nat) : Bool := match P.underlying s with
 | some (.struct fs) => match fs[f]? with
  | some fi => P.cellsOf fi.type != 0
  | none => false
 | _ => false
def sliB (P : Program) (t : TypeId) (r : Bool) : Bool := match P.underlying t with
 | some .string => true
 | some (.slice _) => r
 | _ => false
def appB (P : Program) (ts : Array TypeId) : Bool := (match ts[0]? with
 | some t => slB P t
 | none => false) && match ts[1]? with
 | some t => !intB P t
 | none => true
def oAny : Option Operand → Bool
 | some x => xAny x
 | none => true
section
variable (P : Program) (FS : List FuncId) (RF : FuncId → Tmp → Bool) (RR : FuncId → Bool)
def okCall (f : FuncId) (o : Oper) (c : Call) : Bool := match c.callee with
 | .value (.func g) => FS.contains g && (c.args.zipIdx.all fun x => xFlat (RF f) x.1 || (xAny x.1 && RF g x.2)) && (!RR g || dstRef (RF f) o)
 | .builtin .len => c.args.size == 1 && c.args.all xAny
 | .builtin .append => c.args.size == 2 && c.args.all xAny && appB P c.argTypes && dstRef (RF f) o
 | .builtin .copy => c.args.size == 2 && c.args.all xAny
 | .builtin .unsafeString => c.args.size == 2 && c.args.all xAny
 | _ => false
def okOper (f : FuncId) (o : Oper) : Bool := match o.op with
 | .move x | .assign x => xFlat (RF f) x || (xAny x && dstRef (RF f) o)
 | .pick c a b => xAny c && ((xFlat (RF f) a && xFlat (RF f) b) || (xAny a && xAny b && dstRef (RF f) o))
 | .alloc t => zB P t && dstRef (RF f) o
 | .box _ x => xFlat (RF f) x && dstRef (RF f) o
 | .build t ps => zB P t && ps.all fun x => xFlat (RF f) x.2
 | .buildSlice t _ ps => slB P t && (ps.all fun x => xFlat (RF f) x.2) && dstRef (RF f) o
 | .load _ a => xAny a
 | .store _ a x => xAny a && xFlat (RF f) x
 | .nilCheck x => xAny x && dstRef (RF f) o
 | .binOp op t x y _ => (xFlat (RF f) x && xFlat (RF f) y && (!isEq op || intB P t)) || (isEq op && xAny x && isNilC y && ptrB P t)
 | .unOp _ _ x => xFlat (RF f) x
 | .convert s d x => xAny x && convB P s d (dstRef (RF f) o)
 | .makeSlice t l c => slB P t && xAny l && xAny c && dstRef (RF f) o
 | .slice t x lo hi none => xAny x && oAny lo && oAny hi && sliB P t (dstRef (RF f) o)
 | .fieldAddr s x n => xAny x && dstRef (RF f) o && fldB P s n
 | .indexAddr _ x i => xAny x && xAny i && dstRef (RF f) o
 | .index _ x i => xFlat (RF f) x && xAny i
 | .extract x _ => xFlat (RF f) x || (xAny x && dstRef (RF f) o)
 | .call c => okCall P FS RF RR f o c
 | _ => false
end
def TR (rf : Tmp → Bool) (ρ : List Nat) (tm tm' : Array Value) : Prop := tm.size = tm'.size ∧ ∀ t v v', tm[t]? = some v → tm'[t]? = some v' → VV ρ v v' ∧ (rf t = false → Flat v)
theorem TR.mono {rf : Tmp → Bool} {ρ ρ' : List Nat} {tm tm' : Array Value} (h : TR rf ρ tm tm') (p : Pre ρ ρ') : TR rf ρ' tm tm' := ⟨h.1, fun t v v' e e' => ⟨(h.2 t v v' e e').1.mono p, (h.2 t v v' e e').2⟩⟩
theorem flat_undef : Flat undef := .tuple (by simp)
theorem Ref.not_flat {ρ : List Nat} {v v' : Value} (h : Ref ρ v v') : ¬ Flat v := by
 induction h with
 | trr _ _ h1 _ => intro f; cases f with | tuple h => exact h1 (h _ (by simp))
 | trf _ _ h1 => intro f; cases f with | tuple h => exact h1 (h _ (by simp))
 | tfr _ _ h1 => intro f; cases f with | tuple h => exact h1 (h _ (by simp))
 | _ => intro f; cases f
theorem VV.flat {ρ : List Nat} {v v' : Value} (h : VV ρ v v') (f : Flat v) : v' = v := by
 rcases h with h | h
 ·exact h.2
 ·exact absurd f h.not_flat
theorem TR.get {rf : Tmp → Bool} {ρ : List Nat} {tm tm' : Array Value} (h : TR rf ρ tm tm') (t : Nat) : VV ρ (tm.getD t undef) (tm'.getD t undef) ∧ (rf t = false → Flat (tm.getD t undef)) := by
 rw [Array.getD_eq_getD_getElem?, Array.getD_eq_getD_getElem?]
 by_cases hl : t < tm.size
 ·have hl' : t < tm'.size := h.1 ▸ hl
  rw [Array.getElem?_eq_getElem hl, Array.getElem?_eq_getElem hl']
  exact h.2 t _ _ (Array.getElem?_eq_getElem hl) (Array.getElem?_eq_getElem hl')
 ·have hl' : ¬ t < tm'.size := h.1 ▸ hl
  rw [Array.getElem?_eq_none (by omega), Array.getElem?_eq_none (by omega)]
  exact ⟨.inl ⟨flat_undef, rfl⟩, fun _ => flat_undef⟩
theorem TR.any {rf : Tmp → Bool} {ρ : List Nat} {fr fr' : Frame} (h : TR rf ρ fr.tmps fr'.tmps) {x : Operand} (hx : xAny x = true) : VV ρ (fr.eval x) (fr'.eval x) := by
 cases x with
 | tmp t => exact (h.get t).1
 | const v =>
  rcases Bool.or_eq_true _ _ ▸ hx with h1 | h1
  ·exact .inl ⟨numB_flat h1, rfl⟩
  ·exact .inr (nilB_ref h1)
 | _ => cases hx
theorem TR.flat {rf : Tmp → Bool} {ρ : List Nat} {fr fr' : Frame} (h : TR rf ρ fr.tmps fr'.tmps) {x : Operand} (hx : xFlat rf x = true) : Flat (fr.eval x) ∧ fr'.eval x = fr.eval x := by
 cases x with
 | tmp t =>
  have h1 : rf t = false := by simpa [xFlat] using hx
  have h2 := h.get t
  exact ⟨h2.2 h1, h2.1.flat (h2.2 h1)⟩
 | const v => exact ⟨numB_flat hx, rfl⟩
 | _ => cases hx
inductive NR (FS : List FuncId) (RF : FuncId → Tmp → Bool) (RR : FuncId → Bool) (f : FuncId) (o : Oper) (ρ : List Nat) : Next → Next → Prop
 | value {v v' : Value} : VV ρ v v' → (Flat v ∨ dstRef (RF f) o = true) → NR FS RF RR f o ρ (.value v) (.value v')
 | skip : NR FS RF RR f o ρ .skip .skip
 | enter {g : FuncId} {args args' : Array Value} : g ∈ FS → TR (RF g) ρ args args' → (RR g = true → dstRef (RF f) o = true) → NR FS RF RR f o ρ (.enter g args) (.enter g args')
section
variable {P : Program} {FS : List FuncId} {RF : FuncId → Tmp → Bool} {RR : FuncId → Bool} {ρ : List Nat} {f : FuncId} {o : Oper}
theorem Sim.valF {s s' : Sem Value} (h : Sim P ρ s s' FQ) : Sim P ρ (do Pure.pure (Next.value (← s))) (do Pure.pure (Next.value (← s'))) (NR FS RF RR f o) := by
 refine Sim.bind h ?_
 rintro ρ1 p1 v v' ⟨hv, rfl⟩
 exact Sim.pure (.value (.inl ⟨hv, rfl⟩) (.inl hv))
theorem Sim.valR {s s' : Sem Value} (h : Sim P ρ s s' RQ) (hd : dstRef (RF f) o = true) : Sim P ρ (do Pure.pure (Next.value (← s))) (do Pure.pure (Next.value (← s'))) (NR FS RF RR f o) := by
 refine Sim.bind h ?_
 rintro ρ1 p1 v v' hv
 exact Sim.pure (.value (.inr hv) (.inr hd))
theorem Sim.unit {s s' : Sem Unit} (h : Sim P ρ s s' fun _ _ _ => True) : Sim P ρ (do s; Pure.pure Next.skip) (do s'; Pure.pure Next.skip) (NR FS RF RR f o) := by
 refine Sim.bind h ?_
 rintro ρ1 p1 v v' _
 exact Sim.pure .skip
theorem flat_parts {rf : Tmp → Bool} {fr fr' : Frame} (h : TR rf ρ fr.tmps fr'.tmps) {ps : Array (Nat × Operand)} (hp : (ps.all fun x => xFlat rf x.2) = true) :
  (∀ x ∈ ps.map (fun x => (x.1, fr.eval x.2)), Flat x.2) ∧ ps.map (fun x => (x.1, fr'.eval x.2)) = ps.map (fun x => (x.1, fr.eval x.2)) := by
 have hp' := Array.all_eq_true_iff_forall_mem.1 hp
 refine ⟨fun x hx => ?_, ?_⟩
 ·obtain ⟨y, hy, rfl⟩ := Array.mem_map.1 hx
  exact (h.flat (hp' y hy)).1
 ·refine Array.map_congr_left fun y hy => ?_
  rw [(h.flat (hp' y hy)).2]
theorem OV.of {fr fr' : Frame} {rf : Tmp → Bool} (h : TR rf ρ fr.tmps fr'.tmps) {x : Option Operand} (hx : oAny x = true) : OV ρ (x.map fr.eval) (x.map fr'.eval) := by
 cases x with
 | none => trivial
 | some x => exact h.any hx
theorem Sim.okCall {fr fr' : Frame} (h : TR (RF f) ρ fr.tmps fr'.tmps) (hFS : ∀ g ∈ FS, ∃ fn, P.funcs[g]? = some fn ∧ (fn.name == "runtime.NumGoroutine") = false ∧ fn.body.isNone = false) {c : Call} (hok : okCall P FS RF RR f o c = true) :
  Sim P ρ (do let d ← resolve fr.eval c o.type; invoke d.target d.args) (do let d ← resolve fr'.eval c o.type; invoke d.target d.args) (NR FS RF RR f o) := by
 obtain ⟨callee, args, ats⟩ := c
 unfold Priv.okCall at hok
 have one : ∀ {Q : List Nat → Value → Value → Prop} {F : Array Value → Sem Value}, (args.size == 1 && args.all xAny) = true → (∀ x x', VV ρ x x' → Sim P ρ (F #[x]) (F #[x']) Q) → Sim P ρ (F (args.map fr.eval)) (F (args.map fr'.eval)) Q := fun {Q F} hc hF => by
  rw [Bool.and_eq_true] at hc
  obtain ⟨x, rfl⟩ : ∃ x, args = #[x] := Array.size_eq_one_iff.1 (by simpa using hc.1)
  simp only [List.map_toArray, List.map_cons, List.map_nil]
  exact hF _ _ (h.any (Array.all_eq_true_iff_forall_mem.1 hc.2 x (by simp)))
 have two : ∀ {Q : List Nat → Value → Value → Prop} {F : Array Value → Sem Value}, (args.size == 2 && args.all xAny) = true → (∀ x x' y y', VV ρ x x' → VV ρ y y' → Sim P ρ (F #[x, y]) (F #[x', y']) Q) → Sim P ρ (F (args.map fr.eval)) (F (args.map fr'.eval)) Q := fun {Q F} hc hF => by
  rw [Bool.and_eq_true] at hc
  obtain ⟨x, y, rfl⟩ : ∃ x y, args = #[x, y] := by
   have : args.size = 2 := by simpa using hc.1
   exact ⟨args[0], args[1], by apply Array.ext (by simp [this]); intro i h1 h2; simp at h2; rcases (show i = 0 ∨ i = 1 by omega) with rfl | rfl <;> rfl⟩
  simp only [List.map_toArray, List.map_cons, List.map_nil]
  exact hF _ _ _ _ (h.any (Array.all_eq_true_iff_forall_mem.1 hc.2 x (by simp))) (h.any (Array.all_eq_true_iff_forall_mem.1 hc.2 y (by simp)))
 cases callee with
 | value x =>
  cases x with
  | func g =>
   simp only [Bool.and_eq_true] at hok
   obtain ⟨⟨h1, h2⟩, h3⟩ := hok
   have hg : g ∈ FS := by simpa using h1
   obtain ⟨fn, e1, e2, e3⟩ := hFS g hg
   have hT : TR (RF g) ρ (args.map fr.eval) (args.map fr'.eval) := by
    refine ⟨by simp, fun t v v' ev ev' => ?_⟩
    rw [Array.getElem?_map] at ev ev'
    cases ea : args[t]? with
    | none => rw [ea] at ev; cases ev
    | some x =>
     rw [ea] at ev ev'
     cases ev; cases ev'
     have hx := Array.all_eq_true_iff_forall_mem.1 h2 (x, t) (by
      obtain ⟨hl, e⟩ := Array.getElem?_eq_some_iff.1 ea
      rw [Array.mem_iff_getElem?]
      exact ⟨t, by rw [Array.getElem?_zipIdx, ea]; simp⟩)
     rw [Bool.or_eq_true, Bool.and_eq_true] at hx
     rcases hx with hx | ⟨hx, hr⟩
     ·have := h.flat hx
      exact ⟨.inl this, fun _ => this.1⟩
     ·exact ⟨h.any hx, fun e => by rw [hr] at e; cases e⟩
   have hc : ∀ {as as' : Array Value}, TR (RF g) ρ as as' → Sim P ρ (callFunc g as) (callFunc g as') (NR FS RF RR f o) := fun {as as'} ha => by
    unfold callFunc
    refine Sim.bind Sim.program ?_
    rintro ρ1 p1 _ _ ⟨rfl, rfl⟩
    rw [e1]
    simp only [e2, e3, Bool.false_eq_true, if_false]
    refine Sim.pure (.enter hg (ha.mono p1) fun hr => ?_)
    rw [hr] at h3
    simpa using h3
   have hE : ∀ q : Frame, (do let d ← resolve q.eval ⟨.value (.func g), args, ats⟩ o.type; invoke d.target d.args) = callFunc g (args.map q.eval) := fun q => by
    show callFunc g (#[] ++ args.map q.eval ++ #[]) = _
    rw [Array.empty_append, Array.append_empty]
   rw [hE, hE]
   exact hc hT
  | _ => cases hok
 | builtin b =>
  cases b with
  | len => exact Sim.valF (one (F := fun as => Builtin.len_ ats o.type as) hok fun x x' hx => Sim.len hx)
  | append =>
   simp only [Bool.and_eq_true] at hok
   obtain ⟨⟨⟨h1, h2⟩, h3⟩, h4⟩ := hok
   refine Sim.valR (two (F := fun as => Builtin.append_ ats o.type as) (by rw [Bool.and_eq_true]; exact ⟨h1, h2⟩) fun x x' y y' hx hy => ?_) h4
   unfold appB at h3
   rw [Bool.and_eq_true] at h3
   cases e0 : ats[0]? with
   | none => rw [e0] at h3; cases h3.1
   | some t0 =>
    rw [e0] at h3
    obtain ⟨e, he, hz⟩ := slB_ex h3.1
    refine Sim.append e0 he hz (fun xT ex k hk => ?_) hx hy
    have := h3.2
    rw [ex] at this
    simp [intB, hk] at this
  | copy => exact Sim.valF (two (F := fun as => Builtin.copy_ ats o.type as) hok fun x x' y y' hx hy => Sim.copy hx hy)
  | unsafeString => exact Sim.valF (two (F := fun as => Builtin.unsafeString_ ats o.type as) hok fun x x' y y' hx hy => Sim.unsafeString hx hy)
  | _ => cases hok
 | _ => cases hok
end
end Go.Priv
end
