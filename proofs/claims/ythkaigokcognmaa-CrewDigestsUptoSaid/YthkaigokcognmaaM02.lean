/- A part of the proof of CrewDigestsUpto (no statement of its own): Priv3, Priv4. -/
import Derived.Test.YthkaigokcognmaaM01
section
set_option linter.unusedSimpArgs false
namespace Go.Priv
open Go
section
variable {P : Program} {ρ : List Nat}
theorem Sim.intArith {op : BinOp} {k : IntKind} {a b : Int} : Sim P ρ (Op.intArith op k a b) (Op.intArith op k a b) FQ := by
 cases op <;> first | exact Sim.stuck | exact Sim.pure ⟨.int _ _, rfl⟩
theorem Sim.intDiv {op : BinOp} {k : IntKind} {a b : Int} : Sim P ρ (Op.intDiv op k a b) (Op.intDiv op k a b) FQ := by
 unfold Op.intDiv
 split
 ·exact Sim.rpError
 ·cases op <;> first | exact Sim.stuck | exact Sim.pure ⟨.int _ _, rfl⟩
theorem Sim.intBits {op : BinOp} {k : IntKind} {a b : Int} : Sim P ρ (Op.intBits op k a b) (Op.intBits op k a b) FQ := by
 cases op <;> first | exact Sim.stuck | exact Sim.pure ⟨.int _ _, rfl⟩
theorem Sim.shift {op : BinOp} {k k' : IntKind} {a b : Int} : Sim P ρ (Op.shift op k a k' b) (Op.shift op k a k' b) FQ := by
 unfold Op.shift
 split
 ·exact Sim.rpError
 ·cases op <;> first | exact Sim.stuck | exact Sim.pure ⟨.int _ _, rfl⟩
theorem Sim.intCmp {op : BinOp} {a b : Int} : Sim P ρ (Op.intCmp op a b) (Op.intCmp op a b) FQ := by
 cases op <;> first | exact Sim.stuck | exact Sim.pure ⟨.bool _, rfl⟩
theorem Sim.stringOp {op : BinOp} {a b : ByteArray} : Sim P ρ (Op.stringOp op a b) (Op.stringOp op a b) FQ := by
 cases op <;> first | exact Sim.stuck | exact Sim.pure ⟨.bool _, rfl⟩ | skip
 unfold Op.stringOp
 simp only
 split
 ·exact Sim.unsup rfl
 ·exact Sim.pure ⟨.string _, rfl⟩
theorem Sim.equalInt {t : TypeId} {k : IntKind} (ht : P.underlying t = some (.int k)) {x y : Value} (hx : Flat x) (hy : Flat y) : Sim P ρ (Op.equal t x y) (Op.equal t x y) EQ := by
 unfold Op.equal
 rw [show Op.maxDepth = 9999 + 1 from rfl]
 unfold Op.equalIn
 refine Sim.bind Sim.underlying ?_
 rintro ρ1 p1 _ d ⟨rfl, e⟩
 rw [ht] at e; cases e
 cases hx <;> cases hy <;> try exact Sim.stuck
 simp only
 split
 ·exact Sim.pure rfl
 ·exact Sim.stuck
theorem Sim.equalNil {t e : TypeId} (ht : P.underlying t = some (.pointer e)) {x x' : Value} (hx : VV ρ x x') : Sim P ρ (Op.equal t x (.pointer none)) (Op.equal t x' (.pointer none)) EQ := by
 unfold Op.equal
 rw [show Op.maxDepth = 9999 + 1 from rfl]
 unfold Op.equalIn
 refine Sim.bind Sim.underlying ?_
 rintro ρ1 p1 _ d ⟨rfl, e⟩
 rw [ht] at e; cases e
 rcases hx with ⟨h, rfl⟩ | h
 ·cases h <;> exact Sim.stuck
 ·cases h <;> first | exact Sim.stuck | exact Sim.pure rfl
theorem eqGuardType_int {p : Program} {t : TypeId} {k : IntKind} (ht : p.underlying t = some (.int k)) : p.eqGuardType p.depth t = false := by
 rw [show p.depth = (2 * (p.types.size + Made.depth) + 1) + 1 from rfl]
 unfold Program.eqGuardType
 rw [ht]
theorem Sim.eqGuard {op : BinOp} {t : TypeId} {ox oy : Operand} {x y : Value} (hx : Flat x) (hy : Flat y) (ho : (op = .eql ∨ op = .neq) → ∃ k, P.underlying t = some (.int k)) : Sim P ρ (Go.eqGuard op t ox oy x y) (Go.eqGuard op t ox oy x y) fun _ _ _ => True := by
  cases hx <;> cases hy <;> cases op <;> first
    | exact Sim.pure trivial
    | (obtain ⟨k, hk⟩ := ho (by simp)
       have hg := eqGuardType_int hk
       refine Sim.bind Sim.program ?_
       rintro ρ1 p1 _ _ ⟨rfl, rfl⟩
       refine Sim.bind Sim.program ?_
       rintro ρ2 p2 _ _ ⟨rfl, rfl⟩
       rw [hg]
       exact Sim.pure trivial)
theorem Sim.binOp {op : BinOp} {t : TypeId} {x y : Value} (hx : Flat x) (hy : Flat y) (ho : (op = .eql ∨ op = .neq) → ∃ k, P.underlying t = some (.int k)) : Sim P ρ (Go.binOp op t x y) (Go.binOp op t x y) FQ := by
 have eqc : (op = .eql ∨ op = .neq) → Sim P ρ (Op.equal t x y) (Op.equal t x y) EQ := fun h => (ho h).elim fun k hk => Sim.equalInt hk hx hy
 cases hx <;> cases hy <;> cases op <;> first
  | exact Sim.stuck
  | exact Sim.shift
  | exact Sim.stringOp
  | exact Sim.bind (eqc (.inl rfl)) (fun _ _ _ _ e => by subst e; exact Sim.pure ⟨.bool _, rfl⟩)
  | exact Sim.bind (eqc (.inr rfl)) (fun _ _ _ _ e => by subst e; exact Sim.pure ⟨.bool _, rfl⟩)
  | (unfold Go.binOp; simp only; first | exact Sim.shift | exact Sim.stringOp | exact Sim.stuck)
  | (unfold Go.binOp; simp only; split <;> first | exact Sim.stuck | exact Sim.intArith | exact Sim.intDiv | exact Sim.intBits | exact Sim.intCmp)
theorem Sim.unary {op : UnOp} {x : Value} (hx : Flat x) : Sim P ρ (Op.unary op x) (Op.unary op x) FQ := by
 unfold Op.unary
 cases hx <;> cases op <;> simp only <;> first | exact Sim.stuck | exact Sim.pure ⟨.bool _, rfl⟩ | exact Sim.intArith | exact Sim.intBits
theorem Sim.convII {src dst : TypeId} {k k' : IntKind} (h1 : P.underlying src = some (.int k)) (h2 : P.underlying dst = some (.int k')) {x x' : Value} (hx : VV ρ x x') : Sim P ρ (Go.convert src dst x) (Go.convert src dst x') FQ := by
 unfold Go.convert
 refine Sim.bind Sim.underlying ?_
 rintro ρ1 p1 _ d ⟨rfl, e⟩
 rw [h1] at e; cases e
 refine Sim.bind Sim.underlying ?_
 rintro ρ2 p2 _ d ⟨rfl, e⟩
 rw [h2] at e; cases e
 rcases hx with ⟨h, rfl⟩ | h
 ·cases h <;> first | exact Sim.unsup rfl | exact Sim.pure ⟨.int _ _, rfl⟩
 ·cases h <;> exact Sim.unsup rfl
theorem Sim.markStringish {a a' : Addr} (ha : AR ρ a a') : Sim P ρ (Go.markStringish a) (Go.markStringish a') fun _ _ _ => True := by
 unfold Go.markStringish
 refine Sim.bind (Sim.shape ha.1) ?_
 rintro ρ1 p1 _ s ⟨rfl, hs⟩
 cases s with
 | none => cases hs
 | some s =>
  obtain ⟨x, n⟩ := s
  exact Sim.freeze (a := { block := a.block, off := n }) (a' := { block := a'.block, off := n }) (p1 _ _ ha.1) rfl 1
theorem Sim.stringToBytes {e : TypeId} {s : ByteArray} : Sim P ρ (Conv.stringToBytes e s) (Conv.stringToBytes e s) RQ := by
 unfold Conv.stringToBytes
 refine Sim.bind (Sim.choose _) ?_
 rintro ρ1 p1 _ cap rfl
 refine Sim.bind (Sim.newRow ?_) ?_
 ·intro c hc
  rcases Array.mem_append.1 hc with h | h
  ·obtain ⟨b, _, rfl⟩ := Array.mem_map.1 h
   exact .int _ _
  ·rw [(Array.mem_replicate.1 h).2]; exact .int _ _
 rintro ρ2 p2 a a' ha
 refine Sim.bind (Sim.markStringish ha) ?_
 rintro ρ3 p3 _ _ _
 exact Sim.pure (.s _ _ (ha.mono p3))
theorem Sim.convSB {src dst e : TypeId} (h1 : P.underlying src = some .string) (h2 : P.underlying dst = some (.slice e)) (h3 : P.underlying e = some (.int .u8)) {x x' : Value} (hx : VV ρ x x') : Sim P ρ (Go.convert src dst x) (Go.convert src dst x') RQ := by
 unfold Go.convert
 refine Sim.bind Sim.underlying ?_
 rintro ρ1 p1 _ d ⟨rfl, e⟩
 rw [h1] at e; cases e
 refine Sim.bind Sim.underlying ?_
 rintro ρ2 p2 _ d ⟨rfl, e⟩
 rw [h2] at e; cases e
 rcases hx with ⟨h, rfl⟩ | h
 ·cases h <;> try exact Sim.unsup rfl
  refine Sim.bind Sim.underlying ?_
  rintro ρ3 p3 _ d ⟨rfl, e⟩
  rw [h3] at e; cases e
  exact Sim.stringToBytes
 ·cases h <;> exact Sim.unsup rfl
theorem Sim.forInL {α σ : Type} {f : α → σ → Sem (ForInStep σ)} : ∀ (l : List α) (s : σ) {ρ : List Nat}, (∀ c ∈ l, ∀ s ρ', Sim P ρ' (f c s) (f c s) EQ) → Sim P ρ (forIn l s f) (forIn l s f) EQ
 | [], s, ρ, _ => Sim.pure rfl
 | c :: l, s, ρ, h => by
  rw [List.forIn_cons]
  refine Sim.bind (h c (by simp) s ρ) ?_
  rintro ρ1 p1 _ r rfl
  cases r with
  | done s => exact Sim.pure rfl
  | yield s => exact Sim.forInL l s fun c hc => h c (by simp [hc])
theorem Sim.forInA {α σ : Type} {f : α → σ → Sem (ForInStep σ)} (l : Array α) (s : σ) (h : ∀ c ∈ l, ∀ s ρ', Sim P ρ' (f c s) (f c s) EQ) : Sim P ρ (forIn l s f) (forIn l s f) EQ := by
 rw [← Array.forIn_toList]
 exact Sim.forInL _ _ fun c hc => h c (by simpa using hc)
theorem Sim.bytesToString {x x' : Value} (hx : VV ρ x x') : Sim P ρ (Conv.bytesToString x) (Conv.bytesToString x') FQ := by
 unfold Conv.bytesToString
 rcases hx with ⟨h, rfl⟩ | h
 ·cases h <;> exact Sim.stuck
 ·cases h with
  | trr _ _ => exact Sim.stuck
  | trf _ _ => exact Sim.stuck
  | tfr _ _ => exact Sim.stuck
  | p0 => exact Sim.stuck
  | p _ => exact Sim.stuck
  | s0 n c => exact Sim.pure ⟨.string _, rfl⟩
  | s n c ha =>
   simp only
   refine Sim.bind (Sim.loadCells ha n) ?_
   rintro ρ1 p1 _ cs ⟨hc, rfl⟩
   refine Sim.bind (Sim.forInA _ _ ?_) ?_
   ·intro c hc s ρ'
    split
    ·exact Sim.pure rfl
    ·exact Sim.stuck
   ·rintro ρ2 p2 _ s rfl
    exact Sim.pure ⟨.string _, rfl⟩
theorem Sim.intToString {n : Int} : Sim P ρ (Conv.intToString n) (Conv.intToString n) FQ := Sim.pure ⟨.string _, rfl⟩
theorem Sim.convBS {src dst e : TypeId} (h1 : P.underlying src = some (.slice e)) (h2 : P.underlying dst = some .string) (h3 : P.underlying e = some (.int .u8)) {x x' : Value} (hx : VV ρ x x') : Sim P ρ (Go.convert src dst x) (Go.convert src dst x') FQ := by
 unfold Go.convert
 refine Sim.bind Sim.underlying ?_
 rintro ρ1 p1 _ d ⟨rfl, e⟩
 rw [h1] at e; cases e
 refine Sim.bind Sim.underlying ?_
 rintro ρ2 p2 _ d ⟨rfl, e⟩
 rw [h2] at e; cases e
 have key : ∀ {ρ3 : List Nat}, VV ρ3 x x' → Sim P ρ3 (do match ← Go.underlying _ with | .int .u8 => Conv.bytesToString x | .int .i32 => Conv.runesToString x | _ => Go.stuck "Convert: a slice of what to string?") (do match ← Go.underlying _ with | .int .u8 => Conv.bytesToString x' | .int .i32 => Conv.runesToString x' | _ => Go.stuck "Convert: a slice of what to string?") FQ := fun {ρ3} hx => by
  refine Sim.bind Sim.underlying ?_
  rintro ρ3 p3 _ d ⟨rfl, e⟩
  rw [h3] at e; cases e
  exact Sim.bytesToString (hx.mono p3)
 have hx2 := hx.mono (p1.trans p2)
 rcases hx with ⟨h, rfl⟩ | h
 ·cases h <;> first | exact Sim.intToString | exact Sim.pure ⟨.string _, rfl⟩ | exact key hx2
 ·cases h <;> exact key hx2
end
end Go.Priv
end
section
set_option linter.unusedSimpArgs false
namespace Go.Priv
open Go
section
variable {P : Program} {ρ : List Nat}
theorem Sim.binNil {op : BinOp} {t e : TypeId} (ht : P.underlying t = some (.pointer e)) (ho : op = .eql ∨ op = .neq) {x x' : Value} (hx : VV ρ x x') : Sim P ρ (Go.binOp op t x (.pointer none)) (Go.binOp op t x' (.pointer none)) FQ := by
 have key := Sim.equalNil ht hx
 rcases ho with rfl | rfl
 ·rcases hx with ⟨h, rfl⟩ | h
  ·cases h <;> exact Sim.bind key (fun _ _ _ _ e => by subst e; exact Sim.pure ⟨.bool _, rfl⟩)
  ·cases h <;> exact Sim.bind key (fun _ _ _ _ e => by subst e; exact Sim.pure ⟨.bool _, rfl⟩)
 ·rcases hx with ⟨h, rfl⟩ | h
  ·cases h <;> exact Sim.bind key (fun _ _ _ _ e => by subst e; exact Sim.pure ⟨.bool _, rfl⟩)
  ·cases h <;> exact Sim.bind key (fun _ _ _ _ e => by subst e; exact Sim.pure ⟨.bool _, rfl⟩)
theorem Sim.eqGuardNil {op : BinOp} {t : TypeId} {ox oy : Operand} {x x' : Value} (hx : VV ρ x x') : Sim P ρ (Go.eqGuard op t ox oy x (.pointer none)) (Go.eqGuard op t ox oy x' (.pointer none)) fun _ _ _ => True := by
 unfold Go.eqGuard
 rcases hx with ⟨h, rfl⟩ | h <;> cases h <;> cases op <;> exact Sim.pure trivial
theorem flat_get {zero : Array Value} (h : ∀ c ∈ zero, Flat c) (i : Nat) : Flat zero[i]! := by
 rw [getElem!_def]
 split
 ·rename_i x e; exact h x (Array.mem_of_getElem? e)
 ·exact .bool _
theorem Sim.makeSlice {t e : TypeId} (ht : P.underlying t = some (.slice e)) (hz : ZF P e) {l l' c c' : Value} (hl : VV ρ l l') (hc : VV ρ c c') : Sim P ρ (Instr.makeSlice t l c) (Instr.makeSlice t l' c') RQ := by
 unfold Instr.makeSlice
 refine Sim.bind Sim.underlying ?_
 rintro ρ1 p1 _ d ⟨rfl, e1⟩
 rw [ht] at e1; cases e1
 refine Sim.bind (Sim.asInt (hl.mono p1)) ?_
 rintro ρ2 p2 _ n rfl
 refine Sim.bind (Sim.asInt (hc.mono (p1.trans p2))) ?_
 rintro ρ3 p3 _ m rfl
 refine Sim.bind Sim.typeInfo ?_
 rintro ρ4 p4 _ i ⟨rfl, e4⟩
 dsimp only
 split
 ·split
  ·exact Sim.bind (Q := fun _ _ _ => False) Sim.rpError fun _ _ _ _ h => h.elim
  ·split
   ·exact Sim.bind (Q := fun _ _ _ => False) Sim.rpError fun _ _ _ _ h => h.elim
   ·refine Sim.bind (Sim.choose _) ?_
    rintro ρ5 p5 _ q rfl
    exact Sim.bind (Q := fun _ _ _ => False) Sim.rpError fun _ _ _ _ h => h.elim
 ·refine Sim.bind Sim.askRoom ?_
  rintro ρ5 p5 _ _ _
  refine Sim.bind Sim.sizeOf ?_
  rintro ρ6 p6 _ s ⟨rfl, _⟩
  have fin : ∀ {ρ7 : List Nat} {zero : Array Value}, (∀ c ∈ zero, Flat c) → Sim P ρ7 (do let a ← Go.newRow e ((Array.range ((IntKind.i64.wrap m).toNat * s)).map (zero[· % zero.size]!)); Pure.pure (.slice (some a) (IntKind.i64.wrap n).toNat (IntKind.i64.wrap m).toNat))
    (do let a ← Go.newRow e ((Array.range ((IntKind.i64.wrap m).toNat * s)).map (zero[· % zero.size]!)); Pure.pure (.slice (some a) (IntKind.i64.wrap n).toNat (IntKind.i64.wrap m).toNat)) RQ := fun {ρ7 zero} hf => by
   refine Sim.bind (Sim.newRow ?_) ?_
   ·intro c hc
    obtain ⟨j, _, rfl⟩ := Array.mem_map.1 hc
    exact flat_get hf _
   ·rintro ρ8 p8 a a' ha
    exact Sim.pure (.s _ _ ha)
  split
  ·exact Sim.bind (Q := AQ) (Sim.pure ⟨by simp, rfl⟩) fun ρ7 p7 _ zero ⟨hf, e⟩ => by subst e; exact fin hf
  ·refine Sim.bind (Sim.zeroValue hz) ?_
   rintro ρ7 p7 _ v ⟨hv, rfl⟩
   exact fin hv.cells
theorem Sim.sliceBound {x x' : Value} {y : Nat} {code : BoundsCode} (hx : VV ρ x x') : Sim P ρ (Instr.sliceBound x y code) (Instr.sliceBound x' y code) EQ := by
 unfold Instr.sliceBound
 refine Sim.bind (Sim.asIntOf hx) ?_
 rintro ρ1 p1 _ ⟨k, i⟩ rfl
 dsimp only
 split
 ·exact Sim.pure rfl
 ·exact Sim.boundsPanic
def OV (ρ : List Nat) : Option Value → Option Value → Prop
 | none, none => True
 | some v, some v' => VV ρ v v'
 | _, _ => False
theorem OV.mono {ρ ρ' : List Nat} {x x' : Option Value} (h : OV ρ x x') (p : Pre ρ ρ') : OV ρ' x x' := by
 cases x <;> cases x' <;> first | exact h | exact VV.mono h p
theorem Sim.sliceBounds {b : Bool} {len cap : Nat} {lo lo' hi hi' : Option Value} (hlo : OV ρ lo lo') (hhi : OV ρ hi hi') : Sim P ρ (Instr.sliceBounds b len cap lo hi none) (Instr.sliceBounds b len cap lo' hi' none) EQ := by
 unfold Instr.sliceBounds
 refine Sim.bind (Q := EQ) (Sim.pure rfl) ?_
 rintro ρ1 p1 _ m rfl
 have hhi1 := hhi.mono p1
 have hlo1 := hlo.mono p1
 clear hlo hhi
 cases lo <;> cases lo' <;> try exact hlo1.elim
 all_goals
  cases hi <;> cases hi' <;> try exact hhi1.elim
 all_goals
  refine Sim.bind (Q := EQ) (by first | exact Sim.pure rfl | exact Sim.sliceBound hhi1) ?_
  rintro ρ2 p2 _ h rfl
  refine Sim.bind (Q := EQ) (by first | exact Sim.pure rfl | exact Sim.sliceBound (hlo1.mono p2)) ?_
  rintro ρ3 p3 _ l rfl
  exact Sim.pure rfl
theorem Sim.sliceStr {t : TypeId} (ht : P.underlying t = some .string) {x x' : Value} (hx : VV ρ x x') {lo lo' hi hi' : Option Value} (hlo : OV ρ lo lo') (hhi : OV ρ hi hi') : Sim P ρ (Instr.sliceAt t x lo hi none) (Instr.sliceAt t x' lo' hi' none) FQ := by
 unfold Instr.sliceAt
 refine Sim.bind Sim.underlying ?_
 rintro ρ1 p1 _ d ⟨rfl, e1⟩
 rw [ht] at e1; cases e1
 dsimp only
 unfold Instr.slice
 refine Sim.bind Sim.underlying ?_
 rintro ρ2 p2 _ d ⟨rfl, e1⟩
 rw [ht] at e1; cases e1
 rcases hx with ⟨h, rfl⟩ | h
 ·cases h <;> try exact Sim.stuck
  refine Sim.bind (Sim.sliceBounds (hlo.mono (p1.trans p2)) (hhi.mono (p1.trans p2))) ?_
  rintro ρ3 p3 _ ⟨l, h, m⟩ rfl
  exact Sim.pure ⟨.string _, rfl⟩
 ·cases h <;> exact Sim.stuck
theorem Sim.sliceSl {t e : TypeId} (ht : P.underlying t = some (.slice e)) {x x' : Value} (hx : VV ρ x x') {lo lo' hi hi' : Option Value} (hlo : OV ρ lo lo') (hhi : OV ρ hi hi') : Sim P ρ (Instr.sliceAt t x lo hi none) (Instr.sliceAt t x' lo' hi' none) RQ := by
 unfold Instr.sliceAt
 refine Sim.bind Sim.underlying ?_
 rintro ρ1 p1 _ d ⟨rfl, e1⟩
 rw [ht] at e1; cases e1
 dsimp only
 unfold Instr.slice
 refine Sim.bind Sim.underlying ?_
 rintro ρ2 p2 _ d ⟨rfl, e1⟩
 rw [ht] at e1; cases e1
 have hx2 := hx.mono (p1.trans p2)
 clear hx
 rcases hx2 with ⟨h, rfl⟩ | h
 ·cases h <;> exact Sim.stuck
 ·cases h with
  | trr _ _ => exact Sim.stuck
  | trf _ _ => exact Sim.stuck
  | tfr _ _ => exact Sim.stuck
  | p0 => exact Sim.stuck
  | p _ => exact Sim.stuck
  | s0 n c =>
   refine Sim.bind (Sim.sliceBounds (hlo.mono (p1.trans p2)) (hhi.mono (p1.trans p2))) ?_
   rintro ρ3 p3 _ ⟨l, h, m⟩ rfl
   refine Sim.bind Sim.sizeOf ?_
   rintro ρ4 p4 _ s ⟨rfl, _⟩
   split <;> exact Sim.pure (.s0 _ _)
  | s n c ha =>
   refine Sim.bind (Sim.sliceBounds (hlo.mono (p1.trans p2)) (hhi.mono (p1.trans p2))) ?_
   rintro ρ3 p3 _ ⟨l, h, m⟩ rfl
   refine Sim.bind Sim.sizeOf ?_
   rintro ρ4 p4 _ s ⟨rfl, _⟩
   have ha4 := ha.mono (p3.trans p4)
   split
   ·exact Sim.pure (.s _ _ ha4)
   ·exact Sim.pure (.s _ _ (ha4.add _))
theorem Sim.fieldAt {s : TypeId} {fs : Array Field} {f : Nat} {fi : Field} (hs : P.underlying s = some (.struct fs)) (hf : fs[f]? = some fi) (hn : P.cellsOf fi.type ≠ 0) {x x' : Value} (hx : VV ρ x x') : Sim P ρ (Instr.fieldAt s x f) (Instr.fieldAt s x' f) RQ := by
 unfold Instr.fieldAt
 refine Sim.bind Sim.underlying ?_
 rintro ρ1 p1 _ d ⟨rfl, e1⟩
 rw [hs] at e1; cases e1
 dsimp only
 rw [hf]
 dsimp only
 refine Sim.bind (Sim.sureAddr (hx.mono p1)) ?_
 rintro ρ2 p2 a a' ha
 refine Sim.bind (Q := fun ρ a a' => AR ρ a a') ?_ fun ρ3 p3 b b' hb => Sim.pure (.p hb)
 unfold Go.fieldPlace
 refine Sim.bind Sim.sizeOf ?_
 rintro ρ3 p3 _ n ⟨rfl, e3⟩
 rw [e3, if_neg hn, if_neg hn]
 exact Sim.pure ((ha.mono p3).add _)
theorem Sim.indexAt {t : TypeId} {x x' i i' : Value} (hx : VV ρ x x') (hi : VV ρ i i') : Sim P ρ (Instr.indexAt t x i) (Instr.indexAt t x' i') RQ := by
  unfold Instr.indexAt
  refine Sim.bind (Sim.asIntOf hi) ?_
  rintro ρ1 p1 _ ⟨k, n⟩ rfl
  refine Sim.bind Sim.underlying ?_
  rintro ρ2 p2 _ d ⟨rfl, e2⟩
  have hx2 := hx.mono (p1.trans p2)
  clear hx hi
  let BQ : List Nat → Option Addr × Nat × TypeId → Option Addr × Nat × TypeId → Prop := fun ρ x x' => x'.2 = x.2 ∧ (match x.1, x'.1 with | none, none => True | some a, some a' => AR ρ a a' | _, _ => False)
  have fin : ∀ {ρ3 : List Nat} (b b' : Option Addr × Nat × TypeId), BQ ρ3 b b' → Sim P ρ3
      (do let tiny := b.2.1 ≤ 1 && (match ← Go.underlying t with | .array .. => true | _ => false)
          match b.1 with
          | some a => if 0 ≤ n ∧ n < b.2.1 then Pure.pure (.pointer (some (a.add (n.toNat * (← Go.sizeOf b.2.2))))) else if tiny then Go.unsupported (.noEntry "op/indexAddr.an index out of range at an array of length 0 or 1 (ledger 616)") else Go.boundsPanic k n b.2.1 .index
          | none => Go.boundsPanic k n 0 .index)
      (do let tiny := b'.2.1 ≤ 1 && (match ← Go.underlying t with | .array .. => true | _ => false)
          match b'.1 with
          | some a => if 0 ≤ n ∧ n < b'.2.1 then Pure.pure (.pointer (some (a.add (n.toNat * (← Go.sizeOf b'.2.2))))) else if tiny then Go.unsupported (.noEntry "op/indexAddr.an index out of range at an array of length 0 or 1 (ledger 616)") else Go.boundsPanic k n b'.2.1 .index
          | none => Go.boundsPanic k n 0 .index) RQ := by
    rintro ρ3 ⟨b, len, el⟩ ⟨b', len', el'⟩ ⟨h1, h2⟩
    cases h1
    refine Sim.bind Sim.underlying ?_
    rintro ρ4 p4 _ d' ⟨rfl, _⟩
    dsimp only at h2 ⊢
    cases b <;> cases b' <;> try exact h2.elim
    · exact Sim.boundsPanic
    · dsimp only
      split
      · refine Sim.bind Sim.sizeOf ?_
        rintro ρ5 p5 _ s ⟨rfl, _⟩
        exact Sim.pure (.p ((AR.mono h2 (p4.trans p5)).add _))
      · split <;> first | exact Sim.unsup rfl | exact Sim.boundsPanic | (split <;> first | exact Sim.unsup rfl | exact Sim.boundsPanic)
  cases d with
  | array len el =>
    refine Sim.bind (Sim.sureAddr hx2) ?_
    rintro ρ3 p3 a a' ha
    exact fin (some a, len, el) (some a', len, el) ⟨rfl, ha⟩
  | slice el =>
    rcases hx2 with ⟨h, rfl⟩ | h
    · cases h <;> exact Sim.stuck
    · cases h with
      | trr _ _ => exact Sim.stuck
      | trf _ _ => exact Sim.stuck
      | tfr _ _ => exact Sim.stuck
      | p0 => exact Sim.stuck
      | p _ => exact Sim.stuck
      | s0 n c => exact fin (none, n, el) (none, n, el) ⟨rfl, trivial⟩
      | s n c ha => exact fin (some _, n, el) (some _, n, el) ⟨rfl, ha⟩
  | _ =>
    rcases hx2 with ⟨h, rfl⟩ | h <;> cases h <;> exact Sim.stuck
end
end Go.Priv
end
