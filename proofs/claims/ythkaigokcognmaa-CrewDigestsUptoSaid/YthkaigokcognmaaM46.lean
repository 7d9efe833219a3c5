/- CrewDigests, where what it reads is of bulk at most 1048576: the law returns true, and its arguments read as they did. -/
import Derived.Test.YthkaigokcognmaaM44
import Derived.Test.YthkaigokcognmaaM45
import Derived.Test.YthkaigokcognmaaRows
import Derived.Conc.LeavingOf
import Derived.JoinedCond
import Derived.WalkKit
import Derived.ProofKit
import Derived.OpenShut
import Derived.ChangeOld
import Derived.Below
import Derived.SizedLaws
import Derived.SliceStrings
section
namespace Go.Pool
open Go Go.Conc
section
variable {H : Type} {enc : TypeId × Value → H}
theorem leaving_of_cond {a : Assume} {C : Checked} {os : Os} {f : FuncId} {fn : Func} {s : OpenSpec} {k : (H : Type) → List (DataW H) → Bool} (hk : s.cond = some k) {F : Stop.Interp} {conds : List PathCond} {apart fresh handsOn again : Bool}
  (own : ownKnob C.prog.godebug = none) (started : os.Started) (hfn : C.prog.funcs[f]? = some fn)
  (witness : ∃ (w : World) (tape : Tape) (i : Input), w.os = os ∧ (w.forCall tape i).Shaped C.prog ∧ i.vars = [] ∧ Input.okWide C.prog (w.forCall tape i) .any w.heap.size f i ∧
   s.pre6 enc C.prog fn conds apart (w.forCall tape i).memory i.args ∧ a.holds C.prog (lone (Frame.enter C.prog f i.args .normal) [] (w.forCall tape i)))
  (runs : ∀ (W : World) (base : Nat) (args : Array Value) (ds gs : List (DataW H)) (before : List MemPlace),
   (∀ (j : Nat) t v, fn.params[j]? = some t → args[j]? = some v → Value.okWide C.prog W .any base t v) →
   DataW.Whole enc C.prog fn.params.toList s.vars apart W args.toList ds gs before → k H (ds ++ gs) = true →
   ∃ M last o w' t', runNT C.prog (M + 1) (solo (G (Frame.enter C.prog f args .normal) []) W) #[] = (.ended o w', t') ∧ runN C.prog M (solo (G (Frame.enter C.prog f args .normal) []) W) = .next last ∧
    step C.prog last = .ended o w' ∧ Conc.Good C.prog (fun v W' => (s.at F).post enc C.prog fn apart fresh handsOn again W args v W') last o w' t') :
  ReturnsInLeavingWide a C os f .any (s.pre6 enc C.prog fn conds apart) ((s.at F).post enc C.prog fn apart fresh handsOn again) := by
 refine returnsInLeavingWide_of_good own started witness fun w tape i _ _ _ hok hpre _ => ?_
 obtain ⟨_, _, _, fn', hfn', _, _, _, _, hval⟩ := hok
 cases Option.some.inj (hfn'.symm.trans hfn)
 obtain ⟨ds, gs, before, hw, _, hkk⟩ := (OpenSpec.pre_some hk conds apart _ _).1 hpre.1
 obtain ⟨M, last, o, w', t', h1, h2, h3, h4⟩ := runs (w.forCall tape i) w.heap.size i.args ds gs before hval (DataW.Whole.of_heap (w' := w.forCall tape i) (by rfl) hw) hkk
 exact ⟨M, last, o, w', t', h1, h2, h3, h4.mono fun v hp => ChangeSpec.post_blind hp⟩
end
theorem holds_of_leaving_cond {p : Pinned} {s : OpenSpec} {c : OpenClaim} (f : FuncId) (fn : Func)
  (hn : c.program = p.name) (hs : c.sum = p.sum) (hsp : c.spec = s.name)
  (hstart : c.start = .entering) (hout : c.outside = []) (hin : c.inits = []) (hun : c.under = none) (hi4 : c.initsInPlace = [] ∧ c.initsUnfollowed = false ∧ c.initsRecurse = false ∧ c.initsNamed = [] ∧ c.initsPassed = []) (hnb : c.noBlocks = false) (hlv : c.leaving = true) (hfo : c.followed = none) (hnar : c.narrowed = s.cond.isSome) (hstill : c.still = false)
  (hfn : p.checked.prog.funcNamed c.func = some f) (hf : p.checked.prog.funcs[f]? = some fn) (closed : joinedFacts p.checked.prog f fn s.bare c = true)
  (hinst : fn.isInstance p.checked.prog c.origin c.targs) (hwrap : fn.isWrapper p.checked.prog c.wrapper c.mainSum)
  (h : ∀ os : Os, os.Started → ∀ (H : Type) (enc : TypeId × Value → H), (∀ a b, enc a = enc b → a = b) → ∀ F : Stop.Interp,
   ReturnsInLeavingWide c.assume p.checked os f .any (c.pre enc p.checked.prog fn s) ((s.at F).post enc p.checked.prog fn c.apart c.fresh c.handsOn c.again)) : c.holds p s := by
 simp only [joinedFacts, Bool.and_eq_true, beq_iff_eq, Array.all_eq_true_iff_forall_mem, List.all_eq_true, decide_eq_true_eq] at closed
 obtain ⟨⟨⟨⟨⟨⟨⟨⟨⟨⟨⟨⟨⟨⟨⟨⟨⟨⟨⟨⟨⟨⟨⟨⟨⟨⟨⟨⟨⟨⟨⟨k1, k2⟩, k3⟩, k4⟩, k5⟩, k6⟩, k7⟩, k8⟩, k9⟩, k10⟩, k11⟩, k12⟩, k13⟩, k14⟩, k15⟩, k16⟩, k17⟩, k17b⟩, k18⟩, k19⟩, k20⟩, k21⟩, k22⟩, k23⟩, k23b⟩, k24⟩, k24b⟩, k24c⟩, k25⟩, k26⟩, k27⟩, k28⟩ := closed
 have quiet : ∀ os : Os, Stop.quiet p.checked.prog os := fun os x hx => by rw [k9] at hx; cases hx
 refine ⟨k1, hn, hs, hsp, k2, k3, by unfold OpenClaim.startFits; rw [hstart]; exact k24, by unfold OpenClaim.startTold; rw [hstart]; exact ⟨hin, hun, hi4⟩, f, fn, hfn, hf, ⟨k4, k19⟩, fun hb => (by rw [hnb] at hb; cases hb), by unfold OpenClaim.namedList; rw [hfo]; exact k5, hinst, hwrap,
  k6.trans k7.symm, ⟨k8.trans k9.symm, by unfold Program.envWorded; rw [k9]; rfl, k23b⟩, k10, k11, k12, k13, k14, ⟨k15, k27, k28⟩, ⟨k16, k20⟩, ⟨k17, k21, k25, k26⟩, ⟨k22, k24b, k24c, k17b⟩, ?_, fun n hn' => varReadable_some (k18 n hn'),
  ⟨_, by unfold OpenClaim.world; rw [hout, hstart]; exact WideRow.started_initial, quiet _⟩, [], by unfold OpenClaim.lists; rw [hfo], fun os st _ H enc inj => ?_⟩
 ·rw [hout, hnar]
  cases hsh : c.shortTexts with
  | none => simp
  | some _ => rw [hsh] at k23; cases k23
 ·have go := h os (by unfold OpenClaim.world at st; rw [hout, hstart] at st; exact st) H enc inj
  rw [OpenClaim.post_not_still hstill]
  unfold OpenClaim.form
  rw [hstart, k6]
  intro F
  rw [show c.okInput = Input.okWide by unfold OpenClaim.okInput; rw [hnb], show c.atReturn p.checked.prog = leavingAtReturn p.checked.prog by unfold OpenClaim.atReturn; rw [hlv], show c.always p.checked.prog [] = nothingAlways by unfold OpenClaim.always; rw [hfo]]
  show ReturnsInOpen _ _ _ _ _ _ _ _ (s.post enc p.checked.prog fn F c.outside c.apart c.fresh c.handsOn c.again) _ _
  rw [show s.post enc p.checked.prog fn F c.outside c.apart c.fresh c.handsOn c.again = (s.at F).post enc p.checked.prog fn c.apart c.fresh c.handsOn c.again by rw [hout]; rfl]
  exact go F k24
end Go.Pool
end
section
namespace Go.Proofs.Ythkaigokcognmaa.CrewDigestsFrame
open Go.ChangeShapes Go.WideShapes Go.ChangeAt Go.RowKit Go.Conc Go.Pool
set_option linter.unusedVariables false
theorem own : ownKnob Try.prog.godebug = none := by kernel_rfl
theorem laidOut : laidOutB Try.prog = true := by kernel_rfl
theorem cells9 : Try.prog.cellsOf 9 = 1 := by kernel_rfl
theorem bulk_strs {H : Type} : ∀ ss : List ByteArray, ss.length ≤ Rows.uptoBulkAll (H := H) (strs ss) ∧ ∀ s ∈ ss, s.size ≤ Rows.uptoBulkAll (H := H) (strs ss)
 | [] => ⟨Nat.zero_le _, fun s hs => by cases hs⟩
 | t :: r => by
  obtain ⟨h1, h2⟩ := bulk_strs (H := H) r
  have e : Rows.uptoBulkAll (H := H) (strs (t :: r)) = t.size + 1 + Rows.uptoBulkAll (H := H) (strs r) := by
   simp only [strs, List.map_cons, Rows.uptoBulkAll, Rows.uptoBulk, Array.length_toList]
   rfl
  rw [e]
  refine ⟨by rw [List.length_cons]; omega, fun s hs => ?_⟩
  rcases List.mem_cons.1 hs with rfl | hs
  ·omega
  ·have := h2 s hs; omega
theorem opened {H : Type} {enc : TypeId × Value → H} {W : World} {sp : Option Addr} {len cap fuel : Nat} {d : DataW H} {p : List MemPlace} (h : DataW.trod enc Try.prog W 0 (fun _ => true) true fuel 25 [.slice sp len cap] = some (d, p)) :
  ∃ S : Nat → ByteArray, (∀ k, k < len → ∃ b o, sp = some ⟨b, o, none⟩ ∧ b < W.heap.size ∧ W.cell? ⟨b, o + k, none⟩ = some (.string (S k))) ∧ len ≤ Rows.uptoBulk d ∧ ∀ k, k < len → (S k).size ≤ Rows.uptoBulk d := by
 rcases open_strings Try.underlying25 Try.underlying9 cells9 h with ⟨hcs, _⟩ | ⟨x, l, c, zs, hcs, _, hl, hm, hz, hx, hcell, hwz⟩
 ·simp at hcs
  obtain ⟨rfl, rfl, rfl⟩ := hcs
  exact ⟨fun _ => ⟨#[]⟩, fun k hk => absurd hk (by omega), Nat.zero_le _, fun k hk => absurd hk (by omega)⟩
 ·simp at hcs
  obtain ⟨rfl, rfl, rfl⟩ := hcs
  obtain rfl : d = _ := congrArg Prod.fst hx
  have hz' : zs.length = cap := by simpa using hz
  obtain ⟨h1, h2⟩ := bulk_strs (H := H) (zs.take len)
  have hb : Rows.uptoBulkAll (H := H) (strs (zs.take len)) ≤ Rows.uptoBulk (H := H) (.slice (strs (zs.take len)) (strs (zs.drop len))) := by
   simp only [Rows.uptoBulk]; omega
  refine ⟨fun k => zs.getD k ByteArray.empty, fun k hk => row_of (fun j hj => hcell j (by omega)) k hk, ?_, fun k hk => ?_⟩
  ·have : (zs.take len).length = len := by rw [List.length_take]; omega
   exact Nat.le_trans (by omega) (Nat.le_trans h1 hb)
  ·refine Nat.le_trans (h2 _ ?_) hb
   have hk' : k < zs.length := by omega
   show zs.getD k ByteArray.empty ∈ _
   rw [List.getD_eq_getElem?_getD, List.getElem?_eq_getElem hk', Option.getD_some]
   exact List.mem_take_iff_getElem.2 ⟨k, by omega, rfl⟩
set_option maxRecDepth 100000 in
theorem runs (H : Type) (enc : TypeId × Value → H) (F : Stop.Interp) (W : World) (bs : Nat) (args : Array Value) (ds gs : List (DataW H)) (before : List MemPlace)
  (hval0 : ∀ (j : Nat) t v, Try.f12.params[j]? = some t → args[j]? = some v → Value.okWide Try.prog W .any bs t v)
  (hW : DataW.Whole enc Try.prog Try.f12.params.toList (Rows.OpenSpec.upto Rows.crewDigestsSpec).vars false W args.toList ds gs before) (hk : Rows.uptoSmall H (ds ++ gs) = true) :
  ∃ M last o w' t', runNT Try.prog (M + 1) (solo (Conc.G (Frame.enter Try.prog 12 args .normal) []) W) #[] = (.ended o w', t') ∧ runN Try.prog M (solo (Conc.G (Frame.enter Try.prog 12 args .normal) []) W) = .next last ∧
    step Try.prog last = .ended o w' ∧ Conc.Good Try.prog (fun v W' => ((Rows.OpenSpec.upto Rows.crewDigestsSpec).at F).post enc Try.prog Try.f12 false true false false W args v W') last o w' t' := by
 have hval : ∀ (j : Nat) t v, Try.f12.params[j]? = some t → args[j]? = some v → Value.okWide Try.prog W .any bs t v := hval0
 have hW' := hW
 obtain ⟨p, q, hA0, hV, rfl, hfz, hnd⟩ := hW
 have hA : DataW.TrodAll enc Try.prog W 0 (fun _ => true) true Try.f12.params.toList args.toList ds p := hA0
 rw [Try.params12] at hA hval
 obtain ⟨v0, vs0, d0, ds0, p0, q0, hargs, rfl, rfl, h0, r0⟩ := trodAll_cons hA
 obtain ⟨v1, vs1, d1, ds1, p1, q1, rfl, rfl, rfl, h1, r1⟩ := trodAll_cons r0
 obtain ⟨v2, vs2, d2, ds2, p2, q2, rfl, rfl, rfl, h2, r2⟩ := trodAll_cons r1
 obtain ⟨rfl, rfl, rfl⟩ := trodAll_nil r2
 obtain rfl : args = #[v0, v1, v2] := by cases args; simp_all
 obtain ⟨rfl, rfl⟩ := trodVars_none hV
 obtain ⟨sp0, len0, cap0, rfl⟩ := okWide_slice Try.underlying25 (hval 0 25 v0 rfl rfl)
 obtain ⟨sp1, len1, cap1, rfl⟩ := okWide_slice Try.underlying25 (hval 1 25 v1 rfl rfl)
 obtain ⟨a2, rfl, rfl, rfl, wf2⟩ := open_int Try.underlying3 (hval 2 3 v2 rfl rfl) h2
 have k0 := h0
 have lt0 : ∀ x ∈ p0, x.block < W.heap.size := by obtain ⟨m, hm⟩ := k0; exact DataW.trod_lt m _ _ _ hm
 have k1 := h1
 have lt1 : ∀ x ∈ p1, x.block < W.heap.size := by obtain ⟨m, hm⟩ := k1; exact DataW.trod_lt m _ _ _ hm
 obtain ⟨S, row0, ln0, wd0⟩ : ∃ S : Nat → ByteArray, (∀ k, k < len0 → ∃ b o, sp0 = some ⟨b, o, none⟩ ∧ b < W.heap.size ∧ W.cell? ⟨b, o + k, none⟩ = some (.string (S k))) ∧ len0 ≤ Rows.uptoBulk d0 ∧ ∀ k, k < len0 → (S k).size ≤ Rows.uptoBulk d0 := by
  obtain ⟨fuel, hf⟩ := h0
  exact opened hf
 obtain ⟨T, row1, ln1, wd1⟩ : ∃ S : Nat → ByteArray, (∀ k, k < len1 → ∃ b o, sp1 = some ⟨b, o, none⟩ ∧ b < W.heap.size ∧ W.cell? ⟨b, o + k, none⟩ = some (.string (S k))) ∧ len1 ≤ Rows.uptoBulk d1 ∧ ∀ k, k < len1 → (S k).size ≤ Rows.uptoBulk d1 := by
  obtain ⟨fuel, hf⟩ := h1
  exact opened hf
 have hbk : Rows.uptoBulk d0 + Rows.uptoBulk d1 ≤ 1048576 := by
  have h : Rows.uptoBulkAll _ ≤ 1048576 := of_decide_eq_true hk
  simp only [List.append_nil, Rows.uptoBulkAll] at h
  omega
 clear hA0 hval0
 have e : Frame.enter Try.prog 12 #[.slice sp0 len0 cap0, .slice sp1 len1 cap1, .int .i64 a2] .normal = b12.at ⟨#[.slice sp0 len0 cap0, .slice sp1 len1 cap1, .int .i64 a2, undef, undef, undef, undef, undef, undef, undef, undef, undef, undef, undef, undef, undef, undef, undef, undef, undef, undef, undef, undef, undef, undef, undef, undef, undef, undef, undef, undef, undef, undef, undef, undef, undef, undef, undef, undef, undef, undef, undef, undef, undef, undef, undef, undef, undef, undef, undef, undef, undef, undef, undef, undef, undef, undef, undef, undef, undef, undef, undef, undef, undef, undef, undef, undef, undef, undef, undef, undef, undef, undef, undef, undef, undef, undef, undef, undef, undef, undef, undef, undef, undef, undef], []⟩ [.code body12] := by
  simp [Frame.enter, Frame.at, Try.func12, b12, Go.Conc.base, body12, Try.f12]
 have hrun := digests_law (N := a2) (c1 := cap0) (c2 := cap1) (W := W) (by omega) (by omega) (fun k hk => by have := wd1 k hk; omega) row0 row1
 obtain ⟨M, last, o, w', t', e1, e2, e3, e4⟩ := law_runs hrun
 rw [← e] at e1 e2
 refine ⟨M, last, o, w', t', e1, e2, e3, e4.mono fun v hp => ?_⟩
 obtain ⟨rfl, bel⟩ : PostL W v w' := hp
 exact ⟨_, _, _, [], _, [], hW', trodAll_mk1 (shut_bool Try.underlying4 _), (trodAll_cons_mk (Below.trod laidOut (by kernel_rfl) (of_decide_eq_true (by kernel_rfl)) k0 bel lt0) (trodAll_cons_mk (Below.trod laidOut (by kernel_rfl) (of_decide_eq_true (by kernel_rfl)) k1 bel lt1) (trodAll_cons_mk (shut_int Try.underlying3 wf2) trodAll_mk0))), rfl, bel.frame _, fun h => by cases h⟩
set_option maxRecDepth 100000 in
theorem lifted (os : Os) (started : os.Started) (H : Type) (enc : TypeId × Value → H) (F : Stop.Interp) :
  ReturnsInLeavingWide {} Try.checked os 12 .any ((Rows.OpenSpec.upto Rows.crewDigestsSpec).pre6 enc Try.prog Try.f12 Rows.crewDigestsUptoRow.domain false) (((Rows.OpenSpec.upto Rows.crewDigestsSpec).at F).post enc Try.prog Try.f12 false true false false) :=
 leaving_of_cond (C := Try.checked) (s := Rows.OpenSpec.upto Rows.crewDigestsSpec) (k := Rows.uptoSmall) rfl own started Try.func12
  (OpenSpec.witness (enc := enc) (C := Try.checked) (s := Rows.OpenSpec.upto Rows.crewDigestsSpec) (k := Rows.uptoSmall) rfl false ⟨#[], #[.slice none 0 0, .slice none 0 0, .int .i64 0], []⟩ 8 (by kernel_rfl) (by kernel_rfl) (by kernel_rfl)
   (x := ([.nil, .nil, .lit (.int .i64 0)], [], [])) (by kernel_rfl) rfl (by kernel_rfl))
  fun W bs args ds gs before hval hW hk => runs H enc F W bs args ds gs before hval hW hk
theorem over : Rows.crewDigestsUptoRow.holds Try.pinned (Rows.OpenSpec.upto Rows.crewDigestsSpec) :=
 holds_of_leaving_cond 12 Try.f12 rfl rfl rfl rfl rfl rfl rfl ⟨rfl, rfl, rfl, rfl, rfl⟩ rfl rfl rfl rfl rfl (by kernel_rfl) Try.func12 (by kernel_rfl)
  (of_decide_eq_true (by kernel_rfl)) (by unfold Func.isWrapper; first | (rw [if_pos (by decide +kernel)]; kernel_rfl) | (rw [if_neg (by decide +kernel)]; exact ⟨rfl, rfl⟩))
  (fun os started H enc _ F => lifted os started H enc F)
end Go.Proofs.Ythkaigokcognmaa.CrewDigestsFrame
namespace Go.Proofs.Ythkaigokcognmaa
theorem crewDigestsUpto_holds : Rows.CrewDigestsUptoSaid := CrewDigestsFrame.over
#print axioms crewDigestsUpto_holds
end Go.Proofs.Ythkaigokcognmaa
end
