/- A part of the proof of CrewDigestsUpto (no statement of its own): Ref3, Ptablex0. -/
import Derived.Test.YthkaigokcognmaaM32
import Derived.Test.YthkaigokcognmaaM35
import Derived.Test.YthkaigokcognmaaProg
import Derived.Test.YthkaigokcognmaaM27
import Derived.Test.YthkaigokcognmaaM28
import Derived.Test.YthkaigokcognmaaM29
import Derived.Lib.AppendStr
import Derived.Deep.RegionLaw
import Derived.Below
import Derived.Deep.Draws
import Derived.Deep.AppendLies
import Derived.Maps.AppendAt
import Derived.OwnWalk
import Derived.Laws.BytesArg
import Derived.Laws.MakeOwn
import Derived.Laws.OwnMore
import Derived.Deep.OwnRows
import Derived.Tactics
import Derived.Lib.ConvBytes
import Derived.Laws.Slices
import Derived.WalkKit
import Derived.KernelRfl
import Derived.RowKit3
import Derived.Deep.LoopGhost
import Derived.Deep.QuietTactic
import Derived.BigQuiet
import Derived.WideLaws
import Derived.Deep.DeepCutAuto
import Derived.Deep.CutBlock
import Derived.Deep.RegionHeld3
import Derived.Laws.Rows
import Derived.ArgAppend
import Derived.Laws.IdiomCopy
import Derived.OrdersHeld
import Derived.Laws.BitsLemmas
import Derived.RowKit
section
namespace Go.Proofs.Ythkaigokcognmaa.Sha
open Go.RowKit
open Go.Proofs.YthkaigokcognmaaW.PrintWords (Kd)
theorem C_of_cells {k : IntKind} {w : World} {a : Addr} {xs : List Int} (h : ∀ j x, xs[j]? = some x → w.cell? (a.add j) = some (.int k x)) (hm : xs.length ≤ 9223372036854775807) : Kd.C (Kd.int k) w (some a) xs.length xs := by
 refine ⟨rfl, hm, fun _ => ⟨a, rfl, fun j p hj => ⟨[.int k p], rfl, rfl, fun i u hu => ?_⟩⟩⟩
 cases i with
 | zero =>
  simp at hu
  subst hu
  show w.cell? (a.add (j * 1 + 0)) = _
  rw [Nat.mul_one, Nat.add_zero]
  exact h j p hj
 | succ i => simp at hu
theorem C_cell {k : IntKind} {w : World} {a : Addr} {n : Nat} {xs : List Int} (h : Kd.C (Kd.int k) w (some a) n xs) (j : Nat) (x : Int) (hj : xs[j]? = some x) : w.cell? (a.add j) = some (.int k x) := by
 obtain ⟨h1, h2, h3⟩ := h
 have hl := (List.getElem?_eq_some_iff.1 hj).1
 obtain ⟨ad, e, hc⟩ := h3 (by omega)
 cases e
 obtain ⟨c, c1, c2, c3⟩ := hc j x hj
 have c2' : c = [.int k x] := c2
 subst c2'
 have := c3 0 (.int k x) rfl
 have e : j * (Kd.int k).sz + 0 = j := by show j * 1 + 0 = j; omega
 rwa [e] at this
theorem C_fr {k : IntKind} {w w' : World} {A : Option Addr} {n : Nat} {xs : List Int} (h : Kd.C (Kd.int k) w A n xs) (F : Fr [] w w') : Kd.C (Kd.int k) w' A n xs := Kd.C_below h (F.below (Nat.le_refl _) (by simp))
theorem C_range {w : World} {g o : Nat} {l : List Nat} (h : w.rangeAt g o (l.map U8)) (hm : l.length ≤ 9223372036854775807) : Kd.C (Kd.int .u8) w (some ⟨g, o, none⟩) l.length (ints l) := by
 have hm' : (ints l).length ≤ 9223372036854775807 := by rw [ints_len]; exact hm
 have := C_of_cells (k := .u8) (w := w) (a := ⟨g, o, none⟩) (xs := ints l) (fun j x hx => by
  have := h j (.int .u8 x) (by
   unfold ints at hx
   rw [List.getElem?_map] at hx ⊢
   cases e : l[j]? with
   | none => rw [e] at hx; cases hx
   | some y => rw [e] at hx; injection hx with hx; subst hx; rfl)
  rwa [Addr.add_lit]) hm'
 rwa [ints_len] at this
def StC (W : World) (g : Nat) (st : St) : Prop := Kd.C (Kd.int .i64) W (some ⟨g, 0, none⟩) 8 (ints st.list)
theorem StC.fr {W W' : World} {g : Nat} {st : St} (h : StC W g st) (F : Fr [] W W') : StC W' g st := C_fr h F
theorem StC.cell {W : World} {g : Nat} {st : St} (h : StC W g st) (j : Nat) (hj : j < 8) : W.cell? ⟨g, j, none⟩ = some (.int .i64 ((st.list.getD j 0 : Nat) : Int)) := by
 have hl : st.list.length = 8 := rfl
 have := C_cell h j ((st.list.getD j 0 : Nat) : Int) (by
  unfold ints
  rw [List.getElem?_map, List.getD_eq_getElem?_getD, List.getElem?_eq_getElem (by omega)]; rfl)
 rwa [Addr.add_lit, Nat.zero_add] at this
def RBlockPost (st : St) (s : List Nat) (w : World) (e : Ending) (w' : World) : Prop :=
 ∃ (nb : St) (g cap : Nat), Hid (nb = block st s) ∧ e = .returned (.slice (some ⟨g, 0, none⟩) 8 cap) ∧ 8 ≤ cap ∧ StC w' g nb ∧ Fr [] w w'
theorem rblock (st : St) (hst : st.ok) (s : List Nat) (hs : s.length = 64) (hb : ∀ x ∈ s, x < 256) (g c0 : Nat) (A1 : Option Addr) (c1 : Nat) (A2 : Option Addr) (c2 : Nat) (w : World) (C0 : StC w g st) (hc0 : 8 ≤ c0)
  (C1 : Kd.C (Kd.int .u8) w A1 64 (ints s)) (hc1 : 64 ≤ c1) (C2 : Kd.C (Kd.int .i64) w A2 64 (ints K)) (hc2 : 64 ≤ c2) :
  Calls Try.prog 57 #[.slice (some ⟨g, 0, none⟩) 8 c0, .slice A1 64 c1, .slice A2 64 c2] w (RBlockPost st s w) := by
 have l0 : (ints st.list).length = 8 := rfl
 have l1 : (ints s).length = 64 := by rw [ints_len, hs]
 have l2 : (ints K).length = 64 := by rw [ints_len, K_len]
 have h := Go.Proofs.Ythkaigokcognmaa.Pblock.cloisterref04_block.calls 140 (some ⟨g, 0, none⟩) c0 (ints st.list) A1 c1 (ints s) A2 c2 (ints K) _ w (by rw [l0]; exact C0) (by omega) (by rw [l1]; exact C1) (by omega) (by rw [l2]; exact C2) (by omega) (block_f st hst s hs hb)
 rw [l0, l1, l2] at h
 refine h.mono fun e w' ⟨v, he, hR, hB⟩ => ?_
 have hl : (ints (block st s).list).length = 8 := rfl
 obtain ⟨g', cap, rfl, _, _, _⟩ := Kd.R_form hR (by rw [hl]; omega)
 obtain ⟨A, c, e1, h2, h3⟩ := Kd.R_reads hR
 rw [hl] at h2 h3 e1 he
 cases e1
 exact ⟨_, g', _, rfl, he, h2, h3, Fr.ofBelow hB⟩
theorem wrap_u8_tmod (y : Nat) : IntKind.u8.wrap (Int.tmod (y : Int) 256) = ((y % 256 : Nat) : Int) := by
 rw [Int.tmod_eq_emod_of_nonneg (by omega), IntKind.wrap_u8]
 omega
theorem outW_cells (x : Nat) : ((outW x).map U8) = #[Value.int .u8 (IntKind.u8.wrap ((x : Int) / 16777216)), .int .u8 (IntKind.u8.wrap (Int.tmod ((x : Int) / 65536) 256)), .int .u8 (IntKind.u8.wrap (Int.tmod ((x : Int) / 256) 256)), .int .u8 (IntKind.u8.wrap (Int.tmod (x : Int) 256))].toList := by
 have e1 : IntKind.u8.wrap ((x : Int) / 16777216) = ((x / 16777216 % 256 : Nat) : Int) := by rw [IntKind.wrap_u8]; omega
 have e2 := wrap_u8_tmod (x / 65536)
 have e3 := wrap_u8_tmod (x / 256)
 have e4 := wrap_u8_tmod x
 rw [show ((x / 65536 : Nat) : Int) = (x : Int) / 65536 by omega] at e2
 rw [show ((x / 256 : Nat) : Int) = (x : Int) / 256 by omega] at e3
 rw [e1, e2, e3, e4]
 rfl
def DigestPost (st : St) (s : ByteArray) (w : World) (e : Ending) (w' : World) : Prop :=
 e = .returned (.string (strOf (outB (run ((padded (bytesOf s)).length / 64) (padded (bytesOf s)) st).list))) ∧ Fr [] w w'
theorem GRow.ofOwn {w : World} {base : Nat} {e : TypeId} {v : Value} {xs : List Nat} {n : Nat} (h : w.ownsRow base e 1 v n (xs.map U8)) : GRow U8 w base v xs := by
 obtain ⟨h1, h2⟩ := h
 simp at h1
 rcases h2 with ⟨rfl, h0⟩ | ⟨g, cap, cur, rfl, hg, hh, hnc, hcm, hsz, htk⟩
 ·exact .inl ⟨rfl, List.eq_nil_of_length_eq_zero (by omega)⟩
 ·subst h1
  have hB : Blk w g e cur := hh
  refine .inr ⟨g, cap, rfl, hg, hnc, hcm, hB.lt, fun j hj => ⟨?_, hB.frozen _⟩, fun j u hu => ?_⟩
  ·rw [hB.cell, Nat.zero_add, Array.getElem?_eq_getElem (by omega)]; rfl
  ·rw [hB.cell, Nat.zero_add]
   rw [← htk, List.getElem?_take] at hu
   split at hu
   ·simpa using hu
   ·cases hu
theorem zerosN_done2 (n : Nat) (z : Nat) (hz : z ≤ zerosN n) (h : (n + 1 + z) % 64 = 56) : z = zerosN n := by unfold zerosN at *; omega
theorem zerosN_more2 (n : Nat) (z : Nat) (hz : z ≤ zerosN n) (h : (n + 1 + z) % 64 ≠ 56) : z < zerosN n := by unfold zerosN at *; omega
set_option maxRecDepth 10000 in
set_option maxHeartbeats 8000000 in
theorem digest_any (st : St) (hst : st.ok) (s : ByteArray) (hn : s.size ≤ 140737488355200) (gh ch : Nat) (A2 : Option Addr) (c2 : Nat) (w : World) (C0 : StC w gh st) (hch : 8 ≤ ch) (C2 : Kd.C (Kd.int .i64) w A2 64 (ints K)) (hc2 : 64 ≤ c2) :
    Calls Try.prog 40 #[.string s, .slice (some ⟨gh, 0, none⟩) 8 ch, .slice A2 64 c2] w (DigestPost st s w) := by
  obtain ⟨i0, hi, hz0, hz1, hz2⟩ := info_parts info5
  go_enter Try.func40, Try.ntmps40
  have key : ∀ (o : Oper) (a : Act) (rest : List Oper) (ops : Array Oper) (Q : Exit → Act → World → Prop), o.guard = none → o.op = .call { callee := .builtin .append, args := #[.tmp 12, .tmp 13], argTypes := #[35, 9] } → a.eval (.tmp 12) = .slice none 0 0 → a.eval (.tmp 13) = .string s →
      (∀ v' w', GRow U8 w' w.heap.size v' (bytesOf s) → Fr [] w w' → wpList Try.prog ops Q rest (a.put o.dst v') w') → wpList Try.prog ops Q (o :: rest) a w := by
    intro o a rest ops Q hg ho h1 h2 h
    refine Lib.wpList_append_own_string w hg (.tmp 12) (.tmp 13) 35 9 ho w.heap.size 5 i0 Try.underlying35 Try.underlying9 hi hz0 hz1 hz2 _ 0 [] h1 ⟨rfl, .inl ⟨rfl, rfl⟩⟩ s h2 (by unfold maxLen; omega) (by omega) (Nat.le_refl _) fun v1 w1 hown1 hgr1 _ => ?_
    refine h v1 w1 (GRow.ofOwn (e := 5) (n := 0 + s.size) ?_) ((Fr.refl [] w).grown hgr1 (by simp [Value.ownBlock]))
    have e : [] ++ Lib.strCells s = (bytesOf s).map U8 := by simp [bytesOf, Lib.strCells, U8, Function.comp_def]
    rw [← e]; exact hown1
  go_wp2_with (first
    | (at_builtin; refine key _ _ _ _ _ rfl rfl rfl rfl ?_; intro v1 w1 hrow1 F1)
    | (at_builtin; refine wpList_append_g (V := U8) rfl (.tmp 15) (.tmp 16) 35 rfl (fun _ => rfl) w.heap.size 5 i0 _ 1 Try.underlying35 hi hz0 hz1 hz2 rfl rfl (hrow1.far ((Fr.refl [] w1).alloc _)) ⟨w1.heap.size, 0, none⟩ 1 1 [128] rfl rfl
        (World.news_of_block (cs := #[.int .u8 128]) (t := 5) (fr := (0, 0)) (heap_alloc_new w1 _)) (by rw [bytesOf_len]; unfold maxLen; omega) (by rw [bytesOf_len]; omega) (Nat.le_trans F1.size (by simp)) ?_; intro v2 w2 hrow2 hgr2))
  have F2 : Fr [] w w2 := Fr.step_row (F1.alloc _) hgr2 (hrow1.far ((Fr.refl [] w1).alloc _)) (Nat.le_refl _)
  clear hgr2 hrow1 key
  go_loopw [7] (fun s7 wr => ∃ z g cap : Nat, s7 = .slice (some ⟨g, 0, none⟩) (s.size + 1 + z) cap ∧ z ≤ zerosN s.size ∧ GRow U8 wr w.heap.size s7 (bytesOf s ++ [128] ++ List.replicate z 0) ∧ Fr [] w wr) (fun i _ => match i with | .slice _ n _ => s.size + 200 - n | _ => 0)
  case atStart =>
    obtain ⟨g, cap, rfl, hg⟩ := hrow2.some_ (n := s.size + 1) (by simp [bytesOf_len]) (by omega)
    exact ⟨0, g, cap, rfl, by omega, by simpa using hrow2, F2⟩
  case round =>
    obtain ⟨z, g, cap2, rfl, hz, hrow3, F3⟩ := hrel
    have hzl := zerosN_lt s.size
    by_cases hm : (s.size + 1 + z) % 64 = 56
    · have HZE := Lib.hid (zerosN_done2 s.size z hz hm)
      have hb : (((s.size : Int) + 1 + (z : Int)) % 64 != 56) = false := by
        have : ((s.size : Int) + 1 + (z : Int)) % 64 = 56 := by omega
        simp [this]
      clear hm
      go_wp2_with fail
      have hze := HZE.out
      clear hb
      have hlz : (bytesOf s ++ [128] ++ List.replicate z 0).length = s.size + 1 + z := by simp [bytesOf_len]; omega
      have HZ := Lib.hid hze
      obtain ⟨pre, hpre⟩ : ∃ p, p = bytesOf s ++ [128] ++ List.replicate z 0 := ⟨_, rfl⟩
      rw [← hpre] at hrow3 hlz
      have HP := Lib.hid hpre
      have HLZ := Lib.hid hlz
      clear hpre hze hlz hrow2 HZE
      go_loopw [7, 8] (fun s7 s8 wr => ∃ i g cap : Nat, s7 = .slice (some ⟨g, 0, none⟩) (s.size + 1 + z + i) cap ∧ i ≤ 8 ∧ s8 = .int .i64 (7 - (i : Int)) ∧ GRow U8 wr w.heap.size s7 (pre ++ (lenB s.size).take i) ∧ Fr [] w wr) (fun _ k _ => (intOf k + 8).toNat)
      case atStart => exact ⟨0, g, cap2, rfl, by omega, rfl, by simpa using hrow3, F3⟩
      case round =>
        obtain ⟨i, g, cap3, rfl, hi8, rfl, hrow5, F5⟩ := hrel
        by_cases hk : i < 8
        · have hk0 : ((7 : Int) - (i : Int) ≥ 0) := by omega
          obtain ⟨xb, hxb⟩ : ∃ x, x = s.size * 8 / 2 ^ (56 - 8 * i) % 256 := ⟨_, rfl⟩
          have hx : Int.tmod ((s.size : Int) * 8 / 2 ^ (8 * (7 - i))) 256 = (xb : Int) := by
            rw [hxb, show 56 - 8 * i = 8 * (7 - i) by omega]
            have e : (s.size : Int) * 8 / 2 ^ (8 * (7 - i)) = ((s.size * 8 / 2 ^ (8 * (7 - i)) : Nat) : Int) := by simp
            rw [e, Int.tmod_eq_emod_of_nonneg (Int.natCast_nonneg _)]
            generalize s.size * 8 / 2 ^ (8 * (7 - i)) = y
            omega
          have hxm : (xb : Int) % 256 = (xb : Int) := by
            have : xb < 256 := by rw [hxb]; exact Nat.mod_lt _ (by omega)
            omega
          have hlt : (lenB s.size).take (i + 1) = (lenB s.size).take i ++ [xb] := by
            rw [List.take_succ_eq_append_getElem (by rw [lenB_len]; exact hk)]
            simp [lenB, hxb]
          have hpl : (pre ++ (lenB s.size).take i).length = s.size + 1 + z + i := by rw [List.length_append, HLZ.out, List.length_take, lenB_len]; omega
          have HLT := Lib.hid hlt
          have HPL := Lib.hid hpl
          clear hxb hlt hpl
          go_wp2_with (first
            | (at_builtin; refine wpList_append_g (V := U8) rfl (.tmp 29) (.tmp 38) 35 rfl (fun _ => rfl) w.heap.size 5 i0 _ 1 Try.underlying35 hi hz0 hz1 hz2 rfl rfl (hrow5.far ((Fr.refl [] wr).alloc _)) ⟨wr.heap.size, 0, none⟩ 1 1 [xb] rfl rfl
                (World.news_of_block (cs := #[.int .u8 (xb : Int)]) (t := 5) (fr := (0, 0)) (heap_alloc_new wr _)) (by rw [HPL.out]; unfold maxLen; omega) (by rw [HPL.out]; omega) (Nat.le_trans F5.size (by simp)) ?_; intro v6 w6 hrow6 hgr6))
          have hrow6' : GRow U8 w6 w.heap.size v6 (pre ++ (lenB s.size).take (i + 1)) := by rw [HLT.out, ← List.append_assoc]; exact hrow6
          have F6 := Fr.step_row (F5.alloc (.cells #[Value.int .u8 (xb : Int)] 5)) hgr6 (hrow5.far ((Fr.refl [] wr).alloc _)) (Nat.le_refl _)
          obtain ⟨g6, cap6, rfl, hg6⟩ := hrow6'.some_ (n := s.size + 1 + z + (i + 1)) (by rw [List.length_append, HLZ.out, List.length_take, lenB_len]; omega) (by omega)
          clear hgr6 hrow6 hx hxm
          go_wp2
          go_roundw
          case rel => exact ⟨i + 1, g6, cap6, rfl, by omega, by go_num, hrow6', F6⟩
          case measure => simp [intOf]; omega
        · have hk0 : ¬ ((7 : Int) - (i : Int) ≥ 0) := by omega
          have hE : pre ++ (lenB s.size).take i = padded (bytesOf s) := by
            rw [show i = 8 from by omega, List.take_of_length_le (by rw [lenB_len]; exact Nat.le_refl _), HP.out, padded, bytesOf_len, tail, HZ.out]
            simp
          rw [hE] at hrow5
          have hel : (padded (bytesOf s)).length = s.size + 1 + z + i := by rw [← hE, List.length_append, HLZ.out, List.length_take, lenB_len]; omega
          have hmod : (s.size + 1 + z + i) % 64 = 0 := by
            have h1 := tail_mod s.size
            have h2 : (padded (bytesOf s)).length = s.size + (tail s.size).length := by rw [padded, List.length_append, bytesOf_len]
            rw [← hel]; omega
          have HEB : ∀ x ∈ padded (bytesOf s), x < 256 := fun x hx => (List.mem_append.1 hx).elim (bytesOf_lt s x) (tail_lt _ x)
          obtain ⟨E, hEE⟩ : ∃ E, E = padded (bytesOf s) := ⟨_, rfl⟩
          rw [← hEE] at hrow5 hel HEB
          have HEE := Lib.hid hEE
          obtain ⟨N, hN⟩ : ∃ N, N = s.size + 1 + z + i := ⟨_, rfl⟩
          rw [← hN] at hel hmod hrow5 ⊢
          have HEL := Lib.hid hel
          have hN2 : N < 140737488356000 := by omega
          have hN0 : 0 < N := by omega
          have C2' := C_fr C2 F5
          have C0' := StC.fr C0 F5
          have HNN := Lib.hid hN
          have hcap := hrow5.cap_le rfl
          rw [hel] at hcap
          clear hN hel hrow3 hEE hE HP HLZ HZ C0 C2
          go_wp2_with fail
          go_loopw [1, 9] (fun s1 s9 W => ∃ k g1 c1 : Nat, s1 = .slice (some ⟨g1, 0, none⟩) 8 c1 ∧ 8 ≤ c1 ∧ s9 = .int .i64 (64 * (k : Int)) ∧ 64 * k ≤ N ∧ StC W g1 (run k E st) ∧ Fr [] wr W) (fun _ s _ => (N + 200 - intOf s).toNat)
          case atStart => exact ⟨0, gh, ch, rfl, hch, rfl, by omega, C0', Fr.refl _ _⟩
          case round =>
            obtain ⟨k, g1, c1, rfl, hc1, rfl, hkN, hSt, F8⟩ := hrel
            have hrow8 := hrow5.far F8
            have C8 := C_fr C2' F8
            by_cases hk2 : 64 * k < N
            · have hk64 : 64 * k + 64 ≤ N := by omega
              have hok : (run k E st).ok := run_ok _ _ hst
              have hnx := run_succ k E st
              generalize run k E st = sk at hSt hok hnx
              have hrg : wr.rangeAt g (64 * k) (((E.drop (64 * k)).take 64).map U8) := hrow8.range rfl (64 * k) 64
              have hpl : ((E.drop (64 * k)).take 64).length = 64 := by rw [List.length_take, List.length_drop, HEL.out]; omega
              have hEl : ∀ x ∈ (E.drop (64 * k)).take 64, x < 256 := fun x hx => HEB x (List.mem_of_mem_drop (List.mem_of_mem_take hx))
              generalize (E.drop (64 * k)).take 64 = part at hrg hpl hEl hnx
              have C1 := C_range hrg (by rw [hpl]; omega)
              rw [hpl] at C1
              have e2 : (64 * (k : Int)).toNat = 64 * k := by omega
              have e3 : (64 * (k : Int) + 64).toNat = 64 * k + 64 := by omega
              have e4 : (0 : Int) ≤ 64 * (k : Int) := by omega
              have e5 : 64 * (k : Int) + 64 ≤ (N : Int) := by omega
              have e6 : 64 * (k : Int) < (N : Int) := by omega
              have e7 : 64 * (k : Int) + 64 ≤ (cap3 : Int) := by omega
              have HPL := Lib.hid hpl
              clear hpl
              go_wp2_with fail
              refine (rblock sk hok part HPL.out hEl g1 c1 _ _ _ _ wr hSt hc1 C1 (by omega) C8 hc2).mono ?_
              rintro e w2 ⟨nb, g2, cc2, hnb, rfl, hcc2, hS2, F9⟩
              rw [← hnb.out] at hnx
              have F10 := F8.step F9 (by simp)
              clear hrg C1 e2 e3 e4 e5 e6 e7 hnb hSt hrow8 C8
              go_wp2_with fail
              go_roundw
              case rel => exact ⟨k + 1, g2, cc2, rfl, hcc2, by go_num, by omega, by rw [hnx]; exact hS2, F10⟩
              case measure => simp [intOf]; omega
            · have hkN' : N = 64 * k := by omega
              have hkl : (padded (bytesOf s)).length / 64 = k := by rw [← HEE.out, HEL.out]; omega
              have hres : ∀ W : World, Fr [] w W → DigestPost st s w (.returned (.string (strOf (outB (run k E st).list)))) W := fun W F => ⟨by rw [hkl, HEE.out], F⟩
              have hok : (run k E st).ok := run_ok _ _ hst
              have F9 := F5.step F8 (by simp)
              obtain ⟨sk, hsk⟩ : ∃ x, x = run k E st := ⟨_, rfl⟩
              rw [← hsk] at hSt hok hres
              have hk' : ¬ 64 * (k : Int) < (N : Int) := by omega
              clear hsk hkl HEE HEL hrow5 hrow8 C8 C2' C0' F5 F8 HEB
              go_wp2_with fail
              have hlt := list_lt hok
              have hll : sk.list.length = 8 := rfl
              have HLT := Lib.hid hlt
              have HLL := Lib.hid hll
              clear hlt hll
              generalize wr = w8 at *
              go_loopw [11, 10] (fun s11 s10 W => ∃ j : Nat, s11 = .int .i64 j ∧ j ≤ 8 ∧ GRow U8 W w8.heap.size s10 (outB (sk.list.take j)) ∧ Fr [] w8 W) (fun i _ _ => 8 - (intOf i).toNat)
              case atStart => exact ⟨0, rfl, by omega, GRow.nil_ _ _ _, Fr.refl _ _⟩
              case round =>
                obtain ⟨j, rfl, hj8, hrow9, F10⟩ := hrel
                by_cases hj : j < 8
                · have hcell := (hSt.fr F10).cell j hj
                  have hx32 := getD_lt HLT.out (by omega) j
                  have hol : (outB (sk.list.take j)).length = 4 * j := by rw [outB_len, List.length_take, HLL.out]; omega
                  have hto : outB (sk.list.take (j + 1)) = outB (sk.list.take j) ++ outW (sk.list.getD j 0) := by
                    rw [List.take_succ_eq_append_getElem (by rw [HLL.out]; exact hj), outB_append, List.getD_eq_getElem?_getD, List.getElem?_eq_getElem (by rw [HLL.out]; exact hj)]
                    simp [outB]
                  have HTO := Lib.hid hto
                  have HOL := Lib.hid hol
                  clear hto hol
                  generalize sk.list.getD j 0 = x at hcell hx32 HTO
                  have hj1 : (j : Int) < 8 := by omega
                  have hj2 : (0 : Int) ≤ (j : Int) := by omega
                  have HN := Lib.hid (outW_cells x)
                  go_wp2_with fail
                  go_region_law (refine step_append_g rfl (.tmp 58) (.tmp 85) 35 rfl (fun _ => rfl) w8.heap.size 5 i0 _ 1 Try.underlying35 hi hz0 hz1 hz2 rfl rfl (hrow9.far ((Fr.refl [] wr).drew.alloc _)) ⟨wr.heap.size, 0, none⟩ 4 4 (outW x) rfl rfl (by rw [HN.out]; exact World.news_of_block (heap_alloc_new wr.drew _)) (by rw [HOL.out]; unfold maxLen; omega) (by rw [HOL.out]; omega) (Nat.le_trans F10.size (by simp)) ?_; intro v10 w10 hrow10 hgr10)
                  all_goals (
                    rw [← HTO.out] at hrow10
                    have F11 := Fr.step_row (F10.drew.alloc _) hgr10 (hrow9.far ((Fr.refl [] wr).drew.alloc _)) (Nat.le_refl _)
                    clear hgr10 hcell
                    go_wp2_with fail
                    go_roundw
                    case rel => exact ⟨j + 1, by go_num, by omega, hrow10, F11⟩
                    case measure => simp [intOf]; omega)
                · have hj1 : ¬ (j : Int) < 8 := by omega
                  have ht : sk.list.take j = sk.list := List.take_of_length_le (by rw [HLL.out]; omega)
                  rw [ht] at hrow9
                  have hol : (outB sk.list).length = 32 := by rw [outB_len, HLL.out]
                  obtain ⟨g9, cap9, rfl, hg9⟩ := hrow9.some_ hol (by omega)
                  have hr9 := hrow9.range rfl 0 32
                  rw [List.drop_zero, List.take_of_length_le (by rw [hol]; exact Nat.le_refl _)] at hr9
                  have hcv := conv_bytes (P := Try.prog) cap9 35 5 9 Try.underlying35 Try.underlying5 Try.underlying9 (outB_lt _) hr9
                  rw [hol] at hcv
                  have hR := hres wr (F9.trans F10 (by simp))
                  clear ht hres hol hr9 hrow9
                  generalize strOf (outB sk.list) = str at hcv hR
                  go_wp2_with fail
                  go_ret
                  exact hR
    · have hzm := zerosN_more2 s.size z hz hm
      have hb : (((s.size : Int) + 1 + (z : Int)) % 64 != 56) = true := by
        have : ¬ ((s.size : Int) + 1 + (z : Int)) % 64 = 56 := by omega
        simp [this]
      clear hm
      go_wp2_with (first
        | (at_builtin; refine wpList_append_g (V := U8) rfl (.tmp 22) (.tmp 23) 35 rfl (fun _ => rfl) w.heap.size 5 i0 _ 1 Try.underlying35 hi hz0 hz1 hz2 rfl rfl (hrow3.far ((Fr.refl [] wr).alloc _)) ⟨wr.heap.size, 0, none⟩ 1 1 [0] rfl rfl
            (World.news_of_block (cs := #[.int .u8 0]) (t := 5) (fr := (0, 0)) (heap_alloc_new wr _)) (by simp [bytesOf_len]; unfold maxLen; omega) (by simp [bytesOf_len]; omega) (Nat.le_trans F3.size (by simp)) ?_; intro v4 w4 hrow4 hgr4))
      have hrow4' : GRow U8 w4 w.heap.size v4 (bytesOf s ++ [128] ++ List.replicate (z + 1) 0) := by
        rw [List.replicate_succ', ← List.append_assoc]; exact hrow4
      have F4 := Fr.step_row (F3.alloc (.cells #[.int .u8 0] 5)) hgr4 (hrow3.far ((Fr.refl [] wr).alloc _)) (Nat.le_refl _)
      obtain ⟨g4, cap4, rfl, hg4⟩ := hrow4'.some_ (n := s.size + 1 + (z + 1)) (by simp [bytesOf_len]; omega) (by omega)
      clear hgr4 hrow4
      go_wp2
      go_roundw
      case rel => exact ⟨z + 1, g4, cap4, rfl, by omega, hrow4', F4⟩
      case measure => simp; omega
end Go.Proofs.Ythkaigokcognmaa.Sha
end
section
namespace Go.Proofs.Ythkaigokcognmaa.Ptable
open Go.RowKit Go.Proofs.YthkaigokcognmaaW.PrintWords Go.Proofs.YthkaigokcognmaaW.PrintLast Go.Proofs.YthkaigokcognmaaW.PrintMore
attribute [local go_sem] max2_int min2_int max_two min_two max_three min_three max_four min_four
set_option linter.unusedVariables false
set_option linter.unusedSimpArgs false
def errW : Option Int → Value
 | none => .nilIface
 | some c => .iface 0 (.int .i64 c)
theorem errW_none : errW none = .nilIface := rfl
theorem errW_some (c : Int) : errW (some c) = .iface 0 (.int .i64 c) := rfl
theorem info3 : (Try.prog.info? 3).map (fun i => (i.zero, i.size, i.bytes)) = some (some (.int .i64 0), 1, 8) := by kernel_rfl
end Go.Proofs.Ythkaigokcognmaa.Ptable
end
