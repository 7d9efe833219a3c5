/- The reference's product by digits of 16 bits: the walk. -/
import Derived.Test.YthkaigokcognmaaRoots
import Derived.Test.YthkaigokcognmaaSha5
import Derived.Laws.OwnMore
namespace Go.Proofs.Ythkaigokcognmaa.Sha
open Go.RowKit

theorem set_lt {o : List Nat} {M v : Nat} (ho : ∀ y ∈ o, y < M) (hv : v < M) (i : Nat) : ∀ y ∈ o.set i v, y < M := by
  intro y hy
  rcases List.mem_or_eq_of_mem_set hy with h | rfl
  · exact ho y h
  · exact hv
theorem get_lt {s : List Nat} {m : Nat} (h : ∀ x ∈ s, x < m) (hm : 0 < m) (i : Nat) : s.getD i 0 < m := by
  rw [List.getD_eq_getElem?_getD]
  cases e : s[i]? with
  | none => simpa
  | some x => exact h x (List.mem_of_getElem? e)
theorem mul_lt16 {x y A : Nat} (hx : x < A) (hy : y < 65536) : x * y < A * 65536 := Nat.mul_lt_mul'' hx hy
theorem inn_ok (b : List Nat) (x i : Nat) (o : List Nat) (M A C : Nat) (hM : 65536 ≤ M) (hM2 : M ≤ 2199023255552) (ho : ∀ y ∈ o, y < M) (hx : x < A) (hAC : A + 33558531 ≤ C) (hC : C ≤ 168000000) (hb : ∀ y ∈ b, y < 65536) :
    ∀ k, (∀ y ∈ (inn b x i o k).1, y < M) ∧ (inn b x i o k).2 < C ∧ (inn b x i o k).1.length = o.length
  | 0 => ⟨ho, by simp [inn]; omega, rfl⟩
  | k + 1 => by
    obtain ⟨h1, h2, h3⟩ := inn_ok b x i o M A C hM hM2 ho hx hAC hC hb k
    have ht := get_lt h1 (by omega) (i + k)
    have hp := mul_lt16 hx (get_lt hb (by omega) k)
    refine ⟨?_, ?_, ?_⟩
    · exact set_lt h1 (Nat.lt_of_lt_of_le (Nat.mod_lt _ (by omega)) hM) _
    · show ((inn b x i o k).1.getD (i + k) 0 + x * b.getD k 0 + (inn b x i o k).2) / 65536 < C
      generalize x * b.getD k 0 = p at hp ⊢
      omega
    · show ((inn b x i o k).1.set (i + k) _).length = o.length
      rw [List.length_set, h3]
theorem outN_ok (a b : List Nat) (A C : Nat) (hAC : A + 33558531 ≤ C) (hC : C ≤ 168000000) (ha : ∀ y ∈ a, y < A) (hA0 : 0 < A) (hb : ∀ y ∈ b, y < 65536) : ∀ i, i ≤ 16 → (∀ y ∈ outN a b i, y < 65536 + C * i) ∧ (outN a b i).length = a.length + b.length
  | 0, _ => ⟨fun y hy => by have := List.eq_of_mem_replicate hy; omega, by simp [outN]⟩
  | i + 1, hi => by
    obtain ⟨h1, h2⟩ := outN_ok a b A C hAC hC ha hA0 hb i (by omega)
    have hCi : C * i ≤ 168000000 * 16 := Nat.mul_le_mul hC (by omega)
    obtain ⟨k1, k2, k3⟩ := inn_ok b (a.getD i 0) i (outN a b i) _ A C (by omega) (by omega) h1 (get_lt ha hA0 i) hAC hC hb b.length
    rw [Nat.mul_succ]
    refine ⟨?_, ?_⟩
    · show ∀ y ∈ (inn b (a.getD i 0) i (outN a b i) b.length).1.set (i + b.length) _, _
      refine set_lt (fun y hy => by have := k1 y hy; omega) ?_ _
      have := get_lt k1 (by omega) (i + b.length)
      omega
    · show ((inn b (a.getD i 0) i (outN a b i) b.length).1.set (i + b.length) _).length = _
      rw [List.length_set, k3, h2]

def wordsI (l : List Nat) : Array Value := ((ints l).map (Value.int .i64)).toArray
theorem wordsI_get (l : List Nat) (i : Nat) : (wordsI l)[i]? = (l[i]?).map fun n : Nat => Value.int .i64 (n : Int) := by
  simp [wordsI, ints, List.getElem?_map, Function.comp_def]
theorem wordsI_set (l : List Nat) (i n : Nat) : (wordsI l).setIfInBounds i (.int .i64 (n : Int)) = wordsI (l.set i n) := by
  simp [wordsI, ints, List.map_set]
theorem wordsI_len (l : List Nat) : (wordsI l).size = l.length := by simp [wordsI, ints]
theorem wordsI_store {w : World} {g : Nat} {t : TypeId} {l : List Nat} (h : Blk w g t (wordsI l)) (i n : Nat) : Blk (w.setCell ⟨g, i, none⟩ (.int .i64 (n : Int))) g t (wordsI (l.set i n)) := by
  rw [← wordsI_set]; exact h.set_ i _

/-- A row that is read. -/
def RowI (w : World) (g : Nat) (l : List Nat) : Prop := ∀ j, j < l.length → w.cell? ⟨g, j, none⟩ = some (.int .i64 ((l.getD j 0 : Nat) : Int))
theorem RowI.fr {w w' : World} {g : Nat} {l : List Nat} (h : RowI w g l) (F : Fr [] w w') : RowI w' g l := fun j hj => F.cell (by simp) (h j hj)
theorem rowI_of {w : World} {g : Nat} {t : TypeId} {l : List Nat} (h : Blk w g t (wordsI l)) : RowI w g l := fun j hj => by
  rw [h.cell, wordsI_get, List.getElem?_eq_getElem hj, List.getD_eq_getElem?_getD, List.getElem?_eq_getElem hj]; rfl

theorem info3 : (Try.prog.info? 3).map (fun i => (i.zero, i.size, i.bytes)) = some (some (.int .i64 0), 1, 8) := by kernel_rfl

def TimesPost (a b : List Nat) (w : World) (e : Ending) (w' : World) : Prop :=
  ∃ g : Nat, e = .returned (.slice (some ⟨g, 0, none⟩) (a.length + b.length) (a.length + b.length)) ∧ Blk w' g 3 (wordsI (timesN a b)) ∧ Fr [] w w'

set_option maxRecDepth 10000 in
set_option maxHeartbeats 2000000 in
theorem times_any (a b : List Nat) (A C : Nat) (hAC : A + 33558531 ≤ C) (hC : C ≤ 168000000) (hA0 : 0 < A) (ha : ∀ y ∈ a, y < A) (hb : ∀ y ∈ b, y < 65536) (hla : a.length ≤ 8) (hlb : b.length ≤ 8) (ga ca gb cb : Nat) (w : World) (hA : RowI w ga a) (hB : RowI w gb b) :
    Calls Try.prog 89 #[.slice (some ⟨ga, 0, none⟩) a.length ca, .slice (some ⟨gb, 0, none⟩) b.length cb] w (TimesPost a b w) := by
  obtain ⟨i0, hi, hz0, hz1, hz2⟩ := info_parts info3
  have hmk : ∀ W : World, (Instr.makeSlice 43 (.int .i64 ((a.length : Int) + (b.length : Int))) (.int .i64 ((a.length : Int) + (b.length : Int)))).run Try.prog W = .ok (.slice (some ⟨W.heap.size, 0, none⟩) (a.length + b.length) (a.length + b.length)) (W.alloc (.cells (wordsI (outN a b 0)) 3)) := fun W => by
    have h := run_make (P := Try.prog) W 43 3 i0 (.int .i64 0) Try.underlying43 hi hz0 .i64 .i64 ((a.length : Int) + (b.length : Int)) ((a.length : Int) + (b.length : Int)) (by omega) (by omega) (by rw [hz2]; omega) (by omega)
    have e : ((a.length : Int) + (b.length : Int)).toNat = a.length + b.length := by omega
    have e2 : madeCells (Value.int .i64 0).cells ((a.length + b.length) * 1) = wordsI (outN a b 0) := by
      apply Array.ext'
      have := toList_madeCells_one (.int .i64 0) ((a.length + b.length) * 1)
      rw [show (Value.int .i64 0).cells = #[.int .i64 0] from rfl, this]
      simp [wordsI, ints, outN]
    rw [hz1, e, e2] at h
    exact h
  have hb0 : Blk (w.alloc (.cells (wordsI (outN a b 0)) 3)) w.heap.size 3 (wordsI (outN a b 0)) := heap_alloc_new w _
  have F0 : Fr [] w (w.alloc (.cells (wordsI (outN a b 0)) 3)) := (Fr.refl _ _).alloc _
  have HA := Lib.hid hA
  have HB := Lib.hid hB
  clear hA hB
  go_enter Try.func89, Try.ntmps89
  go_wp2_with fail
  obtain ⟨g, hg⟩ : ∃ g, g = w.heap.size := ⟨_, rfl⟩
  rw [← hg] at hb0 ⊢
  generalize hW1 : w.alloc (.cells (wordsI (outN a b 0)) 3) = w1 at *
  have HG := Lib.hid hg
  clear hW1 hmk hg
  go_loopw [6] (fun s6 W => ∃ i : Nat, s6 = .int .i64 i ∧ i ≤ a.length ∧ Blk W g 3 (wordsI (outN a b i)) ∧ Fr [] w W) (fun s _ => (8 - intOf s).toNat)
  case atStart => exact ⟨0, rfl, by omega, hb0, F0⟩
  case round =>
    obtain ⟨i, rfl, hil, hO, F⟩ := hrel
    by_cases hlt : i < a.length
    · have hx := get_lt ha hA0 i
      obtain ⟨ho1, ho2⟩ := outN_ok a b A C hAC hC ha hA0 hb i (by omega)
      have hCi : C * i ≤ 168000000 * 16 := Nat.mul_le_mul hC (by omega)
      obtain ⟨M, hM⟩ : ∃ M, M = 65536 + C * i := ⟨_, rfl⟩
      rw [← hM] at ho1
      have hM1 : 65536 ≤ M := by omega
      have hM2 : M ≤ 2199023255552 := by omega
      have hok := inn_ok b (a.getD i 0) i (outN a b i) M A C hM1 hM2 ho1 hx hAC hC hb
      clear hCi hM
      have hnx : outN a b (i + 1) = rowN b (a.getD i 0) i (outN a b i) := rfl
      have HNX := Lib.hid hnx
      have HOK := Lib.hid hok
      clear hnx hok ho1
      obtain ⟨x, hxx⟩ : ∃ x, x = a.getD i 0 := ⟨_, rfl⟩
      rw [← hxx] at hx HNX HOK
      have HXX := Lib.hid hxx
      clear hxx
      generalize outN a b i = o at *
      have HO2 := Lib.hid ho2
      clear ho2
      go_wp2_with fail
      go_loopw [7, 8] (fun s7 s8 W => ∃ k : Nat, s8 = .int .i64 k ∧ k ≤ b.length ∧ s7 = .int .i64 (((inn b x i o k).2 : Nat) : Int) ∧ Blk W g 3 (wordsI (inn b x i o k).1) ∧ Fr [] w W) (fun _ s _ => (8 - intOf s).toNat)
      case atStart => exact ⟨0, rfl, by omega, rfl, hO, F⟩
      case round =>
        obtain ⟨k, rfl, hkl, rfl, hT, F2⟩ := hrel
        obtain ⟨t1, t2, t3⟩ := HOK.out k
        by_cases hk : k < b.length
        · have hc1 := rowI_of hT (i + k) (by rw [t3, HO2.out]; omega)
          have hz1' := hT.frozen (i + k)
          have hc2 := (HB.out.fr F2) k hk
          have hc3 := (HA.out.fr F2) i hlt
          have htl := get_lt t1 (by omega) (i + k)
          have hy := get_lt hb (by omega) k
          have hxy := mul_lt16 hx hy
          have hxy2 : A * 65536 ≤ 168000000 * 65536 := Nat.mul_le_mul (by omega) (Nat.le_refl _)
          have hn : (inn b x i o (k + 1)) = ((inn b x i o k).1.set (i + k) (((inn b x i o k).1.getD (i + k) 0 + x * b.getD k 0 + (inn b x i o k).2) % 65536), ((inn b x i o k).1.getD (i + k) 0 + x * b.getD k 0 + (inn b x i o k).2) / 65536) := rfl
          have HN := Lib.hid hn
          clear hn t1 t3
          generalize inn b x i o k = r at *
          obtain ⟨T, c⟩ := r
          simp only at *
          rw [← HXX.out] at hc3
          generalize T.getD (i + k) 0 = tv at *
          generalize b.getD k 0 = y at *
          obtain ⟨pr, hpr⟩ : ∃ q, q = x * y := ⟨_, rfl⟩
          obtain ⟨q1, hq1⟩ : ∃ q, q = tv + pr := ⟨_, rfl⟩
          obtain ⟨n, hnn⟩ : ∃ q, q = q1 + c := ⟨_, rfl⟩
          rw [← hpr, ← hq1, ← hnn] at HN
          have p1 : IntKind.i64.wrap ((x : Int) * (y : Int)) = (pr : Int) := by
            rw [← Int.natCast_mul, ← hpr]
            exact IntWalk.i64_in _ (by omega)
          have s2 : IntKind.i64.wrap ((tv : Int) + (pr : Int)) = (q1 : Int) := by
            rw [show (tv : Int) + (pr : Int) = (q1 : Int) by omega]
            exact IntWalk.i64_in _ (by omega)
          have s3 : IntKind.i64.wrap ((q1 : Int) + (c : Int)) = (n : Int) := by
            rw [show (q1 : Int) + (c : Int) = (n : Int) by omega]
            exact IntWalk.i64_in _ (by omega)
          have s1 : IntKind.i64.wrap ((i : Int) + (k : Int)) = ((i : Int) + (k : Int)) := IntWalk.i64_in _ (by omega)
          have s0 : ((i : Int) + (k : Int)).toNat = i + k := by omega
          have l1 : (0 : Int) ≤ (i : Int) + (k : Int) := by omega
          have l2 : (i : Int) + (k : Int) < (a.length : Int) + (b.length : Int) := by omega
          have l3 : (i : Int) < (a.length : Int) := by omega
          have l4 : (k : Int) < (b.length : Int) := by omega
          have hn0 : n < 70368744177664 := by omega
          have HPR := Lib.hid hpr
          have HQ1 := Lib.hid hq1
          have HNN := Lib.hid hnn
          clear hpr hq1 hnn hxy hxy2
          go_wp2_with fail
          go_quiet (fail)
          clear p1 s2 s3 l2 l3 l4
          have e65 : ((n % 65536 : Nat) : Int) = (n : Int) % 65536 := by omega
          have e66 : ((n / 65536 : Nat) : Int) = (n : Int) / 65536 := by omega
          have E66 := Lib.hid e66
          have z2 : (wr.drewN nq).frozen? ⟨g, i + k, none⟩ = false := hz1'
          have c2 : (wr.drewN nq).cell? ⟨g, i + k, none⟩ = some (.int .i64 (tv : Int)) := hc1
          have hT2 : Blk ((wr.drewN nq).setCell ⟨g, i + k, none⟩ (.int .i64 ((n : Int) % 65536))) g 3 (wordsI (T.set (i + k) (n % 65536))) := by
            rw [← e65]; exact wordsI_store (hT.drewN nq) (i + k) (n % 65536)
          have F3 : Fr [] w ((wr.drewN nq).setCell ⟨g, i + k, none⟩ (.int .i64 ((n : Int) % 65536))) := (F2.drewN nq).setCell (p := ⟨g, i + k, none⟩) (.inr (by rw [HG.out]; exact Nat.le_refl _)) _
          clear hT hc1 hc2 hc3 e65 e66 hz1'
          generalize wr.drewN nq = w5 at *
          go_wp2_with fail
          go_roundw
          case rel => exact ⟨k + 1, by go_num, by omega, by rw [HN.out, E66.out], by rw [HN.out]; exact hT2, F3⟩
          case measure => simp [intOf]; omega
        · have hk' : k = b.length := by omega
          subst hk'
          have hrow : outN a b (i + 1) = (inn b x i o b.length).1.set (i + b.length) ((inn b x i o b.length).1.getD (i + b.length) 0 + (inn b x i o b.length).2) := HNX.out
          have HROW := Lib.hid hrow
          have hc1 := rowI_of hT (i + b.length) (by rw [t3, HO2.out]; omega)
          have hz1' := hT.frozen (i + b.length)
          have htl := get_lt t1 (by omega) (i + b.length)
          clear hrow t1 t3
          generalize inn b x i o b.length = r at *
          obtain ⟨T, c⟩ := r
          simp only at *
          generalize T.getD (i + b.length) 0 = tv at *
          have s1 : IntKind.i64.wrap ((i : Int) + (b.length : Int)) = ((i : Int) + (b.length : Int)) := IntWalk.i64_in _ (by omega)
          have s0 : ((i : Int) + (b.length : Int)).toNat = i + b.length := by omega
          have l1 : (0 : Int) ≤ (i : Int) + (b.length : Int) := by omega
          have l2 : (i : Int) + (b.length : Int) < (a.length : Int) + (b.length : Int) := by omega
          have hk0 : ¬ (b.length : Int) < (b.length : Int) := by omega
          go_wp2_with fail
          go_roundw
          case rel =>
            have e65 : ((tv + c : Nat) : Int) = (tv : Int) + (c : Int) := by omega
            have hT2 : Blk (wr.setCell ⟨g, i + b.length, none⟩ (.int .i64 ((tv : Int) + (c : Int)))) g 3 (wordsI (outN a b (i + 1))) := by
              rw [HROW.out, ← e65]; exact wordsI_store hT (i + b.length) (tv + c)
            exact ⟨i + 1, by go_num, by omega, hT2, F2.setCell (p := ⟨g, i + b.length, none⟩) (.inr (by rw [HG.out]; exact Nat.le_refl _)) _⟩
          case measure => simp [intOf]; omega
    · have hk : i = a.length := by omega
      subst hk
      have hk0 : ¬ (a.length : Int) < (a.length : Int) := by omega
      have hfin : TimesPost a b w (.returned (.slice (some ⟨g, 0, none⟩) (a.length + b.length) (a.length + b.length))) wr := ⟨g, rfl, hO, F⟩
      go_wp2_with fail
      go_ret
      exact hfin
end Go.Proofs.Ythkaigokcognmaa.Sha
