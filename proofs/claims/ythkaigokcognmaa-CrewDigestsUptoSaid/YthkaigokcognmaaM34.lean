/- A part of the proof of CrewDigestsUpto (no statement of its own): Sha3, Fold, Sha4, Pad. -/
import Derived.Test.YthkaigokcognmaaM33
import Derived.Test.YthkaigokcognmaaM31
import Derived.Deep.RegionHeld3
import Derived.Deep.MidRow
import Derived.Lib.Strings
import Derived.Lib.BufferWrite
import Derived.Lib.UnsafeStr
import Derived.Laws.MakeOwn
import Derived.OwnWalk
import Derived.Deep.RegionLaw
section
namespace Go.Proofs.Ythkaigokcognmaa
open Go.RowKit
theorem Fr.freeze {S : List Nat} {a w : World} (h : Fr S a w) {p : Addr} (hp : p.block ∈ S ∨ a.heap.size ≤ p.block) (n : Nat) : Fr S a (w.freeze p n) := by
 unfold World.freeze
 split
 ·exact h
 ·exact ⟨h.os, h.tape, h.output, by simpa using h.size, fun k hk hn => by
   simp only [Array.getElem?_modify]
   rw [if_neg (fun e => by
    rcases hp with h1 | h1
    ·exact hn (e ▸ h1)
    ·omega)]
   exact h.block k hk hn⟩
namespace Sha
def hashC (is : Bool) (st : St) (left : ByteArray) (n : Int) : Array Value :=
 #[.bool is, .int .u32 (st.a : Int), .int .u32 (st.b : Int), .int .u32 (st.c : Int), .int .u32 (st.d : Int), .int .u32 (st.e : Int), .int .u32 (st.f : Int), .int .u32 (st.g : Int), .int .u32 (st.h : Int), .string left, .int .i64 n]
theorem info5 : (Try.prog.info? 5).map (fun i => (i.zero, i.size, i.bytes)) = some (some (.int .u8 0), 1, 1) := by kernel_rfl
set_option maxRecDepth 100000 in
theorem clone60 (s : ByteArray) (w : World) (hlim : s.size ≤ 281474976710656) : Calls Try.prog 60 #[.string s] w fun e w' => e = .returned (.string s) ∧ Fr [] w w' := by
 by_cases h0 : s.size = 0
 ·have hs : s = ⟨#[]⟩ := ByteArray.ext (Array.eq_empty_of_size_eq_zero h0)
  subst hs
  go_enter Try.func60, Try.ntmps60
  go_wp2
  go_ret
  exact ⟨rfl, Fr.refl _ _⟩
 ·obtain ⟨i0, hi, hz0, hz1, hz2⟩ := info_parts info5
  have hinfo : (Try.prog.info? 5).map (·.size) = some 1 := by rw [hi]; simp [hz1]
  have hco : Try.prog.cellsOf 5 = 1 := by simp [Program.cellsOf, hi, hz1]
  obtain ⟨M, hM⟩ : ∃ M, M = madeCells (Value.int .u8 0).cells (((s.size : Nat) : Int).toNat * i0.size) := ⟨_, rfl⟩
  have hMs : M.size = s.size := by rw [hM, size_madeCells, hz1]; simp
  have hmk : ∀ W : World, (Instr.makeSlice 35 (.int .i64 (s.size : Int)) (.int .i64 (s.size : Int))).run Try.prog W = .ok (.slice (some ⟨W.heap.size, 0, none⟩) s.size s.size) (W.alloc (.cells M 5)) := fun W => by
   have h := run_make (P := Try.prog) W 35 5 i0 (.int .u8 0) Try.underlying35 hi hz0 .i64 .i64 (s.size : Int) (s.size : Int) (by omega) (by omega) (by rw [hz2]; omega) (by omega)
   rw [← hM] at h
   simpa using h
  clear hM
  have hcp := Lib.run_copy_row_string (P := Try.prog) (w.alloc (.cells M 5)) 35 9 3 5 w.heap.size 0 s.size s.size s M 5 Try.underlying35 hinfo (heap_alloc_new w _) (Nat.le_refl _) (by omega)
  obtain ⟨Y, hY⟩ : ∃ Y, Y = (M.toList.take 0 ++ Lib.byteCells s.data.toList ++ M.toList.drop (0 + s.size)).toArray := ⟨_, rfl⟩
  rw [← hY] at hcp
  have hYl : Y.toList = Lib.byteCells s.data.toList := by
   rw [hY, List.toList_toArray, List.take_zero, List.nil_append, List.drop_of_length_le (by rw [Array.length_toList]; omega), List.append_nil]
  have hYs : Y.size = s.size := by rw [← Array.length_toList, hYl, Lib.byteCells_length, ← Lib.size_eq]
  have hgY : ((w.alloc (.cells M 5)).setRow w.heap.size Y).heap[w.heap.size]? = some (.cells Y 5 (0, 0)) := setRow_heap _ _ M _ 5 (0, 0) (heap_alloc_new w _)
  have hne : s.data.toList ≠ [] := fun e => h0 (by rw [Lib.size_eq, e]; rfl)
  have hUS := Lib.run_unsafeString_row (P := Try.prog) ((w.alloc (.cells M 5)).setRow w.heap.size Y) 92 3 9 5 Try.underlying92 hco w.heap.size Y.size (by unfold World.shape?; rw [hgY]) s.data.toList hne (by rw [← Lib.size_eq]; omega) (by rw [← Lib.size_eq]; omega)
   (fun j x hx => Lib.cells_of_row hgY Y.size j _ (by rw [List.take_of_length_le (by rw [Array.length_toList]; exact Nat.le_refl _), hYl]; simp [Lib.byteCells, hx]))
  rw [← Lib.size_eq] at hUS
  clear hY
  have hfr : Fr [] w (((w.alloc (.cells M 5)).setRow w.heap.size Y).freeze ⟨w.heap.size, 0, none⟩ s.size) :=
   (((Fr.refl [] w).alloc _).setRow (.inr (Nat.le_refl _)) _).freeze (.inr (Nat.le_refl _)) _
  go_enter Try.func60, Try.ntmps60
  go_wp2
  go_ret
  exact ⟨rfl, hfr⟩
theorem clone45 (s : ByteArray) (w : World) (hlim : s.size ≤ 281474976710656) : Calls Try.prog 45 #[.string s] w fun e w' => e = .returned (.string s) ∧ Fr [] w w' := by
 go_enter Try.func45, Try.ntmps45
 go_wp2_with (go_at_call 60; refine (clone60 s _ (by omega)).mono ?_; rintro e w' ⟨rfl, hF⟩)
 go_wp2
 go_ret
 exact ⟨rfl, hF⟩
theorem given_nil (w : World) : Calls Try.prog 43 #[.pointer none] w fun e w' => e = .returned (.bool false) ∧ w' = w := by
 go_enter Try.func43, Try.ntmps43
 go_wp2
 go_ret
 exact ⟨rfl, rfl⟩
theorem given_made (is : Bool) (st : St) (left : ByteArray) (n : Int) (b : Nat) (w : World) (h : Blk w b 40 (hashC is st left n)) : Calls Try.prog 43 #[.pointer (some ⟨b, 0, none⟩)] w fun e w' => e = .returned (.bool is) ∧ w' = w := by
 have c0 : w.cell? ⟨b, 0, none⟩ = some (.bool is) := h.cell 0
 go_enter Try.func43, Try.ntmps43
 go_wp2
 go_ret
 exact ⟨rfl, rfl⟩
theorem new_any (w : World) : Calls Try.prog 17 #[] w fun e w' => ∃ b, e = .returned (.pointer (some ⟨b, 0, none⟩)) ∧ w.heap.size ≤ b ∧ Blk w' b 40 (hashC true H0 ⟨#[]⟩ 0) ∧ Fr [] w w' := by
 go_enter Try.func17, Try.ntmps17
 go_wp2_with (go_at_call 42; refine (begin_any _).mono ?_; rintro e w' ⟨rfl, hF⟩)
 rename_i cs hcs
 have hcs' : #[Value.int .u32 1779033703, .int .u32 3144134277, .int .u32 1013904242, .int .u32 2773480762, .int .u32 1359893119, .int .u32 2600822924, .int .u32 528734635, .int .u32 1541459225] = cs := by injection hcs
 subst hcs'
 go_ret
 refine ⟨w'.heap.size, rfl, hF.size, ?_, hF.alloc _⟩
 exact heap_alloc_new w' _
end Sha
end Go.Proofs.Ythkaigokcognmaa
end
section
namespace Go.Proofs.Ythkaigokcognmaa.Sha
def fold64 {α : Type} (f : α → List Nat → α) : Nat → List Nat → α → α
 | 0, _, st => st
 | n + 1, l, st => fold64 f n (l.drop 64) (f st (l.take 64))
variable {α : Type} (f : α → List Nat → α)
theorem fold64_ind {p : α → Prop} (hf : ∀ a l, p (f a l)) : ∀ n l st, p st → p (fold64 f n l st)
 | 0, _, _, h => h
 | n + 1, _, _, _ => fold64_ind hf n _ _ (hf _ _)
theorem fold64_add : ∀ a b l st, fold64 f (a + b) l st = fold64 f b (l.drop (64 * a)) (fold64 f a l st)
 | 0, b, l, st => by simp [fold64]
 | a + 1, b, l, st => by
  rw [show a + 1 + b = (a + b) + 1 by omega, fold64, fold64, fold64_add a b, List.drop_drop]
  congr 2
  omega
theorem fold64_append : ∀ a l m st, 64 * a ≤ l.length → fold64 f a (l ++ m) st = fold64 f a l st
 | 0, _, _, _, _ => rfl
 | a + 1, l, m, st, h => by
  rw [fold64, fold64, List.take_append_of_le_length (by omega), List.drop_append_of_le_length (by omega), fold64_append a _ _ _ (by rw [List.length_drop]; omega)]
theorem fold64_succ (k : Nat) (l : List Nat) (st : α) : fold64 f (k + 1) l st = f (fold64 f k l st) ((l.drop (64 * k)).take 64) := by
 rw [fold64_add]; rfl
theorem fold64_more (k : Nat) (l m : List Nat) (st : α) (h : 64 * k = 64 * (l.length / 64)) :
  fold64 f ((l.drop (64 * k) ++ m).length / 64) (l.drop (64 * k) ++ m) (fold64 f k l st) = fold64 f ((l ++ m).length / 64) (l ++ m) st := by
 have hk : k = l.length / 64 := by omega
 have e : (l ++ m).length / 64 = k + (l.drop (64 * k) ++ m).length / 64 := by
  simp only [List.length_append, List.length_drop]
  omega
 rw [e, fold64_add, fold64_append f k l m st (by omega), List.drop_append_of_le_length (by omega)]
theorem rest_more (l m : List Nat) :
  (l.drop (64 * (l.length / 64)) ++ m).drop (64 * ((l.drop (64 * (l.length / 64)) ++ m).length / 64)) = (l ++ m).drop (64 * ((l ++ m).length / 64)) := by
 have e : (l ++ m).length / 64 = l.length / 64 + (l.drop (64 * (l.length / 64)) ++ m).length / 64 := by
  simp only [List.length_append, List.length_drop]
  omega
 have e2 : (l ++ m).drop (64 * (l.length / 64)) = l.drop (64 * (l.length / 64)) ++ m := List.drop_append_of_le_length (by omega)
 rw [e, Nat.mul_add, ← List.drop_drop, e2]
def run (n : Nat) (l : List Nat) (st : St) : St := fold64 block n l st
theorem run_ok (n : Nat) (l : List Nat) {st : St} (h : st.ok) : (run n l st).ok := fold64_ind block (p := St.ok) block_ok n l st h
theorem run_succ (k : Nat) (l : List Nat) (st : St) : run (k + 1) l st = block (run k l st) ((l.drop (64 * k)).take 64) := fold64_succ block k l st
theorem run_more (l m : List Nat) (st : St) :
  run ((l.drop (64 * (l.length / 64)) ++ m).length / 64) (l.drop (64 * (l.length / 64)) ++ m) (run (l.length / 64) l st) = run ((l ++ m).length / 64) (l ++ m) st := fold64_more block _ l m st rfl
theorem H0_ok : H0.ok := by simp [St.ok, H0]
end Go.Proofs.Ythkaigokcognmaa.Sha
end
section
namespace Go.Proofs.Ythkaigokcognmaa.Sha
open Go.RowKit
def HRep (w : World) (b : Nat) (all : List Nat) : Prop :=
 ∃ left : ByteArray, Blk w b 40 (hashC true (run (all.length / 64) all H0) left all.length) ∧ bytesOf left = all.drop (64 * (all.length / 64))
def WritePost (all : List Nat) (s : ByteArray) (b : Nat) (w : World) (e : Ending) (w' : World) : Prop := e = .returned (.tuple #[]) ∧ HRep w' b (all ++ bytesOf s) ∧ Fr [b] w w'
theorem hashC_set (is : Bool) (st nb : St) (left : ByteArray) (n : Int) :
  (((((((((hashC is st left n).setIfInBounds 1 (Value.int .u32 (nb.a : Int))).setIfInBounds 2 (Value.int .u32 (nb.b : Int))).setIfInBounds 3 (Value.int .u32 (nb.c : Int))).setIfInBounds 4 (Value.int .u32 (nb.d : Int))).setIfInBounds 5 (Value.int .u32 (nb.e : Int))).setIfInBounds 6 (Value.int .u32 (nb.f : Int))).setIfInBounds 7 (Value.int .u32 (nb.g : Int))).setIfInBounds 8 (Value.int .u32 (nb.h : Int))) = hashC is nb left n := by
 simp only [hashC, List.setIfInBounds_toArray, List.set_cons_succ, List.set_cons_zero]
set_option maxRecDepth 10000 in
set_option maxHeartbeats 1000000 in
theorem write_any (all : List Nat) (s : ByteArray) (b : Nat) (w : World) (h : HRep w b all) (hn : all.length + s.size < 1152921504606846976) :
  Calls Try.prog 18 #[.pointer (some ⟨b, 0, none⟩), .string s] w (WritePost all s b w) := by
 obtain ⟨left, hB, hl⟩ := h
 have c9 : w.cell? ⟨b, 9, none⟩ = some (.string left) := hB.cell 9
 have c10 : w.cell? ⟨b, 10, none⟩ = some (.int .i64 all.length) := hB.cell 10
 have z10 := hB.frozen 10
 have c9' : (w.setCell ⟨b, 10, none⟩ (.int .i64 (all.length + s.size))).cell? ⟨b, 9, none⟩ = some (.string left) := by
  rw [World.cell?_setCell_other _ _ _ _ (by simp)]; exact c9
 have hB1 : Blk (w.setCell ⟨b, 10, none⟩ (.int .i64 (all.length + s.size))) b 40 (hashC true (run (all.length / 64) all H0) left (all.length + s.size)) := hB.set_ 10 _
 have F1 : Fr [b] w (w.setCell ⟨b, 10, none⟩ (.int .i64 (all.length + s.size))) := (Fr.refl _ w).setCell (.inl (by simp)) _
 have hst : (run (all.length / 64) all H0).ok := run_ok _ _ H0_ok
 have hlsz : left.size < 64 := by have := congrArg List.length hl; rw [bytesOf_len, List.length_drop] at this; omega
 have hbuf : bytesOf (left ++ s) = all.drop (64 * (all.length / 64)) ++ bytesOf s := by rw [bytesOf_append, hl]
 have hfin : WritePost all s b w = fun e w' => e = .returned (.tuple #[]) ∧ HRep w' b (all ++ bytesOf s) ∧ Fr [b] w w' := rfl
 have hend : ∀ (W : World) (lf : ByteArray), Blk W b 40 (hashC true (run ((left ++ s).size / 64) (bytesOf (left ++ s)) (run (all.length / 64) all H0)) lf (all.length + s.size)) → bytesOf lf = (bytesOf (left ++ s)).drop (64 * ((left ++ s).size / 64)) →
   HRep W b (all ++ bytesOf s) := by
  intro W lf h1 h2
  have h3 := run_more all (bytesOf s) H0
  have h4 := rest_more all (bytesOf s)
  rw [← hbuf, bytesOf_len] at h3 h4
  rw [h3] at h1
  refine ⟨lf, ?_, h2.trans h4⟩
  have : (((all ++ bytesOf s).length : Nat) : Int) = (all.length : Int) + (s.size : Int) := by rw [List.length_append, bytesOf_len]; omega
  rw [this]
  exact h1
 have hbsz : (left ++ s).size = left.size + s.size := by simp
 clear hbuf hl
 generalize run (all.length / 64) all H0 = st at hB hB1 hst hend
 go_enter Try.func18, Try.ntmps18
 go_wp2_with (go_at_call 43; refine (given_made true _ _ _ _ _ (by assumption)).mono ?_; rintro e w' ⟨rfl, rfl⟩)
 generalize hW1 : w'.setCell _ _ = w1 at *
 generalize left ++ s = buf at hend hbsz ⊢
 clear c9' c9 c10 z10 hB
 go_loopw [1] (fun si wr => ∃ (k : Nat) (sr : ByteArray), si = .string sr ∧ bytesOf sr = (bytesOf buf).drop (64 * k) ∧ 64 * k + sr.size = buf.size ∧ Blk wr b 40 (hashC true (run k (bytesOf buf) st) left (all.length + s.size)) ∧ Fr [b] w1 wr) (fun i _ => match i with | .string x => x.size | _ => 0)
 case atStart => exact ⟨0, buf, rfl, rfl, by omega, hB1, Fr.refl _ _⟩
 case round =>
  obtain ⟨k, sr, rfl, hsr, hsz, hb, F⟩ := hrel
  by_cases hlt : 64 ≤ sr.size
  ·have hlt' : ((sr.size : Int) ≥ 64) := by omega
   have hok : (run k (bytesOf buf) st).ok := run_ok _ _ hst
   have hnx := run_succ k (bytesOf buf) st
   rw [← hsr] at hnx
   generalize run k (bytesOf buf) st = sk at hb hok hnx
   have hbl : ∀ (x : ByteArray) (W : World), x.size = 64 → Calls Try.prog 44 #[.agg #[.int .u32 (sk.a : Int), .int .u32 (sk.b : Int), .int .u32 (sk.c : Int), .int .u32 (sk.d : Int), .int .u32 (sk.e : Int), .int .u32 (sk.f : Int), .int .u32 (sk.g : Int), .int .u32 (sk.h : Int)], .string x] W (fun e W' => ∃ nb : St, Hid (nb = block sk (bytesOf x)) ∧ e = .returned (.agg #[.int .u32 (nb.a : Int), .int .u32 (nb.b : Int), .int .u32 (nb.c : Int), .int .u32 (nb.d : Int), .int .u32 (nb.e : Int), .int .u32 (nb.f : Int), .int .u32 (nb.g : Int), .int .u32 (nb.h : Int)]) ∧ Fr [] W W') := fun x W hx =>
    (block_any sk hok x hx W).mono fun e W' ⟨h1, h2⟩ => ⟨_, rfl, h1, h2⟩
   have hS0 : ∀ W : World, Blk W b 40 (hashC true sk left (all.length + s.size)) → W.cell? ⟨b, 1, none⟩ = some (.int .u32 (sk.a : Int)) ∧ W.cell? ⟨b, 2, none⟩ = some (.int .u32 (sk.b : Int)) ∧ W.cell? ⟨b, 3, none⟩ = some (.int .u32 (sk.c : Int)) ∧ W.cell? ⟨b, 4, none⟩ = some (.int .u32 (sk.d : Int)) ∧ W.cell? ⟨b, 5, none⟩ = some (.int .u32 (sk.e : Int)) ∧ W.cell? ⟨b, 6, none⟩ = some (.int .u32 (sk.f : Int)) ∧ W.cell? ⟨b, 7, none⟩ = some (.int .u32 (sk.g : Int)) ∧ W.cell? ⟨b, 8, none⟩ = some (.int .u32 (sk.h : Int)) ∧ W.frozen? ⟨b, 1, none⟩ = false ∧ W.frozen? ⟨b, 2, none⟩ = false ∧ W.frozen? ⟨b, 3, none⟩ = false ∧ W.frozen? ⟨b, 4, none⟩ = false ∧ W.frozen? ⟨b, 5, none⟩ = false ∧ W.frozen? ⟨b, 6, none⟩ = false ∧ W.frozen? ⟨b, 7, none⟩ = false ∧ W.frozen? ⟨b, 8, none⟩ = false := fun W hb => ⟨hb.cell 1, hb.cell 2, hb.cell 3, hb.cell 4, hb.cell 5, hb.cell 6, hb.cell 7, hb.cell 8, hb.frozen 1, hb.frozen 2, hb.frozen 3, hb.frozen 4, hb.frozen 5, hb.frozen 6, hb.frozen 7, hb.frozen 8⟩
   have hS1 := hS0 wr hb
   go_split_ands
   have hex : bytesOf (sr.extract 0 64) = (bytesOf sr).take 64 := by simp [bytesOf]
   have hex2 : bytesOf (sr.extract 64 sr.size) = (bytesOf sr).drop 64 := by simp [bytesOf]; exact List.take_of_length_le (by simp)
   have hesz : (sr.extract 0 64).size = 64 := by rw [ByteArray.size_extract]; omega
   go_wp2_with fail
   go_region_with ((refine (hbl _ _ hesz).mono ?_; rintro e w2 ⟨nb, hnb, rfl, F2⟩; have F3 := ((Fr.refl [] wr).drew).trans F2 (by simp); have hb2 := hb.fr F3 (by simp); have hS2 := hS0 w2 hb2; go_split_ands))
   rw [← hex, ← hnb.out] at hnx
   have F5 := (F.trans F3 (by simp))
   have hb3 := ((((((((hb2.set_ 1 (.int .u32 (nb.a : Int))).set_ 2 (.int .u32 (nb.b : Int))).set_ 3 (.int .u32 (nb.c : Int))).set_ 4 (.int .u32 (nb.d : Int))).set_ 5 (.int .u32 (nb.e : Int))).set_ 6 (.int .u32 (nb.f : Int))).set_ 7 (.int .u32 (nb.g : Int))).set_ 8 (.int .u32 (nb.h : Int)))
   have F6 := ((((((((F5.setCell (p := ⟨b, 1, none⟩) (.inl (by simp)) (.int .u32 (nb.a : Int))).setCell (p := ⟨b, 2, none⟩) (.inl (by simp)) (.int .u32 (nb.b : Int))).setCell (p := ⟨b, 3, none⟩) (.inl (by simp)) (.int .u32 (nb.c : Int))).setCell (p := ⟨b, 4, none⟩) (.inl (by simp)) (.int .u32 (nb.d : Int))).setCell (p := ⟨b, 5, none⟩) (.inl (by simp)) (.int .u32 (nb.e : Int))).setCell (p := ⟨b, 6, none⟩) (.inl (by simp)) (.int .u32 (nb.f : Int))).setCell (p := ⟨b, 7, none⟩) (.inl (by simp)) (.int .u32 (nb.g : Int))).setCell (p := ⟨b, 8, none⟩) (.inl (by simp)) (.int .u32 (nb.h : Int)))
   generalize hW5 : World.setCell _ _ _ = w5 at hb3 F6 ⊢
   have hb4 : Blk w5 b 40 (hashC true nb left (all.length + s.size)) := by rw [hashC_set] at hb3; exact hb3
   clear hb3 hb2 hbl hS0 hb F3 F2 F F5
   go_wp2_with fail
   go_roundw
   case rel => exact ⟨k + 1, sr.extract 64 sr.size, rfl, by rw [hex2, hsr, List.drop_drop]; congr 1, by rw [ByteArray.size_extract]; omega, by rw [hnx]; exact hb4, F6⟩
   case measure => simp; omega
  ·have hlt' : ¬ ((sr.size : Int) ≥ 64) := by omega
   have hk : k = buf.size / 64 := by omega
   subst hk
   have hF := fun (W : World) (lf : ByteArray) => hend W lf
   generalize run (buf.size / 64) (bytesOf buf) st = sk at hb hend hF
   have z9 := hb.frozen 9
   go_wp2_with (go_at_call 45; refine (clone45 sr _ (by omega)).mono ?_; rintro e w2 ⟨rfl, F2⟩; have hb2 := hb.fr F2 (by simp); have c9 : w2.cell? ⟨b, 9, none⟩ = some (.string left) := hb2.cell 9; have z9' := hb2.frozen 9)
   have hb3 : Blk (w2.setCell ⟨b, 9, none⟩ (.string sr)) b 40 (hashC true sk sr (all.length + s.size)) := hb2.set_ 9 _
   have F5 : Fr [b] w' (w2.setCell ⟨b, 9, none⟩ (.string sr)) := ((F1.trans F (by simp)).trans F2 (by simp)).setCell (p := ⟨b, 9, none⟩) (.inl (by simp)) _
   have hres : WritePost all s b w' (.returned (.tuple #[])) (w2.setCell ⟨b, 9, none⟩ (.string sr)) := ⟨rfl, hF _ sr hb3 hsr, F5⟩
   go_wp2
   go_end0
   exact hres
end Go.Proofs.Ythkaigokcognmaa.Sha
end
section
namespace Go.Proofs.Ythkaigokcognmaa.Sha
def zerosN (n : Nat) : Nat := (119 - n % 64) % 64
def lenB (n : Nat) : List Nat := (List.range 8).map fun i => n * 8 / 2 ^ (56 - 8 * i) % 256
def tail (n : Nat) : List Nat := 128 :: (List.replicate (zerosN n) 0 ++ lenB n)
def outW (w : Nat) : List Nat := [w / 16777216 % 256, w / 65536 % 256, w / 256 % 256, w % 256]
def outB : List Nat → List Nat
 | [] => []
 | w :: l => outW w ++ outB l
def padded (l : List Nat) : List Nat := l ++ tail l.length
def digest (l : List Nat) : List Nat := outB (run ((padded l).length / 64) (padded l) H0).list
theorem lenB_len (n : Nat) : (lenB n).length = 8 := by simp [lenB]
theorem tail_len (n : Nat) : (tail n).length = 9 + zerosN n := by simp [tail, lenB_len]; omega
theorem tail_mod (n : Nat) : (n % 64 + (tail n).length) % 64 = 0 := by rw [tail_len]; unfold zerosN; omega
theorem zerosN_done (n m : Nat) (hm : m = n % 64) (z : Nat) (hz : z ≤ zerosN n) (h : (m + 1 + z) % 64 = 56) : z = zerosN n := by unfold zerosN at *; omega
theorem zerosN_more (n m : Nat) (hm : m = n % 64) (z : Nat) (hz : z ≤ zerosN n) (h : (m + 1 + z) % 64 ≠ 56) : z < zerosN n := by unfold zerosN at *; omega
theorem zerosN_lt (n : Nat) : zerosN n < 64 := by unfold zerosN; omega
theorem lenB_lt (n : Nat) : ∀ x ∈ lenB n, x < 256 := by
 intro x hx
 obtain ⟨i, _, rfl⟩ := List.mem_map.1 hx
 exact Nat.mod_lt _ (by omega)
theorem tail_lt (n : Nat) : ∀ x ∈ tail n, x < 256 := by
 intro x hx
 rcases List.mem_cons.1 hx with rfl | hx
 ·omega
 ·rcases List.mem_append.1 hx with hx | hx
  ·have := List.eq_of_mem_replicate hx; omega
  ·exact lenB_lt n x hx
theorem outB_append (a b : List Nat) : outB (a ++ b) = outB a ++ outB b := by
 induction a with
 | nil => rfl
 | cons x a ih => simp [outB, ih]
theorem outB_len (a : List Nat) : (outB a).length = 4 * a.length := by
 induction a with
 | nil => rfl
 | cons x a ih => simp [outB, outW, ih]; omega
theorem outB_lt : ∀ l : List Nat, ∀ x ∈ outB l, x < 256
 | [], x, hx => by cases hx
 | w :: l, x, hx => by
  rcases List.mem_append.1 hx with hx | hx
  ·simp only [outW, List.mem_cons, List.not_mem_nil, or_false] at hx
   omega
  ·exact outB_lt l x hx
theorem digest_len (l : List Nat) : (digest l).length = 32 := by unfold digest; rw [outB_len]; rfl
theorem digest_lt (l : List Nat) : ∀ x ∈ digest l, x < 256 := outB_lt _
theorem run_tail (all L0 : List Nat) (h : L0 = all.drop (64 * (all.length / 64))) :
  run ((L0 ++ tail all.length).length / 64) (L0 ++ tail all.length) (run (all.length / 64) all H0) = run ((padded all).length / 64) (padded all) H0 := by
 rw [h]; exact run_more all (tail all.length) H0
end Go.Proofs.Ythkaigokcognmaa.Sha
end
