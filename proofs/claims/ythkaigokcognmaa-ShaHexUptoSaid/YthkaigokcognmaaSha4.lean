/- sha: Write. -/
import Derived.Test.YthkaigokcognmaaSha3
import Derived.Test.YthkaigokcognmaaFold
import Derived.Deep.RegionLaw
namespace Go.Proofs.Ythkaigokcognmaa.Sha
open Go.RowKit

def HRep (w : World) (b : Nat) (all : List Nat) : Prop :=
  ∃ left : ByteArray, Blk w b 40 (hashC true (run (all.length / 64) all H0) left all.length) ∧ bytesOf left = all.drop (64 * (all.length / 64))

def WritePost (all : List Nat) (s : ByteArray) (b : Nat) (w : World) (e : Ending) (w' : World) : Prop := e = .returned (.tuple #[]) ∧ HRep w' b (all ++ bytesOf s) ∧ Fr [b] w w'

theorem hashC_set (is : Bool) (st nb : St) (left : ByteArray) (n : Int) :
    (((((((((hashC is st left n).setIfInBounds 1 (Value.int .u32 (nb.a : Int))).setIfInBounds 2 (Value.int .u32 (nb.b : Int))).setIfInBounds 3 (Value.int .u32 (nb.c : Int))).setIfInBounds 4 (Value.int .u32 (nb.d : Int))).setIfInBounds 5 (Value.int .u32 (nb.e : Int))).setIfInBounds 6 (Value.int .u32 (nb.f : Int))).setIfInBounds 7 (Value.int .u32 (nb.g : Int))).setIfInBounds 8 (Value.int .u32 (nb.h : Int))) = hashC is nb left n := by
  simp only [hashC, List.setIfInBounds_toArray, List.set_cons_succ, List.set_cons_zero]

def stCells (st : St) : List Value := (ints st.list).map (Value.int .u32)
theorem stCells_one (st : St) : ∀ v ∈ stCells st, v.oneCell' = true := by simp [stCells, Value.oneCell']

set_option maxRecDepth 10000 in
set_option maxHeartbeats 1000000 in
theorem write_any (all : List Nat) (s : ByteArray) (b : Nat) (w : World) (h : HRep w b all) (hn : all.length + s.size < 1152921504606846976) :
    Calls Try.prog 18 #[.pointer (some ⟨b, 0, none⟩), .string s] w (WritePost all s b w) := by
  obtain ⟨left, hB, hl⟩ := h
  have c9 : w.cell? ⟨b, 9, none⟩ = some (.string left) := hB.cell 9
  have c10 : w.cell? ⟨b, 10, none⟩ = some (.int .i64 all.length) := hB.cell 10
  have z10 := hB.frozen 10
  have c9' : (w.setCell ⟨b, 10, none⟩ (.int .i64 (all.length + s.size))).cell? ⟨b, 9, none⟩ = some (.string left) := by
    rw [World.cell?_setCell_other _ _ _ _ (by simp)]; exact c9
  have hB1 : Blk (w.setCell ⟨b, 10, none⟩ (.int .i64 (all.length + s.size))) b 40 (hashC true (run (all.length / 64) all H0) left (all.length + s.size)) := hB.set_ 10 _
  have F1 : Fr [b] w (w.setCell ⟨b, 10, none⟩ (.int .i64 (all.length + s.size))) := (Fr.refl _ w).setCell (.inl (by simp)) _
  have hst : (run (all.length / 64) all H0).ok := run_ok _ _ H0_ok
  have hlsz : left.size < 64 := by have := congrArg List.length hl; rw [bytesOf_len, List.length_drop] at this; omega
  have hbuf : bytesOf (left ++ s) = all.drop (64 * (all.length / 64)) ++ bytesOf s := by rw [bytesOf_append, hl]
  have hfin : WritePost all s b w = fun e w' => e = .returned (.tuple #[]) ∧ HRep w' b (all ++ bytesOf s) ∧ Fr [b] w w' := rfl
  have hend : ∀ (W : World) (lf : ByteArray), Blk W b 40 (hashC true (run ((left ++ s).size / 64) (bytesOf (left ++ s)) (run (all.length / 64) all H0)) lf (all.length + s.size)) → bytesOf lf = (bytesOf (left ++ s)).drop (64 * ((left ++ s).size / 64)) →
      HRep W b (all ++ bytesOf s) := by
    intro W lf h1 h2
    have h3 := run_more all (bytesOf s) H0
    have h4 := rest_more all (bytesOf s)
    rw [← hbuf, bytesOf_len] at h3 h4
    rw [h3] at h1
    refine ⟨lf, ?_, h2.trans h4⟩
    have : (((all ++ bytesOf s).length : Nat) : Int) = (all.length : Int) + (s.size : Int) := by rw [List.length_append, bytesOf_len]; omega
    rw [this]
    exact h1
  have hbsz : (left ++ s).size = left.size + s.size := by simp
  clear hbuf hl
  generalize run (all.length / 64) all H0 = st at hB hB1 hst hend
  go_enter Try.func18, Try.ntmps18
  go_wp2_with (go_at_call 43; refine (given_made true _ _ _ _ _ (by assumption)).mono ?_; rintro e w' ⟨rfl, rfl⟩)
  generalize hW1 : w'.setCell _ _ = w1 at *
  generalize left ++ s = buf at hend hbsz ⊢
  clear c9' c9 c10 z10 hB
  go_loopw [1] (fun si wr => ∃ (k : Nat) (sr : ByteArray), si = .string sr ∧ bytesOf sr = (bytesOf buf).drop (64 * k) ∧ 64 * k + sr.size = buf.size ∧ Blk wr b 40 (hashC true (run k (bytesOf buf) st) left (all.length + s.size)) ∧ Fr [b] w1 wr) (fun i _ => match i with | .string x => x.size | _ => 0)
  case atStart => exact ⟨0, buf, rfl, rfl, by omega, hB1, Fr.refl _ _⟩
  case round =>
    obtain ⟨k, sr, rfl, hsr, hsz, hb, F⟩ := hrel
    by_cases hlt : 64 ≤ sr.size
    · have hlt' : ((sr.size : Int) ≥ 64) := by omega
      have hok : (run k (bytesOf buf) st).ok := run_ok _ _ hst
      have hnx := run_succ k (bytesOf buf) st
      rw [← hsr] at hnx
      generalize run k (bytesOf buf) st = sk at hb hok hnx
      have hbl : ∀ (x : ByteArray) (W : World), x.size = 64 → Calls Try.prog 44 #[.agg #[.int .u32 (sk.a : Int), .int .u32 (sk.b : Int), .int .u32 (sk.c : Int), .int .u32 (sk.d : Int), .int .u32 (sk.e : Int), .int .u32 (sk.f : Int), .int .u32 (sk.g : Int), .int .u32 (sk.h : Int)], .string x] W (fun e W' => ∃ nb : St, Hid (nb = block sk (bytesOf x)) ∧ e = .returned (.agg #[.int .u32 (nb.a : Int), .int .u32 (nb.b : Int), .int .u32 (nb.c : Int), .int .u32 (nb.d : Int), .int .u32 (nb.e : Int), .int .u32 (nb.f : Int), .int .u32 (nb.g : Int), .int .u32 (nb.h : Int)]) ∧ Fr [] W W') := fun x W hx =>
        (block_any sk hok x hx W).mono fun e W' ⟨h1, h2⟩ => ⟨_, rfl, h1, h2⟩
      have hS0 : ∀ W : World, Blk W b 40 (hashC true sk left (all.length + s.size)) → W.cell? ⟨b, 1, none⟩ = some (.int .u32 (sk.a : Int)) ∧ W.cell? ⟨b, 2, none⟩ = some (.int .u32 (sk.b : Int)) ∧ W.cell? ⟨b, 3, none⟩ = some (.int .u32 (sk.c : Int)) ∧ W.cell? ⟨b, 4, none⟩ = some (.int .u32 (sk.d : Int)) ∧ W.cell? ⟨b, 5, none⟩ = some (.int .u32 (sk.e : Int)) ∧ W.cell? ⟨b, 6, none⟩ = some (.int .u32 (sk.f : Int)) ∧ W.cell? ⟨b, 7, none⟩ = some (.int .u32 (sk.g : Int)) ∧ W.cell? ⟨b, 8, none⟩ = some (.int .u32 (sk.h : Int)) ∧ W.frozen? ⟨b, 1, none⟩ = false ∧ W.frozen? ⟨b, 2, none⟩ = false ∧ W.frozen? ⟨b, 3, none⟩ = false ∧ W.frozen? ⟨b, 4, none⟩ = false ∧ W.frozen? ⟨b, 5, none⟩ = false ∧ W.frozen? ⟨b, 6, none⟩ = false ∧ W.frozen? ⟨b, 7, none⟩ = false ∧ W.frozen? ⟨b, 8, none⟩ = false := fun W hb => ⟨hb.cell 1, hb.cell 2, hb.cell 3, hb.cell 4, hb.cell 5, hb.cell 6, hb.cell 7, hb.cell 8, hb.frozen 1, hb.frozen 2, hb.frozen 3, hb.frozen 4, hb.frozen 5, hb.frozen 6, hb.frozen 7, hb.frozen 8⟩
      have hS1 := hS0 wr hb
      go_split_ands
      have hex : bytesOf (sr.extract 0 64) = (bytesOf sr).take 64 := by simp [bytesOf]
      have hex2 : bytesOf (sr.extract 64 sr.size) = (bytesOf sr).drop 64 := by simp [bytesOf]; exact List.take_of_length_le (by simp)
      have hesz : (sr.extract 0 64).size = 64 := by rw [ByteArray.size_extract]; omega
      go_wp2_with fail
      go_region_with ((refine (hbl _ _ hesz).mono ?_; rintro e w2 ⟨nb, hnb, rfl, F2⟩; have F3 := ((Fr.refl [] wr).drew).trans F2 (by simp); have hb2 := hb.fr F3 (by simp); have hS2 := hS0 w2 hb2; go_split_ands))
      rw [← hex, ← hnb.out] at hnx
      have F5 := (F.trans F3 (by simp))
      have hb3 := ((((((((hb2.set_ 1 (.int .u32 (nb.a : Int))).set_ 2 (.int .u32 (nb.b : Int))).set_ 3 (.int .u32 (nb.c : Int))).set_ 4 (.int .u32 (nb.d : Int))).set_ 5 (.int .u32 (nb.e : Int))).set_ 6 (.int .u32 (nb.f : Int))).set_ 7 (.int .u32 (nb.g : Int))).set_ 8 (.int .u32 (nb.h : Int)))
      have F6 := ((((((((F5.setCell (p := ⟨b, 1, none⟩) (.inl (by simp)) (.int .u32 (nb.a : Int))).setCell (p := ⟨b, 2, none⟩) (.inl (by simp)) (.int .u32 (nb.b : Int))).setCell (p := ⟨b, 3, none⟩) (.inl (by simp)) (.int .u32 (nb.c : Int))).setCell (p := ⟨b, 4, none⟩) (.inl (by simp)) (.int .u32 (nb.d : Int))).setCell (p := ⟨b, 5, none⟩) (.inl (by simp)) (.int .u32 (nb.e : Int))).setCell (p := ⟨b, 6, none⟩) (.inl (by simp)) (.int .u32 (nb.f : Int))).setCell (p := ⟨b, 7, none⟩) (.inl (by simp)) (.int .u32 (nb.g : Int))).setCell (p := ⟨b, 8, none⟩) (.inl (by simp)) (.int .u32 (nb.h : Int)))
      generalize hW5 : World.setCell _ _ _ = w5 at hb3 F6 ⊢
      have hb4 : Blk w5 b 40 (hashC true nb left (all.length + s.size)) := by rw [hashC_set] at hb3; exact hb3
      clear hb3 hb2 hbl hS0 hb F3 F2 F F5
      go_wp2_with fail
      go_roundw
      case rel => exact ⟨k + 1, sr.extract 64 sr.size, rfl, by rw [hex2, hsr, List.drop_drop]; congr 1, by rw [ByteArray.size_extract]; omega, by rw [hnx]; exact hb4, F6⟩
      case measure => simp; omega
    · have hlt' : ¬ ((sr.size : Int) ≥ 64) := by omega
      have hk : k = buf.size / 64 := by omega
      subst hk
      have hF := fun (W : World) (lf : ByteArray) => hend W lf
      generalize run (buf.size / 64) (bytesOf buf) st = sk at hb hend hF
      have z9 := hb.frozen 9
      go_wp2_with (go_at_call 45; refine (clone45 sr _ (by omega)).mono ?_; rintro e w2 ⟨rfl, F2⟩; have hb2 := hb.fr F2 (by simp); have c9 : w2.cell? ⟨b, 9, none⟩ = some (.string left) := hb2.cell 9; have z9' := hb2.frozen 9)
      have hb3 : Blk (w2.setCell ⟨b, 9, none⟩ (.string sr)) b 40 (hashC true sk sr (all.length + s.size)) := hb2.set_ 9 _
      have F5 : Fr [b] w' (w2.setCell ⟨b, 9, none⟩ (.string sr)) := ((F1.trans F (by simp)).trans F2 (by simp)).setCell (p := ⟨b, 9, none⟩) (.inl (by simp)) _
      have hres : WritePost all s b w' (.returned (.tuple #[])) (w2.setCell ⟨b, 9, none⟩ (.string sr)) := ⟨rfl, hF _ sr hb3 hsr, F5⟩
      go_wp2
      go_end0
      exact hres
end Go.Proofs.Ythkaigokcognmaa.Sha
