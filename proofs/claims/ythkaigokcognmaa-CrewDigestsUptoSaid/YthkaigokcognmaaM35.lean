/- A part of the proof of CrewDigestsUpto (no statement of its own): Sha5. -/
import Derived.Test.YthkaigokcognmaaM34
import Derived.IntWalk
import Derived.Laws.BytesString
section
namespace Go.Proofs.Ythkaigokcognmaa.Sha
open Go.RowKit
theorem sum_nil (w : World) : Calls Try.prog 20 #[.pointer none] w fun e w' => e = .returned (.string ⟨#[]⟩) ∧ w' = w := by
 go_enter Try.func20, Try.ntmps20
 go_wp2_with (go_at_call 43; refine (given_nil _).mono ?_; rintro e w' ⟨rfl, rfl⟩)
 go_wp2
 go_ret
 exact ⟨rfl, rfl⟩
def SumPost (all : List Nat) (w : World) (e : Ending) (w' : World) : Prop := e = .returned (.string (strOf (digest all))) ∧ Fr [] w w'
def stArr (st : St) : Array Value := #[.int .u32 (st.a : Int), .int .u32 (st.b : Int), .int .u32 (st.c : Int), .int .u32 (st.d : Int), .int .u32 (st.e : Int), .int .u32 (st.f : Int), .int .u32 (st.g : Int), .int .u32 (st.h : Int)]
theorem stArr_set (st nb : St) : (((((((((stArr st).setIfInBounds 0 (Value.int .u32 (nb.a : Int))).setIfInBounds 1 (Value.int .u32 (nb.b : Int))).setIfInBounds 2 (Value.int .u32 (nb.c : Int))).setIfInBounds 3 (Value.int .u32 (nb.d : Int))).setIfInBounds 4 (Value.int .u32 (nb.e : Int))).setIfInBounds 5 (Value.int .u32 (nb.f : Int))).setIfInBounds 6 (Value.int .u32 (nb.g : Int))).setIfInBounds 7 (Value.int .u32 (nb.h : Int))) = stArr nb := by
 simp only [stArr, List.setIfInBounds_toArray, List.set_cons_succ, List.set_cons_zero]
theorem stArr_facts (sk : St) (bs : Nat) (W : World) (h : Blk W bs 38 (stArr sk)) : W.cell? ⟨bs, 0, none⟩ = some (.int .u32 (sk.a : Int)) ∧ W.cell? ⟨bs, 1, none⟩ = some (.int .u32 (sk.b : Int)) ∧ W.cell? ⟨bs, 2, none⟩ = some (.int .u32 (sk.c : Int)) ∧ W.cell? ⟨bs, 3, none⟩ = some (.int .u32 (sk.d : Int)) ∧ W.cell? ⟨bs, 4, none⟩ = some (.int .u32 (sk.e : Int)) ∧ W.cell? ⟨bs, 5, none⟩ = some (.int .u32 (sk.f : Int)) ∧ W.cell? ⟨bs, 6, none⟩ = some (.int .u32 (sk.g : Int)) ∧ W.cell? ⟨bs, 7, none⟩ = some (.int .u32 (sk.h : Int)) ∧ W.frozen? ⟨bs, 0, none⟩ = false ∧ W.frozen? ⟨bs, 1, none⟩ = false ∧ W.frozen? ⟨bs, 2, none⟩ = false ∧ W.frozen? ⟨bs, 3, none⟩ = false ∧ W.frozen? ⟨bs, 4, none⟩ = false ∧ W.frozen? ⟨bs, 5, none⟩ = false ∧ W.frozen? ⟨bs, 6, none⟩ = false ∧ W.frozen? ⟨bs, 7, none⟩ = false :=
 ⟨h.cell 0, h.cell 1, h.cell 2, h.cell 3, h.cell 4, h.cell 5, h.cell 6, h.cell 7, h.frozen 0, h.frozen 1, h.frozen 2, h.frozen 3, h.frozen 4, h.frozen 5, h.frozen 6, h.frozen 7⟩
theorem block_arr (sk : St) (hok : sk.ok) (x : ByteArray) (W : World) (hx : x.size = 64) : Calls Try.prog 44 #[.agg #[.int .u32 (sk.a : Int), .int .u32 (sk.b : Int), .int .u32 (sk.c : Int), .int .u32 (sk.d : Int), .int .u32 (sk.e : Int), .int .u32 (sk.f : Int), .int .u32 (sk.g : Int), .int .u32 (sk.h : Int)], .string x] W (fun e W' => ∃ nb : St, Hid (nb = block sk (bytesOf x)) ∧ e = .returned (.agg #[.int .u32 (nb.a : Int), .int .u32 (nb.b : Int), .int .u32 (nb.c : Int), .int .u32 (nb.d : Int), .int .u32 (nb.e : Int), .int .u32 (nb.f : Int), .int .u32 (nb.g : Int), .int .u32 (nb.h : Int)]) ∧ Fr [] W W') :=
 (block_any sk hok x hx W).mono fun _ _ ⟨h1, h2⟩ => ⟨_, rfl, h1, h2⟩
set_option maxRecDepth 10000 in
set_option maxHeartbeats 1000000 in
theorem sum_any (all : List Nat) (b : Nat) (w : World) (h : HRep w b all) (hn : all.length < 576460752303423488) :
    Calls Try.prog 20 #[.pointer (some ⟨b, 0, none⟩)] w (SumPost all w) := by
  obtain ⟨i0, hi, hz0, hz1, hz2⟩ := info_parts info5
  obtain ⟨left, hB, hl⟩ := h
  have c9 : w.cell? ⟨b, 9, none⟩ = some (.string left) := hB.cell 9
  have hlsz : left.size = all.length % 64 := by have := congrArg List.length hl; rw [bytesOf_len, List.length_drop] at this; omega
  obtain ⟨cap, w1, hconv, hrow, F1⟩ := conv_str (P := Try.prog) left w w.heap.size 9 35 5 Try.underlying9 Try.underlying35 Try.underlying5 (Nat.le_refl _) (by unfold maxLen; omega)
  have hst : (run (all.length / 64) all H0).ok := run_ok _ _ H0_ok
  have hrt := run_tail all (bytesOf left) hl
  have hlb : (bytesOf left).length = all.length % 64 := by rw [bytesOf_len, hlsz]
  have HL := Lib.hid hlsz
  have HB := Lib.hid hlb
  have hl63 : left.size < 64 := by omega
  clear hl hlsz hlb
  go_enter Try.func20, Try.ntmps20
  go_wp2_with (first
    | (go_at_call 43; refine (given_made true _ _ _ _ _ (by assumption)).mono ?_; rintro e w' ⟨rfl, rfl⟩)
    | (at_builtin; refine wpList_append_g (V := U8) rfl (.tmp 18) (.tmp 19) 35 rfl (fun _ => rfl) w'.heap.size 5 i0 _ 1 Try.underlying35 hi hz0 hz1 hz2 rfl rfl (hrow.far ((Fr.refl [] w1).alloc _)) ⟨w1.heap.size, 0, none⟩ 1 1 [128] rfl rfl
        (World.news_of_block (cs := #[.int .u8 128]) (t := 5) (fr := (0, 0)) (heap_alloc_new w1 _)) (by rw [bytesOf_len]; unfold maxLen; omega) (by rw [bytesOf_len]; omega) (Nat.le_trans F1.size (by simp)) ?_; intro v2 w2 hrow2 hgr2))
  have F2 : Fr [] w' w2 := Fr.step_row (F1.alloc _) hgr2 (hrow.far ((Fr.refl [] w1).alloc _)) (Nat.le_refl _)
  clear hgr2 hrow hconv
  go_loopw [3] (fun s3 wr => ∃ z g cap : Nat, s3 = .slice (some ⟨g, 0, none⟩) (left.size + 1 + z) cap ∧ z ≤ zerosN all.length ∧ GRow U8 wr w'.heap.size s3 (bytesOf left ++ [128] ++ List.replicate z 0) ∧ Fr [] w' wr) (fun i _ => match i with | .slice _ n _ => 200 - n | _ => 0)
  case atStart =>
    obtain ⟨g, cap, rfl, hg⟩ := hrow2.some_ (n := left.size + 1) (by simp [bytesOf_len]) (by omega)
    exact ⟨0, g, cap, rfl, by omega, by simpa using hrow2, F2⟩
  case round =>
    obtain ⟨z, g, cap2, rfl, hz, hrow3, F3⟩ := hrel
    have hzl := zerosN_lt all.length
    by_cases hm : (left.size + 1 + z) % 64 = 56
    · have hze := zerosN_done all.length left.size HL.out z hz hm
      go_wp2_with fail
      have hlz : (bytesOf left ++ [128] ++ List.replicate z 0).length = left.size + 1 + z := by simp [bytesOf_len]; omega
      have HZ := Lib.hid hze
      obtain ⟨pre, hpre⟩ : ∃ p, p = bytesOf left ++ [128] ++ List.replicate z 0 := ⟨_, rfl⟩
      rw [← hpre] at hrow3 hlz
      have HP := Lib.hid hpre
      have HLZ := Lib.hid hlz
      clear hpre hze hlz hm hrow2
      have hB3 := hB.fr F3 (by simp)
      go_loopw [3, 4] (fun s3 s4 wr => ∃ i g cap : Nat, s3 = .slice (some ⟨g, 0, none⟩) (left.size + 1 + z + i) cap ∧ i ≤ 8 ∧ s4 = .int .i64 (56 - 8 * (i : Int)) ∧ GRow U8 wr w'.heap.size s3 (pre ++ (lenB all.length).take i) ∧ Fr [] w' wr) (fun _ k _ => (intOf k + 8).toNat)
      case atStart => exact ⟨0, g, cap2, rfl, by omega, rfl, by simpa using hrow3, F3⟩
      case round =>
        obtain ⟨i, g, cap3, rfl, hi8, rfl, hrow5, F5⟩ := hrel
        have hB5 := hB.fr F5 (by simp)
        have c10 : wr.cell? ⟨b, 10, none⟩ = some (.int .i64 (all.length : Int)) := hB5.cell 10
        by_cases hk : i < 8
        · have hk0 : ((56 : Int) - 8 * (i : Int) ≥ 0) := by omega
          obtain ⟨xb, hxb⟩ : ∃ x, x = all.length * 8 / 2 ^ (56 - 8 * i) % 256 := ⟨_, rfl⟩
          have hx : (xb : Int) = (all.length : Int) * 8 / 2 ^ (56 - 8 * i) % 256 := by rw [hxb]; simp
          have hnews : ([xb].map U8) = #[Value.int .u8 ((all.length : Int) * 8 / 2 ^ (56 - 8 * i) % 256)].toList := by rw [← hx]; rfl
          have hlt : (lenB all.length).take (i + 1) = (lenB all.length).take i ++ [xb] := by
            rw [List.take_succ_eq_append_getElem (by rw [lenB_len]; exact hk)]
            simp [lenB, hxb]
          have hpl : (pre ++ (lenB all.length).take i).length = left.size + 1 + z + i := by rw [List.length_append, HLZ.out, List.length_take, lenB_len]; omega
          have HX := Lib.hid hx
          have HN := Lib.hid hnews
          have HLT := Lib.hid hlt
          have HPL := Lib.hid hpl
          clear hx hxb hnews hlt hpl
          go_wp2_with (first
            | (at_builtin; refine wpList_append_g (V := U8) rfl (.tmp 32) (.tmp 41) 35 rfl (fun _ => rfl) w'.heap.size 5 i0 _ 1 Try.underlying35 hi hz0 hz1 hz2 rfl rfl (hrow5.far ((Fr.refl [] wr).alloc _)) ⟨wr.heap.size, 0, none⟩ 1 1 [xb] rfl rfl
                (by rw [HN.out]; exact World.news_of_block (heap_alloc_new wr _)) (by rw [HPL.out]; unfold maxLen; omega) (by rw [HPL.out]; omega) (Nat.le_trans F5.size (by simp)) ?_; intro v6 w6 hrow6 hgr6))
          have hrow6' : GRow U8 w6 w'.heap.size v6 (pre ++ (lenB all.length).take (i + 1)) := by rw [HLT.out, ← List.append_assoc]; exact hrow6
          have F6 := Fr.step_row (F5.alloc (.cells #[Value.int .u8 ((all.length : Int) * 8 / 2 ^ (56 - 8 * i) % 256)] 5)) hgr6 (hrow5.far ((Fr.refl [] wr).alloc _)) (Nat.le_refl _)
          obtain ⟨g6, cap6, rfl, hg6⟩ := hrow6'.some_ (n := left.size + 1 + z + (i + 1)) (by rw [List.length_append, HLZ.out, List.length_take, lenB_len]; omega) (by omega)
          clear hgr6 hrow6
          go_wp2
          go_roundw
          case rel => exact ⟨i + 1, ⟨g6, cap6, rfl⟩, by omega, by omega, hrow6', F6⟩
          case measure => simp [intOf]; omega
        · have hk0 : ¬ ((56 : Int) - 8 * (i : Int) ≥ 0) := by omega
          have hE : pre ++ (lenB all.length).take i = bytesOf left ++ tail all.length := by
            rw [show i = 8 from by omega, List.take_of_length_le (by rw [lenB_len]; exact Nat.le_refl _), HP.out, tail, HZ.out]
            simp
          rw [hE] at hrow5
          have hel : (bytesOf left ++ tail all.length).length = left.size + 1 + z + i := by rw [← hE, List.length_append, HLZ.out, List.length_take, lenB_len]; omega
          have hmod : (left.size + 1 + z + i) % 64 = 0 := by
            have h1 := tail_mod all.length
            rw [← HB.out] at h1
            rw [← hel, List.length_append]; exact h1
          have HEB : ∀ x ∈ bytesOf left ++ tail all.length, x < 256 := fun x hx => (List.mem_append.1 hx).elim (bytesOf_lt left x) (tail_lt _ x)
          generalize bytesOf left ++ tail all.length = E at hrow5 hel hrt HEB
          generalize run (all.length / 64) all H0 = st0 at *
          have hB6 := hB.fr F5 (by simp)
          have hS : wr.cell? ⟨b, 1, none⟩ = some (.int .u32 (st0.a : Int)) ∧ wr.cell? ⟨b, 2, none⟩ = some (.int .u32 (st0.b : Int)) ∧ wr.cell? ⟨b, 3, none⟩ = some (.int .u32 (st0.c : Int)) ∧ wr.cell? ⟨b, 4, none⟩ = some (.int .u32 (st0.d : Int)) ∧ wr.cell? ⟨b, 5, none⟩ = some (.int .u32 (st0.e : Int)) ∧ wr.cell? ⟨b, 6, none⟩ = some (.int .u32 (st0.f : Int)) ∧ wr.cell? ⟨b, 7, none⟩ = some (.int .u32 (st0.g : Int)) ∧ wr.cell? ⟨b, 8, none⟩ = some (.int .u32 (st0.h : Int)) := ⟨hB6.cell 1, hB6.cell 2, hB6.cell 3, hB6.cell 4, hB6.cell 5, hB6.cell 6, hB6.cell 7, hB6.cell 8⟩
          go_split_ands
          have hcap := hrow5.cap_le rfl
          rw [hel] at hcap
          go_wp2_with fail
          have b7 : Blk (wr.alloc (.cells (stArr st0) 38)) wr.heap.size 38 (stArr st0) := heap_alloc_new wr _
          have r7 := hrow5.far ((Fr.refl [] wr).alloc (.cells (stArr st0) 38))
          have F7 := F5.alloc (.cells (stArr st0) 38)
          have hgl := hrow5.lt g rfl
          obtain ⟨w7, hw7⟩ : ∃ W, W = wr.alloc (.cells (stArr st0) 38) := ⟨_, rfl⟩
          rw [← hw7] at b7 r7 F7
          change Code.wp _ _ _ _ (wr.alloc (.cells (stArr st0) 38))
          rw [← hw7]
          clear hw7 hB6
          obtain ⟨bs, hbs⟩ : ∃ B, B = wr.heap.size := ⟨_, rfl⟩
          rw [← hbs] at b7 ⊢
          obtain ⟨N, hN⟩ : ∃ N, N = left.size + 1 + z + i := ⟨_, rfl⟩
          rw [← hN] at hel hmod hcap ⊢
          have HEL := Lib.hid hel
          have hN2 : N < 200 := by omega
          have hgb : g ≠ bs := by omega
          have hbsw : w'.heap.size ≤ bs := by rw [hbs]; exact F5.size
          have hrow8 : GRow U8 w7 w'.heap.size (.slice (some ⟨g, 0, none⟩) N cap3) E := by rw [hN]; exact r7
          have HNN := Lib.hid hN
          clear hN hel r7 hrow5 hrow3 hbs hB
          go_loopw [6] (fun s6 W => ∃ k : Nat, s6 = .int .i64 (64 * (k : Int)) ∧ 64 * k ≤ N ∧ Blk W bs 38 (stArr (run k E st0)) ∧ Fr [bs] w7 W) (fun s _ => (200 - intOf s).toNat)
          case atStart => exact ⟨0, rfl, by omega, b7, Fr.refl _ _⟩
          case round =>
            obtain ⟨k, rfl, hkN, b8, F8⟩ := hrel
            by_cases hk : 64 * k < N
            · have hk64 : 64 * k + 64 ≤ N := by omega
              have hok : (run k E st0).ok := run_ok _ _ hst
              have hnx := run_succ k E st0
              generalize run k E st0 = sk at b8 hok hnx
              have hS := stArr_facts sk bs wr b8
              go_split_ands
              have hrg : wr.rangeAt g (64 * k) (((E.drop (64 * k)).take 64).map U8) := rangeAt_fr (hrow8.range rfl (64 * k) 64) F8 (by simp; exact hgb)
              have hpl : ((E.drop (64 * k)).take 64).length = 64 := by rw [List.length_take, List.length_drop, HEL.out]; omega
              have hEl : ∀ x ∈ (E.drop (64 * k)).take 64, x < 256 := fun x hx => HEB x (List.mem_of_mem_drop (List.mem_of_mem_take hx))
              generalize (E.drop (64 * k)).take 64 = part at hrg hpl hEl hnx
              have hcv : ∀ c, (convert 35 9 (.slice (some ⟨g, 64 * k, none⟩) 64 c)).run Try.prog wr.drew = .ok (.string (strOf part)) wr.drew := fun c => by
                have := conv_bytes (P := Try.prog) (w := wr.drew) (g := g) (off := 64 * k) (l := part) c 35 5 9 Try.underlying35 Try.underlying5 Try.underlying9 hEl (by simpa using hrg)
                rwa [hpl] at this
              have hps : (strOf part).size = 64 := by rw [← bytesOf_len, bytesOf_strOf hEl, hpl]
              have e1 : IntKind.i64.wrap (64 * (k : Int) + 64) = 64 * (k : Int) + 64 := IntWalk.i64_in _ (by omega)
              have e2 : (64 * (k : Int)).toNat = 64 * k := by omega
              have e3 : (64 * (k : Int) + 64).toNat = 64 * k + 64 := by omega
              have e4 : (0 : Int) ≤ 64 * (k : Int) := by omega
              have e5 : (0 : Int) ≤ 64 * (k : Int) + 64 := by omega
              have e6 : 64 * (k : Int) < (N : Int) := by omega
              go_wp2_with fail
              go_region_with ((refine (block_arr sk hok _ _ hps).mono ?_; rintro e w2 ⟨nb, hnb, rfl, F2⟩; have F3 := ((Fr.refl [] wr).drew).trans F2 (by simp); have b9 := b8.fr F3 (by simp); have hS2 := stArr_facts sk bs w2 b9; go_split_ands))
              all_goals (
                rw [bytesOf_strOf hEl] at hnb
                rw [← hnb.out] at hnx
                have F9 := F8.trans F3 (by simp)
                have b10 := ((((((((b9.set_ 0 (.int .u32 (nb.a : Int))).set_ 1 (.int .u32 (nb.b : Int))).set_ 2 (.int .u32 (nb.c : Int))).set_ 3 (.int .u32 (nb.d : Int))).set_ 4 (.int .u32 (nb.e : Int))).set_ 5 (.int .u32 (nb.f : Int))).set_ 6 (.int .u32 (nb.g : Int))).set_ 7 (.int .u32 (nb.h : Int)))
                rw [stArr_set] at b10
                have F10 := ((((((((F9.setCell (p := ⟨bs, 0, none⟩) (.inl (by simp)) (.int .u32 (nb.a : Int))).setCell (p := ⟨bs, 1, none⟩) (.inl (by simp)) (.int .u32 (nb.b : Int))).setCell (p := ⟨bs, 2, none⟩) (.inl (by simp)) (.int .u32 (nb.c : Int))).setCell (p := ⟨bs, 3, none⟩) (.inl (by simp)) (.int .u32 (nb.d : Int))).setCell (p := ⟨bs, 4, none⟩) (.inl (by simp)) (.int .u32 (nb.e : Int))).setCell (p := ⟨bs, 5, none⟩) (.inl (by simp)) (.int .u32 (nb.f : Int))).setCell (p := ⟨bs, 6, none⟩) (.inl (by simp)) (.int .u32 (nb.g : Int))).setCell (p := ⟨bs, 7, none⟩) (.inl (by simp)) (.int .u32 (nb.h : Int)))
                generalize hW5 : World.setCell _ _ _ = w5 at b10 F10 ⊢
                clear b9 F9 F3 F2 b8 F8 hcv hnb e1 e2 e3 e4 e5
                go_wp2_with fail
                go_roundw
                case rel => exact ⟨k + 1, by go_num, by omega, by rw [hnx]; exact b10, F10⟩
                case measure => simp [intOf]; omega)
            · have hkN' : N = 64 * k := by omega
              have hkl : E.length / 64 = k := by rw [HEL.out]; omega
              rw [hkl] at hrt
              have hk' : ¬ 64 * (k : Int) < (N : Int) := by omega
              rw [hrt] at b8
              have hfin : outB (run ((padded all).length / 64) (padded all) H0).list = digest all := rfl
              have hS2 := stArr_facts _ bs wr b8
              have F8' := F7.step F8 (by simp; exact hbsw)
              obtain ⟨sk, hsk⟩ : ∃ s, s = run ((padded all).length / 64) (padded all) H0 := ⟨_, rfl⟩
              rw [← hsk] at hS2 hfin
              clear hrt hsk b8 F8 hrow8
              go_split_ands
              obtain ⟨sa, sb, sc, sd, se, sf, sg, sh⟩ := sk
              simp only at *
              go_wp2_with fail
              generalize wr = w8 at *
              go_loopw [62, 7] (fun s62 s7 W => ∃ j : Nat, s62 = .int .i64 j ∧ j ≤ 8 ∧ GRow U8 W w'.heap.size s7 (outB ((St.list ⟨sa, sb, sc, sd, se, sf, sg, sh⟩).take j)) ∧ Fr [] w' W) (fun s _ _ => (8 - intOf s).toNat)
              case atStart => exact ⟨0, rfl, by omega, GRow.nil_ _ _ _, F8'⟩
              case round =>
                obtain ⟨j, rfl, hj8, hrow9, F9⟩ := hrel
                by_cases hj : j < 8
                · have hidx : ∀ W, (Instr.index 38 (.agg #[.int .u32 (sa : Int), .int .u32 (sb : Int), .int .u32 (sc : Int), .int .u32 (sd : Int), .int .u32 (se : Int), .int .u32 (sf : Int), .int .u32 (sg : Int), .int .u32 (sh : Int)]) (.int .i64 (j : Int))).run Try.prog W = .ok (.int .u32 (((St.list ⟨sa, sb, sc, sd, se, sf, sg, sh⟩).getD j 0 : Nat) : Int)) W := by
                    intro W
                    rcases (show j = 0 ∨ j = 1 ∨ j = 2 ∨ j = 3 ∨ j = 4 ∨ j = 5 ∨ j = 6 ∨ j = 7 by omega) with rfl | rfl | rfl | rfl | rfl | rfl | rfl | rfl <;> kernel_rfl
                  have hto : outB ((St.list ⟨sa, sb, sc, sd, se, sf, sg, sh⟩).take (j + 1)) = outB ((St.list ⟨sa, sb, sc, sd, se, sf, sg, sh⟩).take j) ++ outW ((St.list ⟨sa, sb, sc, sd, se, sf, sg, sh⟩).getD j 0) := by
                    rcases (show j = 0 ∨ j = 1 ∨ j = 2 ∨ j = 3 ∨ j = 4 ∨ j = 5 ∨ j = 6 ∨ j = 7 by omega) with rfl | rfl | rfl | rfl | rfl | rfl | rfl | rfl <;> rfl
                  have hol : (outB ((St.list ⟨sa, sb, sc, sd, se, sf, sg, sh⟩).take j)).length = 4 * j := by rw [outB_len, List.length_take]; simp [St.list]; omega
                  generalize (St.list ⟨sa, sb, sc, sd, se, sf, sg, sh⟩).getD j 0 = x at hidx hto
                  have HTO := Lib.hid hto
                  have HOL := Lib.hid hol
                  clear hto hol
                  have hnews : ((outW x).map U8) = #[Value.int .u8 ((x : Int) / 16777216 % 256), .int .u8 ((x : Int) / 65536 % 256), .int .u8 ((x : Int) / 256 % 256), .int .u8 ((x : Int) % 256)].toList := by
                    simp [outW, U8]
                  have HN := Lib.hid hnews
                  clear hnews
                  go_wp2_with (first
                    | (at_builtin; refine wpList_append_g (V := U8) rfl (.tmp 65) (.tmp 77) 35 rfl (fun _ => rfl) w'.heap.size 5 i0 _ 1 Try.underlying35 hi hz0 hz1 hz2 rfl rfl (hrow9.far ((Fr.refl [] wr).alloc _)) ⟨wr.heap.size, 0, none⟩ 4 4 (outW x) rfl rfl
                        (by rw [HN.out]; exact World.news_of_block (heap_alloc_new wr _)) (by rw [HOL.out]; unfold maxLen; omega) (by rw [HOL.out]; omega) (Nat.le_trans F9.size (by simp)) ?_; intro v10 w10 hrow10 hgr10))
                  rw [← HTO.out] at hrow10
                  have F10 := Fr.step_row (F9.alloc _) hgr10 (hrow9.far ((Fr.refl [] wr).alloc _)) (Nat.le_refl _)
                  clear hgr10
                  go_roundw
                  case rel => exact ⟨j + 1, by go_num, by omega, hrow10, F10⟩
                  case measure => simp [intOf]; omega
                · have hj' : ¬ (j : Int) < 8 := by omega
                  have hto : outB ((St.list ⟨sa, sb, sc, sd, se, sf, sg, sh⟩).take j) = digest all := by
                    rw [← hfin, List.take_of_length_le (by simp [St.list]; omega)]
                  rw [hto] at hrow9
                  obtain ⟨g9, cap9, rfl, hg9⟩ := hrow9.some_ (digest_len all) (by omega)
                  have hr9 := hrow9.range rfl 0 32
                  rw [List.drop_zero, List.take_of_length_le (by rw [digest_len]; exact Nat.le_refl _)] at hr9
                  have hcv := conv_bytes (P := Try.prog) cap9 35 5 9 Try.underlying35 Try.underlying5 Try.underlying9 (digest_lt all) hr9
                  rw [digest_len] at hcv
                  have hres : SumPost all w' (.returned (.string (strOf (digest all)))) wr := ⟨rfl, F9⟩
                  clear hto hfin
                  generalize strOf (digest all) = str at hcv hres
                  go_wp2_with fail
                  go_ret
                  exact hres
    · have hzm := zerosN_more all.length left.size HL.out z hz hm
      go_wp2_with (first
        | (at_builtin; refine wpList_append_g (V := U8) rfl (.tmp 25) (.tmp 26) 35 rfl (fun _ => rfl) w'.heap.size 5 i0 _ 1 Try.underlying35 hi hz0 hz1 hz2 rfl rfl (hrow3.far ((Fr.refl [] wr).alloc _)) ⟨wr.heap.size, 0, none⟩ 1 1 [0] rfl rfl
            (World.news_of_block (cs := #[.int .u8 0]) (t := 5) (fr := (0, 0)) (heap_alloc_new wr _)) (by simp [bytesOf_len]; unfold maxLen; omega) (by simp [bytesOf_len]; omega) (Nat.le_trans F3.size (by simp)) ?_; intro v4 w4 hrow4 hgr4))
      go_roundw
      case rel =>
        have hrow4' : GRow U8 w4 w'.heap.size v4 (bytesOf left ++ [128] ++ List.replicate (z + 1) 0) := by
          rw [List.replicate_succ', ← List.append_assoc]; exact hrow4
        obtain ⟨g4, cap4, rfl, hg4⟩ := hrow4'.some_ (n := left.size + 1 + (z + 1)) (by simp [bytesOf_len]; omega) (by omega)
        exact ⟨z + 1, g4, cap4, rfl, by omega, hrow4', Fr.step_row (F3.alloc _) hgr4 (hrow3.far ((Fr.refl [] wr).alloc _)) (Nat.le_refl _)⟩
      case measure =>
        obtain ⟨g4, cap4, rfl, hg4⟩ := hrow4.some_ (n := left.size + 1 + (z + 1)) (by simp [bytesOf_len]; omega) (by omega)
        simp; omega
end Go.Proofs.Ythkaigokcognmaa.Sha
end
