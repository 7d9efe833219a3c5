/- A part of the proof of CrewDigestsUpto (no statement of its own): Sha2. -/
import Derived.Test.YthkaigokcognmaaM31
import Derived.Test.YthkaigokcognmaaM32
import Derived.Deep.RegionHeld3
section
namespace Go.Proofs.Ythkaigokcognmaa.Sha
open Go.RowKit
def part (ws : List Nat) : List Nat := ws ++ List.replicate (64 - ws.length) 0
theorem part_len {ws : List Nat} (h : ws.length ≤ 64) : (part ws).length = 64 := by simp [part]; omega
theorem part_set {ws : List Nat} (h : ws.length < 64) (x : Nat) : (part ws).set ws.length x = part (ws ++ [x]) := by
 unfold part
 rw [List.set_append_right _ _ (Nat.le_refl _), Nat.sub_self]
 obtain ⟨m, hm⟩ : ∃ m, 64 - ws.length = m + 1 := ⟨63 - ws.length, by omega⟩
 rw [hm, List.replicate_succ, List.set_cons_zero, List.append_assoc]
 simp only [List.length_append, List.length_cons, List.length_nil, List.cons_append, List.nil_append]
 congr 3
 omega
theorem part_get {ws : List Nat} {i : Nat} (h : i < ws.length) : (part ws).getD i 0 = ws.getD i 0 := by
 simp [part, List.getD_eq_getElem?_getD, List.getElem?_append_left h]
theorem byte_at (s : ByteArray) (i : Nat) (h : i < s.size) : ((s[i]'h).toNat) = (bytesOf s).getD i 0 := by
 simp [bytesOf, List.getD_eq_getElem?_getD, h]; rfl
def BlockPost (st : St) (s : ByteArray) (w : World) (e : Ending) (w' : World) : Prop := e = .returned (.agg (words (block st (bytesOf s)).list)) ∧ Fr [] w w'
set_option maxRecDepth 100000 in
set_option maxHeartbeats 3200000 in
theorem block_any (st : St) (hst : st.ok) (s : ByteArray) (hs : s.size = 64) (w : World) : Calls Try.prog 44 #[.agg (words st.list), .string s] w (BlockPost st s w) := by
 have hs' : (s.size : Int) = 64 := by omega
 have HS := Lib.hid hs
 have HS' := Lib.hid hs'
 clear hs hs'
 go_enter Try.func44, Try.ntmps44
 go_wp2_with fail
 generalize hW : (World.alloc _ _) = w3
 have hz : w3.heap.size = w.heap.size + 1 + 1 + 1 := by rw [← hW]; simp
 have F3 : Fr [] w w3 := by rw [← hW]; exact (((Fr.refl _ _).alloc _).alloc _).alloc _
 have b0 : Blk w3 w.heap.size 38 (words st.list) := by rw [← hW]; exact ((Blk.new w 38 _).alloc _).alloc _
 have b1 : Blk w3 (w.heap.size + 1) 38 (words (List.replicate 8 0)) := by
  rw [← hW]
  have := (Blk.new (w.alloc (.cells (words st.list) 38)) 38 (words (List.replicate 8 0)))
  rw [World.size_alloc] at this
  exact this.alloc _
 have b2 : Blk w3 (w.heap.size + 1 + 1) 75 (words (part [])) := by
  rw [← hW]
  have := (Blk.new ((w.alloc (.cells (words st.list) 38)).alloc (.cells (words (List.replicate 8 0)) 38)) 75 (words (part [])))
  rw [World.size_alloc, World.size_alloc] at this
  exact this
 clear hW
 have Hz := Lib.hid hz
 clear hz
 go_loopw [24] (fun si wr => ∃ k : Nat, k ≤ 16 ∧ si = .int .i64 k ∧ Blk wr (w.heap.size + 1 + 1) 75 (words (part ((List.range k).map (word (bytesOf s))))) ∧ Fr [w.heap.size + 1 + 1] w3 wr) (fun i _ => 16 - (intOf i).toNat)
 case atStart => exact ⟨0, by omega, rfl, b2, Fr.refl _ _⟩
 case round =>
  obtain ⟨k, hk, rfl, bk, F⟩ := hrel
  by_cases hlt : k < 16
  ·have hl : ((List.range k).map (word (bytesOf s))).length = k := by simp
   have j0 : 4 * k < s.size := by have := HS.out; omega
   have j1 : 4 * k + 1 < s.size := by have := HS.out; omega
   have j2 : 4 * k + 2 < s.size := by have := HS.out; omega
   have j3 : 4 * k + 3 < s.size := by have := HS.out; omega
   have i0 : (4 : Int) * k < (s.size : Int) := by omega
   have i1 : (4 : Int) * k + 1 < (s.size : Int) := by omega
   have i2 : (4 : Int) * k + 2 < (s.size : Int) := by omega
   have i3 : (4 : Int) * k + 3 < (s.size : Int) := by omega
   have p0 : (0 : Int) ≤ 4 * k := by omega
   have p1 : (0 : Int) ≤ 4 * k + 1 := by omega
   have p2 : (0 : Int) ≤ 4 * k + 2 := by omega
   have p3 : (0 : Int) ≤ 4 * k + 3 := by omega
   have e0 : IntKind.i64.wrap (4 * (k : Int)) = 4 * (k : Int) := IntWalk.i64_in _ (by omega)
   have e1 : IntKind.i64.wrap (4 * (k : Int) + 1) = 4 * (k : Int) + 1 := IntWalk.i64_in _ (by omega)
   have e2 : IntKind.i64.wrap (4 * (k : Int) + 2) = 4 * (k : Int) + 2 := IntWalk.i64_in _ (by omega)
   have e3 : IntKind.i64.wrap (4 * (k : Int) + 3) = 4 * (k : Int) + 3 := IntWalk.i64_in _ (by omega)
   go_wp2_with fail
   have q0 : (0 : Int) ≤ k := by omega
   have q1 : (k : Int) < 64 := by omega
   go_still_tail 31, (by kernel_rfl)
   clear e0 e1 e2 e3
   change wpList _ _ _ _ _ (World.drew _)
   have B0 : (s[(4 * (k : Int)).toNat]'(by omega)).toNat = (bytesOf s).getD (4 * k) 0 := by rw [← byte_at s (4 * k) j0]; congr 2
   have B1 : (s[(4 * (k : Int) + 1).toNat]'(by omega)).toNat = (bytesOf s).getD (4 * k + 1) 0 := by rw [← byte_at s (4 * k + 1) j1]; congr 2
   have B2 : (s[(4 * (k : Int) + 2).toNat]'(by omega)).toNat = (bytesOf s).getD (4 * k + 2) 0 := by rw [← byte_at s (4 * k + 2) j2]; congr 2
   have B3 : (s[(4 * (k : Int) + 3).toNat]'(by omega)).toNat = (bytesOf s).getD (4 * k + 3) 0 := by rw [← byte_at s (4 * k + 3) j3]; congr 2
   have hw := word_walk _ _ _ _ (UInt8.toNat_lt (s[(4 * (k : Int)).toNat]'(by omega))) (UInt8.toNat_lt (s[(4 * (k : Int) + 1).toNat]'(by omega))) (UInt8.toNat_lt (s[(4 * (k : Int) + 2).toNat]'(by omega))) (UInt8.toNat_lt (s[(4 * (k : Int) + 3).toNat]'(by omega)))
   rw [hw, B0, B1, B2, B3, show ((bytesOf s).getD (4 * k) 0 * 16777216 ||| (bytesOf s).getD (4 * k + 1) 0 * 65536 ||| (bytesOf s).getD (4 * k + 2) 0 * 256 ||| (bytesOf s).getD (4 * k + 3) 0) = word (bytesOf s) k from rfl]
   clear B0 B1 B2 B3 hw
   have bd : Blk wr.drew (w.heap.size + 1 + 1) 75 (words (part ((List.range k).map (word (bytesOf s))))) := bk
   have Fd : Fr [w.heap.size + 1 + 1] w3 wr.drew := F.drew
   clear bk F
   generalize wr.drew = wd at bd Fd ⊢
   have hc := words_cell bd (i := k) (by rw [part_len (by omega)]; omega)
   have hf := bd.frozen k
   have b' := words_store bd k (word (bytesOf s) k)
   have hset : (part ((List.range k).map (word (bytesOf s)))).set k (word (bytesOf s) k) = part ((List.range (k + 1)).map (word (bytesOf s))) := by
    have h := part_set (ws := (List.range k).map (word (bytesOf s))) (by omega) (word (bytesOf s) k)
    rw [hl] at h
    rw [h, List.range_succ, List.map_append]; rfl
   rw [hset] at b'
   have F' := Fd.setCell (p := ⟨w.heap.size + 1 + 1, k, none⟩) (.inl (by simp)) (.int .u32 ((word (bytesOf s) k : Nat) : Int))
   clear hset hl bd Fd
   generalize word (bytesOf s) k = x at b' F' ⊢
   go_wp2_with fail
   go_roundw
   case rel => exact ⟨k + 1, by omega, by go_num, b', F'⟩
   case measure => simp [intOf]; omega
  ·have ek : (List.range k).map (word (bytesOf s)) = w16 (bytesOf s) := by rw [show k = 16 from by omega]; rfl
   rw [ek] at bk
   have F0 := F3.step F (by simp; omega)
   have c0 := b0.fr F (by simp; omega)
   have c1 := b1.fr F (by simp)
   have Hz4 : w.heap.size + 1 + 1 + 1 ≤ wr.heap.size := by have := F.size; have := Hz.out; omega
   clear ek F F3 b0 b1 b2
   obtain ⟨w4, rfl⟩ : ∃ w4 : World, w4 = wr := ⟨_, rfl⟩
   go_wp2_with fail
   go_loopw [7] (fun si wr => ∃ k : Nat, 16 ≤ k ∧ k ≤ 64 ∧ si = .int .i64 k ∧ Blk wr (w.heap.size + 1 + 1) 75 (words (part (grow (k - 16) (w16 (bytesOf s))))) ∧ Fr [w.heap.size + 1 + 1] w4 wr) (fun i _ => 64 - (intOf i).toNat)
   case atStart => exact ⟨16, by omega, by omega, rfl, bk, Fr.refl _ _⟩
   case round =>
    clear bk
    obtain ⟨t, ht16, ht, rfl, bk, F⟩ := hrel
    by_cases hlt2 : t < 64
    ·have hwl : (grow (t - 16) (w16 (bytesOf s))).length = t := by rw [grow_len, w16_len]; omega
     have hpl : (part (grow (t - 16) (w16 (bytesOf s)))).length = 64 := part_len (by omega)
     have wl : ∀ i, (grow (t - 16) (w16 (bytesOf s))).getD i 0 < 4294967296 := fun i => by
      rw [List.getD_eq_getElem?_getD]
      cases e : (grow (t - 16) (w16 (bytesOf s)))[i]? with
      | none => simp
      | some x => exact grow_lt (w16_lt (by intro x hx; obtain ⟨y, _, rfl⟩ := List.mem_map.1 hx; exact UInt8.toNat_lt y)) _ x (List.mem_of_getElem? e)
     have gc : ∀ i, i < t → wr.cell? ⟨w.heap.size + 1 + 1, i, none⟩ = some (.int .u32 (((grow (t - 16) (w16 (bytesOf s))).getD i 0 : Nat) : Int)) := fun i hi => by
      rw [words_cell bk (by omega), part_get (by omega)]
     obtain ⟨x0, hx0⟩ : ∃ x, x = (grow (t - 16) (w16 (bytesOf s))).getD (t - 16) 0 := ⟨_, rfl⟩
     obtain ⟨x1, hx1⟩ : ∃ x, x = (grow (t - 16) (w16 (bytesOf s))).getD (t - 15) 0 := ⟨_, rfl⟩
     obtain ⟨x2, hx2⟩ : ∃ x, x = (grow (t - 16) (w16 (bytesOf s))).getD (t - 7) 0 := ⟨_, rfl⟩
     obtain ⟨x3, hx3⟩ : ∃ x, x = (grow (t - 16) (w16 (bytesOf s))).getD (t - 2) 0 := ⟨_, rfl⟩
     have l0 : x0 < 4294967296 := by rw [hx0]; exact wl _
     have l1 : x1 < 4294967296 := by rw [hx1]; exact wl _
     have l2 : x2 < 4294967296 := by rw [hx2]; exact wl _
     have l3 : x3 < 4294967296 := by rw [hx3]; exact wl _
     have g0 : wr.cell? ⟨w.heap.size + 1 + 1, ((t : Int) - 16).toNat, none⟩ = some (.int .u32 (x0 : Int)) := by rw [show ((t : Int) - 16).toNat = t - 16 from by omega, gc _ (by omega), hx0]
     have g1 : wr.cell? ⟨w.heap.size + 1 + 1, ((t : Int) - 15).toNat, none⟩ = some (.int .u32 (x1 : Int)) := by rw [show ((t : Int) - 15).toNat = t - 15 from by omega, gc _ (by omega), hx1]
     have g2 : wr.cell? ⟨w.heap.size + 1 + 1, ((t : Int) - 7).toNat, none⟩ = some (.int .u32 (x2 : Int)) := by rw [show ((t : Int) - 7).toNat = t - 7 from by omega, gc _ (by omega), hx2]
     have g3 : wr.cell? ⟨w.heap.size + 1 + 1, ((t : Int) - 2).toNat, none⟩ = some (.int .u32 (x3 : Int)) := by rw [show ((t : Int) - 2).toNat = t - 2 from by omega, gc _ (by omega), hx3]
     have hnx : next (grow (t - 16) (w16 (bytesOf s))) = (x0 + sg0 x1 + x2 + sg1 x3) % 4294967296 := by unfold next; rw [hwl, hx0, hx1, hx2, hx3]
     have Hnx := Lib.hid hnx
     have e0 : IntKind.i64.wrap ((t : Int) - 16) = (t : Int) - 16 := IntWalk.i64_in _ (by omega)
     have e1 : IntKind.i64.wrap ((t : Int) - 15) = (t : Int) - 15 := IntWalk.i64_in _ (by omega)
     have e2 : IntKind.i64.wrap ((t : Int) - 7) = (t : Int) - 7 := IntWalk.i64_in _ (by omega)
     have e3 : IntKind.i64.wrap ((t : Int) - 2) = (t : Int) - 2 := IntWalk.i64_in _ (by omega)
     have p0 : (0 : Int) ≤ (t : Int) - 16 := by omega
     have p1 : (0 : Int) ≤ (t : Int) - 15 := by omega
     have p2 : (0 : Int) ≤ (t : Int) - 7 := by omega
     have p3 : (0 : Int) ≤ (t : Int) - 2 := by omega
     have r0 : (t : Int) - 16 < 64 := by omega
     have r1 : (t : Int) - 15 < 64 := by omega
     have r2 : (t : Int) - 7 < 64 := by omega
     have r3 : (t : Int) - 2 < 64 := by omega
     have rt : (t : Int) < 64 := by omega
     have rp : (0 : Int) ≤ (t : Int) := by omega
     have y16 : (16 : Int) ≤ (t : Int) := by omega
     have n16 : 16 ≤ t := by omega
     have z16 : (t : Int) < 80 := by omega
     have m16 : t < 80 := by omega
     have y15 : (15 : Int) ≤ (t : Int) := by omega
     have n15 : 15 ≤ t := by omega
     have z15 : (t : Int) < 79 := by omega
     have m15 : t < 79 := by omega
     have y7 : (7 : Int) ≤ (t : Int) := by omega
     have n7 : 7 ≤ t := by omega
     have z7 : (t : Int) < 71 := by omega
     have m7 : t < 71 := by omega
     have y2 : (2 : Int) ≤ (t : Int) := by omega
     have n2 : 2 ≤ t := by omega
     have z2 : (t : Int) < 66 := by omega
     have m2 : t < 66 := by omega
     clear hx0 hx1 hx2 hx3 hnx gc wl
     go_wp2_with fail
     go_quiet (fail)
     go_wp2_with fail
     generalize hW5 : wr.drewN _ = w5
     have h0 : w5.cell? ⟨w.heap.size + 1 + 1, ((t : Int) - 16).toNat, none⟩ = some (.int .u32 (x0 : Int)) := by rw [← hW5]; exact g0
     have h2 : w5.cell? ⟨w.heap.size + 1 + 1, ((t : Int) - 7).toNat, none⟩ = some (.int .u32 (x2 : Int)) := by rw [← hW5]; exact g2
     have b5 : Blk w5 (w.heap.size + 1 + 1) 75 (words (part (grow (t - 16) (w16 (bytesOf s))))) := by rw [← hW5]; exact bk
     have F5 : Fr [w.heap.size + 1 + 1] w4 w5 := by rw [← hW5]; exact F.drewN _
     have ht0 := words_cell b5 (i := t) (by omega)
     have hft := b5.frozen t
     generalize (part (grow (t - 16) (w16 (bytesOf s)))).getD t 0 = old at ht0
     have B5 := Lib.hid b5
     clear hW5 g0 g1 g2 g3 bk F b5
     go_region_held3 (fun w' => w'.cell? ⟨w.heap.size + 1 + 1, ((t : Int) - 16).toNat, none⟩ = some (.int .u32 (x0 : Int)) ∧ w'.cell? ⟨w.heap.size + 1 + 1, ((t : Int) - 7).toNat, none⟩ = some (.int .u32 (x2 : Int)))
      (first | go_keep | (go_split_ands; refine ⟨?_, ?_⟩ <;> (rw [World.cell?_setCell_other _ _ _ _ (by first | (simp; done) | (simp; omega))]; assumption)))
      ((go_at_call 58; refine (right_any _ _ _ (by assumption) (by omega) (by omega)).mono ?_; rintro e w' ⟨rfl, nn, rfl⟩))
     clear e0 e1 e2 e3 ht0 hft h0 h2
     rw [next_walk x0 x1 x2 x3 l1 l3, ← Hnx.out]
     generalize hW6 : w5.drewN _ = w6
     have b6 : Blk w6 (w.heap.size + 1 + 1) 75 (words (part (grow (t - 16) (w16 (bytesOf s))))) := by rw [← hW6]; exact B5.out.drewN _
     have F6 : Fr [w.heap.size + 1 + 1] w4 w6 := by rw [← hW6]; exact F5.drewN _
     clear hW6
     have b7 := words_store b6 t (next (grow (t - 16) (w16 (bytesOf s))))
     have hset : (part (grow (t - 16) (w16 (bytesOf s)))).set t (next (grow (t - 16) (w16 (bytesOf s)))) = part (grow (t + 1 - 16) (w16 (bytesOf s))) := by
      have h := part_set (ws := grow (t - 16) (w16 (bytesOf s))) (by omega) (next (grow (t - 16) (w16 (bytesOf s))))
      rw [hwl] at h
      rw [h, show t + 1 - 16 = (t - 16) + 1 from by omega]; rfl
     rw [hset] at b7
     have F7 := F6.setCell (p := ⟨w.heap.size + 1 + 1, t, none⟩) (.inl (by simp)) (.int .u32 ((next (grow (t - 16) (w16 (bytesOf s))) : Nat) : Int))
     clear hset b6 F6 B5 F5 Hnx hwl hpl
     generalize next (grow (t - 16) (w16 (bytesOf s))) = xn at b7 F7 ⊢
     go_wp2_with fail
     go_roundw
     case rel => exact ⟨t + 1, by omega, by omega, by go_num, b7, F7⟩
     case measure => simp [intOf]; omega
    ·have et : part (grow (t - 16) (w16 (bytesOf s))) = sched (bytesOf s) := by
      rw [show t - 16 = 48 from by omega]
      show sched (bytesOf s) ++ List.replicate (64 - (sched (bytesOf s)).length) 0 = _
      rw [sched_len]; simp
     rw [et] at bk
     have F5 := F0.step F (by simp; omega)
     have Hzr : w.heap.size + 1 + 1 + 1 ≤ wr.heap.size := by have := F.size; omega
     have d0 := c0.fr F (by simp; omega)
     have d1 := c1.fr F (by simp)
     clear et c0 c1 F F0
     go_wp2_with fail
     refine (adds_any _).mono ?_
     rintro e w5 ⟨rfl, F6⟩
     have f0 := d0.fr F6 (by simp)
     have f1 := d1.fr F6 (by simp)
     have f2 := bk.fr F6 (by simp)
     have F7 := F5.step F6 (by simp)
     have Hz5 : w.heap.size + 1 + 1 + 1 ≤ w5.heap.size := by have := F6.size; omega
     clear d0 d1 bk F6 F5
     go_wp2_with (refine wpList_store_rowTo rfl 75 (.tmp 10) (.tmp 100) rfl rfl w5.heap.size (words K) rfl rfl 75 _ (heap_alloc_new w5 _) (by kernel_rfl) (by kernel_rfl) (by kernel_rfl) ?_; rw [World.setRow_alloc_new])
     have G7 := F7.alloc (.cells (words K) 75)
     have h0 := f0.alloc (.cells (words K) 75)
     have h1 := f1.alloc (.cells (words K) 75)
     have h2 := f2.alloc (.cells (words K) 75)
     have h3 : Blk (w5.alloc (.cells (words K) 75)) w5.heap.size 75 (words K) := Blk.new w5 75 _
     clear f0 f1 f2 F7
     obtain ⟨kb, hkb⟩ : ∃ kb, kb = w5.heap.size := ⟨_, rfl⟩
     rw [← hkb] at h3 Hz5 ⊢
     generalize w5.alloc (.cells (words K) 75) = w6 at G7 h0 h1 h2 h3 ⊢
     clear hkb
     have s0 : w6.cell? ⟨w.heap.size, 0, none⟩ = some (.int .u32 (st.a : Int)) := words_cell h0 (i := 0) (by simp [St.list])
     have s1 : w6.cell? ⟨w.heap.size, 1, none⟩ = some (.int .u32 (st.b : Int)) := words_cell h0 (i := 1) (by simp [St.list])
     have s2 : w6.cell? ⟨w.heap.size, 2, none⟩ = some (.int .u32 (st.c : Int)) := words_cell h0 (i := 2) (by simp [St.list])
     have s3 : w6.cell? ⟨w.heap.size, 3, none⟩ = some (.int .u32 (st.d : Int)) := words_cell h0 (i := 3) (by simp [St.list])
     have s4 : w6.cell? ⟨w.heap.size, 4, none⟩ = some (.int .u32 (st.e : Int)) := words_cell h0 (i := 4) (by simp [St.list])
     have s5 : w6.cell? ⟨w.heap.size, 5, none⟩ = some (.int .u32 (st.f : Int)) := words_cell h0 (i := 5) (by simp [St.list])
     have s6 : w6.cell? ⟨w.heap.size, 6, none⟩ = some (.int .u32 (st.g : Int)) := words_cell h0 (i := 6) (by simp [St.list])
     have s7 : w6.cell? ⟨w.heap.size, 7, none⟩ = some (.int .u32 (st.h : Int)) := words_cell h0 (i := 7) (by simp [St.list])
     go_quiet (fail)
     clear s0 s1 s2 s3 s4 s5 s6 s7
     go_wp2_with fail
     generalize hW7 : w6.drewN _ = w7
     have G8 : Fr [] w w7 := by rw [← hW7]; exact G7.drewN _
     have m0 : Blk w7 w.heap.size 38 (words st.list) := by rw [← hW7]; exact h0.drewN _
     have m1 : Blk w7 (w.heap.size + 1) 38 (words (List.replicate 8 0)) := by rw [← hW7]; exact h1.drewN _
     have m2 : Blk w7 (w.heap.size + 1 + 1) 75 (words (sched (bytesOf s))) := by rw [← hW7]; exact h2.drewN _
     have m3 : Blk w7 kb 75 (words K) := by rw [← hW7]; exact h3.drewN _
     clear hW7 G7 h0 h1 h2 h3
     go_loopw [11, 12, 13, 14, 15, 16, 17, 18, 117] (fun sa sb sc sd se sf sg sh si wr => ∃ (k m : Nat) (S : St), k ≤ 64 ∧ si = .int .i64 k ∧ sa = .int .u32 (S.a : Int) ∧ sb = .int .u32 (S.b : Int) ∧ sc = .int .u32 (S.c : Int) ∧ sd = .int .u32 (S.d : Int) ∧
       se = .int .u32 (S.e : Int) ∧ sf = .int .u32 (S.f : Int) ∧ sg = .int .u32 (S.g : Int) ∧ sh = .int .u32 (S.h : Int) ∧ Hid (S = rounds K (sched (bytesOf s)) k st) ∧ wr = w7.drewN m) (fun _ _ _ _ _ _ _ _ i _ => 64 - (intOf i).toNat)
     case atStart => exact ⟨0, 0, st, by omega, rfl, rfl, rfl, rfl, rfl, rfl, rfl, rfl, rfl, rfl, rfl⟩
     case round =>
      obtain ⟨r, m, S, hr, rfl, rfl, rfl, rfl, rfl, rfl, rfl, rfl, rfl, HS2, rfl⟩ := hrel
      have hok : S.ok := by rw [HS2.out]; exact rounds_ok hst _ _ _
      by_cases hlt3 : r < 64
      ·obtain ⟨kr, hkr⟩ : ∃ x, x = K.getD r 0 := ⟨_, rfl⟩
       obtain ⟨wt, hwt⟩ : ∃ x, x = (sched (bytesOf s)).getD r 0 := ⟨_, rfl⟩
       have ck : w7.cell? ⟨kb, r, none⟩ = some (.int .u32 (kr : Int)) := by rw [words_cell m3 (by rw [K_len]; omega), hkr]
       have cw : w7.cell? ⟨w.heap.size + 1 + 1, r, none⟩ = some (.int .u32 (wt : Int)) := by rw [words_cell m2 (by rw [sched_len]; omega), hwt]
       have hnext : rounds K (sched (bytesOf s)) (r + 1) st = round S kr wt := by show round (rounds K (sched (bytesOf s)) r st) _ _ = _; rw [← HS2.out, hkr, hwt]
       have Hnext := Lib.hid hnext
       obtain ⟨ea, eb, ec, ed, ee, ef, eg, eh⟩ := S
       obtain ⟨o1, o2, o3, o4, o5, o6, o7, o8⟩ := hok
       simp only at o1 o2 o3 o4 o5 o6 o7 o8 ⊢
       have q0 : (0 : Int) ≤ (r : Int) := by omega
       have q1 : (r : Int) < 64 := by omega
       have z1 : (0 : Int) ≤ (ee : Int) := by omega
       have z2 : (ee : Int) ≤ 4294967295 := by omega
       clear hkr hwt hnext
       go_wp2_with fail
       generalize hW8 : w7.drewN _ = w8
       have ck8 : w8.cell? ⟨kb, r, none⟩ = some (.int .u32 (kr : Int)) := by rw [← hW8]; exact ck
       have cw8 : w8.cell? ⟨w.heap.size + 1 + 1, r, none⟩ = some (.int .u32 (wt : Int)) := by rw [← hW8]; exact cw
       have HW8 := Lib.hid hW8
       clear hW8 ck cw
       go_region_held3 (fun w' => w'.cell? ⟨kb, r, none⟩ = some (.int .u32 (kr : Int)) ∧ w'.cell? ⟨w.heap.size + 1 + 1, r, none⟩ = some (.int .u32 (wt : Int)))
        (go_keep)
        ((go_at_call 58; refine (right_any _ _ _ (by assumption) (by omega) (by omega)).mono ?_; rintro e w' ⟨rfl, nn, rfl⟩))
       rw [t1_walk ⟨ea, eb, ec, ed, ee, ef, eg, eh⟩ kr wt o5 o6 o7]
       have ht1 := t1_lt ⟨ea, eb, ec, ed, ee, ef, eg, eh⟩ kr wt
       obtain ⟨T1, hT1⟩ : ∃ x, x = t1 ⟨ea, eb, ec, ed, ee, ef, eg, eh⟩ kr wt := ⟨_, rfl⟩
       rw [← hT1] at ht1 ⊢
       have HT1 := Lib.hid hT1
       clear hT1 ck8 cw8
       generalize hW9 : w8.drewN _ = w9
       have HW9 := Lib.hid (show ∃ n, w9 = w7.drewN n from ⟨_, by rw [← hW9, ← HW8.out, World.drewN_drewN]⟩)
       clear hW9 HW8
       go_wp2_with (go_at_call 58; refine (right_any _ _ _ (by assumption) (by omega) (by omega)).mono ?_; rintro e w' ⟨rfl, nn, rfl⟩)
       go_roundw
       case rel =>
        obtain ⟨n9, h9⟩ := HW9.out
        have ea' := t2_walk' ⟨ea, eb, ec, ed, ee, ef, eg, eh⟩ o1 o2 o3
        simp only at ea'
        refine ⟨r + 1, _, round ⟨ea, eb, ec, ed, ee, ef, eg, eh⟩ kr wt, by omega, by go_num, ?_, rfl, rfl, rfl, ?_, rfl, rfl, rfl, Hnext.out.symm, by rw [h9, World.drewN_drewN]⟩
        ·rw [ea', HT1.out]; simp only [round]; congr 1
        ·rw [HT1.out]; simp only [round]; congr 1
       case measure => simp [intOf]; omega
      ·have hS : S = rounds K (sched (bytesOf s)) 64 st := by rw [HS2.out, show r = 64 from by omega]
       have HSS := Lib.hid hS
       clear hS HS2
       go_wp2_with fail
       generalize hW9 : w7.drewN _ = w9
       have G9 : Fr [] w w9 := by rw [← hW9]; exact G8.drewN _
       have n0 : Blk w9 w.heap.size 38 (words st.list) := by rw [← hW9]; exact m0.drewN _
       have n1 : Blk w9 (w.heap.size + 1) 38 (words (List.replicate 8 0)) := by rw [← hW9]; exact m1.drewN _
       clear hW9 G8 m0 m1 m2 m3
       obtain ⟨ea, eb, ec, ed, ee, ef, eg, eh⟩ := S
       simp only at hok ⊢
       go_loopw [189] (fun si wr => ∃ k : Nat, k ≤ 8 ∧ si = .int .i64 k ∧ Blk wr w.heap.size 38 (words ((st.add ⟨ea, eb, ec, ed, ee, ef, eg, eh⟩).list.take k ++ st.list.drop k)) ∧ Fr [w.heap.size] w9 wr) (fun i _ => 8 - (intOf i).toNat)
       case atStart => exact ⟨0, by omega, rfl, n0, Fr.refl _ _⟩
       case round =>
        obtain ⟨j, hj, rfl, bj, F⟩ := hrel
        by_cases hlt4 : j < 8
        ·have hidx : ∀ W, (Instr.index 38 (.agg #[.int .u32 (ea : Int), .int .u32 (eb : Int), .int .u32 (ec : Int), .int .u32 (ed : Int), .int .u32 (ee : Int), .int .u32 (ef : Int), .int .u32 (eg : Int), .int .u32 (eh : Int)]) (.int .i64 (j : Int))).run Try.prog W = .ok (.int .u32 (((St.list ⟨ea, eb, ec, ed, ee, ef, eg, eh⟩).getD j 0 : Nat) : Int)) W := by
          intro W
          rcases (show j = 0 ∨ j = 1 ∨ j = 2 ∨ j = 3 ∨ j = 4 ∨ j = 5 ∨ j = 6 ∨ j = 7 by omega) with rfl | rfl | rfl | rfl | rfl | rfl | rfl | rfl <;> kernel_rfl
         have hset : ((st.add ⟨ea, eb, ec, ed, ee, ef, eg, eh⟩).list.take j ++ st.list.drop j).set j ((st.list.getD j 0 + (St.list ⟨ea, eb, ec, ed, ee, ef, eg, eh⟩).getD j 0) % 4294967296) = (st.add ⟨ea, eb, ec, ed, ee, ef, eg, eh⟩).list.take (j + 1) ++ st.list.drop (j + 1) := by
          rcases (show j = 0 ∨ j = 1 ∨ j = 2 ∨ j = 3 ∨ j = 4 ∨ j = 5 ∨ j = 6 ∨ j = 7 by omega) with rfl | rfl | rfl | rfl | rfl | rfl | rfl | rfl <;> rfl
         have hget : ((st.add ⟨ea, eb, ec, ed, ee, ef, eg, eh⟩).list.take j ++ st.list.drop j).getD j 0 = st.list.getD j 0 := by
          rcases (show j = 0 ∨ j = 1 ∨ j = 2 ∨ j = 3 ∨ j = 4 ∨ j = 5 ∨ j = 6 ∨ j = 7 by omega) with rfl | rfl | rfl | rfl | rfl | rfl | rfl | rfl <;> rfl
         have hlen : ((st.add ⟨ea, eb, ec, ed, ee, ef, eg, eh⟩).list.take j ++ st.list.drop j).length = 8 := by simp [St.list]; omega
         have hc := words_cell bj (i := j) (by omega)
         rw [hget] at hc
         have hf := bj.frozen j
         have bn := words_store bj j ((st.list.getD j 0 + (St.list ⟨ea, eb, ec, ed, ee, ef, eg, eh⟩).getD j 0) % 4294967296)
         rw [hset] at bn
         have Fn := F.setCell (p := ⟨w.heap.size, j, none⟩) (.inl (by simp)) (.int .u32 (((st.list.getD j 0 + (St.list ⟨ea, eb, ec, ed, ee, ef, eg, eh⟩).getD j 0) % 4294967296 : Nat) : Int))
         have j0 : (0 : Int) ≤ (j : Int) := by omega
         have j1 : (j : Int) < 8 := by omega
         clear hset hget hlen bj F
         generalize (St.list ⟨ea, eb, ec, ed, ee, ef, eg, eh⟩).getD j 0 = xj at hidx bn Fn
         generalize st.list.getD j 0 = sj at hc bn Fn
         have esum : (((sj + xj) % 4294967296 : Nat) : Int) = ((sj : Int) + (xj : Int)) % 4294967296 := by omega
         rw [esum] at bn Fn
         clear esum
         go_wp2_with fail
         go_roundw
         case rel => exact ⟨j + 1, by omega, by go_num, bn, Fn⟩
         case measure => simp [intOf]; omega
        ·have hL : (st.add ⟨ea, eb, ec, ed, ee, ef, eg, eh⟩).list.take j ++ st.list.drop j = (block st (bytesOf s)).list := by
          rw [show j = 8 from by omega]
          unfold block
          rw [← HSS.out]; rfl
         rw [hL] at bj
         have hBP : ∀ W, Fr [] w W → BlockPost st s w (.returned (.agg (words (block st (bytesOf s)).list))) W := fun W hW => ⟨rfl, hW⟩
         have n2 := n1.fr F (by simp)
         have Gn := G9.step F (by simp)
         have hL8 : (block st (bytesOf s)).list.length = 8 := rfl
         generalize (block st (bytesOf s)).list = L at bj hL8 hBP
         have hsz : (words L).size = 8 := by rw [words_len, hL8]
         have hi38 : (Try.prog.info? 38).map (·.size) = some (words L).size := by rw [hsz]; kernel_rfl
         have hall : (words L).all (·.oneCell') = true := by simp [words, ints, Value.oneCell']
         have HL := Lib.hid hL
         clear hL n0 n1 F
         go_upto_region 26 with fail
         rename_i K26 hK26
         apply wp_region_lit
         refine wpList_load_row rfl 38 (.tmp 2) rfl w.heap.size rfl 38 (words L) (0, 0) _ bj Try.underlying38 rfl hi38 ?_
         refine wpList_store_rowTo rfl 38 (.tmp 4) (.tmp 200) rfl rfl (w.heap.size + 1) (words L) rfl rfl 38 _ n2 hi38 (by rw [hsz]; rfl) hall ?_
         have hv : Blk (wr.setRow (w.heap.size + 1) (words L)) (w.heap.size + 1) 38 (words L) := setRow_heap wr _ _ _ 38 _ n2
         have hend := hBP _ (Gn.setRow (g := w.heap.size + 1) (.inr (by omega)) (words L))
         apply wpList_nil
         refine hK26 _ _ ?_
         go_wp2
         exact bodyPost_ret (v := .agg (words L)) (results_cell_row rfl _ _ (w.heap.size + 1) 38 (words L) (0, 0) _ rfl hv Try.underlying38 rfl hi38) rfl hend
end Go.Proofs.Ythkaigokcognmaa.Sha
end
