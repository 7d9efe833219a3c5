/- QueuePlays's walk: whatever is done with a queue, it answers as a list with a room would. -/
import Derived.Test.YtkcejfdjcfhefaaCountsWalk
import Derived.Test.YtkcejfdjcfhefaaPlaysMem
import Derived.Test.YtkcejfdjcfhefaaAppend
import Derived.Deep.AppendLies
namespace Go.Proofs.Ytkcejfdjcfhefaa.QI
open Go.RowKit

set_option maxRecDepth 100000 in
theorem plays_bad (room : Int) (v : Value) (w : World) (hr : room < 1 ∨ 65536 < room) : Calls Try.prog 6 #[.int .i64 room, v] w (LawPost w) := by
  by_cases h1 : room < 1
  · have h1' : ¬ 1 ≤ room := by omega
    go_enter Try.func6, Try.ntmps6
    go_wp2_with fail
    refine (new_bad room _ hr).mono ?_
    rintro e w1 ⟨rfl, rfl⟩
    go_wp2_with fail
    refine (awake_any _).mono ?_
    rintro e w2 ⟨rfl, F⟩
    go_wp2
    go_ret
    exact ⟨rfl, F⟩
  · have h2 : 65536 < room := by omega
    have h2' : 1 ≤ room := by omega
    have h3 : ¬ room ≤ 65536 := by omega
    go_enter Try.func6, Try.ntmps6
    go_wp2_with fail
    refine (new_bad room _ hr).mono ?_
    rintro e w1 ⟨rfl, rfl⟩
    go_wp2_with fail
    refine (awake_any _).mono ?_
    rintro e w2 ⟨rfl, F⟩
    go_wp2
    go_ret
    exact ⟨rfl, F⟩

theorem hideC {p : Prop} (h : p) : Hid p := h
theorem unhideC {p : Prop} (h : Hid p) : p := h

/-- What holds at every round's head. -/
def PlaysAt (w wr : World) (room : Nat) (lv ov cv : Value) (dn wn : Nat) : Prop :=
  ∃ (xs ys : List Int) (ls : List Nat), QRep 46 3 (Value.int .i64) wr w.heap.size room xs (dn : Int) ls ∧ (∀ x ∈ ls, w.heap.size ≤ x) ∧ Fr [] w wr ∧
    ListIs wr (w.heap.size :: ls) lv xs ∧ ListIs wr (w.heap.size :: ls) ov ys ∧ CopyIs wr (w.heap.size :: ls) room ys (wn : Int) cv

set_option maxRecDepth 100000 in
set_option maxHeartbeats 8000000 in
theorem plays_good (room : Nat) {sp : Option Addr} {len cap : Nat} {ss : List Int} {w : World} (h1 : 1 ≤ room) (h2 : room ≤ 65536) (hlen : len = ss.length) (hm : len ≤ 17592186044416)
    (hs : 0 < ss.length → ∃ g o, sp = some ⟨g, o, none⟩ ∧ g < w.heap.size ∧ ∀ i, i < ss.length → w.cell? ⟨g, o + i, none⟩ = (ss[i]?).map (Value.int .i64)) :
    Calls Try.prog 6 #[.int .i64 (room : Int), .slice sp len cap] w (LawPost w) := by
  have HL := Lib.hid hlen
  clear hlen
  obtain ⟨i0, hi, hz0, hz1, hz2⟩ := info_parts info3
  have r1 : (1 : Int) ≤ (room : Int) := by omega
  have r2 : (room : Int) ≤ 65536 := by omega
  go_enter Try.func6, Try.ntmps6
  go_wp2_with fail
  refine (new_good room _ h1 h2).mono ?_
  rintro e w1 ⟨rfl, q1, F1⟩
  go_wp2_with fail
  go_loopw [7, 8, 9, 10, 11, 12] (fun lv ov sd sw cv si wr => ∃ (k dn wn : Nat), k ≤ len ∧ si = .int .i64 k ∧ sd = .int .i64 dn ∧ sw = .int .i64 wn ∧ dn ≤ k ∧ PlaysAt w wr room lv ov cv dn wn)
    (fun _ _ _ _ _ i _ => len - (intOf i).toNat)
  case atStart => exact ⟨0, 0, 0, Nat.zero_le _, rfl, rfl, rfl, Nat.le_refl _, [], [], [], q1, by simp, F1, ListIs.nil_, ListIs.nil_, .inl rfl⟩
  case round =>
    obtain ⟨k, dn, wn, hk, rfl, rfl, rfl, hdn, xs, ys, ls, q, hls, F, hl, ho, hc⟩ := hrel
    by_cases hlt : k < len
    · have hkx : k < ss.length := by have := HL.out; omega
      obtain ⟨g, o', rfl, hg, hcell⟩ := hs (by omega)
      have c1 : wr.cell? ⟨g, o' + k, none⟩ = some (.int .i64 ss[k]) := by
        rw [World.cell?_of_block (F.block g hg (by simp)), hcell k hkx, List.getElem?_eq_getElem hkx]; rfl
      obtain ⟨z, ez⟩ : ∃ z, z = ss[k] := ⟨_, rfl⟩
      rw [← ez] at c1
      clear ez hcell hs q1 F1
      by_cases hz : z < 0
      · have hz7 : (z == 7) = false := by rw [beq_eq_false_iff_ne]; omega
        obtain ⟨spl, capl, rfl, hcl⟩ := hl.form
        rcases xs with _ | ⟨y, xs⟩
        · simp only [List.length_nil] at hl hcl ⊢
          go_wp2_with fail
          refine (pop_empty q).mono ?_
          rintro e w2 ⟨rfl, rfl⟩
          go_wp2_with fail
          refine (len_q q).mono ?_
          rintro e w9 ⟨rfl, rfl⟩
          go_wp2_with fail
          refine (drops_q q).mono ?_
          rintro e w9 ⟨rfl, rfl⟩
          go_wp2_with fail
          go_roundw
          case rel => exact ⟨k + 1, dn, wn, by omega, by go_num, rfl, rfl, by omega, [], ys, ls, q, hls, F, hl, ho, hc⟩
          case measure => simp [intOf]; omega
        · simp only [List.length_cons] at hl hcl ⊢
          obtain ⟨gl, ol, rfl, hcl0⟩ := hl.head
          have hpos : decide ((0 : Int) < (xs.length : Int) + 1) = true := by rw [decide_eq_true]; omega
          go_wp2_with fail
          refine (pop_any q).mono ?_
          rintro e w2 ⟨rfl, q2, F2⟩
          have hl2 := hl.next F2 (Q' := w.heap.size :: ls) (fun k hk => .inl hk)
          have ho2 := ho.next F2 (Q' := w.heap.size :: ls) (fun k hk => .inl hk)
          have hc2 := hc.next F2 (Q' := w.heap.size :: ls) (fun k hk => .inl hk)
          have F3 := F.step F2 (by simpa using hls)
          obtain ⟨gl', ol', e1, hcl2⟩ := hl2.head
          injection e1 with e1
          injection e1 with e1 e2
          subst e1 e2
          clear hl ho hc hcl0
          by_cases hcap : capl = 1
          · subst hcap
            obtain rfl : xs = [] := List.eq_nil_of_length_eq_zero (by omega)
            have hl3 : ListIs w2 (w.heap.size :: ls) (.slice (some ⟨gl, ol, none⟩) 0 0) [] := hl2.tail
            clear hl2
            go_wp2_with fail
            refine (len_q q2).mono ?_
            rintro e w9 ⟨rfl, rfl⟩
            go_wp2_with fail
            refine (drops_q q2).mono ?_
            rintro e w9 ⟨rfl, rfl⟩
            go_wp2_with fail
            go_roundw
            case rel => exact ⟨k + 1, dn, wn, by omega, by go_num, rfl, rfl, by omega, [], ys, ls, q2, hls, F3, hl3, ho2, hc2⟩
            case measure => simp [intOf]; omega
          · have hl3 : ListIs w2 (w.heap.size :: ls) (.slice (some ⟨gl, ol + 1, none⟩) xs.length (capl - 1)) xs := by
              have := hl2.tail
              rw [if_neg hcap] at this
              exact this
            clear hl2
            go_wp2_with fail
            refine (len_q q2).mono ?_
            rintro e w9 ⟨rfl, rfl⟩
            go_wp2_with fail
            refine (drops_q q2).mono ?_
            rintro e w9 ⟨rfl, rfl⟩
            go_wp2_with fail
            go_roundw
            case rel => exact ⟨k + 1, dn, wn, by omega, by go_num, rfl, rfl, by omega, xs, ys, ls, q2, hls, F3, hl3, ho2, hc2⟩
            case measure => simp [intOf]; omega
      · obtain ⟨spl, capl, rfl, hcl⟩ := hl.form
        by_cases hroom : xs.length < room
        · have hd1 : decide ((xs.length : Int) < (room : Int)) = true := by rw [decide_eq_true]; omega
          by_cases hz7 : (z == 7) = true
          · go_wp2_with fail
            refine (push_space z q hroom).mono ?_
            rintro e w2 ⟨rfl, ls2, q2, L2, F2⟩
            have hQ : ∀ x ∈ w.heap.size :: ls2, x ∈ w.heap.size :: ls ∨ wr.heap.size ≤ x := fun x hx => by
              rcases List.mem_cons.1 hx with rfl | hx
              · exact .inl (by simp)
              · exact (L2 x hx).imp_left fun h => by simp [h]
            have hls2 : ∀ x ∈ ls2, w.heap.size ≤ x := fun x hx => by
              rcases L2 x hx with h | h
              · exact hls x h
              · have := F.size; omega
            have hl2 := hl.next F2 hQ
            have ho2 := ho.next F2 hQ
            have hc2 := hc.next F2 hQ
            have F3 := F.step F2 (by simpa using hls)
            have hQ2 : ∀ x ∈ w.heap.size :: ls2, x < w2.heap.size := fun x hx => by
              rcases List.mem_cons.1 hx with rfl | hx
              · exact q2.lt
              · exact q2.ls_lt x hx
            obtain ⟨gs2, hsl2, hgs2⟩ := hl2
            clear hl ho hc q L2 hQ hls
            go_wp2_with (first
              | (at_builtin; refine wpList_append_sl (V := Value.int .i64) (fun _ => rfl) _ rfl (.tmp 106) (.tmp 107) 33 rfl w2.heap.size 3 i0 _ 8 Try.underlying33 hi hz0 hz1 hz2 rfl (.slice none 0 0) 0 [] rfl (World.ownsRow_nil _ _ _ _) _ xs gs2 rfl hsl2 (by unfold maxLen; omega) (by omega) (Nat.le_refl _) ?_; intro v3 w3 hown3 hg3)
              | (at_builtin; refine wpList_append_own _ rfl (.tmp 109) (.tmp 111) 33 rfl w2.heap.size 3 i0 _ 1 8 Try.underlying33 hi hz0 hz1 hz2 rfl (by omega) v3 (0 + xs.length) _ rfl (hown3.alloc _) ⟨w3.heap.size, 0, none⟩ 1 1 [.int .i64 z] rfl rfl (World.news_of_block (cs := #[.int .i64 z]) (t := 3) (fr := (0, 0)) (heap_alloc_new w3 _)) (by simp [Value.oneCell']) (by unfold maxLen; omega) (by omega) (by have := hg3.size; simp; omega) ?_; intro v4 w4 hown4 hg4 _; obtain ⟨sp4, cap4, rfl, -⟩ := own_slice hown4; obtain ⟨hl4, F4⟩ := ListIs.grown (Q := w.heap.size :: ls2) hg3 hown3 hg4 hown4 (by omega) hQ2; clear hown3 hg3 hown4 hg4 hsl2))
            have q4 := q2.fr F4 (by simp) (by simp)
            have ho4 := ho2.next (F4.mono (by simp)) (Q' := w.heap.size :: ls2) fun k hk => .inl hk
            have hc4 := hc2.next (F4.mono (by simp)) (Q' := w.heap.size :: ls2) fun k hk => .inl hk
            have F5 := F3.step F4 (by simp)
            have hQ4 : ∀ x ∈ w.heap.size :: ls2, x < w4.heap.size := fun x hx => by have := hQ2 x hx; have := F4.size; omega
            clear q2 ho2 hc2 hQ2 hgs2
            go_wp2_with fail
            refine (copy_any q4).mono ?_
            rintro e w6 ⟨c6, lc6, rfl, qc6, hc6, hlc6, F6⟩
            have q6 := q4.fr F6 (by simp) (by simp)
            have hl6 := hl4.next (F6.mono (by simp)) (Q' := w.heap.size :: ls2) fun k hk => .inl hk
            have hcp6 := CopyIs.made (Q := w.heap.size :: ls2) qc6 hc6 hlc6 hQ4
            have F7 := F5.step F6 (by simp)
            clear q4 hl4 ho4 hc4 qc6
            have hlq := len_q q6
            rw [show (xs ++ [z]).length = xs.length + 1 from by simp] at hlq
            have Hlq := hideC hlq
            clear hlq
            go_wp2_with fail
            refine (unhideC Hlq).mono ?_
            rintro e w9 ⟨rfl, rfl⟩
            go_wp2_with fail
            refine (drops_q q6).mono ?_
            rintro e w9 ⟨rfl, rfl⟩
            go_wp2_with fail
            go_roundw
            case rel => exact ⟨k + 1, dn, dn, by omega, by go_num, rfl, rfl, by omega, xs ++ [z], xs ++ [z], ls2, q6, hls2, F7, hl6, hl6, hcp6⟩
            case measure => simp [intOf]; omega
          · have hz7' : (z == 7) = false := by simpa using hz7
            go_wp2_with fail
            refine (push_space z q hroom).mono ?_
            rintro e w2 ⟨rfl, ls2, q2, L2, F2⟩
            have hQ : ∀ x ∈ w.heap.size :: ls2, x ∈ w.heap.size :: ls ∨ wr.heap.size ≤ x := fun x hx => by
              rcases List.mem_cons.1 hx with rfl | hx
              · exact .inl (by simp)
              · exact (L2 x hx).imp_left fun h => by simp [h]
            have hls2 : ∀ x ∈ ls2, w.heap.size ≤ x := fun x hx => by
              rcases L2 x hx with h | h
              · exact hls x h
              · have := F.size; omega
            have hl2 := hl.next F2 hQ
            have ho2 := ho.next F2 hQ
            have hc2 := hc.next F2 hQ
            have F3 := F.step F2 (by simpa using hls)
            have hQ2 : ∀ x ∈ w.heap.size :: ls2, x < w2.heap.size := fun x hx => by
              rcases List.mem_cons.1 hx with rfl | hx
              · exact q2.lt
              · exact q2.ls_lt x hx
            obtain ⟨gs2, hsl2, hgs2⟩ := hl2
            clear hl ho hc q L2 hQ hls
            go_wp2_with (first
              | (at_builtin; refine wpList_append_sl (V := Value.int .i64) (fun _ => rfl) _ rfl (.tmp 106) (.tmp 107) 33 rfl w2.heap.size 3 i0 _ 8 Try.underlying33 hi hz0 hz1 hz2 rfl (.slice none 0 0) 0 [] rfl (World.ownsRow_nil _ _ _ _) _ xs gs2 rfl hsl2 (by unfold maxLen; omega) (by omega) (Nat.le_refl _) ?_; intro v3 w3 hown3 hg3)
              | (at_builtin; refine wpList_append_own _ rfl (.tmp 109) (.tmp 111) 33 rfl w2.heap.size 3 i0 _ 1 8 Try.underlying33 hi hz0 hz1 hz2 rfl (by omega) v3 (0 + xs.length) _ rfl (hown3.alloc _) ⟨w3.heap.size, 0, none⟩ 1 1 [.int .i64 z] rfl rfl (World.news_of_block (cs := #[.int .i64 z]) (t := 3) (fr := (0, 0)) (heap_alloc_new w3 _)) (by simp [Value.oneCell']) (by unfold maxLen; omega) (by omega) (by have := hg3.size; simp; omega) ?_; intro v4 w4 hown4 hg4 _; obtain ⟨sp4, cap4, rfl, -⟩ := own_slice hown4; obtain ⟨hl4, F4⟩ := ListIs.grown (Q := w.heap.size :: ls2) hg3 hown3 hg4 hown4 (by omega) hQ2; clear hown3 hg3 hown4 hg4 hsl2))
            have q4 := q2.fr F4 (by simp) (by simp)
            have ho4 := ho2.next (F4.mono (by simp)) (Q' := w.heap.size :: ls2) fun k hk => .inl hk
            have hc4 := hc2.next (F4.mono (by simp)) (Q' := w.heap.size :: ls2) fun k hk => .inl hk
            have F5 := F3.step F4 (by simp)
            have hQ4 : ∀ x ∈ w.heap.size :: ls2, x < w4.heap.size := fun x hx => by have := hQ2 x hx; have := F4.size; omega
            clear q2 ho2 hc2 hQ2 hgs2
            have hlq := len_q q4
            rw [show (xs ++ [z]).length = xs.length + 1 from by simp] at hlq
            have Hlq := hideC hlq
            clear hlq
            go_wp2_with fail
            refine (unhideC Hlq).mono ?_
            rintro e w9 ⟨rfl, rfl⟩
            go_wp2_with fail
            refine (drops_q q4).mono ?_
            rintro e w9 ⟨rfl, rfl⟩
            go_wp2_with fail
            go_roundw
            case rel => exact ⟨k + 1, dn, wn, by omega, by go_num, rfl, rfl, by omega, xs ++ [z], ys, ls2, q4, hls2, F5, hl4, ho4, hc4⟩
            case measure => simp [intOf]; omega
        · have hd1 : decide ((xs.length : Int) < (room : Int)) = false := by rw [decide_eq_false]; omega
          by_cases hz7 : (z == 7) = true
          · go_wp2_with fail
            refine (push_full z q (by have := q.2.2.1; omega)).mono ?_
            rintro e w4 ⟨rfl, q4, F2⟩
            rw [drops_next (by omega)] at q4
            have hQ : ∀ x ∈ w.heap.size :: ls, x ∈ w.heap.size :: ls ∨ wr.heap.size ≤ x := fun x hx => .inl hx
            have F2' : Fr (w.heap.size :: ls) wr w4 := F2.mono (by simp)
            have hl4 := hl.next F2' hQ
            have ho4 := ho.next F2' hQ
            have hc4 := hc.next F2' hQ
            have F5 := F.step F2 (by simp)
            have hQ4 : ∀ x ∈ w.heap.size :: ls, x < w4.heap.size := fun x hx => by
              rcases List.mem_cons.1 hx with rfl | hx
              · exact q4.lt
              · exact q4.ls_lt x hx
            clear hl ho hc q hQ F2'
            go_wp2_with fail
            refine (copy_any q4).mono ?_
            rintro e w6 ⟨c6, lc6, rfl, qc6, hc6, hlc6, F6⟩
            have q6 := q4.fr F6 (by simp) (by simp)
            have hl6 := hl4.next (F6.mono (by simp)) (Q' := w.heap.size :: ls) fun k hk => .inl hk
            have hcp6 := CopyIs.made (Q := w.heap.size :: ls) qc6 hc6 hlc6 hQ4
            have F7 := F5.step F6 (by simp)
            clear q4 hl4 ho4 hc4 qc6
            have hlq := len_q q6
            rw [show xs.length = xs.length from rfl] at hlq
            have Hlq := hideC hlq
            clear hlq
            go_wp2_with fail
            refine (unhideC Hlq).mono ?_
            rintro e w9 ⟨rfl, rfl⟩
            go_wp2_with fail
            refine (drops_q q6).mono ?_
            rintro e w9 ⟨rfl, rfl⟩
            go_wp2_with fail
            go_roundw
            case rel => exact ⟨k + 1, (dn + 1), (dn + 1), by omega, by go_num, by go_num, by go_num, by omega, xs, xs, ls, q6, hls, F7, hl6, hl6, hcp6⟩
            case measure => simp [intOf]; omega
          · have hz7' : (z == 7) = false := by simpa using hz7
            go_wp2_with fail
            refine (push_full z q (by have := q.2.2.1; omega)).mono ?_
            rintro e w4 ⟨rfl, q4, F2⟩
            rw [drops_next (by omega)] at q4
            have hQ : ∀ x ∈ w.heap.size :: ls, x ∈ w.heap.size :: ls ∨ wr.heap.size ≤ x := fun x hx => .inl hx
            have F2' : Fr (w.heap.size :: ls) wr w4 := F2.mono (by simp)
            have hl4 := hl.next F2' hQ
            have ho4 := ho.next F2' hQ
            have hc4 := hc.next F2' hQ
            have F5 := F.step F2 (by simp)
            have hQ4 : ∀ x ∈ w.heap.size :: ls, x < w4.heap.size := fun x hx => by
              rcases List.mem_cons.1 hx with rfl | hx
              · exact q4.lt
              · exact q4.ls_lt x hx
            clear hl ho hc q hQ F2'
            have hlq := len_q q4
            rw [show xs.length = xs.length from rfl] at hlq
            have Hlq := hideC hlq
            clear hlq
            go_wp2_with fail
            refine (unhideC Hlq).mono ?_
            rintro e w9 ⟨rfl, rfl⟩
            go_wp2_with fail
            refine (drops_q q4).mono ?_
            rintro e w9 ⟨rfl, rfl⟩
            go_wp2_with fail
            go_roundw
            case rel => exact ⟨k + 1, (dn + 1), wn, by omega, by go_num, by go_num, rfl, by omega, xs, ys, ls, q4, hls, F5, hl4, ho4, hc4⟩
            case measure => simp [intOf]; omega
    · have hl0 := hl
      obtain ⟨gl, hsl, hgl⟩ := hl
      obtain ⟨go, hso, hgo⟩ := ho
      have hxr : xs.length ≤ 65536 := by have := q.2.2.1; omega
      clear hs q1 F1
      obtain ⟨spl, capl, rfl, hcl⟩ := hl0.form
      rcases hc with rfl | ⟨cb, lc, rfl, qc, hcQ⟩
      · go_wp2_with fail
        refine (items_any q).mono ?_
        rintro e w2 ⟨v, rfl, hown, F2, -⟩
        obtain ⟨gv, hsv, hgv⟩ := Sl.of_own (V := Value.int .i64) hown
        have q2 := q.fr F2 (by simp) (by simp)
        have hsl2 := hsl.fr F2 (by simp)
        have G2 := F.step F2 (by simp)
        obtain ⟨spv, capv, rfl, -⟩ := own_slice hown
        go_wp2_with fail
        refine (same_any hsv hsl2 (by omega)).mono ?_
        rintro e w3 ⟨rfl, j, rfl⟩
        rw [decide_eq_true (rfl : xs = xs)]
        have K : Fr [] w2 (w2.drewN j) := (Fr.refl [] w2).drewN j
        go_wp2_with fail
        generalize w2.drewN j = w5 at K ⊢
        have q5 := q2.fr K (by simp) (by simp)
        have hsl5 := hsl2.fr K (by simp)
        have G5 := G2.step K (by simp)
        have hit : ∃ gs, (∀ x ∈ gs, wr.heap.size ≤ x ∧ x < w5.heap.size) ∧ (0 < xs.length → ∃ g cur, spv = some ⟨g, 0, none⟩ ∧ gs = [g] ∧ Blk w5 g 3 cur ∧ xs.length ≤ cur.size) := by
          rcases hown.2 with ⟨_, h0⟩ | ⟨g', cap', cur', e, _⟩
          · exact ⟨[], by simp, fun h => by omega⟩
          · injection e with e1 _ e2
            subst e1 e2
            obtain ⟨cur, hG, hcs, hnc, _, hgw⟩ := own_blk hown
            exact ⟨[g'], by simpa using ⟨hgw, by have := hG.lt; have := K.size; omega⟩, fun _ => ⟨g', cur, rfl, rfl, hG.fr K (by simp), by omega⟩⟩
        obtain ⟨gs, hgs, hit⟩ := hit
        have hQl : ∀ x ∈ w.heap.size :: ls, x < wr.heap.size := fun x hx => by
          rcases List.mem_cons.1 hx with rfl | hx
          · exact q.lt
          · exact q.ls_lt x hx
        obtain ⟨n, hn⟩ : ∃ n, n = xs.length := ⟨_, rfl⟩
        have Hn := Lib.hid hn
        rw [← hn] at hit ⊢
        have hnr : n ≤ 65536 := by omega
        obtain ⟨wo, rfl⟩ : ∃ wo : World, wo = wr := ⟨_, rfl⟩
        clear hn hsv hown q q2 hsl hsl2 F2 hl0 F K
        go_loopw [18] (fun si wr => ∃ k : Nat, k ≤ n ∧ si = .int .i64 k ∧ Fr gs w5 wr ∧ (0 < n → ∃ g cur, spv = some ⟨g, 0, none⟩ ∧ gs = [g] ∧ Blk wr g 3 cur ∧ n ≤ cur.size)) (fun i _ => n - (intOf i).toNat)
        case atStart => exact ⟨0, Nat.zero_le _, rfl, Fr.refl _ _, hit⟩
        case round =>
          obtain ⟨k2, hk2, rfl, FF, hit2⟩ := hrel
          clear hit
          by_cases hlt2 : k2 < n
          · obtain ⟨g, cur, rfl, rfl, hG, hcs⟩ := hit2 (by omega)
            have i0 : (0 : Int) ≤ (k2 : Int) := by omega
            have i1 : (k2 : Int) < (n : Int) := by omega
            obtain ⟨u, hu⟩ : ∃ u, wr.cell? ⟨g, k2, none⟩ = some u := by
              rw [hG.cell]
              exact ⟨_, Array.getElem?_eq_getElem (show k2 < cur.size by omega)⟩
            have hfz := hG.frozen k2
            have hG2 := hG.set_ k2 (.int .i64 (-9))
            have FF2 := FF.setCell (p := ⟨g, k2, none⟩) (.inl (by simp)) (.int .i64 (-9))
            clear hG hit2
            go_wp2_with fail
            go_roundw
            case rel => exact ⟨k2 + 1, by omega, by go_num, FF2, fun _ => ⟨g, _, rfl, rfl, hG2, by simpa using hcs⟩⟩
            case measure => simp [intOf]; omega
          · have q6 := q5.fr FF (fun h => by have := (hgs _ h).1; have := hQl w.heap.size (by simp); omega) (fun x hx h => by have := (hgs _ h).1; have := hQl x (by simp [hx]); omega)
            have hsl6 := hsl5.fr FF (fun x hx h => by have := (hgs _ h).1; have := (hgl x hx).2; omega)
            have hb : ∀ x ∈ gs, w.heap.size ≤ x := fun x hx => by have := (hgs x hx).1; have := hQl w.heap.size (by simp); omega
            have G6 := G5.step FF hb
            clear q5 hsl5 hit2 FF
            go_wp2_with fail
            refine (items_any q6).mono ?_
            rintro e w7 ⟨v7, rfl, hown7, F7, -⟩
            obtain ⟨gv7, hsv7, hgv7⟩ := Sl.of_own (V := Value.int .i64) hown7
            have hsl7 := hsl6.fr F7 (by simp)
            have hxr2 : xs.length ≤ 65536 := by have : n = xs.length := Hn.out; omega
            rw [← Hn.out] at hsl7
            go_wp2_with fail
            refine (same_any hsv7 hsl7 (by omega)).mono ?_
            rintro e w8 ⟨rfl, j8, rfl⟩
            rw [decide_eq_true (rfl : xs = xs)]
            go_wp2_with fail
            refine (awake_any _).mono ?_
            rintro e w9 ⟨rfl, F9⟩
            have G9 := ((G6.step F7 (by simp)).drewN j8).step F9 (by simp)
            clear hsv7 hsl7 hown7 hsl6 q6
            go_wp2
            go_ret
            exact ⟨rfl, G9⟩
      · have hyr : ys.length ≤ 65536 := by have := qc.2.2.1; omega
        go_wp2_with fail
        refine (items_any q).mono ?_
        rintro e w2 ⟨v, rfl, hown, F2, -⟩
        obtain ⟨gv, hsv, hgv⟩ := Sl.of_own (V := Value.int .i64) hown
        have q2 := q.fr F2 (by simp) (by simp)
        have hsl2 := hsl.fr F2 (by simp)
        have G2 := F.step F2 (by simp)
        obtain ⟨spv, capv, rfl, -⟩ := own_slice hown
        go_wp2_with fail
        refine (same_any hsv hsl2 (by omega)).mono ?_
        rintro e w3 ⟨rfl, j, rfl⟩
        rw [decide_eq_true (rfl : xs = xs)]
        have qc2 := (qc.fr F2 (by simp) (by simp)).fr ((Fr.refl [] w2).drewN j) (by simp) (by simp)
        have hso2 := (hso.fr F2 (by simp)).fr ((Fr.refl [] w2).drewN j) (by simp)
        go_wp2_with fail
        refine (items_any qc2).mono ?_
        rintro e w3 ⟨v3, rfl, hown3, F3, -⟩
        obtain ⟨gv3, hsv3, hgv3⟩ := Sl.of_own (V := Value.int .i64) hown3
        go_wp2_with fail
        refine (same_any hsv3 (hso2.fr F3 (by simp)) (by omega)).mono ?_
        rintro e w4 ⟨rfl, j3, rfl⟩
        rw [decide_eq_true (rfl : ys = ys)]
        have qc3 := (qc2.fr F3 (by simp) (by simp)).fr ((Fr.refl [] w3).drewN j3) (by simp) (by simp)
        go_wp2_with fail
        refine (drops_q qc3).mono ?_
        rintro e w4 ⟨rfl, rfl⟩
        have K : Fr [] w2 (w3.drewN j3) := (((Fr.refl [] w2).drewN j).trans F3 (by simp)).drewN j3
        clear qc qc2 qc3 hso2 hsv3 hown3 hso
        go_wp2_with fail
        generalize w3.drewN j3 = w5 at K ⊢
        have q5 := q2.fr K (by simp) (by simp)
        have hsl5 := hsl2.fr K (by simp)
        have G5 := G2.step K (by simp)
        have hit : ∃ gs, (∀ x ∈ gs, wr.heap.size ≤ x ∧ x < w5.heap.size) ∧ (0 < xs.length → ∃ g cur, spv = some ⟨g, 0, none⟩ ∧ gs = [g] ∧ Blk w5 g 3 cur ∧ xs.length ≤ cur.size) := by
          rcases hown.2 with ⟨_, h0⟩ | ⟨g', cap', cur', e, _⟩
          · exact ⟨[], by simp, fun h => by omega⟩
          · injection e with e1 _ e2
            subst e1 e2
            obtain ⟨cur, hG, hcs, hnc, _, hgw⟩ := own_blk hown
            exact ⟨[g'], by simpa using ⟨hgw, by have := hG.lt; have := K.size; omega⟩, fun _ => ⟨g', cur, rfl, rfl, hG.fr K (by simp), by omega⟩⟩
        obtain ⟨gs, hgs, hit⟩ := hit
        have hQl : ∀ x ∈ w.heap.size :: ls, x < wr.heap.size := fun x hx => by
          rcases List.mem_cons.1 hx with rfl | hx
          · exact q.lt
          · exact q.ls_lt x hx
        obtain ⟨n, hn⟩ : ∃ n, n = xs.length := ⟨_, rfl⟩
        have Hn := Lib.hid hn
        rw [← hn] at hit ⊢
        have hnr : n ≤ 65536 := by omega
        obtain ⟨wo, rfl⟩ : ∃ wo : World, wo = wr := ⟨_, rfl⟩
        clear hn hsv hown q q2 hsl hsl2 F2 hl0 F K
        go_loopw [18] (fun si wr => ∃ k : Nat, k ≤ n ∧ si = .int .i64 k ∧ Fr gs w5 wr ∧ (0 < n → ∃ g cur, spv = some ⟨g, 0, none⟩ ∧ gs = [g] ∧ Blk wr g 3 cur ∧ n ≤ cur.size)) (fun i _ => n - (intOf i).toNat)
        case atStart => exact ⟨0, Nat.zero_le _, rfl, Fr.refl _ _, hit⟩
        case round =>
          obtain ⟨k2, hk2, rfl, FF, hit2⟩ := hrel
          clear hit
          by_cases hlt2 : k2 < n
          · obtain ⟨g, cur, rfl, rfl, hG, hcs⟩ := hit2 (by omega)
            have i0 : (0 : Int) ≤ (k2 : Int) := by omega
            have i1 : (k2 : Int) < (n : Int) := by omega
            obtain ⟨u, hu⟩ : ∃ u, wr.cell? ⟨g, k2, none⟩ = some u := by
              rw [hG.cell]
              exact ⟨_, Array.getElem?_eq_getElem (show k2 < cur.size by omega)⟩
            have hfz := hG.frozen k2
            have hG2 := hG.set_ k2 (.int .i64 (-9))
            have FF2 := FF.setCell (p := ⟨g, k2, none⟩) (.inl (by simp)) (.int .i64 (-9))
            clear hG hit2
            go_wp2_with fail
            go_roundw
            case rel => exact ⟨k2 + 1, by omega, by go_num, FF2, fun _ => ⟨g, _, rfl, rfl, hG2, by simpa using hcs⟩⟩
            case measure => simp [intOf]; omega
          · have q6 := q5.fr FF (fun h => by have := (hgs _ h).1; have := hQl w.heap.size (by simp); omega) (fun x hx h => by have := (hgs _ h).1; have := hQl x (by simp [hx]); omega)
            have hsl6 := hsl5.fr FF (fun x hx h => by have := (hgs _ h).1; have := (hgl x hx).2; omega)
            have hb : ∀ x ∈ gs, w.heap.size ≤ x := fun x hx => by have := (hgs x hx).1; have := hQl w.heap.size (by simp); omega
            have G6 := G5.step FF hb
            clear q5 hsl5 hit2 FF
            go_wp2_with fail
            refine (items_any q6).mono ?_
            rintro e w7 ⟨v7, rfl, hown7, F7, -⟩
            obtain ⟨gv7, hsv7, hgv7⟩ := Sl.of_own (V := Value.int .i64) hown7
            have hsl7 := hsl6.fr F7 (by simp)
            have hxr2 : xs.length ≤ 65536 := by have : n = xs.length := Hn.out; omega
            rw [← Hn.out] at hsl7
            go_wp2_with fail
            refine (same_any hsv7 hsl7 (by omega)).mono ?_
            rintro e w8 ⟨rfl, j8, rfl⟩
            rw [decide_eq_true (rfl : xs = xs)]
            go_wp2_with fail
            refine (awake_any _).mono ?_
            rintro e w9 ⟨rfl, F9⟩
            have G9 := ((G6.step F7 (by simp)).drewN j8).step F9 (by simp)
            clear hsv7 hsl7 hown7 hsl6 q6
            go_wp2
            go_ret
            exact ⟨rfl, G9⟩

theorem plays_walk (room : Int) (_hb : -9223372036854775808 ≤ room ∧ room ≤ 9223372036854775807) {v : Value} {ss : List Int} {gs : List Nat} {w : World} (hv : Sl (Value.int .i64) w v ss gs) (hg : ∀ k ∈ gs, k < w.heap.size) (hm : ss.length * 8 ≤ 140737488351232)
    (_hs : ∀ x ∈ ss, -9223372036854775808 ≤ x ∧ x ≤ 9223372036854775807) :
    Calls Try.prog 6 #[.int .i64 room, v] w fun e w' => e = .returned (.bool true) ∧ Below w.heap.size w w' := by
  have key : Calls Try.prog 6 #[.int .i64 room, v] w (LawPost w) := by
    by_cases hr : room < 1 ∨ 65536 < room
    · exact plays_bad room v w hr
    · obtain ⟨r, rfl⟩ : ∃ r : Nat, room = r := ⟨room.toNat, by omega⟩
      obtain ⟨sp, cap, rfl, hc, hx⟩ := hv
      refine plays_good r (by omega) (by omega) rfl (by omega) fun hp => ?_
      obtain ⟨g, o, e, rfl, hcell⟩ := hx hp
      exact ⟨g, o, e, hg g (by simp), hcell⟩
  exact key.mono fun e w' h => ⟨h.1, h.2.below (Nat.le_refl _) (by simp)⟩
end Go.Proofs.Ytkcejfdjcfhefaa.QI
