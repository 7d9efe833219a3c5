/- What QueuePlays's loop keeps: the queue, its copy, the list that it is held against. No program in sight. -/
import Derived.Test.YtkcejfdjcfhefaaMem
namespace Go.Proofs.Ytkcejfdjcfhefaa.QI
open Go.RowKit

/-- A list of numbers of the law's own: in none of the blocks Q. -/
def ListIs (w : World) (Q : List Nat) (v : Value) (xs : List Int) : Prop := ∃ gs, Sl (Value.int .i64) w v xs gs ∧ ∀ x ∈ gs, x ∉ Q ∧ x < w.heap.size

/-- The copy: none, or a queue in none of the blocks Q. -/
def CopyIs (w : World) (Q : List Nat) (room : Nat) (ys : List Int) (wn : Int) (cv : Value) : Prop :=
  cv = .pointer none ∨ ∃ cb lc, cv = .pointer (some ⟨cb, 0, none⟩) ∧ QRep 46 3 (Value.int .i64) w cb room ys wn lc ∧ ∀ x ∈ cb :: lc, x ∉ Q

section
variable {w w' : World} {Q Q' : List Nat}

theorem out_next {x : Nat} (h : x ∉ Q ∧ x < w.heap.size) (hQ : ∀ k ∈ Q', k ∈ Q ∨ w.heap.size ≤ k) (hs : w.heap.size ≤ w'.heap.size) : x ∉ Q' ∧ x < w'.heap.size :=
  ⟨fun hx => by
    rcases hQ x hx with h1 | h1
    · exact h.1 h1
    · omega, by omega⟩

theorem ListIs.next {v : Value} {xs : List Int} (h : ListIs w Q v xs) (hF : Fr Q w w') (hQ : ∀ k ∈ Q', k ∈ Q ∨ w.heap.size ≤ k) : ListIs w' Q' v xs := by
  obtain ⟨gs, h1, h2⟩ := h
  exact ⟨gs, h1.fr hF fun k hk => (h2 k hk).1, fun x hx => out_next (h2 x hx) hQ hF.size⟩

theorem CopyIs.next {room : Nat} {ys : List Int} {wn : Int} {cv : Value} (h : CopyIs w Q room ys wn cv) (hF : Fr Q w w') (hQ : ∀ k ∈ Q', k ∈ Q ∨ w.heap.size ≤ k) : CopyIs w' Q' room ys wn cv := by
  rcases h with h | ⟨cb, lc, h1, h2, h3⟩
  · exact .inl h
  · have hc := h3 cb (by simp)
    refine .inr ⟨cb, lc, h1, h2.fr hF hc fun k hk => h3 k (by simp [hk]), fun x hx => ?_⟩
    have hlt : x < w.heap.size := by
      rcases List.mem_cons.1 hx with rfl | hx
      · exact h2.lt
      · exact h2.ls_lt x hx
    exact (out_next ⟨h3 x hx, hlt⟩ hQ hF.size).1

theorem ListIs.form {v : Value} {xs : List Int} (h : ListIs w Q v xs) : ∃ sp cap, v = .slice sp xs.length cap ∧ xs.length ≤ cap := by
  obtain ⟨gs, ⟨sp, cap, e, h1, _⟩, _⟩ := h
  exact ⟨sp, cap, e, h1⟩

theorem ListIs.head {sp : Option Addr} {n cap : Nat} {x : Int} {xs : List Int} (h : ListIs w Q (.slice sp n cap) (x :: xs)) : ∃ g o, sp = some ⟨g, o, none⟩ ∧ w.cell? ⟨g, o, none⟩ = some (.int .i64 x) := by
  obtain ⟨gs, ⟨sp', cap', e1, h1, h2⟩, h3⟩ := h
  injection e1 with e1 e2 e3
  subst e1 e2 e3
  obtain ⟨g, o, rfl, rfl, hc⟩ := h2 (by simp)
  exact ⟨g, o, rfl, by simpa using hc 0 (by simp)⟩

theorem ListIs.nil_ : ListIs w Q (.slice none 0 0) [] := ⟨[], Sl.nil_ _ _, by simp⟩

/-- A row of the call's own that is newer than Q. -/
theorem ListIs.of_own {base : Nat} {v : Value} {xs : List Int} (h : w.ownsRow base 3 1 v xs.length (xs.map (Value.int .i64))) (hQ : ∀ k ∈ Q, k < base) : ListIs w Q v xs := by
  rcases h.2 with ⟨rfl, h0⟩ | ⟨g, cap, cur, rfl, hb, _⟩
  · exact ⟨[], ⟨none, 0, by rw [h0], by omega, fun hp => by omega⟩, by simp⟩
  · obtain ⟨cur, hG, hcs, hnc, htk, hgw⟩ := own_blk h
    refine ⟨[g], ⟨_, cap, rfl, hnc, fun _ => ⟨g, 0, rfl, rfl, fun i hi => ?_⟩⟩, ?_⟩
    · rw [Nat.zero_add, hG.cell, ← List.getElem?_map, ← htk, List.getElem?_take, if_pos hi, Array.getElem?_toList]
    · intro x hx
      simp at hx
      subst hx
      exact ⟨fun hm => by have := hQ x hm; omega, hG.lt⟩

/-- 'next = append(next, l...); l = append(next, x)'. -/
theorem ListIs.grown {w3 w4 : World} {v3 : Value} {sp : Option Addr} {n cap : Nat} {xs : List Int} {z : Int} {o : Obj} (hg3 : w.grownBy w3 none) (hown3 : w3.ownsRow w.heap.size 3 1 v3 (0 + xs.length) (([] ++ xs).map (Value.int .i64)))
    (hg4 : (w3.alloc o).grownBy w4 v3.ownBlock) (hown4 : w4.ownsRow w.heap.size 3 1 (.slice sp n cap) n (([] ++ xs).map (Value.int .i64) ++ [.int .i64 z])) (hn : n = xs.length + 1) (hQ : ∀ k ∈ Q, k < w.heap.size) :
    ListIs w4 Q (.slice sp (xs.length + 1) cap) (xs ++ [z]) ∧ Fr [] w w4 := by
  subst hn
  refine ⟨ListIs.of_own (base := w.heap.size) (by simpa using hown4) hQ, ?_⟩
  have F3 : Fr [] w w3 := (Fr.refl _ _).grown hg3 (by simp)
  exact (F3.alloc o).grown hg4 fun k hk => .inr (own_ge hown3 k hk)

theorem CopyIs.made {room : Nat} {ys : List Int} {wn : Int} {c : Nat} {lc : List Nat} {base : Nat} (h : QRep 46 3 (Value.int .i64) w c room ys wn lc) (hc : base ≤ c) (hl : ∀ k ∈ lc, base ≤ k) (hQ : ∀ k ∈ Q, k < base) :
    CopyIs w Q room ys wn (.pointer (some ⟨c, 0, none⟩)) := by
  refine .inr ⟨c, lc, rfl, h, fun x hx hm => ?_⟩
  have := hQ x hm
  rcases List.mem_cons.1 hx with rfl | hx
  · omega
  · have := hl x hx; omega

/-- The rest of a list, as 'l[1:]' cuts it. -/
theorem ListIs.tail {sp : Option Addr} {n cap : Nat} {x : Int} {xs : List Int} (h : ListIs w Q (.slice sp n cap) (x :: xs)) : ListIs w Q (.slice (if cap = 1 then sp else sp.map (·.add 1)) (n - 1) (cap - 1)) xs := by
  obtain ⟨gs, ⟨sp', cap', e1, h1, h2⟩, h3⟩ := h
  injection e1 with e1 e2 e3
  subst e1 e2 e3
  simp only [List.length_cons] at h1 h2 ⊢
  obtain ⟨g, o, rfl, rfl, hc⟩ := h2 (by omega)
  refine ⟨[g], ⟨if cap = 1 then some ⟨g, o, none⟩ else (some (⟨g, o, none⟩ : Addr)).map (·.add 1), cap - 1, rfl, by omega, fun hp => ⟨g, o + 1, ?_, rfl, fun i hi => ?_⟩⟩, h3⟩
  · rw [if_neg (by omega)]
    rfl
  · have := hc (i + 1) (by omega)
    rw [show o + (i + 1) = o + 1 + i from by omega] at this
    simpa using this
end
end Go.Proofs.Ytkcejfdjcfhefaa.QI
