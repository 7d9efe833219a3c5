/- append onto a 'GRow' at the walk's forms; '[]byte(s)' and 'string(b)'. -/
import Derived.Test.YthkaigokcognmaaRow
import Derived.Deep.AppendLies
namespace Go.Proofs.Ythkaigokcognmaa
open Go.RowKit
variable {α : Type} {V : α → Value} {w w' : World} {base : Nat} {v : Value} {xs : List α} {P : Program}

/-- What is appended lies in a block of this world. -/
theorem wp_append_g {o : Oper} {a : Act} {K : Act → World → Prop} {Q : Exit → Act → World → Prop} (s x : Operand) (t : TypeId) (ho : o.op = .call { callee := .builtin .append, args := #[s, x], argTypes := #[t, t] })
    (hV : ∀ x, (V x).oneCell' = true) (base : Nat) (e : TypeId) (i : TypeInfo) (z : Value) (bytes : Nat) (ht : P.underlying t = some (.slice e)) (hi : P.info? e = some i) (hz : i.zero = some z)
    (hsize : i.size = 1) (hby : i.bytes = bytes) (hzs : z.cells.size = 1)
    (hs : a.eval s = v) (hown : GRow V w base v xs) (ad : Addr) (m c : Nat) (ys : List α) (hx : a.eval x = .slice (some ad) m c) (hl : ys.length = m) (hnews : ∀ j u, (ys.map V)[j]? = some u → w.cell? (ad.add j) = some u)
    (h63 : xs.length + m ≤ maxLen) (hbytes : (xs.length + m) * bytes ≤ 140737488355328) (hbase : base ≤ w.heap.size)
    (h : ∀ v' w', GRow V w' base v' (xs ++ ys) → w.grownBy w' v.ownBlock → K (a.put o.dst v') w') : o.wp P a w K Q := by
  obtain ⟨v', w', hr, h2, h3⟩ := run_append_g (P := P) hV base t o.type e i z bytes ht hi hz hsize hby hzs hown ad m c ys hl hnews h63 hbytes hbase
  unfold Oper.wp execOp
  simp only [ho, resolve, invoke, builtin, Sem.run_bind, Sem.run_pure, Result.andThen_ok, List.map_toArray, List.map_cons, List.map_nil, hs, hx, hr]
  exact h v' w' h2 h3

theorem wpList_append_g {ops : Array Oper} {rest : List Oper} {o : Oper} {a : Act} {Q : Exit → Act → World → Prop} (hgd : o.guard = none) (s x : Operand) (t : TypeId) (ho : o.op = .call { callee := .builtin .append, args := #[s, x], argTypes := #[t, t] })
    (hV : ∀ x, (V x).oneCell' = true) (base : Nat) (e : TypeId) (i : TypeInfo) (z : Value) (bytes : Nat) (ht : P.underlying t = some (.slice e)) (hi : P.info? e = some i) (hz : i.zero = some z)
    (hsize : i.size = 1) (hby : i.bytes = bytes) (hzs : z.cells.size = 1)
    (hs : a.eval s = v) (hown : GRow V w base v xs) (ad : Addr) (m c : Nat) (ys : List α) (hx : a.eval x = .slice (some ad) m c) (hl : ys.length = m) (hnews : ∀ j u, (ys.map V)[j]? = some u → w.cell? (ad.add j) = some u)
    (h63 : xs.length + m ≤ maxLen) (hbytes : (xs.length + m) * bytes ≤ 140737488355328) (hbase : base ≤ w.heap.size)
    (h : ∀ v' w', GRow V w' base v' (xs ++ ys) → w.grownBy w' v.ownBlock → wpList P ops Q rest (a.put o.dst v') w') : wpList P ops Q (o :: rest) a w :=
  wpList_plain hgd fun _ hK => wp_append_g s x t ho hV base e i z bytes ht hi hz hsize hby hzs hs hown ad m c ys hx hl hnews h63 hbytes hbase fun v' w' h2 h3 => hK _ _ (h v' w' h2 h3)

theorem step_append_g {ops : Array Oper} {o : Oper} {a : Act} {K : Act → World → Prop} {Q : Exit → Act → World → Prop} {E : Prop} (hgd : o.guard = none) (s x : Operand) (t : TypeId) (ho : o.op = .call { callee := .builtin .append, args := #[s, x], argTypes := #[t, t] })
    (hV : ∀ x, (V x).oneCell' = true) (base : Nat) (e : TypeId) (i : TypeInfo) (z : Value) (bytes : Nat) (ht : P.underlying t = some (.slice e)) (hi : P.info? e = some i) (hz : i.zero = some z)
    (hsize : i.size = 1) (hby : i.bytes = bytes) (hzs : z.cells.size = 1)
    (hs : a.eval s = v) (hown : GRow V w base v xs) (ad : Addr) (m c : Nat) (ys : List α) (hx : a.eval x = .slice (some ad) m c) (hl : ys.length = m) (hnews : ∀ j u, (ys.map V)[j]? = some u → w.cell? (ad.add j) = some u)
    (h63 : xs.length + m ≤ maxLen) (hbytes : (xs.length + m) * bytes ≤ 140737488355328) (hbase : base ≤ w.heap.size)
    (h : ∀ v' w', GRow V w' base v' (xs ++ ys) → w.grownBy w' v.ownBlock → K (a.put o.dst v') w') : if Region.wanted o (yielded ops a.tmps) = true then Oper.wp P o a w K Q else E := by
  have hw : Region.wanted o (yielded ops a.tmps) = true := by simp [Region.wanted, hgd]
  rw [if_pos hw]
  exact wp_append_g s x t ho hV base e i z bytes ht hi hz hsize hby hzs hs hown ad m c ys hx hl hnews h63 hbytes hbase h

/-! ### Bytes -/
def U8 (n : Nat) : Value := .int .u8 (n : Int)
def bytesOf (s : ByteArray) : List Nat := s.data.toList.map UInt8.toNat
def strOf (l : List Nat) : ByteArray := ⟨(l.map UInt8.ofNat).toArray⟩
theorem bytesOf_len (s : ByteArray) : (bytesOf s).length = s.size := by simp [bytesOf]
theorem bytesOf_append (a b : ByteArray) : bytesOf (a ++ b) = bytesOf a ++ bytesOf b := by simp [bytesOf]
theorem bytesOf_lt (s : ByteArray) : ∀ x ∈ bytesOf s, x < 256 := by
  intro x hx
  obtain ⟨b, _, rfl⟩ := List.mem_map.1 hx
  exact b.toNat_lt
theorem bytesOf_strOf {l : List Nat} (h : ∀ x ∈ l, x < 256) : bytesOf (strOf l) = l := by
  unfold bytesOf strOf
  simp only [List.map_map]
  conv => rhs; rw [← List.map_id l]
  refine List.map_congr_left fun x hx => ?_
  have := h x hx
  simp; omega
theorem bytesOf_inj {a b : ByteArray} (h : bytesOf a = bytesOf b) : a = b := by
  apply ByteArray.ext
  apply Array.ext'
  exact List.map_inj_right (fun x y h => UInt8.toNat_inj.1 h) |>.1 h
theorem strOf_bytesOf (s : ByteArray) : strOf (bytesOf s) = s := bytesOf_inj (bytesOf_strOf (bytesOf_lt s))

theorem conv_str (s : ByteArray) (w : World) (base src dst e : TypeId) (hs : P.underlying src = some .string) (hd : P.underlying dst = some (.slice e)) (he : P.underlying e = some (.int .u8)) (hb : base ≤ w.heap.size) (hm : s.size ≤ maxLen) :
    ∃ cap W', (convert src dst (.string s)).run P w = .ok (.slice (some ⟨w.heap.size, 0, none⟩) s.size cap) W' ∧ GRow U8 W' base (.slice (some ⟨w.heap.size, 0, none⟩) s.size cap) (bytesOf s) ∧ Fr [] w W' := by
  have hge := grownCap_ge w s.size 0 e
  have hcm := grownCap_le_maxLen w s.size 0 e hm
  have hr := run_bytes_of_string (P := P) w src dst e s hs hd he
  generalize grownCap w s.size 0 e = cap at *
  have hsz : (bytesRow s cap).size = cap := by simp [bytesRow]; omega
  rw [hsz] at hr
  refine ⟨cap, _, hr, .inr ⟨w.heap.size, cap, by rw [bytesOf_len], hb, by rw [bytesOf_len]; exact hge, hcm, by simp, ?_, ?_⟩, ((Fr.refl [] w).drew).alloc _⟩
  · have hh : (w.drew.alloc (.cells (bytesRow s cap) e (cap, cap + 1))).heap[w.heap.size]? = some (.cells (bytesRow s cap) e (cap, cap + 1)) := heap_alloc_new w.drew _
    intro j hj
    refine ⟨?_, ?_⟩
    · unfold World.cell?; simp only [hh, Nat.zero_add]; rw [Array.getElem?_eq_getElem (by omega)]; rfl
    · unfold World.frozen?; simp only [hh, Nat.zero_add]; simp; omega
  · have hh : (w.drew.alloc (.cells (bytesRow s cap) e (cap, cap + 1))).heap[w.heap.size]? = some (.cells (bytesRow s cap) e (cap, cap + 1)) := heap_alloc_new w.drew _
    intro j u hu
    unfold World.cell?; simp only [hh, Nat.zero_add]
    have hj := (List.getElem?_eq_some_iff.1 hu).1
    rw [List.length_map, bytesOf_len] at hj
    show (bytesRow s cap)[j]? = some u
    unfold bytesRow
    rw [Array.getElem?_append_left (by simpa using hj)]
    rw [← hu]
    simp [bytesOf, U8, Function.comp_def]

theorem conv_bytes {w : World} {g off : Nat} {l : List Nat} (cap : Nat) (src e dst : TypeId) (hs : P.underlying src = some (.slice e)) (he : P.underlying e = some (.int .u8)) (hd : P.underlying dst = some .string)
    (hl : ∀ x ∈ l, x < 256) (hr : w.rangeAt g off (l.map U8)) : (convert src dst (.slice (some ⟨g, off, none⟩) l.length cap)).run P w = .ok (.string (strOf l)) w := by
  have h := run_convert_bytes_back (P := P) w src dst e ⟨g, off, none⟩ cap (l.map UInt8.ofNat) hs he hd (fun j hj => by
    rw [List.length_map] at hj
    rw [Addr.add_lit, hr j (U8 l[j]) (by simp [hj])]
    simp only [U8, List.getElem_map]
    have := hl l[j] (List.getElem_mem hj)
    congr 3
    simp; omega)
  rw [List.length_map] at h
  exact h

/-- A stretch of a row. -/
theorem GRow.range (h : GRow V w base v xs) {g n cap : Nat} (e : v = .slice (some ⟨g, 0, none⟩) n cap) (o m : Nat) : w.rangeAt g o (((xs.drop o).take m).map V) := by
  rcases h with ⟨rfl, _⟩ | ⟨g', cap', rfl, _, _, _, _, _, h6⟩
  · cases e
  · injection e with e1; injection e1 with e1; cases e1
    intro j u hu
    rw [List.map_take, List.map_drop, List.getElem?_take] at hu
    split at hu
    · rw [List.getElem?_drop] at hu
      have := h6 (o + j) u hu
      rwa [Nat.zero_add] at this
    · cases hu

theorem GRow.some_ (h : GRow V w base v xs) {n : Nat} (hn : xs.length = n) (hp : 0 < n) : ∃ g cap, v = .slice (some ⟨g, 0, none⟩) n cap ∧ base ≤ g ∧ g < w.heap.size := by
  subst hn
  rcases h with ⟨_, rfl⟩ | ⟨g, cap, rfl, hb, _, _, hl, _⟩
  · simp at hp
  · exact ⟨g, cap, rfl, hb, hl⟩
theorem GRow.cap_le (h : GRow V w base v xs) {g n cap : Nat} (e : v = .slice (some ⟨g, 0, none⟩) n cap) : xs.length ≤ cap := by
  rcases h with ⟨rfl, _⟩ | ⟨g', cap', rfl, _, h2, _⟩
  · cases e
  · injection e with e1 e2 e3; omega
theorem Fr.step_row {a b c : World} (h : Fr [] a b) (hg : b.grownBy c v.ownBlock) (hr : GRow V b base v xs) (hb : a.heap.size ≤ base) : Fr [] a c :=
  h.grown hg fun k hk => .inr (Nat.le_trans hb (hr.lt k hk).1)
end Go.Proofs.Ythkaigokcognmaa
