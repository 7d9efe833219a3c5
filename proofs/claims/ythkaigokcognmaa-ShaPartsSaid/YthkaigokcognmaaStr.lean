/- The bound on each text of a list that came in. -/
import Derived.SizedLaws
import Derived.SliceStrings
namespace Go.Proofs.Ythkaigokcognmaa
open Go.ChangeShapes Go.ChangeShapes

theorem weights_strs {H : Type} (P : Program) (e : TypeId) : ∀ (xs : List ByteArray) (x : ByteArray), x ∈ xs → x.size ∈ DataW.weightsAll P e (strs (H := H) xs)
  | [], x, h => by cases h
  | y :: ys, x, h => by
    show x.size ∈ DataW.weightsAll P e (.lit (.string y.data.toList) :: strs ys)
    unfold DataW.weightsAll
    rw [List.mem_append]
    rcases List.mem_cons.1 h with rfl | h
    · left
      simp only [DataW.weights, List.mem_singleton]
      rfl
    · exact .inr (weights_strs P e ys x h)

theorem sized_strs {H : Type} {P : Program} {ts : List TypeId} {ds : List (DataW H)} (h : (DataW.weightsEach P ts ds).all (· ≤ reachBytes) = true) {j : Nat} {t e : TypeId} {xs : List ByteArray} {spare : List (DataW H)}
    (ht : ts[j]? = some t) (hd : ds[j]? = some (.slice (strs xs) spare)) (hu : P.underlying t = some (.slice e)) : ∀ x ∈ xs, x.size ≤ 140737488351232 := by
  intro x hx
  have := List.all_eq_true.1 h _ (DataW.weights_mem_each ht hd x.size (by
    simp only [DataW.weights, hu, List.mem_cons, List.mem_append]
    exact .inr (.inl (weights_strs P e xs x hx))))
  exact of_decide_eq_true this
end Go.Proofs.Ythkaigokcognmaa
