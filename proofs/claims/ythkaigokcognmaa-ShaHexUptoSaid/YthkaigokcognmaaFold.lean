/- A fold over a list's parts of 64; no program in sight. -/
import Derived.Test.YthkaigokcognmaaSpec
namespace Go.Proofs.Ythkaigokcognmaa.Sha

/-- f over the first n parts of 64. -/
def fold64 {α : Type} (f : α → List Nat → α) : Nat → List Nat → α → α
  | 0, _, st => st
  | n + 1, l, st => fold64 f n (l.drop 64) (f st (l.take 64))
variable {α : Type} (f : α → List Nat → α)
theorem fold64_ind {p : α → Prop} (hf : ∀ a l, p (f a l)) : ∀ n l st, p st → p (fold64 f n l st)
  | 0, _, _, h => h
  | n + 1, _, _, _ => fold64_ind hf n _ _ (hf _ _)
theorem fold64_add : ∀ a b l st, fold64 f (a + b) l st = fold64 f b (l.drop (64 * a)) (fold64 f a l st)
  | 0, b, l, st => by simp [fold64]
  | a + 1, b, l, st => by
    rw [show a + 1 + b = (a + b) + 1 by omega, fold64, fold64, fold64_add a b, List.drop_drop]
    congr 2
    omega
theorem fold64_append : ∀ a l m st, 64 * a ≤ l.length → fold64 f a (l ++ m) st = fold64 f a l st
  | 0, _, _, _, _ => rfl
  | a + 1, l, m, st, h => by
    rw [fold64, fold64, List.take_append_of_le_length (by omega), List.drop_append_of_le_length (by omega), fold64_append a _ _ _ (by rw [List.length_drop]; omega)]
theorem fold64_succ (k : Nat) (l : List Nat) (st : α) : fold64 f (k + 1) l st = f (fold64 f k l st) ((l.drop (64 * k)).take 64) := by
  rw [fold64_add]; rfl
theorem fold64_more (k : Nat) (l m : List Nat) (st : α) (h : 64 * k = 64 * (l.length / 64)) :
    fold64 f ((l.drop (64 * k) ++ m).length / 64) (l.drop (64 * k) ++ m) (fold64 f k l st) = fold64 f ((l ++ m).length / 64) (l ++ m) st := by
  have hk : k = l.length / 64 := by omega
  have e : (l ++ m).length / 64 = k + (l.drop (64 * k) ++ m).length / 64 := by
    simp only [List.length_append, List.length_drop]
    omega
  rw [e, fold64_add, fold64_append f k l m st (by omega), List.drop_append_of_le_length (by omega)]
theorem rest_more (l m : List Nat) :
    (l.drop (64 * (l.length / 64)) ++ m).drop (64 * ((l.drop (64 * (l.length / 64)) ++ m).length / 64)) = (l ++ m).drop (64 * ((l ++ m).length / 64)) := by
  have e : (l ++ m).length / 64 = l.length / 64 + (l.drop (64 * (l.length / 64)) ++ m).length / 64 := by
    simp only [List.length_append, List.length_drop]
    omega
  have e2 : (l ++ m).drop (64 * (l.length / 64)) = l.drop (64 * (l.length / 64)) ++ m := List.drop_append_of_le_length (by omega)
  rw [e, Nat.mul_add, ← List.drop_drop, e2]

/-- The state behind n blocks of a list of bytes. -/
def run (n : Nat) (l : List Nat) (st : St) : St := fold64 block n l st
theorem run_ok (n : Nat) (l : List Nat) {st : St} (h : st.ok) : (run n l st).ok := fold64_ind block (p := St.ok) block_ok n l st h
theorem run_zero (l : List Nat) (st : St) : run 0 l st = st := rfl
theorem run_succ (k : Nat) (l : List Nat) (st : St) : run (k + 1) l st = block (run k l st) ((l.drop (64 * k)).take 64) := fold64_succ block k l st
theorem run_more (l m : List Nat) (st : St) :
    run ((l.drop (64 * (l.length / 64)) ++ m).length / 64) (l.drop (64 * (l.length / 64)) ++ m) (run (l.length / 64) l st) = run ((l ++ m).length / 64) (l ++ m) st := fold64_more block _ l m st rfl
theorem H0_ok : H0.ok := by simp [St.ok, H0]
end Go.Proofs.Ythkaigokcognmaa.Sha
