/- The roots of primes, as plain functions of natural numbers; no program in sight. -/
import Derived.Test.YthkaigokcognmaaSpec
import Derived.KernelRfl
namespace Go.Proofs.Ythkaigokcognmaa.Sha

/-- One row of a product by digits of 16 bits: the digits and what is carried. -/
def inn (b : List Nat) (x i : Nat) (o : List Nat) : Nat → List Nat × Nat
  | 0 => (o, 0)
  | k + 1 => (fun r : List Nat × Nat => (fun n : Nat => (r.1.set (i + k) (n % 65536), n / 65536)) (r.1.getD (i + k) 0 + x * b.getD k 0 + r.2)) (inn b x i o k)
def rowN (b : List Nat) (x i : Nat) (o : List Nat) : List Nat := (fun r : List Nat × Nat => r.1.set (i + b.length) (r.1.getD (i + b.length) 0 + r.2)) (inn b x i o b.length)
def outN (a b : List Nat) : Nat → List Nat
  | 0 => List.replicate (a.length + b.length) 0
  | i + 1 => rowN b (a.getD i 0) i (outN a b i)
def timesN (a b : List Nat) : List Nat := outN a b a.length

def vN (x f : Nat) : List Nat := [f % 65536, f / 65536, x]
def aN (x f : Nat) (cube : Bool) : List Nat := if cube then timesN (timesN (vN x f) (vN x f)) (vN x f) else timesN (vN x f) (vN x f)
def shiftN (cube : Bool) : Nat := if cube then 6 else 4
/-- What stands above the lowest digits. -/
def highN (a : List Nat) : Nat → Nat
  | 0 => 0
  | n + 1 => highN a n * 65536 + a.getD (a.length - 1 - n) 0
def lowN (a : List Nat) : Nat → Bool
  | 0 => true
  | n + 1 => lowN a n && a.getD n 0 == 0
def cmpN (p : Nat) (a : List Nat) (s : Nat) : Bool := (fun h : Nat => if h = p then lowN a s else decide (h < p)) (highN a (a.length - s))
def belowN (p x f : Nat) (cube : Bool) : Bool := cmpN p (aN x f cube) (shiftN cube)
def findX (p : Nat) (cube : Bool) : Nat → Nat → Option Nat
  | 0, _ => none
  | n + 1, x => if belowN p (x + 1) 0 cube then findX p cube n (x + 1) else some x
/-- The bits above bit k. -/
def bitsN (p x : Nat) (cube : Bool) : Nat → Nat
  | 0 => 0
  | n + 1 => (fun f : Nat => if belowN p x (f + 2 ^ (31 - n)) cube then f + 2 ^ (31 - n) else f) (bitsN p x cube n)
def behindN (p : Nat) (cube : Bool) : Option Nat := (findX p cube 40 1).map fun x => bitsN p x cube 32
def P64 : List Nat := [2, 3, 5, 7, 11, 13, 17, 19, 23, 29, 31, 37, 41, 43, 47, 53, 59, 61, 67, 71, 73, 79, 83, 89, 97, 101, 103, 107, 109, 113, 127, 131, 137, 139, 149, 151, 157, 163, 167, 173, 179, 181, 191, 193, 197, 199, 211, 223, 227, 229, 233, 239, 241, 251, 257, 263, 269, 271, 277, 281, 283, 293, 307, 311]
theorem roots_sq : (P64.take 8).map (behindN · false) = H0.list.map some := by kernel_rfl
theorem root0 : behindN 2 true = some 1116352408 := by kernel_rfl
theorem root1 : behindN 3 true = some 1899447441 := by kernel_rfl
theorem root2 : behindN 5 true = some 3049323471 := by kernel_rfl
theorem root3 : behindN 7 true = some 3921009573 := by kernel_rfl
theorem root4 : behindN 11 true = some 961987163 := by kernel_rfl
theorem root5 : behindN 13 true = some 1508970993 := by kernel_rfl
theorem root6 : behindN 17 true = some 2453635748 := by kernel_rfl
theorem root7 : behindN 19 true = some 2870763221 := by kernel_rfl
theorem root8 : behindN 23 true = some 3624381080 := by kernel_rfl
theorem root9 : behindN 29 true = some 310598401 := by kernel_rfl
theorem root10 : behindN 31 true = some 607225278 := by kernel_rfl
theorem root11 : behindN 37 true = some 1426881987 := by kernel_rfl
theorem root12 : behindN 41 true = some 1925078388 := by kernel_rfl
theorem root13 : behindN 43 true = some 2162078206 := by kernel_rfl
theorem root14 : behindN 47 true = some 2614888103 := by kernel_rfl
theorem root15 : behindN 53 true = some 3248222580 := by kernel_rfl
theorem root16 : behindN 59 true = some 3835390401 := by kernel_rfl
theorem root17 : behindN 61 true = some 4022224774 := by kernel_rfl
theorem root18 : behindN 67 true = some 264347078 := by kernel_rfl
theorem root19 : behindN 71 true = some 604807628 := by kernel_rfl
theorem root20 : behindN 73 true = some 770255983 := by kernel_rfl
theorem root21 : behindN 79 true = some 1249150122 := by kernel_rfl
theorem root22 : behindN 83 true = some 1555081692 := by kernel_rfl
theorem root23 : behindN 89 true = some 1996064986 := by kernel_rfl
theorem root24 : behindN 97 true = some 2554220882 := by kernel_rfl
theorem root25 : behindN 101 true = some 2821834349 := by kernel_rfl
theorem root26 : behindN 103 true = some 2952996808 := by kernel_rfl
theorem root27 : behindN 107 true = some 3210313671 := by kernel_rfl
theorem root28 : behindN 109 true = some 3336571891 := by kernel_rfl
theorem root29 : behindN 113 true = some 3584528711 := by kernel_rfl
theorem root30 : behindN 127 true = some 113926993 := by kernel_rfl
theorem root31 : behindN 131 true = some 338241895 := by kernel_rfl
theorem root32 : behindN 137 true = some 666307205 := by kernel_rfl
theorem root33 : behindN 139 true = some 773529912 := by kernel_rfl
theorem root34 : behindN 149 true = some 1294757372 := by kernel_rfl
theorem root35 : behindN 151 true = some 1396182291 := by kernel_rfl
theorem root36 : behindN 157 true = some 1695183700 := by kernel_rfl
theorem root37 : behindN 163 true = some 1986661051 := by kernel_rfl
theorem root38 : behindN 167 true = some 2177026350 := by kernel_rfl
theorem root39 : behindN 173 true = some 2456956037 := by kernel_rfl
theorem root40 : behindN 179 true = some 2730485921 := by kernel_rfl
theorem root41 : behindN 181 true = some 2820302411 := by kernel_rfl
theorem root42 : behindN 191 true = some 3259730800 := by kernel_rfl
theorem root43 : behindN 193 true = some 3345764771 := by kernel_rfl
theorem root44 : behindN 197 true = some 3516065817 := by kernel_rfl
theorem root45 : behindN 199 true = some 3600352804 := by kernel_rfl
theorem root46 : behindN 211 true = some 4094571909 := by kernel_rfl
theorem root47 : behindN 223 true = some 275423344 := by kernel_rfl
theorem root48 : behindN 227 true = some 430227734 := by kernel_rfl
theorem root49 : behindN 229 true = some 506948616 := by kernel_rfl
theorem root50 : behindN 233 true = some 659060556 := by kernel_rfl
theorem root51 : behindN 239 true = some 883997877 := by kernel_rfl
theorem root52 : behindN 241 true = some 958139571 := by kernel_rfl
theorem root53 : behindN 251 true = some 1322822218 := by kernel_rfl
theorem root54 : behindN 257 true = some 1537002063 := by kernel_rfl
theorem root55 : behindN 263 true = some 1747873779 := by kernel_rfl
theorem root56 : behindN 269 true = some 1955562222 := by kernel_rfl
theorem root57 : behindN 271 true = some 2024104815 := by kernel_rfl
theorem root58 : behindN 277 true = some 2227730452 := by kernel_rfl
theorem root59 : behindN 281 true = some 2361852424 := by kernel_rfl
theorem root60 : behindN 283 true = some 2428436474 := by kernel_rfl
theorem root61 : behindN 293 true = some 2756734187 := by kernel_rfl
theorem root62 : behindN 307 true = some 3204031479 := by kernel_rfl
theorem root63 : behindN 311 true = some 3329325298 := by kernel_rfl
theorem roots_cube : P64.map (behindN · true) = K.map some := by
  simp only [P64, List.map_cons, List.map_nil, root0, root1, root2, root3, root4, root5, root6, root7, root8, root9, root10, root11, root12, root13, root14, root15, root16, root17, root18, root19, root20, root21, root22, root23, root24, root25, root26, root27, root28, root29, root30, root31, root32, root33, root34, root35, root36, root37, root38, root39, root40, root41, root42, root43, root44, root45, root46, root47, root48, root49, root50, root51, root52, root53, root54, root55, root56, root57, root58, root59, root60, root61, root62, root63]
  rfl
end Go.Proofs.Ythkaigokcognmaa.Sha
