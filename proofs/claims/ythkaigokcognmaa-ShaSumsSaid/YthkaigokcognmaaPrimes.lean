/- The first 64 primes, as the reference's text finds them. -/
import Derived.Test.YthkaigokcognmaaPprimesx
import Derived.KernelRfl
import Derived.Test.YthkaigokcognmaaRoots
namespace Go.Proofs.Ythkaigokcognmaa.Sha

theorem primes_f : Pprimes.cloisterref04_primes.f 20000 64 = some (P64.map fun n : Nat => (n : Int)) := by kernel_rfl
end Go.Proofs.Ythkaigokcognmaa.Sha
