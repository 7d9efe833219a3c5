/- A part of the proof of CrewDigestsUpto (no statement of its own): Ptablex1, Ptablex, RefT, Sha6, Eval, Sha7. -/
import Derived.Test.YthkaigokcognmaaM36
import Derived.Test.YthkaigokcognmaaM35
import Derived.Test.YthkaigokcognmaaM34
import Derived.Deep.RegionLaw
import Derived.KernelRfl
section
namespace Go.Proofs.Ythkaigokcognmaa.Ptable
open Go.RowKit Go.Proofs.YthkaigokcognmaaW.PrintWords Go.Proofs.YthkaigokcognmaaW.PrintLast Go.Proofs.YthkaigokcognmaaW.PrintMore
attribute [local go_sem] max2_int min2_int max_two min_two max_three min_three max_four min_four
set_option linter.unusedVariables false
set_option linter.unusedSimpArgs false
def cloisterref04_table.f  : Option (List Int × List Int) := some ((([1779033703, 3144134277, 1013904242, 2773480762, 1359893119, 2600822924, 528734635, 1541459225] : List Int)), (([1116352408, 1899447441, 3049323471, 3921009573, 961987163, 1508970993, 2453635748, 2870763221, 3624381080, 310598401, 607225278, 1426881987, 1925078388, 2162078206, 2614888103, 3248222580, 3835390401, 4022224774, 264347078, 604807628, 770255983, 1249150122, 1555081692, 1996064986, 2554220882, 2821834349, 2952996808, 3210313671, 3336571891, 3584528711, 113926993, 338241895, 666307205, 773529912, 1294757372, 1396182291, 1695183700, 1986661051, 2177026350, 2456956037, 2730485921, 2820302411, 3259730800, 3345764771, 3516065817, 3600352804, 4094571909, 275423344, 430227734, 506948616, 659060556, 883997877, 958139571, 1322822218, 1537002063, 1747873779, 1955562222, 2024104815, 2227730452, 2361852424, 2428436474, 2756734187, 3204031479, 3329325298] : List Int)))
set_option maxHeartbeats 8000000 in
set_option maxRecDepth 100000 in
theorem cloisterref04_table.calls  (r1 : List Int) (r2 : List Int) (w : World) (h : cloisterref04_table.f  = some (r1, r2)) :
  Calls Try.prog 41 #[] w fun e w' => ∃ v0_ v1_ : Value, e = .returned (.tuple #[v0_, v1_]) ∧ Kd.R (Kd.int .i64) 3 w' w.heap.size (fun k_ => some k_ ≠ (v1_ : Value).ownBlock) v0_ r1 ∧ Kd.R (Kd.int .i64) 3 w' w.heap.size (fun k_ => some k_ ≠ (v0_ : Value).ownBlock) v1_ r2 ∧ Below w.heap.size w w' := by
 have HB := Aside0.mk (Below.refl w.heap.size w)
 have H : (some ((([1779033703, 3144134277, 1013904242, 2773480762, 1359893119, 2600822924, 528734635, 1541459225] : List Int)), (([1116352408, 1899447441, 3049323471, 3921009573, 961987163, 1508970993, 2453635748, 2870763221, 3624381080, 310598401, 607225278, 1426881987, 1925078388, 2162078206, 2614888103, 3248222580, 3835390401, 4022224774, 264347078, 604807628, 770255983, 1249150122, 1555081692, 1996064986, 2554220882, 2821834349, 2952996808, 3210313671, 3336571891, 3584528711, 113926993, 338241895, 666307205, 773529912, 1294757372, 1396182291, 1695183700, 1986661051, 2177026350, 2456956037, 2730485921, 2820302411, 3259730800, 3345764771, 3516065817, 3600352804, 4094571909, 275423344, 430227734, 506948616, 659060556, 883997877, 958139571, 1322822218, 1537002063, 1747873779, 1955562222, 2024104815, 2227730452, 2361852424, 2428436474, 2756734187, 3204031479, 3329325298] : List Int)))) = some (r1, r2) := h
 clear h
 obtain ⟨y101, hy101⟩ : ∃ y_ : List Int, y_ = (([1779033703, 3144134277, 1013904242, 2773480762, 1359893119, 2600822924, 528734635, 1541459225] : List Int)) := ⟨_, rfl⟩
 replace H : (some (y101, (([1116352408, 1899447441, 3049323471, 3921009573, 961987163, 1508970993, 2453635748, 2870763221, 3624381080, 310598401, 607225278, 1426881987, 1925078388, 2162078206, 2614888103, 3248222580, 3835390401, 4022224774, 264347078, 604807628, 770255983, 1249150122, 1555081692, 1996064986, 2554220882, 2821834349, 2952996808, 3210313671, 3336571891, 3584528711, 113926993, 338241895, 666307205, 773529912, 1294757372, 1396182291, 1695183700, 1986661051, 2177026350, 2456956037, 2730485921, 2820302411, 3259730800, 3345764771, 3516065817, 3600352804, 4094571909, 275423344, 430227734, 506948616, 659060556, 883997877, 958139571, 1322822218, 1537002063, 1747873779, 1955562222, 2024104815, 2227730452, 2361852424, 2428436474, 2756734187, 3204031479, 3329325298] : List Int)))) = some (r1, r2) := by first | (rw [hy101]; with_reducible exact H) | (have H2_ := (Option.bind_some _ _).symm.trans H; rw [hy101]; with_reducible exact H2_) | (have H2_ := (Option.bind_some _ _).symm.trans H; with_reducible exact H2_) | with_reducible exact H | (rw [hy101]; exact H) | exact H
 have Ny101 := Aside0.mk hy101
 clear hy101
 obtain ⟨y104, hy104⟩ : ∃ y_ : List Int, y_ = (([1116352408, 1899447441, 3049323471, 3921009573, 961987163, 1508970993, 2453635748, 2870763221, 3624381080, 310598401, 607225278, 1426881987, 1925078388, 2162078206, 2614888103, 3248222580, 3835390401, 4022224774, 264347078, 604807628, 770255983, 1249150122, 1555081692, 1996064986, 2554220882, 2821834349, 2952996808, 3210313671, 3336571891, 3584528711, 113926993, 338241895, 666307205, 773529912, 1294757372, 1396182291, 1695183700, 1986661051, 2177026350, 2456956037, 2730485921, 2820302411, 3259730800, 3345764771, 3516065817, 3600352804, 4094571909, 275423344, 430227734, 506948616, 659060556, 883997877, 958139571, 1322822218, 1537002063, 1747873779, 1955562222, 2024104815, 2227730452, 2361852424, 2428436474, 2756734187, 3204031479, 3329325298] : List Int)) := ⟨_, rfl⟩
 replace H : (some (y101, y104)) = some (r1, r2) := by first | (rw [hy104]; with_reducible exact H) | (have H2_ := (Option.bind_some _ _).symm.trans H; rw [hy104]; with_reducible exact H2_) | (have H2_ := (Option.bind_some _ _).symm.trans H; with_reducible exact H2_) | with_reducible exact H | (rw [hy104]; exact H) | exact H
 have Ny104 := Aside0.mk hy104
 clear hy104
 simp only [Option.some.injEq, Prod.mk.injEq] at H
 obtain ⟨rfl, rfl⟩ := H
 go_enter Try.func41, Try.ntmps41
 go_wp2_with (first | ((with_reducible refine gate_dst (N := 2) rfl ?_); refine Kd.R_lit (Kd.int .i64) _ 3 ?hg (N := 2) ?hd (xs := ([1779033703, 3144134277, 1013904242, 2773480762, 1359893119, 2600822924, 528734635, 1541459225] : List Int)) (inner := [.int .i64 1779033703, .int .i64 3144134277, .int .i64 1013904242, .int .i64 2773480762, .int .i64 1359893119, .int .i64 2600822924, .int .i64 528734635, .int .i64 1541459225]) (ok := fun _ => True) (okp := fun _ => True) ?hr ?hp (fun _ hk => hk) trivial (Below.refl _ _) (Nat.le_refl _) (by simp) ?_; (case hd => rfl); (case hg => rfl); (case hr => first | (go_simp; done) | (go_simp; rfl)); (case hp => exact (Reps.one (show Kd.M (Kd.int .i64) _ _ _ 1779033703 [.int .i64 1779033703] from rfl) (Reps.one (show Kd.M (Kd.int .i64) _ _ _ 3144134277 [.int .i64 3144134277] from rfl) (Reps.one (show Kd.M (Kd.int .i64) _ _ _ 1013904242 [.int .i64 1013904242] from rfl) (Reps.one (show Kd.M (Kd.int .i64) _ _ _ 2773480762 [.int .i64 2773480762] from rfl) (Reps.one (show Kd.M (Kd.int .i64) _ _ _ 1359893119 [.int .i64 1359893119] from rfl) (Reps.one (show Kd.M (Kd.int .i64) _ _ _ 2600822924 [.int .i64 2600822924] from rfl) (Reps.one (show Kd.M (Kd.int .i64) _ _ _ 528734635 [.int .i64 528734635] from rfl) (Reps.one (show Kd.M (Kd.int .i64) _ _ _ 1541459225 [.int .i64 1541459225] from rfl) (Reps.none _ _)))))))))); intro v102 w1 ho2 hb hg_ hnew_; clear hg_ hnew_; (first | rw [← Ny101.out] at ho2 | (simp only [Int.reduceToNat] at ho2; rw [← Ny101.out] at ho2)); have n0_ := Aside0.mk (Kd.R_lower ho2 (below_size (by repeat (first | (with_reducible first | exact HB.out | apply below_alloc | apply pw_below_drewN | apply below_drew1) | exact HB.out)))); have n1_ := Aside0.mk (below_step (by repeat (first | (with_reducible first | exact HB.out | apply below_alloc | apply pw_below_drewN | apply below_drew1) | exact HB.out)) hb); clear HB; have HO103 := n0_; have HB := n1_; clear n0_ n1_; clear hb ho2) | ((with_reducible refine gate_dst (N := 3) rfl ?_); refine Kd.R_lit (Kd.int .i64) _ 3 ?hg (N := 3) ?hd (xs := ([1116352408, 1899447441, 3049323471, 3921009573, 961987163, 1508970993, 2453635748, 2870763221, 3624381080, 310598401, 607225278, 1426881987, 1925078388, 2162078206, 2614888103, 3248222580, 3835390401, 4022224774, 264347078, 604807628, 770255983, 1249150122, 1555081692, 1996064986, 2554220882, 2821834349, 2952996808, 3210313671, 3336571891, 3584528711, 113926993, 338241895, 666307205, 773529912, 1294757372, 1396182291, 1695183700, 1986661051, 2177026350, 2456956037, 2730485921, 2820302411, 3259730800, 3345764771, 3516065817, 3600352804, 4094571909, 275423344, 430227734, 506948616, 659060556, 883997877, 958139571, 1322822218, 1537002063, 1747873779, 1955562222, 2024104815, 2227730452, 2361852424, 2428436474, 2756734187, 3204031479, 3329325298] : List Int)) (inner := [.int .i64 1116352408, .int .i64 1899447441, .int .i64 3049323471, .int .i64 3921009573, .int .i64 961987163, .int .i64 1508970993, .int .i64 2453635748, .int .i64 2870763221, .int .i64 3624381080, .int .i64 310598401, .int .i64 607225278, .int .i64 1426881987, .int .i64 1925078388, .int .i64 2162078206, .int .i64 2614888103, .int .i64 3248222580, .int .i64 3835390401, .int .i64 4022224774, .int .i64 264347078, .int .i64 604807628, .int .i64 770255983, .int .i64 1249150122, .int .i64 1555081692, .int .i64 1996064986, .int .i64 2554220882, .int .i64 2821834349, .int .i64 2952996808, .int .i64 3210313671, .int .i64 3336571891, .int .i64 3584528711, .int .i64 113926993, .int .i64 338241895, .int .i64 666307205, .int .i64 773529912, .int .i64 1294757372, .int .i64 1396182291, .int .i64 1695183700, .int .i64 1986661051, .int .i64 2177026350, .int .i64 2456956037, .int .i64 2730485921, .int .i64 2820302411, .int .i64 3259730800, .int .i64 3345764771, .int .i64 3516065817, .int .i64 3600352804, .int .i64 4094571909, .int .i64 275423344, .int .i64 430227734, .int .i64 506948616, .int .i64 659060556, .int .i64 883997877, .int .i64 958139571, .int .i64 1322822218, .int .i64 1537002063, .int .i64 1747873779, .int .i64 1955562222, .int .i64 2024104815, .int .i64 2227730452, .int .i64 2361852424, .int .i64 2428436474, .int .i64 2756734187, .int .i64 3204031479, .int .i64 3329325298]) (ok := fun _ => True) (okp := fun _ => True) ?hr ?hp (fun _ hk => hk) trivial (Below.refl _ _) (Nat.le_refl _) (by simp) ?_; (case hd => rfl); (case hg => rfl); (case hr => first | (go_simp; done) | (go_simp; rfl)); (case hp => exact (Reps.one (show Kd.M (Kd.int .i64) _ _ _ 1116352408 [.int .i64 1116352408] from rfl) (Reps.one (show Kd.M (Kd.int .i64) _ _ _ 1899447441 [.int .i64 1899447441] from rfl) (Reps.one (show Kd.M (Kd.int .i64) _ _ _ 3049323471 [.int .i64 3049323471] from rfl) (Reps.one (show Kd.M (Kd.int .i64) _ _ _ 3921009573 [.int .i64 3921009573] from rfl) (Reps.one (show Kd.M (Kd.int .i64) _ _ _ 961987163 [.int .i64 961987163] from rfl) (Reps.one (show Kd.M (Kd.int .i64) _ _ _ 1508970993 [.int .i64 1508970993] from rfl) (Reps.one (show Kd.M (Kd.int .i64) _ _ _ 2453635748 [.int .i64 2453635748] from rfl) (Reps.one (show Kd.M (Kd.int .i64) _ _ _ 2870763221 [.int .i64 2870763221] from rfl) (Reps.one (show Kd.M (Kd.int .i64) _ _ _ 3624381080 [.int .i64 3624381080] from rfl) (Reps.one (show Kd.M (Kd.int .i64) _ _ _ 310598401 [.int .i64 310598401] from rfl) (Reps.one (show Kd.M (Kd.int .i64) _ _ _ 607225278 [.int .i64 607225278] from rfl) (Reps.one (show Kd.M (Kd.int .i64) _ _ _ 1426881987 [.int .i64 1426881987] from rfl) (Reps.one (show Kd.M (Kd.int .i64) _ _ _ 1925078388 [.int .i64 1925078388] from rfl) (Reps.one (show Kd.M (Kd.int .i64) _ _ _ 2162078206 [.int .i64 2162078206] from rfl) (Reps.one (show Kd.M (Kd.int .i64) _ _ _ 2614888103 [.int .i64 2614888103] from rfl) (Reps.one (show Kd.M (Kd.int .i64) _ _ _ 3248222580 [.int .i64 3248222580] from rfl) (Reps.one (show Kd.M (Kd.int .i64) _ _ _ 3835390401 [.int .i64 3835390401] from rfl) (Reps.one (show Kd.M (Kd.int .i64) _ _ _ 4022224774 [.int .i64 4022224774] from rfl) (Reps.one (show Kd.M (Kd.int .i64) _ _ _ 264347078 [.int .i64 264347078] from rfl) (Reps.one (show Kd.M (Kd.int .i64) _ _ _ 604807628 [.int .i64 604807628] from rfl) (Reps.one (show Kd.M (Kd.int .i64) _ _ _ 770255983 [.int .i64 770255983] from rfl) (Reps.one (show Kd.M (Kd.int .i64) _ _ _ 1249150122 [.int .i64 1249150122] from rfl) (Reps.one (show Kd.M (Kd.int .i64) _ _ _ 1555081692 [.int .i64 1555081692] from rfl) (Reps.one (show Kd.M (Kd.int .i64) _ _ _ 1996064986 [.int .i64 1996064986] from rfl) (Reps.one (show Kd.M (Kd.int .i64) _ _ _ 2554220882 [.int .i64 2554220882] from rfl) (Reps.one (show Kd.M (Kd.int .i64) _ _ _ 2821834349 [.int .i64 2821834349] from rfl) (Reps.one (show Kd.M (Kd.int .i64) _ _ _ 2952996808 [.int .i64 2952996808] from rfl) (Reps.one (show Kd.M (Kd.int .i64) _ _ _ 3210313671 [.int .i64 3210313671] from rfl) (Reps.one (show Kd.M (Kd.int .i64) _ _ _ 3336571891 [.int .i64 3336571891] from rfl) (Reps.one (show Kd.M (Kd.int .i64) _ _ _ 3584528711 [.int .i64 3584528711] from rfl) (Reps.one (show Kd.M (Kd.int .i64) _ _ _ 113926993 [.int .i64 113926993] from rfl) (Reps.one (show Kd.M (Kd.int .i64) _ _ _ 338241895 [.int .i64 338241895] from rfl) (Reps.one (show Kd.M (Kd.int .i64) _ _ _ 666307205 [.int .i64 666307205] from rfl) (Reps.one (show Kd.M (Kd.int .i64) _ _ _ 773529912 [.int .i64 773529912] from rfl) (Reps.one (show Kd.M (Kd.int .i64) _ _ _ 1294757372 [.int .i64 1294757372] from rfl) (Reps.one (show Kd.M (Kd.int .i64) _ _ _ 1396182291 [.int .i64 1396182291] from rfl) (Reps.one (show Kd.M (Kd.int .i64) _ _ _ 1695183700 [.int .i64 1695183700] from rfl) (Reps.one (show Kd.M (Kd.int .i64) _ _ _ 1986661051 [.int .i64 1986661051] from rfl) (Reps.one (show Kd.M (Kd.int .i64) _ _ _ 2177026350 [.int .i64 2177026350] from rfl) (Reps.one (show Kd.M (Kd.int .i64) _ _ _ 2456956037 [.int .i64 2456956037] from rfl) (Reps.one (show Kd.M (Kd.int .i64) _ _ _ 2730485921 [.int .i64 2730485921] from rfl) (Reps.one (show Kd.M (Kd.int .i64) _ _ _ 2820302411 [.int .i64 2820302411] from rfl) (Reps.one (show Kd.M (Kd.int .i64) _ _ _ 3259730800 [.int .i64 3259730800] from rfl) (Reps.one (show Kd.M (Kd.int .i64) _ _ _ 3345764771 [.int .i64 3345764771] from rfl) (Reps.one (show Kd.M (Kd.int .i64) _ _ _ 3516065817 [.int .i64 3516065817] from rfl) (Reps.one (show Kd.M (Kd.int .i64) _ _ _ 3600352804 [.int .i64 3600352804] from rfl) (Reps.one (show Kd.M (Kd.int .i64) _ _ _ 4094571909 [.int .i64 4094571909] from rfl) (Reps.one (show Kd.M (Kd.int .i64) _ _ _ 275423344 [.int .i64 275423344] from rfl) (Reps.one (show Kd.M (Kd.int .i64) _ _ _ 430227734 [.int .i64 430227734] from rfl) (Reps.one (show Kd.M (Kd.int .i64) _ _ _ 506948616 [.int .i64 506948616] from rfl) (Reps.one (show Kd.M (Kd.int .i64) _ _ _ 659060556 [.int .i64 659060556] from rfl) (Reps.one (show Kd.M (Kd.int .i64) _ _ _ 883997877 [.int .i64 883997877] from rfl) (Reps.one (show Kd.M (Kd.int .i64) _ _ _ 958139571 [.int .i64 958139571] from rfl) (Reps.one (show Kd.M (Kd.int .i64) _ _ _ 1322822218 [.int .i64 1322822218] from rfl) (Reps.one (show Kd.M (Kd.int .i64) _ _ _ 1537002063 [.int .i64 1537002063] from rfl) (Reps.one (show Kd.M (Kd.int .i64) _ _ _ 1747873779 [.int .i64 1747873779] from rfl) (Reps.one (show Kd.M (Kd.int .i64) _ _ _ 1955562222 [.int .i64 1955562222] from rfl) (Reps.one (show Kd.M (Kd.int .i64) _ _ _ 2024104815 [.int .i64 2024104815] from rfl) (Reps.one (show Kd.M (Kd.int .i64) _ _ _ 2227730452 [.int .i64 2227730452] from rfl) (Reps.one (show Kd.M (Kd.int .i64) _ _ _ 2361852424 [.int .i64 2361852424] from rfl) (Reps.one (show Kd.M (Kd.int .i64) _ _ _ 2428436474 [.int .i64 2428436474] from rfl) (Reps.one (show Kd.M (Kd.int .i64) _ _ _ 2756734187 [.int .i64 2756734187] from rfl) (Reps.one (show Kd.M (Kd.int .i64) _ _ _ 3204031479 [.int .i64 3204031479] from rfl) (Reps.one (show Kd.M (Kd.int .i64) _ _ _ 3329325298 [.int .i64 3329325298] from rfl) (Reps.none _ _)))))))))))))))))))))))))))))))))))))))))))))))))))))))))))))))))); intro v105 w3 ho4 hb hg_ hnew_; clear hg_ hnew_; (first | rw [← Ny104.out] at ho4 | (simp only [Int.reduceToNat] at ho4; rw [← Ny104.out] at ho4)); have n0_ := Aside0.mk (Kd.R_elder' (by (with_reducible repeat (first | apply Kd.R_alloc | apply Kd.R_drewN | apply Kd.R_drew)); exact HO103.out) (Kd.R_base ho4) hb); have n1_ := Aside0.mk (Kd.R_lower (Kd.R_new' ho4 (Kd.R_lt (by (with_reducible repeat (first | apply Kd.R_alloc | apply Kd.R_drewN | apply Kd.R_drew)); exact HO103.out))) (below_size (by repeat (first | (with_reducible first | exact HB.out | apply below_alloc | apply pw_below_drewN | apply below_drew1) | exact HB.out)))); have n2_ := Aside0.mk (below_step (by repeat (first | (with_reducible first | exact HB.out | apply below_alloc | apply pw_below_drewN | apply below_drew1) | exact HB.out)) hb); clear HO103; clear HB; have HO103 := n0_; have HO106 := n1_; have HB := n2_; clear n0_ n1_ n2_; clear hb ho4))
 go_ret2
 exact ⟨_, _, by first | rfl | (simp [errW_none, errW_some] <;> rfl) | (simp [*, errW_none, errW_some] <;> rfl), by (with_reducible repeat (first | apply Kd.R_alloc | apply Kd.R_drewN | apply Kd.R_drew)); exact Kd.R_mono HO103.out (fun _ hk => hk.2), by (with_reducible repeat (first | apply Kd.R_alloc | apply Kd.R_drewN | apply Kd.R_drew)); exact Kd.R_mono HO106.out (fun _ hk => hk.2), by repeat (first | (with_reducible first | exact HB.out | apply below_alloc | apply pw_below_drewN | apply below_drew1) | exact HB.out)⟩
end Go.Proofs.Ythkaigokcognmaa.Ptable
end
section
end
section
namespace Go.Proofs.Ythkaigokcognmaa.Sha
open Go.RowKit
open Go.Proofs.YthkaigokcognmaaW.PrintWords (Kd)
def RootsPost (w : World) (e : Ending) (w' : World) : Prop :=
 ∃ g1 c1 g2 c2 : Nat, e = .returned (.tuple #[.slice (some ⟨g1, 0, none⟩) 8 c1, .slice (some ⟨g2, 0, none⟩) 64 c2]) ∧ 8 ≤ c1 ∧ 64 ≤ c2 ∧ StC w' g1 H0 ∧ Kd.C (Kd.int .i64) w' (some ⟨g2, 0, none⟩) 64 (ints K) ∧ Fr [] w w'
theorem table_any (w : World) : Calls Try.prog 41 #[] w (RootsPost w) := by
 refine (Go.Proofs.Ythkaigokcognmaa.Ptable.cloisterref04_table.calls (ints H0.list) (ints K) w rfl).mono fun e w' ⟨v1, v2, he, hR1, hR2, hB⟩ => ?_
 have hl : (ints H0.list).length = 8 := rfl
 have hk : (ints K).length = 64 := rfl
 obtain ⟨g1, cap1, rfl, _, _, _⟩ := Kd.R_form hR1 (by rw [hl]; omega)
 obtain ⟨g2, cap2, rfl, _, _, _⟩ := Kd.R_form hR2 (by rw [hk]; omega)
 obtain ⟨A, c, e1, h2, h3⟩ := Kd.R_reads hR1
 obtain ⟨A', c', e1', h2', h3'⟩ := Kd.R_reads hR2
 rw [hl] at h2 h3 e1
 rw [hk] at h2' h3' e1'
 rw [hl, hk] at he
 cases e1
 cases e1'
 exact ⟨g1, _, g2, _, he, h2, h2', h3, h3', Fr.ofBelow hB⟩
def DigPost (s : ByteArray) (w : World) (e : Ending) (w' : World) : Prop := e = .returned (.string (strOf (digest (bytesOf s)))) ∧ Fr [] w w'
theorem rsum_any (s : ByteArray) (hn : s.size ≤ 140737488355200) (w : World) : Calls Try.prog 15 #[.string s] w (DigPost s w) := by
 go_enter Try.func15, Try.ntmps15
 go_wp2_with fail
 refine (table_any _).mono ?_
 rintro e w1 ⟨g1, c1, g2, c2, rfl, h1, h2, hS, hK, F1⟩
 go_wp2_with fail
 refine (digest_any H0 H0_ok s hn g1 c1 _ c2 _ hS h1 hK h2).mono ?_
 rintro e w2 ⟨rfl, F2⟩
 have hfin : DigPost s w (.returned (.string (strOf (outB (run ((padded (bytesOf s)).length / 64) (padded (bytesOf s)) H0).list)))) w2 := ⟨rfl, F1.trans F2 (by simp)⟩
 clear hS hK
 go_wp2_with fail
 go_ret
 exact hfin
end Go.Proofs.Ythkaigokcognmaa.Sha
end
section
namespace Go.Proofs.Ythkaigokcognmaa.Sha
open Go.RowKit
theorem sumS_any (s : ByteArray) (w : World) (hn : s.size < 288230376151711744) : Calls Try.prog 13 #[.string s] w (SumPost (bytesOf s) w) := by
 go_enter Try.func13, Try.ntmps13
 go_wp2_with fail
 refine (new_any _).mono ?_
 rintro e w1 ⟨b, rfl, hb, hB, F1⟩
 go_wp2_with fail
 refine (write_any [] s b _ ⟨⟨#[]⟩, hB, rfl⟩ (by simp; omega)).mono ?_
 rintro e w2 ⟨rfl, hR, F2⟩
 rw [List.nil_append] at hR
 go_wp2_with fail
 refine (sum_any _ b _ hR (by rw [bytesOf_len]; omega)).mono ?_
 rintro e w3 ⟨rfl, F3⟩
 have hfin : SumPost (bytesOf s) w (.returned (.string (strOf (digest (bytesOf s))))) w3 := ⟨rfl, (F1.step F2 (by simp; exact hb)).step F3 (by simp)⟩
 go_wp2
 go_ret
 exact hfin
def dig (n : Nat) : Nat := if n < 10 then 48 + n else 87 + n
def hexL : List Nat → List Nat
 | [] => []
 | b :: l => dig (b / 16) :: dig (b % 16) :: hexL l
theorem hexL_append (a b : List Nat) : hexL (a ++ b) = hexL a ++ hexL b := by
 induction a with
 | nil => rfl
 | cons x a ih => simp [hexL, ih]
theorem hexL_len (a : List Nat) : (hexL a).length = 2 * a.length := by
 induction a with
 | nil => rfl
 | cons x a ih => simp [hexL, ih]; omega
theorem dig_lt {n : Nat} (h : n < 16) : dig n < 256 := by unfold dig; split <;> omega
theorem hexL_lt : ∀ {l : List Nat}, (∀ x ∈ l, x < 256) → ∀ x ∈ hexL l, x < 256
 | [], _, x, hx => by cases hx
 | b :: l, h, x, hx => by
  have hb := h b (by simp)
  simp only [hexL, List.mem_cons] at hx
  rcases hx with rfl | rfl | hx
  ·exact dig_lt (by omega)
  ·exact dig_lt (by omega)
  ·exact hexL_lt (fun y hy => h y (by simp [hy])) x hx
def D16 : ByteArray := ⟨#[48, 49, 50, 51, 52, 53, 54, 55, 56, 57, 97, 98, 99, 100, 101, 102]⟩
theorem dig_index (n : Nat) (h : n < 16) (W : World) : (Instr.index 9 (.string D16) (.int .u8 (n : Int))).run Try.prog W = .ok (.int .u8 ((dig n : Nat) : Int)) W := by
 rcases (show n = 0 ∨ n = 1 ∨ n = 2 ∨ n = 3 ∨ n = 4 ∨ n = 5 ∨ n = 6 ∨ n = 7 ∨ n = 8 ∨ n = 9 ∨ n = 10 ∨ n = 11 ∨ n = 12 ∨ n = 13 ∨ n = 14 ∨ n = 15 by omega) with rfl | rfl | rfl | rfl | rfl | rfl | rfl | rfl | rfl | rfl | rfl | rfl | rfl | rfl | rfl | rfl <;> kernel_rfl
theorem and15 : ∀ n : Nat, n < 256 → bits .and .u8 (n : Int) 15 = ((n % 16 : Nat) : Int) := by decide +kernel
def HexPost (s : ByteArray) (w : World) (e : Ending) (w' : World) : Prop := e = .returned (.string (strOf (hexL (bytesOf s)))) ∧ Fr [] w w'
theorem bytes_get (s : ByteArray) (k : Nat) (h : k < s.size) : (bytesOf s).take (k + 1) = (bytesOf s).take k ++ [s[k].toNat] := by
 rw [List.take_succ_eq_append_getElem (by rw [bytesOf_len]; exact h)]
 simp [bytesOf]; rfl
set_option maxRecDepth 10000 in
set_option maxHeartbeats 1000000 in
theorem hex_any (s : ByteArray) (w : World) (hn : s.size ≤ 70368744177664) : Calls Try.prog 23 #[.string s] w (HexPost s w) := by
 obtain ⟨i0, hi, hz0, hz1, hz2⟩ := info_parts info5
 obtain ⟨M, hM⟩ : ∃ M, M = madeCells (Value.int .u8 0).cells ((2 * (s.size : Int)).toNat * i0.size) := ⟨_, rfl⟩
 have hmk : ∀ W : World, (Instr.makeSlice 35 (.int .i64 0) (.int .i64 (2 * (s.size : Int)))).run Try.prog W = .ok (.slice (some ⟨W.heap.size, 0, none⟩) 0 (2 * s.size)) (W.alloc (.cells M 5)) := fun W => by
  have h := run_make (P := Try.prog) W 35 5 i0 (.int .u8 0) Try.underlying35 hi hz0 .i64 .i64 0 (2 * (s.size : Int)) (by omega) (by omega) (by rw [hz2]; omega) (by omega)
  rw [← hM] at h
  have e : (2 * (s.size : Int)).toNat = 2 * s.size := by omega
  simpa [e] using h
 have hMs : M.size = 2 * s.size := by rw [hM, size_madeCells, hz1]; simp; omega
 clear hM
 have hrow : GRow U8 (w.alloc (.cells M 5)) w.heap.size (.slice (some ⟨w.heap.size, 0, none⟩) 0 (2 * s.size)) ([] : List Nat) := by
  have hB := Blk.new w 5 M
  refine .inr ⟨w.heap.size, 2 * s.size, rfl, Nat.le_refl _, by simp, by unfold maxLen; omega, by simp, fun j hj => ⟨?_, hB.frozen _⟩, fun j u hu => by simp at hu⟩
  rw [hB.cell, Nat.zero_add, Array.getElem?_eq_getElem (by omega)]; rfl
 have F1 : Fr [] w (w.alloc (.cells M 5)) := (Fr.refl _ _).alloc _
 go_enter Try.func23, Try.ntmps23
 go_wp2_with fail
 go_loopw [3, 11] (fun s3 s11 W => ∃ k g cap : Nat, s11 = .int .i64 k ∧ k ≤ s.size ∧ s3 = .slice (some ⟨g, 0, none⟩) (2 * k) cap ∧ GRow U8 W w.heap.size s3 (hexL ((bytesOf s).take k)) ∧ Fr [] w W) (fun _ i _ => s.size - (intOf i).toNat)
 case atStart => exact ⟨0, w.heap.size, 2 * s.size, rfl, by omega, rfl, hrow, F1⟩
 case round =>
  obtain ⟨k, g, cap, rfl, hk, rfl, hr, F⟩ := hrel
  by_cases hlt : k < s.size
  ·have hb := s[k].toNat_lt
   have hd1 : ∀ W, (Instr.index 9 (.string ⟨#[48, 49, 50, 51, 52, 53, 54, 55, 56, 57, 97, 98, 99, 100, 101, 102]⟩) (.int .u8 ((s[k].toNat : Int) / 16))).run Try.prog W = .ok (.int .u8 ((dig (s[k].toNat / 16) : Nat) : Int)) W := fun W => by
    have := dig_index (s[k].toNat / 16) (by omega) W
    rwa [show ((s[k].toNat / 16 : Nat) : Int) = (s[k].toNat : Int) / 16 by omega] at this
   have hd2 : ∀ W, (Instr.index 9 (.string ⟨#[48, 49, 50, 51, 52, 53, 54, 55, 56, 57, 97, 98, 99, 100, 101, 102]⟩) (.int .u8 (bits .and .u8 (s[k].toNat : Int) 15))).run Try.prog W = .ok (.int .u8 ((dig (s[k].toNat % 16) : Nat) : Int)) W := fun W => by
    have := dig_index (s[k].toNat % 16) (by omega) W
    rwa [← and15 _ hb] at this
   have hlt' : (k : Int) < (s.size : Int) := by omega
   have hnx : hexL ((bytesOf s).take (k + 1)) = hexL ((bytesOf s).take k) ++ [dig (s[k].toNat / 16), dig (s[k].toNat % 16)] := by rw [bytes_get s k hlt, hexL_append]; rfl
   have HNX := Lib.hid hnx
   clear hnx
   go_wp2_with fail
   go_region_law (refine step_append_g rfl (.tmp 14) (.tmp 25) 35 rfl (fun _ => rfl) w.heap.size 5 i0 _ 1 Try.underlying35 hi hz0 hz1 hz2 rfl rfl (hr.far ((Fr.refl [] wr).drew.alloc _)) ⟨wr.heap.size, 0, none⟩ 2 2 [dig (s[k].toNat / 16), dig (s[k].toNat % 16)] rfl rfl (World.news_of_block (heap_alloc_new wr.drew _)) (by rw [hexL_len, List.length_take, bytesOf_len]; unfold maxLen; omega) (by rw [hexL_len, List.length_take, bytesOf_len]; omega) (Nat.le_trans F.size (by simp)) ?_; intro v2 w2 hr2 hg2)
   all_goals (
    have hr3 : GRow U8 w2 w.heap.size v2 (hexL ((bytesOf s).take (k + 1))) := by rw [HNX.out]; exact hr2
    have F3 := Fr.step_row (F.drew.alloc _) hg2 (hr.far ((Fr.refl [] wr).drew.alloc _)) (Nat.le_refl _)
    obtain ⟨g2, cap2, rfl, hg3⟩ := hr3.some_ (n := 2 * (k + 1)) (by rw [hexL_len, List.length_take, bytesOf_len]; omega) (by omega)
    clear hg2 hr2 hd1 hd2
    go_wp2_with fail
    go_roundw
    case rel => exact ⟨k + 1, g2, cap2, by go_num, by omega, rfl, hr3, F3⟩
    case measure => simp [intOf]; omega)
  ·have hk' : ¬ (k : Int) < (s.size : Int) := by omega
   have hkk : k = s.size := by omega
   have ht : (bytesOf s).take k = bytesOf s := List.take_of_length_le (by rw [bytesOf_len]; omega)
   have hrng := hr.range rfl 0 (2 * k)
   have hl2 : (hexL ((bytesOf s).take k)).length = 2 * k := by rw [hexL_len, List.length_take, bytesOf_len]; omega
   rw [List.drop_zero, List.take_of_length_le (by omega)] at hrng
   have hcv := conv_bytes (P := Try.prog) cap 35 5 9 Try.underlying35 Try.underlying5 Try.underlying9 (by rw [ht]; exact hexL_lt (bytesOf_lt s)) hrng
   rw [hl2] at hcv
   have hres : HexPost s w (.returned (.string (strOf (hexL ((bytesOf s).take k))))) wr := ⟨by rw [ht], F⟩
   clear ht hl2 hkk
   generalize strOf (hexL ((bytesOf s).take k)) = str at hcv hres
   go_wp2_with fail
   go_ret
   exact hres
end Go.Proofs.Ythkaigokcognmaa.Sha
end
section
end
section
end
