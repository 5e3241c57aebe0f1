/- notarytop.TopVast answers true for every input, and changes nothing that was there. No condition. -/
import Derived.Test.YtanbjmnheddfaaaVast
import Derived.Deep.RegionHeld3
namespace Go.Proofs.Ytanbjmnheddfaaa
open Go.RowKit

theorem vast_known (w : World) : Calls Try.prog 4 #[.int .i64 4, .int .i64 3, .int .i64 7, .int .i64 1, .int .i64 2] w fun e w' => e = .returned (.bool true) ∧ Below w.heap.size w w' :=
  vast_any 4 3 7 1 2 w (by decide) (by decide) (by decide) (by decide) (by decide) (by decide) (by decide) (by decide)

theorem vast_of (i m n h more : Int) (w : World) (hi0 : 0 ≤ i) (hi : i < n) (hm0 : 0 ≤ m) (hm : m ≤ n) (hn : n ≤ 4611686018427387904) (h1 : 1 ≤ h) (h8 : h ≤ 8) (hk0 : 0 ≤ more) (hk : more ≤ 1000) :
    Calls Try.prog 4 #[.int .i64 i, .int .i64 m, .int .i64 n, .int .i64 h, .int .i64 more] w fun e w' => e = .returned (.bool true) ∧ Below w.heap.size w w' := by
  obtain ⟨a, rfl⟩ := Int.eq_ofNat_of_zero_le (show 0 ≤ h by omega)
  obtain ⟨b, rfl⟩ := Int.eq_ofNat_of_zero_le hk0
  exact vast_any i m n a b w hi0 hi hm0 hm hn (by omega) (by omega) (by omega)

set_option maxHeartbeats 1000000 in
theorem top_any (a0 a1 a2 a3 a4 : Int) (h0 : 0 ≤ a0) (_h0' : a0 ≤ 18446744073709551615) (h1 : 0 ≤ a1) (_h1' : a1 ≤ 18446744073709551615) (h2 : 0 ≤ a2) (h2' : a2 ≤ 18446744073709551615)
    (h3 : -9223372036854775808 ≤ a3) (h3' : a3 ≤ 9223372036854775807) (h4 : -9223372036854775808 ≤ a4) (h4' : a4 ≤ 9223372036854775807) (w : World) :
    Calls Try.prog 3 #[.int .u64 a0, .int .u64 a1, .int .u64 a2, .int .i64 a3, .int .i64 a4] w fun e w' => e = .returned (.bool true) ∧ Below w.heap.size w w' := by
  obtain ⟨S, hS⟩ : ∃ S, 1 + a2 % 4611686018427387904 = S := ⟨_, rfl⟩
  have s0 : 1 ≤ S ∧ S ≤ 4611686018427387904 := by omega
  obtain ⟨I, hI⟩ : ∃ I, a0.tmod S = I := ⟨_, rfl⟩
  obtain ⟨M, hM⟩ : ∃ M, a1.tmod (S + 1) = M := ⟨_, rfl⟩
  have i0 : 0 ≤ I ∧ I < S := by
    rw [← hI, Int.tmod_eq_emod_of_nonneg h0]
    exact ⟨Int.emod_nonneg _ (by omega), Int.emod_lt_of_pos _ (by omega)⟩
  have m0 : 0 ≤ M ∧ M < S + 1 := by
    rw [← hM, Int.tmod_eq_emod_of_nonneg h1]
    exact ⟨Int.emod_nonneg _ (by omega), Int.emod_lt_of_pos _ (by omega)⟩
  obtain ⟨H, hH⟩ : ∃ H, a3 % 8 = H := ⟨_, rfl⟩
  obtain ⟨K, hK⟩ : ∃ K, a4 % 1001 = K := ⟨_, rfl⟩
  have hh : 0 ≤ H ∧ H ≤ 7 := by omega
  have kk : 0 ≤ K ∧ K ≤ 1000 := by omega
  have q1 : ¬ S = 0 := by omega
  have q2 : ¬ S + 1 = 0 := by omega
  have q3 : (S == 0) = false := by simpa using q1
  have q4 : (S + 1 == 0) = false := by simpa using q2
  have x1 := IntWalk.i64_in (S + 1) (by omega)
  have x2 := IntWalk.u64_in S (by omega)
  have x3 := IntWalk.u64_in (S + 1) (by omega)
  have x4 := IntWalk.u64_in I (by omega)
  have x5 := IntWalk.i64_in I (by omega)
  have x6 := IntWalk.u64_in M (by omega)
  have x7 := IntWalk.i64_in M (by omega)
  have x8 := IntWalk.i64_in (1 + H) (by omega)
  go_enter Try.func3, Try.ntmps3
  go_wp2
  go_region_held3 (fun _ => True) (exact trivial) (first
    | (go_at_call 5; refine (within_any _ _ _ (by omega) (by omega) (by omega) (by omega)).mono ?_; rintro e w' ⟨rfl, rfl⟩)
    | (go_at_call 4; ((with_reducible refine (vast_known _).mono ?_); rintro e w1 ⟨rfl, hb1⟩))
    | (go_at_call 4; refine (vast_of I M S (1 + H) K _ (by omega) (by omega) (by omega) (by omega) (by omega) (by omega) (by omega) (by omega) (by omega)).mono ?_; rintro e w2 ⟨rfl, hb2⟩))
  go_wp2
  go_ret
  exact ⟨rfl, nxt (nxt (Below.refl _ w).drew hb1) hb2⟩

end Go.Proofs.Ytanbjmnheddfaaa
