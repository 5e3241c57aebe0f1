/- The contracts of math/bits.Len64, tree.Split, notarytop.halved and notarytop.within: what numbers they answer. Condition: the argument lies in its kind's range. -/
import Derived.Test.YtanbjmnheddfaaaBase
namespace Go.Proofs.Ytanbjmnheddfaaa
open Go.RowKit

theorem blen_pos (x : Int) (h : 1 ≤ x) (h1 : x ≤ 9223372036854775807) : 1 ≤ blen x ∧ blen x ≤ 63 := by
  unfold blen
  rw [if_neg (by omega)]
  have : x.toNat.log2 < 63 := (Nat.log2_lt (by omega)).2 (by
    have e : (2 : Nat) ^ 63 = 9223372036854775808 := by decide
    omega)
  omega

theorem blen_bd (x : Int) (h : x < 18446744073709551616) : 0 ≤ blen x ∧ blen x ≤ 64 := by
  unfold blen
  by_cases h0 : x ≤ 0
  · rw [if_pos h0]; omega
  · rw [if_neg h0]
    have : x.toNat.log2 < 64 := (Nat.log2_lt (by omega)).2 (by have e : (2 : Nat) ^ 64 = 18446744073709551616 := by decide
                                                               omega)
    omega

theorem ret_eq {k : IntKind} {a b : Int} (h : a = b) : Ending.returned (.int k a) = .returned (.int k b) := by rw [h]

theorem s32 {x : Int} (h : 4294967296 ≤ x) : blen x = blen (x / 4294967296) + 32 := blen_shift x 32 (by simpa using h)
theorem s16 {x : Int} (h : 65536 ≤ x) : blen x = blen (x / 65536) + 16 := blen_shift x 16 (by simpa using h)
theorem s8 {x : Int} (h : 256 ≤ x) : blen x = blen (x / 256) + 8 := blen_shift x 8 (by simpa using h)
theorem bsmall (y : Int) (h : y < 256) : wrap64 (blen y) = blen y := by
  have := blen_bd y (by omega)
  unfold wrap64
  omega
theorem bsum (c y : Int) (h : y < 256) (h0 : 0 ≤ c) (h1 : c ≤ 100) : wrap64 (c + blen y) = c + blen y := by
  have := blen_bd y (by omega)
  unfold wrap64
  omega

set_option maxRecDepth 100000 in
set_option maxHeartbeats 400000 in
theorem len64_any (x : Int) (w : World) (h0 : 0 ≤ x) (h1 : x ≤ 18446744073709551615) :
    Calls Try.prog 20 #[.int .u64 x] w fun e w' => e = .returned (.int .i64 (blen x)) ∧ w' = w := by
  go_enter Try.func20, Try.ntmps20
  go_wp2
  all_goals
    go_ret
    refine ⟨ret_eq ?_, rfl⟩
    rw [len_tab, Int.toNat_of_nonneg (by omega), bsmall _ (by omega)]
  · rw [bsum _ _ (by omega) (by decide) (by decide)]; have := s32 ‹_›; have := s16 ‹_›; have := s8 ‹_›; omega
  · rw [bsum _ _ (by omega) (by decide) (by decide)]; have := s32 ‹_›; have := s16 ‹_›; omega
  · rw [bsum _ _ (by omega) (by decide) (by decide)]; have := s32 ‹_›; have := s8 ‹_›; omega
  · rw [bsum _ _ (by omega) (by decide) (by decide)]; have := s32 ‹_›; omega
  · rw [bsum _ _ (by omega) (by decide) (by decide)]; have := s16 ‹_›; have := s8 ‹_›; omega
  · rw [bsum _ _ (by omega) (by decide) (by decide)]; have := s16 ‹_›; omega
  · rw [bsum _ _ (by omega) (by decide) (by decide)]; have := s8 ‹_›; omega
  · rw [bsmall _ (by omega)]

theorem sp_blen {n : Int} (h : 2 ≤ n) : (2 : Int) ^ ((blen (n - 1)).toNat - 1) = sp n := by
  unfold sp blen
  rw [if_neg (by omega), if_neg (by omega)]
  have : (n - 1).toNat = n.toNat - 1 := by omega
  rw [this]
  congr 1

theorem split_lo (n : Int) (w : World) (h : n < 2) :
    Calls Try.prog 15 #[.int .i64 n] w fun e w' => e = .returned (.int .i64 (sp n)) ∧ w' = w := by
  go_enter Try.func15, Try.ntmps15
  go_wp2
  go_ret
  exact ⟨ret_eq (sp_lo h).symm, rfl⟩

theorem split_hi (n : Int) (w : World) (h : 2 ≤ n) (h1 : n ≤ 9223372036854775807) :
    Calls Try.prog 15 #[.int .i64 n] w fun e w' => e = .returned (.int .i64 (sp n)) ∧ w' = w := by
  have hb := blen_pos (n - 1) (by omega) (by omega)
  go_enter Try.func15, Try.ntmps15
  go_wp2_with (go_at_call 20; refine (len64_any _ _ (by omega) (by omega)).mono ?_; rintro e w' ⟨rfl, rfl⟩)
  go_ret
  refine ⟨ret_eq ?_, rfl⟩
  show wrap64 (2 ^ ((blen (n - 1)).toNat - 1)) = sp n
  have hs := sp_bd h
  rw [sp_blen h]
  unfold wrap64
  omega

theorem halved_any (n : Int) (w : World) (h : 2 ≤ n) (h1 : n ≤ 4611686018427387904) :
    Calls Try.prog 18 #[.int .i64 n] w fun e w' => e = .returned (.int .i64 (sp n)) ∧ w' = w := by
  go_enter Try.func18, Try.ntmps18
  go_wp2
  go_loop [3] (fun k => ∃ z : Int, 1 ≤ z ∧ z < n ∧ (∃ j : Nat, z = 2 ^ j) ∧ k = .int .i64 z) (fun k => (n - intOf k).toNat)
  case atStart => exact ⟨1, by omega, by omega, ⟨0, rfl⟩, rfl⟩
  case round =>
    obtain ⟨z, hz1, hz2, hz3, rfl⟩ := hrel
    have H := hid hz3
    clear hz3
    go_wp2
    · go_round
      case rel => exact ⟨2 * z, by omega, by omega, by obtain ⟨j, hj⟩ := H.out; exact ⟨j + 1, by rw [hj, Int.pow_succ]; omega⟩, rfl⟩
      case measure => simp [intOf]; omega
    · go_ret
      obtain ⟨j, hj⟩ := H.out
      exact ⟨ret_eq (by rw [hj]; exact (sp_uniq h (by omega) (by omega)).symm), rfl⟩

theorem within_any (n m : Int) (w : World) (h : 1 ≤ m) (h1 : m ≤ 4611686018427387904) (_h2 : -9223372036854775808 ≤ n) (_h3 : n ≤ 9223372036854775807) :
    Calls Try.prog 5 #[.int .i64 n, .int .i64 m] w fun e w' => e = .returned (.int .i64 (n % m)) ∧ w' = w := by
  have hb : -4611686018427387904 ≤ n.tmod m ∧ n.tmod m ≤ 4611686018427387904 := by
    have := Int.lt_tmod_of_pos n (b := m) (by omega)
    have := Int.tmod_lt_of_pos n (b := m) (by omega)
    omega
  have he : n % m = n.tmod m + if 0 ≤ n ∨ m ∣ n then 0 else m := by
    rw [Int.tmod_eq_emod]
    split <;> omega
  have hl := Int.emod_nonneg n (b := m) (by omega)
  have hu := Int.emod_lt_of_pos n (b := m) (by omega)
  have H := hid (And.intro he (And.intro hl hu))
  clear he hl hu
  go_enter Try.func5, Try.ntmps5
  go_wp2
  · have hneg : n.tmod m < 0 := by assumption
    go_ret
    refine ⟨ret_eq ?_, rfl⟩
    obtain ⟨he, hl, hu⟩ := H.out
    split at he <;> omega
  · have hpos : 0 ≤ n.tmod m := by assumption
    go_ret
    refine ⟨ret_eq ?_, rfl⟩
    obtain ⟨he, hl, hu⟩ := H.out
    split at he <;> omega

end Go.Proofs.Ytanbjmnheddfaaa
