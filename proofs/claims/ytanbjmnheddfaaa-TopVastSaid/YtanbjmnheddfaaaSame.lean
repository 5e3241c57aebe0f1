/- sameRanges, tree.Whole, tiles.count: their walks. Conditions: numbers from 0 to 2 to the power 62 (count: below 2 to the power 63), heights 1 to 8. -/
import Derived.Test.YtanbjmnheddfaaaPath
import Derived.Deep.QuietTactic
import Derived.BigQuiet
namespace Go.Proofs.Ytanbjmnheddfaaa
open Go.RowKit

theorem OwnR.below {w w' : World} {B : Nat} {v : Value} {L : List Rng} (h : OwnR w B v L) (hb : Below w.heap.size w w') : OwnR w' B v L := by
  refine World.ownsRow.kept (row := none) h ⟨hb.os, hb.tape, hb.output, hb.size, fun k hk _ => hb.block k hk⟩ ?_
  cases v.ownBlock <;> simp

theorem OwnR.at {w : World} {B n : Nat} {a : Option Addr} {c : Nat} {L : List Rng} (h : OwnR w B (.slice a n c) L) (hL : L.length = n) (k : Nat) (hk : k < n) : ∃ g x y, a = some ⟨g, 0, none⟩ ∧ L[k]? = some (x, y) ∧ w.cell? ⟨g, k * 2, none⟩ = some (.int .i64 x) ∧ w.cell? ⟨g, k * 2 + 1, none⟩ = some (.int .i64 y) := by
  subst hL
  obtain ⟨x, y, h1, h2, h3⟩ := rc_get L k hk
  have h' := h
  rcases h'.2 with ⟨_, h0⟩ | ⟨g, cap, cur, hv, _⟩
  · omega
  · simp only [Value.slice.injEq] at hv
    obtain ⟨rfl, _, rfl⟩ := hv
    exact ⟨g, x, y, rfl, h1, (World.ownsRow.cellAt h (k * 2) (by omega)).trans h2, (World.ownsRow.cellAt h (k * 2 + 1) (by omega)).trans h3⟩

theorem same_any (w : World) (B1 B2 n : Nat) (a1 a2 : Option Addr) (c1 c2 : Nat) (L : List Rng) (h1 : OwnR w B1 (.slice a1 n c1) L) (h2 : OwnR w B2 (.slice a2 n c2) L) (hL : L.length = n) (hn : n ≤ 1000000) :
    Calls Try.prog 12 #[.slice a1 n c1, .slice a2 n c2] w fun e w' => e = .returned (.bool true) ∧ Below w.heap.size w w' := by
  go_enter Try.func12, Try.ntmps12
  go_wp2
  go_loopw [13] (fun i wr => ∃ (k m : Nat), k ≤ n ∧ i = .int .i64 k ∧ wr = w.drewN m) (fun i _ => n - (intOf i).toNat)
  case atStart => exact ⟨0, 0, Nat.zero_le _, rfl, rfl⟩
  case round =>
    obtain ⟨k, m, hk, rfl, rfl⟩ := hrel
    by_cases hlt : k < n
    · obtain ⟨g1, x, y, rfl, e1, p0, p1⟩ := h1.at hL k hlt
      obtain ⟨g2, x', y', rfl, e2, q0, q1⟩ := h2.at hL k hlt
      rw [e1] at e2
      simp only [Option.some.injEq, Prod.mk.injEq] at e2
      obtain ⟨rfl, rfl⟩ := e2
      have HL := hid (And.intro hL e1)
      clear hL e1
      go_wp2_with fail
      go_quiet (fail)
      go_wp2
      go_roundw
      case rel => exact ⟨k + 1, m + nq, by omega, by go_num, rfl⟩
      case measure => simp [intOf]; omega
    · go_wp2
      go_ret
      exact ⟨rfl, below_drewN (Below.refl _ _) _⟩

theorem div_big {n : Int} {k : Nat} (n0 : 0 ≤ n) (n1 : n ≤ 9223372036854775807) (hk : 63 ≤ k) : n / 2 ^ k = 0 := by
  have e : ((2 : Int) ^ k) = ((2 ^ k : Nat) : Int) := by simp
  have h := Nat.pow_le_pow_right (n := 2) (by decide) hk
  have e2 : (2 : Nat) ^ 63 = 9223372036854775808 := by decide
  exact Int.ediv_eq_zero_of_lt n0 (by rw [e]; omega)

set_option maxHeartbeats 1000000 in
theorem count_any (h l : Nat) (n : Int) (w : World) (h0 : 1 ≤ h) (h1 : h ≤ 8) (hl : l ≤ 1000) (n0 : 0 ≤ n) (n1 : n ≤ 9223372036854775807) :
    Calls Try.prog 19 #[.int .i64 h, .int .i64 l, .int .i64 n] w fun e w' => e = .returned (.int .i64 (n / 2 ^ (h * l))) ∧ w' = w := by
  rcases (show h = 1 ∨ h = 2 ∨ h = 3 ∨ h = 4 ∨ h = 5 ∨ h = 6 ∨ h = 7 ∨ h = 8 by omega) with rfl | rfl | rfl | rfl | rfl | rfl | rfl | rfl
  all_goals
    go_enter Try.func19, Try.ntmps19
    go_wp2
    · go_ret
      refine ⟨ret_eq ?_, rfl⟩
      first | exact (div_big n0 n1 (by omega)).symm | rfl | rw [Nat.one_mul]
    · go_ret
      refine ⟨ret_eq ?_, rfl⟩
      first | exact (div_big n0 n1 (by omega)).symm | rfl | rw [Nat.one_mul]

/-- The whole stretches of n, from bit b - 1 down, from a place on. -/
def wholes (n : Int) : Nat → Int → List Rng
  | 0, _ => []
  | b + 1, a => if n / 2 ^ b % 2 = 1 then (a, a + 2 ^ b) :: wholes n b (a + 2 ^ b) else wholes n b a

theorem i64_and1 (n : Int) : bits .and .i64 n 1 = n % 2 := by
  have h1 : (BitVec.ofInt 64 1).toNat = 2 ^ 1 - 1 := by decide
  have key : (BitVec.ofInt 64 n &&& BitVec.ofInt 64 1).toNat = (n % ((2 ^ 64 : Nat) : Int)).toNat % 2 ^ 1 := by
    rw [BitVec.toNat_and, BitVec.toNat_ofInt, h1, Nat.and_two_pow_sub_one_eq_mod]
  show IntKind.i64.wrap ((BitVec.ofInt 64 n &&& BitVec.ofInt 64 1).toNat : Nat) = n % 2
  rw [key, IntKind.wrap_i64]
  omega

theorem bit_sum (n : Int) (k : Nat) : n / 2 ^ k * 2 ^ k = n / 2 ^ (k + 1) * 2 ^ (k + 1) + (if n / 2 ^ k % 2 = 1 then 2 ^ k else 0) := by
  have e : n / 2 ^ (k + 1) = n / 2 ^ k / 2 := by rw [Int.pow_succ, Int.ediv_ediv_of_nonneg (Int.pow_nonneg (by decide))]
  rw [e, Int.pow_succ]
  generalize n / 2 ^ k = q
  generalize (2 : Int) ^ k = p
  have h : q = q / 2 * 2 + q % 2 := by omega
  split
  · rename_i h1
    rw [h1] at h
    rw [show q / 2 * (p * 2) = q / 2 * 2 * p by rw [Int.mul_comm p 2, Int.mul_assoc]]
    rw [show q * p = (q / 2 * 2 + 1) * p by rw [← h], Int.add_mul, Int.one_mul]
  · have h1 : q % 2 = 0 := by omega
    rw [h1, Int.add_zero] at h
    rw [show q / 2 * (p * 2) = q / 2 * 2 * p by rw [Int.mul_comm p 2, Int.mul_assoc], ← h, Int.add_zero]

theorem bit_le {n : Int} (k : Nat) : n / 2 ^ k * 2 ^ k ≤ n := Int.ediv_mul_le n (by have := Int.pow_pos (n := 2) (m := k) (by decide); omega)

/-- What has been gathered above bit k. -/
structure Wh (n : Int) (k : Nat) (x : Int) (L : List Rng) : Prop where
  ex : x = n / 2 ^ k * 2 ^ k
  l : L.length + k ≤ 63
  eq : L ++ wholes n k x = wholes n 63 0

theorem Wh.yes {n : Int} {k : Nat} {x : Int} {L : List Rng} (h : Wh n (k + 1) x L) (hb : n / 2 ^ k % 2 = 1) : Wh n k (x + 2 ^ k) (L ++ [(x, x + 2 ^ k)]) ∧ x + 2 ^ k ≤ n := by
  have e : x + 2 ^ k = n / 2 ^ k * 2 ^ k := by rw [h.ex, bit_sum n k, if_pos hb]
  refine ⟨⟨e, by have := h.l; simp; omega, ?_⟩, by rw [e]; exact bit_le k⟩
  have := h.eq
  rw [wholes, if_pos hb] at this
  simpa using this

theorem Wh.no {n : Int} {k : Nat} {x : Int} {L : List Rng} (h : Wh n (k + 1) x L) (hb : ¬ n / 2 ^ k % 2 = 1) : Wh n k x L := by
  refine ⟨by rw [h.ex, bit_sum n k, if_neg hb, Int.add_zero], by have := h.l; omega, ?_⟩
  have := h.eq
  rwa [wholes, if_neg hb] at this

theorem whole_any (n : Int) (w : World) (h0 : 1 ≤ n) (h1 : n ≤ 4611686018427387904) :
    Calls Try.prog 13 #[.int .i64 n] w fun e w' => ∃ v, e = .returned v ∧ OwnR w' w.heap.size v (wholes n 63 0) ∧ Below w.heap.size w w' := by
  have hst : Wh n 63 0 [] := ⟨by
    have : n / 2 ^ 63 = 0 := div_big (by omega) (by omega) (by decide)
    rw [this]; rfl, by simp, by simp⟩
  have Hst := hid hst
  clear hst
  go_enter Try.func13, Try.ntmps13
  go_wp2
  go_loopw [3, 4, 5] (fun v a b wr => ∃ (j x : Int) (L : List Rng), a = .int .i64 x ∧ b = .int .i64 j ∧ -1 ≤ j ∧ j ≤ 62 ∧ 0 ≤ x ∧ x ≤ n ∧ Wh n (j + 1).toNat x L ∧ OwnR wr w.heap.size v L ∧ Below w.heap.size w wr)
    (fun _ _ b _ => (intOf b + 1).toNat)
  case atStart => exact ⟨62, 0, [], rfl, rfl, by omega, by omega, by omega, by omega, Hst.out, OwnR.nil _ _, Below.refl _ _⟩
  case round =>
    obtain ⟨j, x, L, rfl, rfl, hj0, hj1, hx0, hx1, hW, hO, hb⟩ := hrel
    have hl := hW.l
    by_cases hj : j = -1
    · subst hj
      have HL := hid hW
      clear hW
      go_wp2
      go_ret
      exact ⟨_, rfl, by have := HL.out.eq; rw [show wholes n (-1 + 1 : Int).toNat x = [] from rfl, List.append_nil] at this; rw [← this]; exact hO, hb⟩
    · obtain ⟨k, rfl⟩ : ∃ k : Nat, j = k := ⟨j.toNat, by omega⟩
      rw [show ((k : Int) + 1).toNat = k + 1 by omega] at hW
      clear hj
      have hp0 : (1 : Int) ≤ 2 ^ k := by have := Int.pow_pos (n := 2) (m := k) (by decide); omega
      by_cases hbit : n / 2 ^ k % 2 = 1
      · obtain ⟨hW', hx2⟩ := hW.yes hbit
        have HL := hid hW'
        have hq : (bits .and .i64 (n / 2 ^ k) 1 == 1) = true := by rw [i64_and1]; simpa using hbit
        have hp1 : (2 : Int) ^ k ≤ 4611686018427387904 := by omega
        have hp2 : x + (2 : Int) ^ k ≤ 4611686018427387904 := by omega
        clear hW hW' hbit
        go_wp2_with (at_builtin; refine app_rng rfl _ _ rfl rfl hO rfl (by omega) hb.size ?_; intro v2 w2 hown2 hg2)
        go_roundw
        case rel => exact ⟨(k : Int) - 1, _, _, rfl, rfl, by omega, by omega, by omega, by omega, by rw [show ((k : Int) - 1 + 1).toNat = k by omega]; exact HL.out, hown2, hb.grown hg2 hb.size (fun k hk => (hO.lt k hk).1)⟩
        case measure => simp [intOf]
      · have hW' := hW.no hbit
        have HL := hid hW'
        have hq : (bits .and .i64 (n / 2 ^ k) 1 == 1) = false := by rw [i64_and1]; simpa using hbit
        clear hW hW' hbit
        go_wp2
        go_roundw
        case rel => exact ⟨(k : Int) - 1, _, _, rfl, rfl, by omega, by omega, by omega, by omega, by rw [show ((k : Int) - 1 + 1).toNat = k by omega]; exact HL.out, hO, hb⟩
        case measure => simp [intOf]

end Go.Proofs.Ytanbjmnheddfaaa
