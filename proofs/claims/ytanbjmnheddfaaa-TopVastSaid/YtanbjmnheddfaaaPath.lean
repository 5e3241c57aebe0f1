/- tree.Path: a loop that gathers from the whole down, then turns the list round: it answers what climbs answers. incl.Len and cons.Size tell how long. Conditions: 0 to 2 to the power 62. -/
import Derived.Test.YtanbjmnheddfaaaRev
import Derived.Test.YtanbjmnheddfaaaStepsB
namespace Go.Proofs.Ytanbjmnheddfaaa
open Go.RowKit

theorem sp_le {n : Int} : 0 ≤ sp n := by
  by_cases h : n < 2
  · rw [sp_lo h]; omega
  · have := sp_bd (n := n) (by omega); omega

theorem split_any (n : Int) (w : World) (h : n ≤ 9223372036854775807) : Calls Try.prog 15 #[.int .i64 n] w fun e w' => e = .returned (.int .i64 (sp n)) ∧ w' = w := by
  by_cases h2 : n < 2
  · exact split_lo n w h2
  · exact split_hi n w (by omega) h

/-- What is gathered on the way down: with the rest it is the whole. -/
structure Down (i n : Int) (f : Nat) (x y : Int) (L : List Rng) : Prop where
  h : 2 * (y - x) ≤ 2 ^ f
  lf : L.length + f ≤ 63
  eq : climb i f x y ++ L.reverse = climb i 63 0 n

theorem Down.left {i n : Int} {f : Nat} {x y : Int} {L : List Rng} (h : Down i n f x y L) (h1 : ¬ y - x ≤ 1) (h2 : i < x + sp (y - x)) : ∃ f', Down i n f' x (x + sp (y - x)) (L ++ [(x + sp (y - x), y)]) := by
  cases f with
  | zero => have := h.h; simp at this; omega
  | succ f =>
    have hp := half_pow h.h
    refine ⟨f, ?_, by have := h.lf; simp; omega, ?_⟩
    · have := sp_half (n := y - x) (by omega) hp; omega
    · have := h.eq
      rw [climb, if_neg h1, if_pos h2] at this
      simpa using this

theorem Down.right {i n : Int} {f : Nat} {x y : Int} {L : List Rng} (h : Down i n f x y L) (h1 : ¬ y - x ≤ 1) (h2 : ¬ i < x + sp (y - x)) : ∃ f', Down i n f' (x + sp (y - x)) y (L ++ [(x, x + sp (y - x))]) := by
  cases f with
  | zero => have := h.h; simp at this; omega
  | succ f =>
    have hp := half_pow h.h
    refine ⟨f, ?_, by have := h.lf; simp; omega, ?_⟩
    · have := sp_half (n := y - x) (by omega) hp; have := sp_bd (n := y - x) (by omega); omega
    · have := h.eq
      rw [climb, if_neg h1, if_neg h2] at this
      simpa using this

theorem Down.done {i n : Int} {f : Nat} {x y : Int} {L : List Rng} (h : Down i n f x y L) (h1 : y - x ≤ 1) : L.reverse = climb i 63 0 n := by
  rw [← h.eq]
  cases f with
  | zero => rfl
  | succ f => rw [climb, if_pos h1]; rfl

set_option maxHeartbeats 1000000 in
theorem path_any (i n : Int) (w : World) (h0 : 0 ≤ i) (h1 : i < n) (h2 : n ≤ 4611686018427387904) :
    Calls Try.prog 6 #[.int .i64 i, .int .i64 n] w fun e w' => ∃ v, e = .returned (.tuple #[v, .int .i64 0]) ∧ OwnR w' w.heap.size v (climb i 63 0 n) ∧ Below w.heap.size w w' := by
  go_enter Try.func6, Try.ntmps6
  go_wp2
  go_loopw [6, 7, 8] (fun v a b wr => ∃ (f : Nat) (x y : Int) (L : List Rng), a = .int .i64 x ∧ b = .int .i64 y ∧ 0 ≤ x ∧ x ≤ i ∧ i < y ∧ y ≤ n ∧ Down i n f x y L ∧ OwnR wr w.heap.size v L ∧ Below w.heap.size w wr)
    (fun _ a b _ => (intOf b - intOf a).toNat)
  case atStart => exact ⟨63, 0, n, [], rfl, rfl, by omega, h0, h1, by omega, ⟨by omega, by simp, by simp⟩, OwnR.nil _ _, Below.refl _ _⟩
  case round =>
    obtain ⟨f, x, y, L, rfl, rfl, b0, b1, b2, b3, hD, hO, hb⟩ := hrel
    have hlf := hD.lf
    by_cases hyx : y - x ≤ 1
    · have hR := hid (hD.done hyx)
      clear hD
      go_wp2_with (go_at_call 16; refine (rev_own _ _ _ _ hO (by omega)).mono ?_; rintro e w1 ⟨rfl, hO1, hb1⟩)
      go_ret2
      exact ⟨_, rfl, by rw [← hR.out]; exact hO1, hb.trans hb1⟩
    · have hs := sp_bd (n := y - x) (by omega)
      by_cases hk : i < x + sp (y - x)
      · have hL := hid (hD.left hyx hk)
        clear hD
        go_wp2_with (first | (go_at_call 15; refine (split_any _ _ (by omega)).mono ?_; rintro e w' ⟨rfl, rfl⟩) | (at_builtin; refine app_rng rfl _ _ rfl rfl hO rfl (by omega) hb.size ?_; intro v2 w2 hown2 hg2))
        go_roundw
        case rel =>
          obtain ⟨f', hD'⟩ := hL.out
          exact ⟨f', x, _, _, rfl, rfl, by omega, by omega, by omega, by omega, hD', hown2, hb.grown hg2 hb.size (fun k hk => (hO.lt k hk).1)⟩
        case measure => simp [intOf]; omega
      · have hL := hid (hD.right hyx hk)
        clear hD
        go_wp2_with (first | (go_at_call 15; refine (split_any _ _ (by omega)).mono ?_; rintro e w' ⟨rfl, rfl⟩) | (at_builtin; refine app_rng rfl _ _ rfl rfl hO rfl (by omega) hb.size ?_; intro v2 w2 hown2 hg2))
        go_roundw
        case rel =>
          obtain ⟨f', hD'⟩ := hL.out
          exact ⟨f', _, y, _, rfl, rfl, by omega, by omega, by omega, by omega, hD', hown2, hb.grown hg2 hb.size (fun k hk => (hO.lt k hk).1)⟩
        case measure => simp [intOf]; omega

theorem OwnR.len {w : World} {B : Nat} {v : Value} {L : List Rng} (h : OwnR w B v L) : ∃ a cap, v = .slice a L.length cap := by
  rcases h.2 with ⟨rfl, h0⟩ | ⟨g, cap, cur, rfl, _⟩
  · exact ⟨none, 0, by rw [h0]⟩
  · exact ⟨_, _, rfl⟩

theorem incl_len (i n : Int) (w : World) (h0 : 0 ≤ i) (h1 : i < n) (h2 : n ≤ 4611686018427387904) :
    Calls Try.prog 8 #[.int .i64 i, .int .i64 n] w fun e w' => e = .returned (.tuple #[.int .i64 (climb i 63 0 n).length, .int .i64 0]) ∧ Below w.heap.size w w' := by
  go_enter Try.func8, Try.ntmps8
  go_wp2_with (go_at_call 6; refine (path_any _ _ _ h0 h1 h2).mono ?_; rintro e w1 ⟨v1, rfl, hO1, hb1⟩; obtain ⟨a1, c1, rfl⟩ := hO1.len)
  go_ret2
  exact ⟨rfl, hb1⟩

theorem cons_size (m n : Int) (w : World) (h0 : 1 ≤ m) (h1 : m ≤ n) (h2 : n ≤ 4611686018427387904) :
    Calls Try.prog 9 #[.int .i64 m, .int .i64 n] w fun e w' => e = .returned (.tuple #[.int .i64 (goes m 63 0 n true).length, .int .i64 0]) ∧ Below w.heap.size w w' := by
  go_enter Try.func9, Try.ntmps9
  go_wp2_with (go_at_call 7; refine (steps_any _ _ _ h0 h1 h2 63 (by omega) (by omega)).mono ?_; rintro e w1 ⟨v1, rfl, hO1, hb1⟩; obtain ⟨a1, c1, rfl⟩ := hO1.len)
  go_ret2
  exact ⟨rfl, hb1⟩

theorem cons_size0 (n : Int) (w : World) (h1 : 0 ≤ n) :
    Calls Try.prog 9 #[.int .i64 0, .int .i64 n] w fun e w' => e = .returned (.tuple #[.int .i64 0, .int .i64 0]) ∧ Below w.heap.size w w' := by
  go_enter Try.func9, Try.ntmps9
  go_wp2_with (go_at_call 7; refine (steps_none _ _ h1).mono ?_; rintro e w1 ⟨v1, rfl, hO1, hb1⟩; obtain ⟨a1, c1, rfl⟩ := hO1.len)
  go_ret2
  exact ⟨rfl, hb1⟩

end Go.Proofs.Ytanbjmnheddfaaa
