/- goesOn and tree.Steps: both answer the same list of stretches. Conditions: the numbers lie in 0 to 2 to the power 62. -/
import Derived.Test.YtanbjmnheddfaaaRngs
import Derived.OneCell
namespace Go.Proofs.Ytanbjmnheddfaaa
open Go.RowKit

/-- The stretches by which one size goes on another. -/
def goes (m : Int) : Nat → Int → Int → Bool → List Rng
  | 0, _, _, _ => []
  | f + 1, a, b, t => if m = b then (if t then [] else [(a, b)]) else
    if m ≤ a + sp (b - a) then goes m f a (a + sp (b - a)) t ++ [(a + sp (b - a), b)] else goes m f (a + sp (b - a)) b false ++ [(a, a + sp (b - a))]

theorem goes_len (m : Int) (f : Nat) : ∀ a b t, (goes m f a b t).length ≤ f := by
  induction f with
  | zero => intro a b t; simp [goes]
  | succ f ih =>
    intro a b t
    unfold goes
    split
    · split <;> simp
    · split
      · have := ih a (a + sp (b - a)) t; simp; omega
      · have := ih (a + sp (b - a)) b false; simp; omega

set_option maxHeartbeats 1000000 in
theorem goesOn_any (m : Int) (f : Nat) : ∀ (a b : Int) (t : Bool) (w : World), 0 ≤ a → a < m → m ≤ b → b ≤ 4611686018427387904 → 2 * (b - a) ≤ 2 ^ f → f ≤ 1000000 →
    Calls Try.prog 11 #[.int .i64 m, .int .i64 a, .int .i64 b, .bool t] w fun e w' => ∃ v, e = .returned v ∧ OwnR w' w.heap.size v (goes m f a b t) ∧ Below w.heap.size w w' := by
  induction f with
  | zero => intro a b t w h0 h1 h2 h3 _ _; rename_i h4 _; simp at h4; omega
  | succ f ih =>
    intro a b t w h0 h1 h2 h3 h4 h5
    have hp := half_pow h4
    clear h4
    by_cases hmb : m = b
    · have hq : (m == b) = true := by simpa using hmb
      cases t with
      | true =>
        have H : Hid (goes m (f + 1) a b true = []) := hid (by simp [goes, hmb])
        clear hmb
        go_enter Try.func11, Try.ntmps11
        go_wp2_with fail
        go_ret
        exact ⟨_, rfl, by rw [H.out]; exact OwnR.nil _ _, Below.refl _ _⟩
      | false =>
        have H : Hid (goes m (f + 1) a b false = [] ++ [(a, b)]) := hid (by simp [goes, hmb])
        clear hmb
        go_enter Try.func11, Try.ntmps11
        go_wp2_with fail
        go_ret
        refine ⟨_, rfl, ?_, (Below.refl _ _).alloc (Nat.le_refl _) _⟩
        rw [H.out]
        exact ⟨rfl, .inr ⟨w.heap.size, 1, _, rfl, Nat.le_refl _, heap_alloc_new w _, Nat.le_refl _, by unfold maxLen; omega, rfl, rfl⟩⟩
    · have hq : (m == b) = false := by simpa using hmb
      have hs := sp_bd (n := b - a) (by omega)
      have hs2 := sp_half (n := b - a) (by omega) hp
      by_cases hk : m ≤ a + sp (b - a)
      · have hl := goes_len m f a (a + sp (b - a)) t
        have H : Hid (goes m (f + 1) a b t = goes m f a (a + sp (b - a)) t ++ [(a + sp (b - a), b)]) := hid (by rw [goes, if_neg hmb, if_pos hk])
        clear hmb
        go_enter Try.func11, Try.ntmps11
        go_wp2_with (first | (go_at_call 18; refine (halved_any _ _ (by omega) (by omega)).mono ?_; rintro e w' ⟨rfl, rfl⟩) | (go_at_call 11; refine (ih a (a + sp (b - a)) t _ (by omega) (by omega) (by omega) (by omega) (by omega) (by omega)).mono ?_; rintro e w1 ⟨v1, rfl, hown, hb⟩) | (at_builtin; refine app_rng rfl _ _ rfl rfl hown rfl (by omega) hb.size ?_; intro v2 w2 hown2 hg2))
        go_ret
        exact ⟨_, rfl, by rw [H.out]; exact hown2, hb.grown hg2 hb.size (fun k hk => (hown.lt k hk).1)⟩
      · have hl := goes_len m f (a + sp (b - a)) b false
        have H : Hid (goes m (f + 1) a b t = goes m f (a + sp (b - a)) b false ++ [(a, a + sp (b - a))]) := hid (by rw [goes, if_neg hmb, if_neg hk])
        clear hmb
        go_enter Try.func11, Try.ntmps11
        go_wp2_with (first | (go_at_call 18; refine (halved_any _ _ (by omega) (by omega)).mono ?_; rintro e w' ⟨rfl, rfl⟩) | (go_at_call 11; refine (ih (a + sp (b - a)) b false _ (by omega) (by omega) (by omega) (by omega) (by omega) (by omega)).mono ?_; rintro e w1 ⟨v1, rfl, hown, hb⟩) | (at_builtin; refine app_rng rfl _ _ rfl rfl hown rfl (by omega) hb.size ?_; intro v2 w2 hown2 hg2))
        go_ret
        exact ⟨_, rfl, by rw [H.out]; exact hown2, hb.grown hg2 hb.size (fun k hk => (hown.lt k hk).1)⟩

end Go.Proofs.Ytanbjmnheddfaaa
