/- Stretches: the lists that tree.Path, tree.Steps, climbs and goesOn answer, and their walks. Conditions: the numbers lie in 0 to 2 to the power 62. -/
import Derived.Test.YtanbjmnheddfaaaNums
namespace Go.Proofs.Ytanbjmnheddfaaa
open Go.RowKit

abbrev Rng := Int × Int
/-- A list of stretches as cells. -/
def rc (L : List Rng) : List Value := L.flatMap fun r => [.int .i64 r.1, .int .i64 r.2]
theorem rc_len (L : List Rng) : (rc L).length = L.length * 2 := by
  induction L with
  | nil => rfl
  | cons r L ih => simp only [rc, List.flatMap_cons, List.length_append, List.length_cons, List.length_nil] at ih ⊢; omega
theorem rc_snoc (L : List Rng) (x y : Int) : rc (L ++ [(x, y)]) = rc L ++ [.int .i64 x, .int .i64 y] := by simp [rc]

/-- A slice of stretches that the call owns. -/
def OwnR (w : World) (B : Nat) (v : Value) (L : List Rng) : Prop := w.ownsRow B 37 2 v L.length (rc L)

theorem Try.info37 : (Try.prog.info? 37).map (fun i => (i.zero, i.size, i.bytes)) = some (some (.agg #[.int .i64 0, .int .i64 0]), 2, 16) := by kernel_rfl

theorem OwnR.nil (w : World) (B : Nat) : OwnR w B (.slice none 0 0) [] := World.ownsRow_nil _ _ _ _
theorem OwnR.mono {w : World} {B B' : Nat} {v : Value} {L : List Rng} (h : OwnR w B v L) (hB : B' ≤ B) : OwnR w B' v L := by
  obtain ⟨h1, h2⟩ := h
  refine ⟨h1, ?_⟩
  rcases h2 with h2 | ⟨g, cap, cur, hv, hg, r⟩
  · exact .inl h2
  · exact .inr ⟨g, cap, cur, hv, by omega, r⟩

theorem app_rng {w : World} {ops : Array Oper} {rest : List Oper} {o : Oper} {a : Act} {Q : Exit → Act → World → Prop} (hgd : o.guard = none) (s t : Operand)
    (ho : o.op = .call { callee := .builtin .append, args := #[s, t], argTypes := #[26, 26] })
    {B : Nat} {v : Value} {L : List Rng} {x y : Int} (hs : a.eval s = v) (hown : OwnR w B v L) (ht : a.eval t = .slice (some ⟨w.heap.size, 0, none⟩) 1 1)
    (hl : L.length ≤ 1000000) (hB : B ≤ w.heap.size)
    (h : ∀ v' w', OwnR w' B v' (L ++ [(x, y)]) → w.grownBy w' v.ownBlock → wpList Try.prog ops Q rest (a.put o.dst v') w') :
    wpList Try.prog ops Q (o :: rest) a (w.alloc (.cells #[.int .i64 x, .int .i64 y] 37)) := by
  obtain ⟨i0, hi, hz0, hz1, hz2⟩ := info_parts Try.info37
  refine wpList_append_own _ hgd s t 26 ho B 37 i0 _ 2 16 Try.underlying26 hi hz0 hz1 hz2 rfl (by decide) v L.length (rc L) hs (World.ownsRow.alloc hown _) ⟨w.heap.size, 0, none⟩ 1 1 [.int .i64 x, .int .i64 y] ht rfl ?_ ?_ ?_ ?_ ?_ ?_
  · intro j u hj
    match j, hj with
    | 0, hj => simp at hj; subst hj; exact World.cell?_alloc_at _ _ _ _ rfl
    | 1, hj => simp at hj; subst hj; exact World.cell?_alloc_at _ _ _ _ rfl
  · intro u hu; simp at hu; rcases hu with rfl | rfl <;> rfl
  · unfold maxLen; omega
  · omega
  · simp; omega
  · intro v' w' h1 h2 _
    refine h v' w' ?_ ⟨h2.os, h2.tape, h2.output, ?_, ?_⟩
    · unfold OwnR; rw [rc_snoc, List.length_append]; exact h1
    · have := h2.size; simp at this; omega
    · intro k hk hne
      rw [h2.block k (by simp; omega) hne]
      exact Below.heap_alloc _ _ _ hk

/-- The stretches beside the way of a number, the lowest first. -/
def climb (i : Int) : Nat → Int → Int → List Rng
  | 0, _, _ => []
  | f + 1, a, b => if b - a ≤ 1 then [] else
    if i < a + sp (b - a) then climb i f a (a + sp (b - a)) ++ [(a + sp (b - a), b)] else climb i f (a + sp (b - a)) b ++ [(a, a + sp (b - a))]

theorem half_pow {n : Int} {f : Nat} (h : 2 * n ≤ 2 ^ (f + 1)) : n ≤ 2 ^ f := by rw [Int.pow_succ] at h; omega

theorem sp_half {n : Int} {f : Nat} (h : 2 ≤ n) (h1 : n ≤ 2 ^ f) : 2 * sp n ≤ 2 ^ f := by
  unfold sp
  rw [if_neg (by omega)]
  have e : ((2 : Int) ^ f) = ((2 ^ f : Nat) : Int) := by simp
  have e2 : ((2 : Int) ^ (n.toNat - 1).log2) = ((2 ^ (n.toNat - 1).log2 : Nat) : Int) := by simp
  rw [e] at h1
  rw [e, e2]
  have h3 : (n.toNat - 1).log2 < f := (Nat.log2_lt (by omega)).2 (by omega)
  have h4 : 2 ^ ((n.toNat - 1).log2 + 1) ≤ 2 ^ f := Nat.pow_le_pow_right (by decide) h3
  rw [Nat.pow_succ] at h4
  omega

theorem climb_len (i : Int) (f : Nat) : ∀ a b, (climb i f a b).length ≤ f := by
  induction f with
  | zero => intro a b; simp [climb]
  | succ f ih =>
    intro a b
    unfold climb
    split
    · simp
    · split
      · have := ih a (a + sp (b - a)); simp; omega
      · have := ih (a + sp (b - a)) b; simp; omega

theorem climbs_any (i : Int) (hi0 : 0 ≤ i) (hi1 : i ≤ 4611686018427387904) (f : Nat) : ∀ (a b : Int) (w : World), 0 ≤ a → a < b → b ≤ 4611686018427387904 → 2 * (b - a) ≤ 2 ^ f → f ≤ 1000000 →
    Calls Try.prog 10 #[.int .i64 i, .int .i64 a, .int .i64 b] w fun e w' => ∃ v, e = .returned v ∧ OwnR w' w.heap.size v (climb i f a b) ∧ Below w.heap.size w w' := by
  induction f with
  | zero => intro a b w h0 h1 h2 h3 _; simp at h3; omega
  | succ f ih =>
    intro a b w h0 h1 h2 h3 h4
    have hp := half_pow h3
    clear h3
    by_cases hab : b - a ≤ 1
    · have e1 : climb i (f + 1) a b = [] := by unfold climb; rw [if_pos hab]
      have H := hid e1
      clear e1
      go_enter Try.func10, Try.ntmps10
      go_wp2_with fail
      go_ret
      refine ⟨_, rfl, ?_, Below.refl _ _⟩
      rw [H.out]
      exact OwnR.nil _ _
    · have hs := sp_bd (n := b - a) (by omega)
      have hs2 := sp_half (n := b - a) (by omega) hp
      by_cases hk : i < a + sp (b - a)
      · have hl := climb_len i f a (a + sp (b - a))
        have H : Hid (climb i (f + 1) a b = climb i f a (a + sp (b - a)) ++ [(a + sp (b - a), b)]) := hid (by rw [climb, if_neg hab, if_pos hk])
        have hq : (b - a == 1) = false := by simp; omega
        go_enter Try.func10, Try.ntmps10
        go_wp2_with (first | (go_at_call 18; refine (halved_any _ _ (by omega) (by omega)).mono ?_; rintro e w' ⟨rfl, rfl⟩) | (go_at_call 10; refine (ih a (a + sp (b - a)) _ (by omega) (by omega) (by omega) (by omega) (by omega)).mono ?_; rintro e w1 ⟨v1, rfl, hown, hb⟩) | (at_builtin; refine app_rng rfl _ _ rfl rfl hown rfl (by omega) hb.size ?_; intro v2 w2 hown2 hg2))
        go_ret
        exact ⟨_, rfl, by rw [H.out]; exact hown2, hb.grown hg2 hb.size (fun k hk => (hown.lt k hk).1)⟩
      · have hl := climb_len i f (a + sp (b - a)) b
        have H : Hid (climb i (f + 1) a b = climb i f (a + sp (b - a)) b ++ [(a, a + sp (b - a))]) := hid (by rw [climb, if_neg hab, if_neg hk])
        have hq : (b - a == 1) = false := by simp; omega
        go_enter Try.func10, Try.ntmps10
        go_wp2_with (first | (go_at_call 18; refine (halved_any _ _ (by omega) (by omega)).mono ?_; rintro e w' ⟨rfl, rfl⟩) | (go_at_call 10; refine (ih (a + sp (b - a)) b _ (by omega) (by omega) (by omega) (by omega) (by omega)).mono ?_; rintro e w1 ⟨v1, rfl, hown, hb⟩) | (at_builtin; refine app_rng rfl _ _ rfl rfl hown rfl (by omega) hb.size ?_; intro v2 w2 hown2 hg2))
        go_ret
        exact ⟨_, rfl, by rw [H.out]; exact hown2, hb.grown hg2 hb.size (fun k hk => (hown.lt k hk).1)⟩

end Go.Proofs.Ytanbjmnheddfaaa
