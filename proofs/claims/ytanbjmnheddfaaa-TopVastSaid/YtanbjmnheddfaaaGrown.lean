/- tiles.Grown: its walk. Conditions: heights 1 to 8, sizes from 0 to 2 to the power 62, at most 1000 more. -/
import Derived.Test.YtanbjmnheddfaaaPlcs
namespace Go.Proofs.Ytanbjmnheddfaaa
open Go.RowKit

theorem plv_snoc (F b l : Int) (k : Nat) : ∀ i, plv F b l (k + 1) i = plv F b l k i ++ [(l, i + k, mn F (b - (i + k) * F))] := by
  induction k with
  | zero => intro i; simp [plv]
  | succ k ih =>
    intro i
    rw [plv, ih (i + 1), plv, List.cons_append]
    rw [show i + 1 + (k : Int) = i + ((k + 1 : Nat) : Int) by omega]

theorem many_pos {F a b : Int} (h : a < b) (hF : 1 ≤ F) : (many F a b : Int) = (b - 1) / F - a / F + 1 := by
  unfold many
  rw [if_pos h]
  have := Int.ediv_le_ediv (a := a) (b := b - 1) (c := F) (by omega) (by omega)
  omega

set_option maxHeartbeats 4000000 in
theorem grown_any (h : Nat) (x y : Int) (w : World) (h1 : 1 ≤ h) (h8 : h ≤ 8) (hx : 0 ≤ x) (hxy : x ≤ y) (hy : y ≤ x + 1000) (hx2 : x ≤ 4611686018427387904) :
    Calls Try.prog 14 #[.int .i64 h, .int .i64 x, .int .i64 y] w fun e w' => ∃ v, e = .returned (.tuple #[v, .int .i64 0]) ∧ OwnP w' w.heap.size v (dues h x y 64 0) ∧ Below w.heap.size w w' := by
  obtain ⟨F, hF⟩ : ∃ F : Int, (2 : Int) ^ h = F := ⟨_, rfl⟩
  have hF2 := pow_h h1 h8
  rw [hF] at hF2
  go_enter Try.func14, Try.ntmps14
  go_wp2
  go_loopw [9, 10] (fun v a wr => ∃ (k l : Nat) (L : List Plc), k + l = 64 ∧ a = .int .i64 l ∧ L.length ≤ 1000 * l ∧ L ++ dues h x y k l = dues h x y 64 0 ∧ OwnP wr w.heap.size v L ∧ Below w.heap.size w wr)
    (fun _ a _ => (64 - intOf a).toNat)
  case atStart => exact ⟨64, 0, [], rfl, rfl, by simp, by simp, OwnP.nil _ _, Below.refl _ _⟩
  case round =>
    obtain ⟨k, l, L, hkl, rfl, hl, hD, hO, hb⟩ := hrel
    obtain ⟨A, hA⟩ : ∃ A : Int, x / 2 ^ (h * l) = A := ⟨_, rfl⟩
    obtain ⟨B, hB⟩ : ∃ B : Int, y / 2 ^ (h * l) = B := ⟨_, rfl⟩
    have a0 : 0 ≤ A := by rw [← hA]; exact lvl_nonneg hx
    have ab : A ≤ B := by rw [← hA, ← hB]; exact lvl_mono hxy
    have ba : B ≤ A + 1000 := by
      have e : y = x + (y - x) := by omega
      have := lvl_le (h := h) (l := l) (x := x) (m := y - x) (by omega)
      rw [← e] at this
      unfold lvl at this
      rw [hA, hB] at this
      omega
    have ax : A ≤ x := by rw [← hA]; exact lvl_self_le hx
    have hend : k = 0 → B = 0 := fun h0 => by rw [← hB]; exact lvl_end h1 (by omega) (by omega) (by omega)
    by_cases hB0 : 0 < B
    · obtain ⟨k, rfl⟩ : ∃ k', k = k' + 1 := ⟨k - 1, by omega⟩
      rw [dues] at hD
      unfold lvl at hD
      rw [hA, hB, hF, if_pos hB0] at hD
      have hm := many_le (F := F) (a := A) (b := B) (by omega) ba
      clear hend
      by_cases hAB : A = B
      · have hm0 : many F A B = 0 := by unfold many; rw [if_neg (by omega)]
        rw [hm0] at hD
        have HD := hid hD
        have hq : (A == B) = true := by simpa using hAB
        clear hD hAB hm0
        go_wp2_with (go_at_call 19; refine (count_any _ _ _ _ (by omega) (by omega) (by omega) (by omega) (by omega)).mono ?_; rintro e w' ⟨rfl, rfl⟩)
        go_roundw
        case rel => exact ⟨k, l + 1, L, by omega, by go_num, by omega, by simpa [plv] using HD.out, hO, hb⟩
        case measure => simp [intOf]; omega
      · have hq : (A == B) = false := by simpa using hAB
        have hmp := many_pos (F := F) (a := A) (b := B) (by omega) (by omega)
        have hd0 : 0 ≤ A / F := Int.ediv_nonneg a0 (by omega)
        have hd1 : A / F ≤ A := Int.ediv_le_self _ a0
        have hd2 : (B - 1) / F ≤ B - 1 := Int.ediv_le_self _ (by omega)
        have HD := hid (And.intro hD hmp)
        have HF := hid hF
        clear hD
        go_wp2_with (go_at_call 19; refine (count_any _ _ _ _ (by omega) (by omega) (by omega) (by omega) (by omega)).mono ?_; rintro e w' ⟨rfl, rfl⟩)
        go_quiet (fail)
        go_wp2
        go_loopw [9, 13] (fun v i wr => ∃ (j : Nat), i = .int .i64 (A / F + j) ∧ (j : Int) ≤ (B - 1) / F - A / F + 1 ∧ OwnP wr w.heap.size v (L ++ plv F B l j (A / F)) ∧ Below w.heap.size w wr)
          (fun _ i _ => ((B - 1) / F + 1 - intOf i).toNat)
        case atStart => exact ⟨0, by simp, by omega, by rw [show plv F B l 0 (A / F) = [] from rfl, List.append_nil]; exact hO, below_drewN hb _⟩
        case round =>
          obtain ⟨j, rfl, hj, hO2, hb2⟩ := hrel
          have hlen : (L ++ plv F B l j (A / F)).length = L.length + j := by rw [List.length_append, plv_len]
          by_cases hlt : A / F + j ≤ (B - 1) / F
          · have hm1 : (A / F + j) * F ≤ B - 1 := by
              have := Int.mul_le_mul_of_nonneg_right hlt (show 0 ≤ F by omega)
              have := Int.ediv_mul_le (B - 1) (b := F) (by omega)
              omega
            have hm0 : 0 ≤ (A / F + j) * F := Int.mul_nonneg (by omega) (by omega)
            have HL := hid hlen
            have hl2 : (L ++ plv F B l j (A / F)).length ≤ 1000000 := by omega
            clear hlen
            go_wp2_with (at_builtin; refine app_plc rfl _ _ rfl rfl hO2 rfl hl2 hb2.size ?_; intro v2 w2 hown2 hg2)
            go_roundw
            case rel => exact ⟨j + 1, by go_num, by omega, by rw [plv_snoc, ← List.append_assoc]; exact hown2, hb2.grown hg2 hb2.size (fun k hk => (hO2.lt k hk).1)⟩
            case measure => simp [intOf]; omega
          · have hjm : j = many F A B := by have := HD.out.2; omega
            have hL : ((L ++ plv F B l j (A / F)).length : Int) ≤ 65536 := by omega
            have hL1 : (L ++ plv F B l j (A / F)).length ≤ 1000 * (l + 1) := by omega
            have hE : L ++ plv F B l j (A / F) ++ dues h x y k (l + 1) = dues h x y 64 0 := by rw [List.append_assoc, hjm]; exact HD.out.1
            generalize L ++ plv F B l j (A / F) = L2 at hO2 hL hL1 hE
            obtain ⟨a2, c2, rfl⟩ := hO2.len
            have HE := hid hE
            clear hjm hlen hE
            go_wp2
            go_roundw
            case rel => exact ⟨k, l + 1, L2, by omega, by go_num, hL1, HE.out, hO2, hb2⟩
            case measure => simp [intOf]; omega
    · have HD := hid hD
      have HE := hid hend
      clear hD hend
      go_wp2_with (go_at_call 19; refine (count_any _ _ _ _ (by omega) (by omega) (by omega) (by omega) (by omega)).mono ?_; rintro e w' ⟨rfl, rfl⟩)
      go_ret2
      refine ⟨_, rfl, ?_, hb⟩
      have := HD.out
      cases k with
      | zero => rw [show dues h x y 0 l = [] from rfl, List.append_nil] at this; rw [← this]; exact hO
      | succ k =>
        rw [dues] at this
        unfold lvl at this
        rw [hB, if_neg (by omega), List.append_nil] at this
        rw [← this]
        exact hO

end Go.Proofs.Ytanbjmnheddfaaa
