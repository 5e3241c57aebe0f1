/- notarytop.vast answers true. Conditions: 0 <= i < n, 0 <= m <= n, n from 1 to 2 to the power 62, heights 1 to 8, at most 1000 more. -/
import Derived.Test.YtanbjmnheddfaaaGrown
import Derived.Deep.DeepCutAuto
namespace Go.Proofs.Ytanbjmnheddfaaa
open Go.RowKit

theorem Wh.start {n : Int} (h0 : 0 ≤ n) (h1 : n ≤ 4611686018427387904) : Wh n 63 0 [] := ⟨by
    have : n / 2 ^ 63 = 0 := div_big (by omega) (by omega) (by decide)
    rw [this]; rfl, by simp, by simp⟩

/-- The stretches by which n goes on m; none of m 0. -/
def ons (m n : Int) : List Rng := if m = 0 then [] else goes m 63 0 n true

theorem steps_all (m n : Int) (w : World) (h0 : 0 ≤ m) (h1 : m ≤ n) (h2 : n ≤ 4611686018427387904) :
    Calls Try.prog 7 #[.int .i64 m, .int .i64 n] w fun e w' => ∃ v, e = .returned (.tuple #[v, .int .i64 0]) ∧ OwnR w' w.heap.size v (ons m n) ∧ Below w.heap.size w w' := by
  unfold ons
  by_cases h : m = 0
  · subst h
    rw [if_pos rfl]
    exact steps_none n w h1
  · rw [if_neg h]
    exact steps_any m n w (by omega) h1 h2 63 (by omega) (by omega)

theorem size_all (m n : Int) (w : World) (h0 : 0 ≤ m) (h1 : m ≤ n) (h2 : n ≤ 4611686018427387904) :
    Calls Try.prog 9 #[.int .i64 m, .int .i64 n] w fun e w' => e = .returned (.tuple #[.int .i64 (ons m n).length, .int .i64 0]) ∧ Below w.heap.size w w' := by
  unfold ons
  by_cases h : m = 0
  · subst h
    rw [if_pos rfl]
    exact cons_size0 n w h1
  · rw [if_neg h]
    exact cons_size m n w (by omega) h1 h2

theorem same_own (w : World) (B1 B2 : Nat) (v1 v2 : Value) (L : List Rng) (h1 : OwnR w B1 v1 L) (h2 : OwnR w B2 v2 L) (hn : L.length ≤ 1000000) :
    Calls Try.prog 12 #[v1, v2] w fun e w' => e = .returned (.bool true) ∧ Below w.heap.size w w' := by
  obtain ⟨a1, c1, rfl⟩ := h1.len
  obtain ⟨a2, c2, rfl⟩ := h2.len
  exact same_any w B1 B2 L.length a1 a2 c1 c2 L h1 h2 rfl hn

theorem nxt {w0 w w2 : World} (h : Below w0.heap.size w0 w) (h2 : Below w.heap.size w w2) : Below w0.heap.size w0 w2 := h.trans (h2.mono h.size)

theorem wholes_len (n : Int) (b : Nat) : ∀ a, (wholes n b a).length ≤ b := by
  induction b with
  | zero => intro a; simp [wholes]
  | succ b ih =>
    intro a
    unfold wholes
    split
    · have := ih (a + 2 ^ b); simp; omega
    · have := ih a; omega

theorem lvl_succ (h l : Nat) (n : Int) : lvl h n l / 2 ^ h = lvl h n (l + 1) := by
  unfold lvl
  rw [Int.ediv_ediv_of_nonneg (Int.pow_nonneg (by decide)), ← Int.pow_add, Nat.mul_succ]

theorem lvl_zero (h : Nat) (n : Int) : lvl h n 0 = n := by simp [lvl]

set_option maxRecDepth 100000 in
set_option maxHeartbeats 4000000 in
theorem vast_any (i m n : Int) (h more : Nat) (w : World) (hi0 : 0 ≤ i) (hi : i < n) (hm0 : 0 ≤ m) (hm : m ≤ n) (hn : n ≤ 4611686018427387904) (h1 : 1 ≤ h) (h8 : h ≤ 8) (hk : more ≤ 1000) :
    Calls Try.prog 4 #[.int .i64 i, .int .i64 m, .int .i64 n, .int .i64 h, .int .i64 more] w fun e w' => e = .returned (.bool true) ∧ Below w.heap.size w w' := by
  obtain ⟨LA, hLA⟩ : ∃ LA, climb i 63 0 n = LA := ⟨_, rfl⟩
  obtain ⟨LB, hLB⟩ : ∃ LB, ons m n = LB := ⟨_, rfl⟩
  have lA : LA.length ≤ 63 := by rw [← hLA]; exact climb_len _ _ _ _
  have lB : LB.length ≤ 63 := by rw [← hLB]; unfold ons; split; (simp); exact goes_len _ _ _ _ _
  have P6 := hid fun w => path_any i n w hi0 hi hn
  have P7 := hid fun w => steps_all m n w hm0 hm hn
  have P8 := hid fun w => incl_len i n w hi0 hi hn
  have P9 := hid fun w => size_all m n w hm0 hm hn
  have P10 := hid fun w => climbs_any i hi0 (by omega) 63 0 n w (by omega) (by omega) hn (by omega) (by omega)
  rw [hLA] at P6 P8 P10
  rw [hLB] at P7 P9
  have P11 : Hid (∀ w, 0 < m → Calls Try.prog 11 #[.int .i64 m, .int .i64 0, .int .i64 n, .bool true] w fun e w' => ∃ v, e = .returned v ∧ OwnR w' w.heap.size v LB ∧ Below w.heap.size w w') := hid fun w hm1 => by
    rw [← hLB]; unfold ons; rw [if_neg (by omega)]
    exact goesOn_any m 63 0 n true w (by omega) (by omega) hm hn (by omega) (by omega)
  have hB0 : Hid (m = 0 → LB = []) := hid fun h => by rw [← hLB, h]; rfl
  clear hLA hLB
  have Hst := hid (Wh.start (n := n) (by omega) hn)
  obtain ⟨LW, hLW⟩ : ∃ LW, wholes n 63 0 = LW := ⟨_, rfl⟩
  have P13 := hid fun w => whole_any n w (by omega) hn
  have lW : LW.length ≤ 63 := by rw [← hLW]; exact wholes_len _ _ _
  rw [hLW] at P13
  have HLW := hid hLW
  clear hLW
  obtain ⟨LD, hLD⟩ : ∃ LD, dues h n (n + more) 64 0 = LD := ⟨_, rfl⟩
  have P14 := hid fun w => grown_any h n (n + more) w h1 h8 (by omega) (by omega) (by omega) hn
  rw [hLD] at P14
  have HLD := hid hLD
  clear hLD
  obtain ⟨F, hF⟩ : ∃ F : Int, (2 : Int) ^ h = F := ⟨_, rfl⟩
  have hF2 := pow_h h1 h8
  rw [hF] at hF2
  by_cases hm1 : 0 < m
  rotate_left
  obtain rfl : m = 0 := by omega
  obtain rfl := hB0.out rfl
  go_enter Try.func4, Try.ntmps4
  go_wp2_with (first | (go_at_call 6; refine (P6.out _).mono ?_; rintro e w1 ⟨va, rfl, hOa, hb1⟩; obtain ⟨aa, ca, rfl⟩ := hOa.len) | (go_at_call 7; refine (P7.out _).mono ?_; rintro e w2 ⟨vb, rfl, hOb, hb2⟩; obtain ⟨ab, cb, rfl⟩ := hOb.len; rw [List.length_nil] at hOb) | (go_at_call 8; refine (P8.out _).mono ?_; rintro e w3 ⟨rfl, hb3⟩) | (go_at_call 9; refine (P9.out _).mono ?_; rintro e w4 ⟨rfl, hb4⟩) | (go_at_call 10; refine (P10.out _).mono ?_; rintro e w5 ⟨vu, rfl, hOu, hb5⟩; obtain ⟨au, cu, rfl⟩ := hOu.len) | (go_at_call 12; ((with_reducible refine (same_own _ _ _ (.slice aa _ ca) (.slice au _ cu) LA ((((hOa.below hb2).below hb3).below hb4).below hb5) (hOu) (by omega)).mono ?_); rintro e x7 ⟨rfl, hx7⟩)) | (go_at_call 12; ((with_reducible refine (same_own _ _ _ (.slice ab _ cb) (.slice none 0 0) [] ((((hOb.below hb3).below hb4).below hb5).below hx7) (OwnR.nil _ 0) (by simp)).mono ?_); rintro e x8 ⟨rfl, hx8⟩)))
  have hb : Below w.heap.size w x8 := nxt (nxt (nxt (nxt (nxt (nxt hb1 hb2) hb3) hb4) hb5) hx7) hx8
  clear hOa hOb hOu hb1 hb2 hb3 hb4 hb5 hx7 hx8
  rotate_left
  go_enter Try.func4, Try.ntmps4
  go_wp2_with (first | (go_at_call 6; refine (P6.out _).mono ?_; rintro e w1 ⟨va, rfl, hOa, hb1⟩; obtain ⟨aa, ca, rfl⟩ := hOa.len) | (go_at_call 7; refine (P7.out _).mono ?_; rintro e w2 ⟨vb, rfl, hOb, hb2⟩; obtain ⟨ab, cb, rfl⟩ := hOb.len) | (go_at_call 8; refine (P8.out _).mono ?_; rintro e w3 ⟨rfl, hb3⟩) | (go_at_call 9; refine (P9.out _).mono ?_; rintro e w4 ⟨rfl, hb4⟩) | (go_at_call 10; refine (P10.out _).mono ?_; rintro e w5 ⟨vu, rfl, hOu, hb5⟩; obtain ⟨au, cu, rfl⟩ := hOu.len) | (go_at_call 11; refine (P11.out _ hm1).mono ?_; rintro e w6 ⟨vo, rfl, hOo, hb6⟩; obtain ⟨ao, co, rfl⟩ := hOo.len) | (go_at_call 12; ((with_reducible refine (same_own _ _ _ (.slice aa _ ca) (.slice au _ cu) LA (((((hOa.below hb2).below hb3).below hb4).below hb5).below hb6) (hOu.below hb6) (by omega)).mono ?_); rintro e x7 ⟨rfl, hx7⟩)) | (go_at_call 12; ((with_reducible refine (same_own _ _ _ (.slice ab _ cb) (.slice ao _ co) LB (((((hOb.below hb3).below hb4).below hb5).below hb6).below hx7) (hOo.below hx7) (by omega)).mono ?_); rintro e x8 ⟨rfl, hx8⟩)))
  have hb : Below w.heap.size w x8 := nxt (nxt (nxt (nxt (nxt (nxt (nxt hb1 hb2) hb3) hb4) hb5) hb6) hx7) hx8
  clear hOa hOb hOu hOo hb1 hb2 hb3 hb4 hb5 hb6 hx7 hx8
  all_goals
    clear P6 P7 P8 P9 P10 P11 hB0
    go_loopw [21, 22, 23] (fun v b a wr => ∃ (j x : Int) (L : List Rng), a = .int .i64 x ∧ b = .int .i64 j ∧ -1 ≤ j ∧ j ≤ 62 ∧ 0 ≤ x ∧ x ≤ n ∧ Wh n (j + 1).toNat x L ∧ OwnR wr w.heap.size v L ∧ Below w.heap.size w wr)
      (fun _ b _ _ => (intOf b + 1).toNat)
    case atStart => exact ⟨62, 0, [], rfl, rfl, by omega, by omega, by omega, by omega, Hst.out, OwnR.nil _ _, hb⟩
    case round =>
      clear hb
      obtain ⟨j, x, L, rfl, rfl, hj0, hj1, hx0, hx1, hW, hO, hb⟩ := hrel
      have hl := hW.l
      by_cases hj : j = -1
      · subst hj
        have hE := hW.eq
        rw [show wholes n (-1 + 1 : Int).toNat x = [] from rfl, List.append_nil, HLW.out] at hE
        subst hE
        clear hW hl Hst
        go_wp2_with (first | (go_at_call 13; refine (P13.out _).mono ?_; rintro e w9 ⟨v9, rfl, hO9, hb9⟩; obtain ⟨a9, c9, rfl⟩ := hO9.len) | (go_at_call 12; ((with_reducible refine (same_own _ _ _ _ _ _ hO9 (hO.below hb9) (by omega)).mono ?_); rintro e w10 ⟨rfl, hb10⟩)))
        have hbb : Below w.heap.size w w10 := nxt (nxt hb hb9) hb10
        clear hO hO9 hb hb9 hb10
        go_loopw [24, 25, 26, 28] (fun v a b c wr => ∃ (k l : Nat) (A B : Int) (L : List Plc), k + l = 64 ∧ a = .int .i64 A ∧ b = .int .i64 B ∧ c = .int .i64 l ∧ A = lvl h n l ∧ B = lvl h (n + more) l ∧ L.length ≤ 1000 * l ∧ L ++ dues h n (n + more) k l = LD ∧ OwnP wr w.heap.size v L ∧ Below w.heap.size w wr)
          (fun _ _ _ c _ => (64 - intOf c).toNat)
        case atStart => exact ⟨64, 0, n, _, [], rfl, rfl, rfl, rfl, (lvl_zero _ _).symm, (lvl_zero _ _).symm, by simp, HLD.out, OwnP.nil _ _, hbb⟩
        case round =>
          clear hbb
          obtain ⟨k, l, A, B, L, hkl, rfl, rfl, rfl, hA, hB, hl, hD, hO, hb⟩ := hrel
          have a0 : 0 ≤ A := by rw [hA]; exact lvl_nonneg (by omega)
          have ab : A ≤ B := by rw [hA, hB]; exact lvl_mono (by omega)
          have ba : B ≤ A + 1000 := by
            have := lvl_le (h := h) (l := l) (x := n) (m := more) (by omega)
            rw [hA, hB]; omega
          have ax : A ≤ n := by rw [hA]; exact lvl_self_le (by omega)
          have hend : k = 0 → B = 0 := fun h0 => by rw [hB]; exact lvl_end h1 (by omega) (by omega) (by omega)
          have HA := hid (And.intro hA hB)
          clear hA hB
          by_cases hB0 : 0 < B
          · obtain ⟨k, rfl⟩ : ∃ k', k = k' + 1 := ⟨k - 1, by omega⟩
            rw [dues, ← HA.out.1, ← HA.out.2, hF, if_pos hB0] at hD
            have hm := many_le (F := F) (a := A) (b := B) (by omega) ba
            have hd0 : 0 ≤ A / F := Int.ediv_nonneg a0 (by omega)
            have hd1 : A / F ≤ A := Int.ediv_le_self _ a0
            have hd2 : (B - 1) / F ≤ B - 1 := Int.ediv_le_self _ (by omega)
            have hd3 : A / F * F ≤ A := Int.ediv_mul_le A (by omega)
            have hd4 : A < (A / F + 1) * F := Int.lt_ediv_add_one_mul_self A (by omega)
            have hd5 : 0 ≤ (B - 1) / F := Int.ediv_nonneg (by omega) (by omega)
            have hs1 : A / F = lvl h n (l + 1) := by rw [HA.out.1, ← hF]; exact lvl_succ _ _ _
            have hs2 : B / F = lvl h (n + more) (l + 1) := by rw [HA.out.2, ← hF]; exact lvl_succ _ _ _
            have HS := hid (And.intro hs1 hs2)
            clear hend hs1 hs2
            by_cases hAB : A < B
            · have hmp := many_pos (F := F) (a := A) (b := B) hAB (by omega)
              have HD := hid (And.intro hD hmp)
              clear hD
              go_wp2
              go_loopw [24, 29] (fun v i wr => ∃ (j : Nat), i = .int .i64 (A / F + j) ∧ (j : Int) ≤ (B - 1) / F - A / F + 1 ∧ OwnP wr w.heap.size v (L ++ plv F B l j (A / F)) ∧ Below w.heap.size w wr)
                (fun _ i _ => ((B - 1) / F + 1 - intOf i).toNat)
              case atStart => exact ⟨0, by simp, by omega, by rw [show plv F B l 0 (A / F) = [] from rfl, List.append_nil]; exact hO, hb⟩
              case round =>
                obtain ⟨j, rfl, hj, hO2, hb2⟩ := hrel
                obtain ⟨X, hX⟩ : ∃ X, (A / F + j) * F = X := ⟨_, rfl⟩
                have hX2 : A / F * F + j * F = X := by rw [← hX, Int.add_mul]
                have hX3 : 0 ≤ (j : Int) * F := Int.mul_nonneg (by omega) (by omega)
                have hX0 : 0 ≤ X := by rw [← hX]; exact Int.mul_nonneg (by omega) (by omega)
                have hX1 : A < X + F := by rw [Int.add_mul, Int.one_mul] at hd4; omega
                have hlen : (L ++ plv F B l j (A / F)).length = L.length + j := by rw [List.length_append, plv_len]
                by_cases hlt : A / F + j ≤ (B - 1) / F
                · have hm1 : X ≤ B - 1 := by
                    have h5 := Int.mul_le_mul_of_nonneg_right hlt (show 0 ≤ F by omega)
                    have h6 := Int.ediv_mul_le (B - 1) (b := F) (by omega)
                    omega
                  have hl2 : (L ++ plv F B l j (A / F)).length ≤ 1000000 := by omega
                  clear hlen hX2 hX3
                  go_wp2_with (at_builtin; refine app_plc rfl _ _ rfl rfl hO2 rfl hl2 hb2.size ?_; intro v2 w2 hown2 hg2)
                  go_roundw
                  case rel => exact ⟨j + 1, by go_num, by omega, by rw [plv_snoc, ← List.append_assoc, hX]; exact hown2, hb2.grown hg2 hb2.size (fun k hk => (hO2.lt k hk).1)⟩
                  case measure => simp [intOf]; omega
                · have h5 : ((B - 1) / F + 1) * F ≤ X := by rw [← hX]; exact Int.mul_le_mul_of_nonneg_right (by omega) (by omega)
                  have h6 : X ≤ ((B - 1) / F + 1) * F := by rw [← hX]; exact Int.mul_le_mul_of_nonneg_right (by omega) (by omega)
                  have h7 := Int.lt_ediv_add_one_mul_self (B - 1) (show 0 < F by omega)
                  have h8 := Int.ediv_mul_le (B - 1) (b := F) (by omega)
                  rw [Int.add_mul, Int.one_mul] at h5 h6 h7
                  have hX5 : B ≤ X := by omega
                  have hX6 : X ≤ B + F := by omega
                  have hjm : j = many F A B := by have := HD.out.2; omega
                  have hL1 : (L ++ plv F B l j (A / F)).length ≤ 1000 * (l + 1) := by omega
                  have hE : L ++ plv F B l j (A / F) ++ dues h n (n + more) k (l + 1) = LD := by rw [List.append_assoc, hjm]; exact HD.out.1
                  generalize L ++ plv F B l j (A / F) = L2 at hO2 hL1 hE
                  have HE := hid hE
                  clear hjm hlen hE h5 h6 h7 h8 hX2 hX3
                  go_wp2_with fail
                  go_quiet (fail)
                  go_wp2
                  go_roundw
                  case rel => exact ⟨k, l + 1, _, _, L2, by omega, rfl, rfl, by go_num, HS.out.1, HS.out.2, hL1, HE.out, hO2, below_drewN hb2 _⟩
                  case measure => simp [intOf]; omega
            · obtain rfl : A = B := by omega
              have hm0 : many F A A = 0 := by unfold many; rw [if_neg (by omega)]
              rw [hm0] at hD
              have HD := hid hD
              clear hD hm0
              go_wp2
              go_loopw [24, 29] (fun v i wr => ∃ (j : Nat), i = .int .i64 (A / F + j) ∧ j ≤ 1 ∧ OwnP wr w.heap.size v L ∧ Below w.heap.size w wr)
                (fun _ i _ => ((A - 1) / F + 2 - intOf i).toNat)
              case atStart => exact ⟨0, by simp, by omega, hO, hb⟩
              case round =>
                obtain ⟨j, rfl, hj, hO2, hb2⟩ := hrel
                obtain ⟨X, hX⟩ : ∃ X, (A / F + j) * F = X := ⟨_, rfl⟩
                have hX2 : A / F * F + j * F = X := by rw [← hX, Int.add_mul]
                have hX0 : 0 ≤ X := by rw [← hX]; exact Int.mul_nonneg (by omega) (by omega)
                rw [Int.add_mul, Int.one_mul] at hd4
                have hj2 : j = 0 ∧ X = A / F * F ∨ j = 1 ∧ X = A / F * F + F := by
                  rcases (show j = 0 ∨ j = 1 by omega) with rfl | rfl
                  · exact .inl ⟨rfl, by simpa using hX2.symm⟩
                  · exact .inr ⟨rfl, by simpa using hX2.symm⟩
                have hq0 : A - 1 < ((A - 1) / F + 1) * F := Int.lt_ediv_add_one_mul_self (A - 1) (by omega)
                have hq : A / F ≤ (A - 1) / F + 1 := by
                  have := Int.ediv_le_ediv (a := A) (b := A - 1 + F) (c := F) (by omega) (by omega)
                  rw [Int.add_ediv_of_dvd_right (Int.dvd_refl F), Int.ediv_self (by omega)] at this
                  omega
                have hj3 : X < A → j = 0 := by omega
                have hj4 : X < A → A < X + F := by omega
                have hj5 : X ≤ A + F := by omega
                clear hX2 hj2 hq0 hd4
                by_cases hlt : X < A
                · have hj6 := hj3 hlt
                  have hj7 := hj4 hlt
                  subst hj6
                  have hX' : A / F * F = X := by simpa using hX
                  clear hj3 hj4 hX hd3
                  go_wp2
                  go_roundw
                  case rel => exact ⟨1, by go_num, by omega, hO2, hb2⟩
                  case measure => simp [intOf]; omega
                · clear hj3 hj4
                  go_wp2_with fail
                  go_quiet (fail)
                  go_wp2
                  go_roundw
                  case rel => exact ⟨k, l + 1, _, _, L, by omega, rfl, rfl, by go_num, HS.out.1, HS.out.2, by omega, by have := HD.out; rwa [show plv F A l 0 (A / F) = [] from rfl, List.nil_append] at this, hO2, below_drewN hb2 _⟩
                  case measure => simp [intOf]; omega
          · obtain rfl : B = 0 := by omega
            have hE : L = LD := by
              rw [← hD]
              cases k with
              | zero => rw [show dues h n (n + more) 0 l = [] from rfl, List.append_nil]
              | succ k => rw [dues, ← HA.out.2, if_neg (by omega), List.append_nil]
            subst hE
            clear hD hend
            obtain ⟨a12, c12, rfl⟩ := hO.len
            go_wp2_with (go_at_call 14; refine (P14.out _).mono ?_; rintro e w11 ⟨v11, rfl, hO11, hb11⟩; obtain ⟨a11, c11, rfl⟩ := hO11.len)
            have hO' := hO.below hb11
            have hbb : Below w.heap.size w w11 := nxt hb hb11
            have hNl : L.length ≤ 1000000 := by omega
            clear hO hb11 hb hl P13 P14 HLW HLD HA
            go_loopw [204] (fun i wr => ∃ (k m : Nat), k ≤ L.length ∧ i = .int .i64 k ∧ wr = w11.drewN m) (fun i _ => L.length - (intOf i).toNat)
            case atStart => exact ⟨0, 0, Nat.zero_le _, rfl, rfl⟩
            case round =>
              obtain ⟨k, m, hk, rfl, rfl⟩ := hrel
              by_cases hlt : k < L.length
              · obtain ⟨g1, p, q, r, rfl, e1, p0, p1, p2⟩ := hO11.at rfl k hlt
                obtain ⟨g2, p', q', r', rfl, e2, q0, q1, q2⟩ := hO'.at rfl k hlt
                rw [e1] at e2
                simp only [Option.some.injEq, Prod.mk.injEq] at e2
                obtain ⟨rfl, rfl, rfl⟩ := e2
                have HN := hid e1
                clear e1
                go_wp2_with fail
                go_quiet (fail)
                go_wp2
                go_roundw
                case rel => exact ⟨k + 1, _, by omega, by go_num, rfl⟩
                case measure => simp [intOf]; omega
              · go_wp2
                go_ret
                exact ⟨rfl, below_drewN hbb _⟩
      · obtain ⟨k, rfl⟩ : ∃ k : Nat, j = k := ⟨j.toNat, by omega⟩
        rw [show ((k : Int) + 1).toNat = k + 1 by omega] at hW
        clear hj
        have hp0 : (1 : Int) ≤ 2 ^ k := by have := Int.pow_pos (n := 2) (m := k) (by decide); omega
        by_cases hbit : n / 2 ^ k % 2 = 1
        · obtain ⟨hW', hx2⟩ := hW.yes hbit
          have HL := hid hW'
          have hq : (bits .and .i64 (n / 2 ^ k) 1 == 1) = true := by rw [i64_and1]; simpa using hbit
          have hp1 : (2 : Int) ^ k ≤ 4611686018427387904 := by omega
          have hp2 : x + (2 : Int) ^ k ≤ 4611686018427387904 := by omega
          clear hW hW' hbit
          go_wp2_with (at_builtin; refine app_rng rfl _ _ rfl rfl hO rfl (by omega) hb.size ?_; intro v2 w2 hown2 hg2)
          go_roundw
          case rel => exact ⟨(k : Int) - 1, _, _, rfl, rfl, by omega, by omega, by omega, by omega, by rw [show ((k : Int) - 1 + 1).toNat = k by omega]; exact HL.out, hown2, hb.grown hg2 hb.size (fun k hk => (hO.lt k hk).1)⟩
          case measure => simp [intOf]
        · have hW' := hW.no hbit
          have HL := hid hW'
          have hq : (bits .and .i64 (n / 2 ^ k) 1 == 1) = false := by rw [i64_and1]; simpa using hbit
          clear hW hW' hbit
          go_wp2
          go_roundw
          case rel => exact ⟨(k : Int) - 1, _, _, rfl, rfl, by omega, by omega, by omega, by omega, by rw [show ((k : Int) - 1 + 1).toNat = k by omega]; exact HL.out, hO, hb⟩
          case measure => simp [intOf]

end Go.Proofs.Ytanbjmnheddfaaa
