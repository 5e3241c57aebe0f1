/- slices.Reverse at []api.Range: a slice of the call's own is turned round in place. Condition: at most 1000000 elements. -/
import Derived.Test.YtanbjmnheddfaaaRngs
import Derived.BigRegion
namespace Go.Proofs.Ytanbjmnheddfaaa
open Go.RowKit

theorem rc_get (L : List Rng) (k : Nat) (h : k < L.length) : ∃ x y, L[k]? = some (x, y) ∧ (rc L)[k * 2]? = some (.int .i64 x) ∧ (rc L)[k * 2 + 1]? = some (.int .i64 y) := by
  induction L generalizing k with
  | nil => simp at h
  | cons r L ih =>
    cases k with
    | zero => exact ⟨_, _, rfl, rfl, rfl⟩
    | succ k =>
      obtain ⟨x, y, h1, h2, h3⟩ := ih k (by simpa using h)
      have e : (k + 1) * 2 = k * 2 + 1 + 1 := by omega
      refine ⟨x, y, by simpa using h1, ?_, ?_⟩
      · simpa only [rc, List.flatMap_cons, e, List.cons_append, List.nil_append, List.getElem?_cons_succ] using h2
      · simpa only [rc, List.flatMap_cons, e, List.cons_append, List.nil_append, List.getElem?_cons_succ] using h3

theorem rc_set (L : List Rng) (k : Nat) (x y : Int) : ((rc L).set (k * 2) (.int .i64 x)).set (k * 2 + 1) (.int .i64 y) = rc (L.set k (x, y)) := by
  induction L generalizing k with
  | nil => simp [rc]
  | cons r L ih =>
    cases k with
    | zero => rfl
    | succ k =>
      have := ih k
      have e : (k + 1) * 2 = k * 2 + 1 + 1 := by omega
      simp only [rc, List.flatMap_cons, e, List.cons_append, List.nil_append, List.set_cons_succ] at this ⊢
      rw [this]

/-- So far turned round: the first i and the last i. -/
def Half (L M : List Rng) (i : Nat) : Prop := M.length = L.length ∧ ∀ k, M[k]? = if k < i ∨ L.length ≤ k + i then L.reverse[k]? else L[k]?

theorem Half.start (L : List Rng) : Half L L 0 := ⟨rfl, fun k => by
  by_cases h : L.length ≤ k
  · rw [if_pos (by omega), List.getElem?_eq_none (by omega), List.getElem?_eq_none (by simpa using h)]
  · rw [if_neg (by omega)]⟩

theorem Half.step {L M : List Rng} {i j : Nat} {x y : Rng} (h : Half L M i) (hij : i + j + 1 = L.length) (hlt : i < j) (hx : M[i]? = some x) (hy : M[j]? = some y) : Half L ((M.set i y).set j x) (i + 1) := by
  obtain ⟨h0, h1⟩ := h
  refine ⟨by simpa using h0, fun k => ?_⟩
  have hi := h1 i
  have hj := h1 j
  rw [if_neg (by omega), hx] at hi
  rw [if_neg (by omega), hy] at hj
  have ri : L.reverse[i]? = some y := by rw [List.getElem?_reverse (by omega), ← show j = L.length - 1 - i by omega, ← hj]
  have rj : L.reverse[j]? = some x := by rw [List.getElem?_reverse (by omega), ← show i = L.length - 1 - j by omega, ← hi]
  by_cases e1 : k = j
  · subst e1
    rw [if_pos (by omega), rj, List.getElem?_set_self (by simp; omega)]
  · rw [List.getElem?_set_ne (by omega)]
    by_cases e2 : k = i
    · subst e2
      rw [if_pos (by omega), ri, List.getElem?_set_self (by omega)]
    · rw [List.getElem?_set_ne (by omega), h1 k]
      by_cases e3 : k < i ∨ L.length ≤ k + i
      · rw [if_pos e3, if_pos (by omega)]
      · rw [if_neg e3, if_neg (by omega)]

theorem Half.all {L M : List Rng} {i : Nat} {j : Int} (h : Half L M i) (hij : i + j + 1 = L.length) (hge : ¬ (i : Int) < j) : M = L.reverse := by
  apply List.ext_getElem?
  intro k
  rw [h.2 k]
  by_cases e : k < i ∨ L.length ≤ k + i
  · rw [if_pos e]
  · rw [if_neg e, List.getElem?_reverse (by omega), show L.length - 1 - k = k by omega]

theorem OwnR.swap {w : World} {B g n cap : Nat} {M : List Rng} (h : w.ownsRow B 37 2 (.slice (some ⟨g, 0, none⟩) n cap) n (rc M)) (hn : M.length = n) (i j : Nat) (x0 x1 y0 y1 : Int) :
    OwnR ((((w.setCell ⟨g, i * 2, none⟩ (.int .i64 y0)).setCell ⟨g, i * 2 + 1, none⟩ (.int .i64 y1)).setCell ⟨g, j * 2, none⟩ (.int .i64 x0)).setCell ⟨g, j * 2 + 1, none⟩ (.int .i64 x1)).drew B
      (.slice (some ⟨g, 0, none⟩) n cap) ((M.set i (y0, y1)).set j (x0, x1)) := by
  have h1 := (h.stored (i * 2) (.int .i64 y0)).1
  have h2 := (h1.stored (i * 2 + 1) (.int .i64 y1)).1
  have h3 := (h2.stored (j * 2) (.int .i64 x0)).1
  have h4 := (h3.stored (j * 2 + 1) (.int .i64 x1)).1
  rw [rc_set, rc_set] at h4
  unfold OwnR
  rw [List.length_set, List.length_set, hn]
  exact h4

set_option maxHeartbeats 1000000 in
theorem rev_any (w : World) (B g cap : Nat) (L : List Rng) (hL : OwnR w B (.slice (some ⟨g, 0, none⟩) L.length cap) L) (hl : L.length ≤ 1000000) (hB : B ≤ g) :
    Calls Try.prog 16 #[.slice (some ⟨g, 0, none⟩) L.length cap] w fun e w' => e = .returned (.tuple #[]) ∧ OwnR w' B (.slice (some ⟨g, 0, none⟩) L.length cap) L.reverse ∧ Below B w w' := by
  go_enter Try.func16, Try.ntmps16
  go_wp2
  go_loopw [2, 3] (fun a b wr => ∃ (i : Nat) (j : Int) (M : List Rng), a = .int .i64 i ∧ b = .int .i64 j ∧ i + j + 1 = L.length ∧ Half L M i ∧ OwnR wr B (.slice (some ⟨g, 0, none⟩) L.length cap) M ∧ Below B w wr)
    (fun a b _ => (intOf b + 1 - intOf a).toNat)
  case atStart => exact ⟨0, L.length - 1, L, rfl, rfl, by omega, Half.start L, hL, Below.refl _ _⟩
  case round =>
    obtain ⟨i, j, M, rfl, rfl, hij, hM, hO, hb⟩ := hrel
    have hM0 := hM.1
    by_cases hlt : (i : Int) < j
    · obtain ⟨j, rfl⟩ : ∃ j' : Nat, j = j' := ⟨j.toNat, by omega⟩
      obtain ⟨x0, x1, m0, r0, r1⟩ := rc_get M i (by omega)
      obtain ⟨y0, y1, m1, s0, s1⟩ := rc_get M j (by omega)
      have hO' : wr.ownsRow B 37 2 (.slice (some ⟨g, 0, none⟩) L.length cap) L.length (rc M) := by unfold OwnR at hO; rw [hM0] at hO; exact hO
      have c0 := (hO'.cellAt (i * 2) (by omega)).trans r0
      have c1 := (hO'.cellAt (i * 2 + 1) (by omega)).trans r1
      have c2 := (hO'.cellAt (j * 2) (by omega)).trans s0
      have c3 := (hO'.cellAt (j * 2 + 1) (by omega)).trans s1
      have f0 := hO'.frozenAt (i * 2)
      have f1 := hO'.frozenAt (i * 2 + 1)
      have f2 := hO'.frozenAt (j * 2)
      have f3 := hO'.frozenAt (j * 2 + 1)
      have hi : i < L.length := by omega
      have hj : j < L.length := by omega
      have hS := OwnR.swap hO' hM0 i j x0 x1 y0 y1
      have hH := hM.step (j := j) (by omega) (by omega) m0 m1
      have H := hid (And.intro hij (And.intro hS hH))
      clear hij hM hM0 hS hH r0 r1 s0 s1 m0 m1
      go_wp2_with fail
      go_region
      go_wp2
      go_roundw
      case rel =>
        obtain ⟨hij, hS, hH⟩ := H.out
        exact ⟨i + 1, (j : Int) - 1, _, by go_num, rfl, by omega, hH, hS, ((((hb.setCell (p := ⟨g, i * 2, none⟩) hB _).setCell (p := ⟨g, i * 2 + 1, none⟩) hB _).setCell (p := ⟨g, j * 2, none⟩) hB _).setCell (p := ⟨g, j * 2 + 1, none⟩) hB _).drew⟩
      case measure => simp [intOf]; omega
    · have hA := hM.all hij hlt
      subst hA
      go_wp2
      go_end0
      exact ⟨rfl, hO, hb⟩

theorem rev_nil (w : World) : Calls Try.prog 16 #[.slice none 0 0] w fun e w' => e = .returned (.tuple #[]) ∧ w' = w := by
  go_enter Try.func16, Try.ntmps16
  go_wp2
  refine wp_loop_rounds 1 ?_
  rw [rounds_succ]
  go_wp2
  go_end0
  exact ⟨rfl, rfl⟩

/-- slices.Reverse of a slice of the call's own. -/
theorem rev_own (w : World) (B : Nat) (v : Value) (L : List Rng) (hL : OwnR w B v L) (hl : L.length ≤ 1000000) :
    Calls Try.prog 16 #[v] w fun e w' => e = .returned (.tuple #[]) ∧ OwnR w' B v L.reverse ∧ Below B w w' := by
  rcases hL.2 with ⟨rfl, h0⟩ | ⟨g, cap, cur, rfl, hg, _⟩
  · obtain rfl : L = [] := List.eq_nil_of_length_eq_zero h0
    exact (rev_nil w).mono fun e w' ⟨he, hw⟩ => ⟨he, by rw [hw]; exact hL, by rw [hw]; exact Below.refl _ _⟩
  · exact rev_any w B g cap L hL hl hg

end Go.Proofs.Ytanbjmnheddfaaa
