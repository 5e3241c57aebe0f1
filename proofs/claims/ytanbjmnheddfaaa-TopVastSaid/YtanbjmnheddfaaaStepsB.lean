/- tree.Steps, which gathers by a closure that calls itself. Conditions: the numbers lie in 0 to 2 to the power 62. -/
import Derived.Test.YtanbjmnheddfaaaSteps
import Derived.Laws.EntriesVeiled
namespace Go.Proofs.Ytanbjmnheddfaaa
open Go.RowKit

theorem OwnR.shape {w : World} {B : Nat} {v : Value} {L : List Rng} {r : Rng} (h : OwnR w B v (L ++ [r])) : ∃ g n cap, v = .slice (some ⟨g, 0, none⟩) n cap := by
  rcases h.2 with ⟨_, h2⟩ | ⟨g, cap, cur, hv, _⟩
  · simp at h2
  · exact ⟨g, _, cap, hv⟩

/-- What the closure has captured: m, the list so far, the closure itself. -/
structure StI (w : World) (B bm bo bd : Nat) (m : Int) (v : Value) (L : List Rng) : Prop where
  lm : B ≤ bm
  lo : B ≤ bo
  ld : B ≤ bd
  hm : w.heap[bm]? = some (.cells #[.int .i64 m] 2 (0, 0))
  ho : w.heap[bo]? = some (.cells #[v] 26 (0, 0))
  hd : w.heap[bd]? = some (.cells #[.func (.func 17) #[] #[.pointer (some ⟨bm, 0, none⟩), .pointer (some ⟨bo, 0, none⟩), .pointer (some ⟨bd, 0, none⟩)]] 46 (0, 0))
  own : OwnR w B v L

theorem ne_own {w : World} {B : Nat} {v : Value} {L : List Rng} (h : OwnR w B v L) {k : Nat} {cs : Array Value} {t : TypeId} (hk : w.heap[k]? = some (.cells cs t (0, 0))) (ht : t ≠ 37) : some k ≠ v.ownBlock := by
  rcases h.2 with ⟨rfl, _⟩ | ⟨g, cap, cur, rfl, _, hg, _⟩
  · simp [Value.ownBlock]
  · simp only [Value.ownBlock, ne_eq, Option.some.injEq]
    rintro rfl
    rw [hk] at hg
    simp at hg
    exact ht hg.2

theorem StI.grown {w w2 : World} {B bm bo bd : Nat} {m : Int} {v v2 : Value} {L L2 : List Rng} (h : StI w B bm bo bd m v L) (hg : w.grownBy w2 v.ownBlock) (ho : OwnR w2 B v2 L2) :
    w2.heap[bm]? = some (.cells #[.int .i64 m] 2 (0, 0)) ∧ w2.heap[bo]? = some (.cells #[v] 26 (0, 0)) ∧ StI (w2.setCell ⟨bo, 0, none⟩ v2) B bm bo bd m v2 L2 ∧ Below B w (w2.setCell ⟨bo, 0, none⟩ v2) := by
  have k : ∀ {b : Nat} {cs : Array Value} {t : TypeId}, w.heap[b]? = some (.cells cs t (0, 0)) → t ≠ 37 → w2.heap[b]? = some (.cells cs t (0, 0)) := fun {b} {cs} {t} hb ht => by
    rw [hg.block _ (lt_of_block hb) (ne_own h.own hb ht)]; exact hb
  have km := k h.hm (by decide)
  have ko := k h.ho (by decide)
  have kd := k h.hd (by decide)
  have hlt := lt_of_block h.ho
  refine ⟨km, ko, ⟨h.lm, h.lo, h.ld, ?_, one_setCell ko, ?_, ownsRow_setCell_other ho (Ne.symm (ne_own ho ko (by decide))) _⟩, ?_⟩
  · rw [Below.heap_setCell _ _ _ _ (by rintro rfl; rw [km] at ko; simp at ko)]; exact km
  · rw [Below.heap_setCell _ _ _ _ (by rintro rfl; rw [kd] at ko; simp at ko)]; exact kd
  · refine Below.setCell ((Below.refl B w).grown hg (by have := h.lo; omega) (fun k hk => (h.own.lt k hk).1)) h.lo _

set_option maxHeartbeats 1000000 in
theorem steps1_any (m : Int) (B bm bo bd : Nat) (f : Nat) : ∀ (a b : Int) (t : Bool) (v : Value) (L : List Rng) (w : World), StI w B bm bo bd m v L → 0 ≤ a → a < m → m ≤ b → b ≤ 4611686018427387904 → 2 * (b - a) ≤ 2 ^ f → L.length + f ≤ 1000000 →
    Calls Try.prog 17 #[.int .i64 a, .int .i64 b, .bool t, .pointer (some ⟨bm, 0, none⟩), .pointer (some ⟨bo, 0, none⟩), .pointer (some ⟨bd, 0, none⟩)] w
      fun e w' => e = .returned (.tuple #[]) ∧ ∃ v', StI w' B bm bo bd m v' (L ++ goes m f a b t) ∧ Below B w w' := by
  induction f with
  | zero => intro a b t v L w hS h0 h1 h2 h3 _ _; rename_i h4 _; simp at h4; omega
  | succ f ih =>
    intro a b t v L w hS h0 h1 h2 h3 h4 h5
    have hp := half_pow h4
    clear h4
    have cm := cell_of_one hS.hm
    have co := cell_of_one hS.ho
    have cd := cell_of_one hS.hd
    have hsz : B ≤ w.heap.size := by have := lt_of_block hS.ho; have := hS.lo; omega
    have hsl : ∀ n : Int, n ≤ 9223372036854775807 → ∀ w, Calls Try.prog 15 #[.int .i64 n] w fun e w' => e = .returned (.int .i64 (sp n)) ∧ w' = w := fun n hn w => by
      by_cases h : n < 2
      · exact split_lo n w h
      · exact split_hi n w (by omega) hn
    have hsb : 0 ≤ sp (b - a) ∧ sp (b - a) < b - a := by
      by_cases h : b - a < 2
      · rw [sp_lo h]; omega
      · have := sp_bd (n := b - a) (by omega); omega
    have HS := hid hsl
    clear hsl
    by_cases hmb : m = b
    · have hq : (m == b) = true := by simpa using hmb
      cases t with
      | true =>
        have H : Hid (goes m (f + 1) a b true = []) := hid (by simp [goes, hmb])
        clear hmb
        go_enter Try.func17, Try.ntmps17
        go_wp2_with (go_at_call 15; refine (HS.out _ (by omega) _).mono ?_; rintro e w' ⟨rfl, rfl⟩)
        go_end0
        exact ⟨rfl, v, by rw [H.out, List.append_nil]; exact hS, Below.refl _ _⟩
      | false =>
        have H : Hid (goes m (f + 1) a b false = [(a, b)]) := hid (by simp [goes, hmb])
        clear hmb
        go_enter Try.func17, Try.ntmps17
        go_wp2_with (first | (go_at_call 15; refine (HS.out _ (by omega) _).mono ?_; rintro e w' ⟨rfl, rfl⟩) | (at_builtin; refine app_rng rfl _ _ rfl rfl hS.own rfl (by omega) hsz ?_; intro v2 w2 hown2 hg2; obtain ⟨g2, n2, c2, rfl⟩ := hown2.shape; obtain ⟨km, ko, hS2, hb2⟩ := hS.grown hg2 hown2; have c2 := cell_of_one ko; have f2 := free_of_one ko))
        go_end0
        exact ⟨rfl, _, by rw [H.out]; exact hS2, hb2⟩
    · have hq : (m == b) = false := by simpa using hmb
      have hs := sp_bd (n := b - a) (by omega)
      have hs2 := sp_half (n := b - a) (by omega) hp
      by_cases hk : m ≤ a + sp (b - a)
      · have hl := goes_len m f a (a + sp (b - a)) t
        have hl2 : (L ++ goes m f a (a + sp (b - a)) t).length ≤ 1000000 := by rw [List.length_append]; omega
        have H : Hid (goes m (f + 1) a b t = goes m f a (a + sp (b - a)) t ++ [(a + sp (b - a), b)]) := hid (by rw [goes, if_neg hmb, if_pos hk])
        clear hmb
        go_enter Try.func17, Try.ntmps17
        go_wp2_with (first | (go_at_call 15; refine (HS.out _ (by omega) _).mono ?_; rintro e w' ⟨rfl, rfl⟩) | (go_at_call 17; refine (ih a (a + sp (b - a)) t v L _ hS (by omega) (by omega) (by omega) (by omega) (by omega) (by omega)).mono ?_; rintro e w1 ⟨rfl, v1, hS1, hb1⟩; have co1 := cell_of_one hS1.ho) | (at_builtin; refine app_rng rfl _ _ rfl rfl hS1.own rfl (by omega) (by have := hb1.size; omega) ?_; intro v2 w2 hown2 hg2; obtain ⟨g2, n2, c2, rfl⟩ := hown2.shape; obtain ⟨km, ko, hS2, hb2⟩ := hS1.grown hg2 hown2; have c2 := cell_of_one ko; have f2 := free_of_one ko))
        go_end0
        exact ⟨rfl, _, by rw [H.out, ← List.append_assoc]; exact hS2, hb1.trans hb2⟩
      · have hl := goes_len m f (a + sp (b - a)) b false
        have hl2 : (L ++ goes m f (a + sp (b - a)) b false).length ≤ 1000000 := by rw [List.length_append]; omega
        have H : Hid (goes m (f + 1) a b t = goes m f (a + sp (b - a)) b false ++ [(a, a + sp (b - a))]) := hid (by rw [goes, if_neg hmb, if_neg hk])
        clear hmb
        go_enter Try.func17, Try.ntmps17
        go_wp2_with (first | (go_at_call 15; refine (HS.out _ (by omega) _).mono ?_; rintro e w' ⟨rfl, rfl⟩) | (go_at_call 17; refine (ih (a + sp (b - a)) b false v L _ hS (by omega) (by omega) (by omega) (by omega) (by omega) (by omega)).mono ?_; rintro e w1 ⟨rfl, v1, hS1, hb1⟩; have co1 := cell_of_one hS1.ho) | (at_builtin; refine app_rng rfl _ _ rfl rfl hS1.own rfl (by omega) (by have := hb1.size; omega) ?_; intro v2 w2 hown2 hg2; obtain ⟨g2, n2, c2, rfl⟩ := hown2.shape; obtain ⟨km, ko, hS2, hb2⟩ := hS1.grown hg2 hown2; have c2 := cell_of_one ko; have f2 := free_of_one ko))
        go_end0
        exact ⟨rfl, _, by rw [H.out, ← List.append_assoc]; exact hS2, hb1.trans hb2⟩

theorem StI.start (w : World) (m : Int) :
    StI (((w.alloc (.cells #[.int .i64 m] 2)).alloc (.cells #[.slice none 0 0] 26)).alloc (.cells #[.func (.func 17) #[] #[.pointer (some ⟨w.heap.size, 0, none⟩), .pointer (some ⟨w.heap.size + 1, 0, none⟩), .pointer (some ⟨w.heap.size + 2, 0, none⟩)]] 46))
      w.heap.size w.heap.size (w.heap.size + 1) (w.heap.size + 2) m (.slice none 0 0) [] := by
  refine ⟨Nat.le_refl _, by omega, by omega, ?_, ?_, ?_, OwnR.nil _ _⟩
  · rw [Below.heap_alloc _ _ _ (by simp; omega), Below.heap_alloc _ _ _ (by simp)]; exact heap_alloc_new w _
  · rw [Below.heap_alloc _ _ _ (by simp)]; exact (by simpa using heap_alloc_new (w.alloc (.cells #[.int .i64 m] 2)) _)
  · exact (by simpa using heap_alloc_new ((w.alloc (.cells #[.int .i64 m] 2)).alloc (.cells #[.slice none 0 0] 26)) _)

theorem steps_any (m n : Int) (w : World) (h0 : 1 ≤ m) (h1 : m ≤ n) (h2 : n ≤ 4611686018427387904) (f : Nat) (hf : 2 * n ≤ 2 ^ f) (hf2 : f ≤ 1000000) :
    Calls Try.prog 7 #[.int .i64 m, .int .i64 n] w fun e w' => ∃ v, e = .returned (.tuple #[v, .int .i64 0]) ∧ OwnR w' w.heap.size v (goes m f 0 n true) ∧ Below w.heap.size w w' := by
  have hq : (m == 0) = false := by simp; omega
  go_enter Try.func7, Try.ntmps7
  go_wp2_with (go_at_call 17; refine (steps1_any m w.heap.size _ _ _ f 0 n true _ [] _ (StI.start w m) (by omega) (by omega) (by omega) (by omega) (by simpa using hf) (by simpa using hf2)).mono ?_; rintro e w1 ⟨rfl, v1, hS1, hb1⟩; have co1 := cell_of_one hS1.ho)
  go_ret2
  exact ⟨_, rfl, by simpa using hS1.own, ((((Below.refl _ _).alloc (Nat.le_refl _) _).alloc (by simp) _).alloc (by simp; omega) _).trans hb1⟩

theorem steps_none (n : Int) (w : World) (h1 : 0 ≤ n) :
    Calls Try.prog 7 #[.int .i64 0, .int .i64 n] w fun e w' => ∃ v, e = .returned (.tuple #[v, .int .i64 0]) ∧ OwnR w' w.heap.size v [] ∧ Below w.heap.size w w' := by
  go_enter Try.func7, Try.ntmps7
  go_wp2_with fail
  go_ret2
  exact ⟨_, rfl, OwnR.nil _ _, (Below.refl _ _).alloc (Nat.le_refl _) _⟩

end Go.Proofs.Ytanbjmnheddfaaa
