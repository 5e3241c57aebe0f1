/- Places of tiles: the list that tiles.Grown answers, and a slice of them. Conditions: heights 1 to 8, sizes from 0 to 2 to the power 62, at most 1000 more. -/
import Derived.Test.YtanbjmnheddfaaaSame
namespace Go.Proofs.Ytanbjmnheddfaaa
open Go.RowKit

/-- Level, index, width. -/
abbrev Plc := Int × Int × Int
def pc (L : List Plc) : List Value := L.flatMap fun r => [.int .i64 r.1, .int .i64 r.2.1, .int .i64 r.2.2]
theorem pc_snoc (L : List Plc) (x y z : Int) : pc (L ++ [(x, y, z)]) = pc L ++ [.int .i64 x, .int .i64 y, .int .i64 z] := by simp [pc]

def OwnP (w : World) (B : Nat) (v : Value) (L : List Plc) : Prop := w.ownsRow B 41 3 v L.length (pc L)

theorem Try.info41 : (Try.prog.info? 41).map (fun i => (i.zero, i.size, i.bytes)) = some (some (.agg #[.int .i64 0, .int .i64 0, .int .i64 0]), 3, 24) := by kernel_rfl

theorem OwnP.nil (w : World) (B : Nat) : OwnP w B (.slice none 0 0) [] := World.ownsRow_nil _ _ _ _

theorem app_plc {w : World} {ops : Array Oper} {rest : List Oper} {o : Oper} {a : Act} {Q : Exit → Act → World → Prop} (hgd : o.guard = none) (s t : Operand)
    (ho : o.op = .call { callee := .builtin .append, args := #[s, t], argTypes := #[39, 39] })
    {B : Nat} {v : Value} {L : List Plc} {x y z : Int} (hs : a.eval s = v) (hown : OwnP w B v L) (ht : a.eval t = .slice (some ⟨w.heap.size, 0, none⟩) 1 1)
    (hl : L.length ≤ 1000000) (hB : B ≤ w.heap.size)
    (h : ∀ v' w', OwnP w' B v' (L ++ [(x, y, z)]) → w.grownBy w' v.ownBlock → wpList Try.prog ops Q rest (a.put o.dst v') w') :
    wpList Try.prog ops Q (o :: rest) a (w.alloc (.cells #[.int .i64 x, .int .i64 y, .int .i64 z] 41)) := by
  obtain ⟨i0, hi, hz0, hz1, hz2⟩ := info_parts Try.info41
  refine wpList_append_own _ hgd s t 39 ho B 41 i0 _ 3 24 Try.underlying39 hi hz0 hz1 hz2 rfl (by decide) v L.length (pc L) hs (World.ownsRow.alloc hown _) ⟨w.heap.size, 0, none⟩ 1 1 [.int .i64 x, .int .i64 y, .int .i64 z] ht rfl ?_ ?_ ?_ ?_ ?_ ?_
  · intro j u hj
    match j, hj with
    | 0, hj => simp at hj; subst hj; exact World.cell?_alloc_at _ _ _ _ rfl
    | 1, hj => simp at hj; subst hj; exact World.cell?_alloc_at _ _ _ _ rfl
    | 2, hj => simp at hj; subst hj; exact World.cell?_alloc_at _ _ _ _ rfl
  · intro u hu; simp at hu; rcases hu with rfl | rfl | rfl <;> rfl
  · unfold maxLen; omega
  · omega
  · simp; omega
  · intro v' w' h1 h2 _
    refine h v' w' ?_ ⟨h2.os, h2.tape, h2.output, ?_, ?_⟩
    · unfold OwnP; rw [pc_snoc, List.length_append]; exact h1
    · have := h2.size; simp at this; omega
    · intro k hk hne
      rw [h2.block k (by simp; omega) hne]
      exact Below.heap_alloc _ _ _ hk

theorem pc_get (L : List Plc) (k : Nat) (h : k < L.length) : ∃ x y z, L[k]? = some (x, y, z) ∧ (pc L)[k * 3]? = some (.int .i64 x) ∧ (pc L)[k * 3 + 1]? = some (.int .i64 y) ∧ (pc L)[k * 3 + 2]? = some (.int .i64 z) := by
  induction L generalizing k with
  | nil => simp at h
  | cons r L ih =>
    cases k with
    | zero => exact ⟨_, _, _, rfl, rfl, rfl, rfl⟩
    | succ k =>
      obtain ⟨x, y, z, h1, h2, h3, h4⟩ := ih k (by simpa using h)
      have e : (k + 1) * 3 = k * 3 + 1 + 1 + 1 := by omega
      refine ⟨x, y, z, by simpa using h1, ?_, ?_, ?_⟩
      · simpa only [pc, List.flatMap_cons, e, List.cons_append, List.nil_append, List.getElem?_cons_succ] using h2
      · simpa only [pc, List.flatMap_cons, e, List.cons_append, List.nil_append, List.getElem?_cons_succ] using h3
      · simpa only [pc, List.flatMap_cons, e, List.cons_append, List.nil_append, List.getElem?_cons_succ] using h4

theorem OwnP.at {w : World} {B n : Nat} {a : Option Addr} {c : Nat} {L : List Plc} (h : OwnP w B (.slice a n c) L) (hL : L.length = n) (k : Nat) (hk : k < n) : ∃ g x y z, a = some ⟨g, 0, none⟩ ∧ L[k]? = some (x, y, z) ∧ w.cell? ⟨g, k * 3, none⟩ = some (.int .i64 x) ∧ w.cell? ⟨g, k * 3 + 1, none⟩ = some (.int .i64 y) ∧ w.cell? ⟨g, k * 3 + 2, none⟩ = some (.int .i64 z) := by
  subst hL
  obtain ⟨x, y, z, h1, h2, h3, h4⟩ := pc_get L k hk
  have h' := h
  rcases h'.2 with ⟨_, h0⟩ | ⟨g, cap, cur, hv, _⟩
  · omega
  · simp only [Value.slice.injEq] at hv
    obtain ⟨rfl, _, rfl⟩ := hv
    exact ⟨g, x, y, z, rfl, h1, (World.ownsRow.cellAt h (k * 3) (by omega)).trans h2, (World.ownsRow.cellAt h (k * 3 + 1) (by omega)).trans h3, (World.ownsRow.cellAt h (k * 3 + 2) (by omega)).trans h4⟩

theorem OwnP.len {w : World} {B : Nat} {v : Value} {L : List Plc} (h : OwnP w B v L) : ∃ a cap, v = .slice a L.length cap := by
  rcases h.2 with ⟨rfl, h0⟩ | ⟨g, cap, cur, rfl, _⟩
  · exact ⟨none, 0, by rw [h0]⟩
  · exact ⟨_, _, rfl⟩

theorem OwnP.below {w w' : World} {B : Nat} {v : Value} {L : List Plc} (h : OwnP w B v L) (hb : Below w.heap.size w w') : OwnP w' B v L := by
  refine World.ownsRow.kept (row := none) h ⟨hb.os, hb.tape, hb.output, hb.size, fun k hk _ => hb.block k hk⟩ ?_
  cases v.ownBlock <;> simp

/-- The less of two, as the walk spells it. -/
abbrev mn (x y : Int) : Int := if y < x then y else x

/-- k places of level l, from index i on; F hashes a tile, b on the level. -/
def plv (F b : Int) (l : Int) : Nat → Int → List Plc
  | 0, _ => []
  | k + 1, i => (l, i, mn F (b - i * F)) :: plv F b l k (i + 1)
theorem plv_len (F b l : Int) (k : Nat) : ∀ i, (plv F b l k i).length = k := by
  induction k with
  | zero => intro i; rfl
  | succ k ih => intro i; simp [plv, ih]

/-- How many places of a level. -/
def many (F a b : Int) : Nat := if a < b then ((b - 1) / F - a / F + 1).toNat else 0

theorem div_add_le {n m p : Int} (hp : 1 ≤ p) (hm : 0 ≤ m) : (n + m) / p ≤ n / p + m := by
  have h1 := Int.emod_nonneg n (b := p) (by omega)
  have h2 := Int.emod_lt_of_pos n (b := p) (by omega)
  have h3 := Int.mul_ediv_add_emod n p
  have h4 : n + m < (n / p + m + 1) * p := by
    have e1 : (n / p + m + 1) * p = p * (n / p) + m * p + p := by rw [Int.add_mul, Int.add_mul, Int.one_mul, Int.mul_comm (n / p) p]
    have e2 : m ≤ m * p := by
      have := Int.mul_le_mul_of_nonneg_left hp hm
      omega
    omega
  have := Int.ediv_lt_of_lt_mul (by omega) h4
  omega

theorem many_le {F a b : Int} (hF : 1 ≤ F) (h : b ≤ a + 1000) : many F a b ≤ 1000 := by
  unfold many
  split
  · have := div_add_le (n := a) (m := b - 1 - a) hF (by omega)
    rw [show a + (b - 1 - a) = b - 1 by omega] at this
    omega
  · omega

/-- The size on a level. -/
def lvl (h : Nat) (n : Int) (l : Nat) : Int := n / 2 ^ (h * l)

/-- The places that grow, from level l on, at most k levels. -/
def dues (h : Nat) (x y : Int) : Nat → Nat → List Plc
  | 0, _ => []
  | k + 1, l => if 0 < lvl h y l then plv (2 ^ h) (lvl h y l) l (many (2 ^ h) (lvl h x l) (lvl h y l)) (lvl h x l / 2 ^ h) ++ dues h x y k (l + 1) else []

theorem lvl_le {h l : Nat} {x m : Int} (hm : 0 ≤ m) : lvl h (x + m) l ≤ lvl h x l + m := div_add_le (by have := Int.pow_pos (n := 2) (m := h * l) (by decide); omega) hm

theorem lvl_mono {h l : Nat} {x y : Int} (hxy : x ≤ y) : lvl h x l ≤ lvl h y l := Int.ediv_le_ediv (by exact Int.pow_pos (by decide)) hxy
theorem lvl_nonneg {h l : Nat} {x : Int} (hx : 0 ≤ x) : 0 ≤ lvl h x l := Int.ediv_nonneg hx (by have := Int.pow_pos (n := 2) (m := h * l) (by decide); omega)
theorem lvl_self_le {h l : Nat} {x : Int} (hx : 0 ≤ x) : lvl h x l ≤ x := Int.ediv_le_self _ hx

theorem lvl_end {h l : Nat} {y : Int} (h1 : 1 ≤ h) (hy : 0 ≤ y) (hy2 : y ≤ 9223372036854775807) (hl : 63 ≤ l) : lvl h y l = 0 := div_big hy hy2 (by
  have := Nat.mul_le_mul h1 hl
  omega)

theorem pow_h {h : Nat} (h1 : 1 ≤ h) (h8 : h ≤ 8) : (2 : Int) ≤ 2 ^ h ∧ (2 : Int) ^ h ≤ 256 := by
  rcases (show h = 1 ∨ h = 2 ∨ h = 3 ∨ h = 4 ∨ h = 5 ∨ h = 6 ∨ h = 7 ∨ h = 8 by omega) with rfl | rfl | rfl | rfl | rfl | rfl | rfl | rfl <;> decide

end Go.Proofs.Ytanbjmnheddfaaa
