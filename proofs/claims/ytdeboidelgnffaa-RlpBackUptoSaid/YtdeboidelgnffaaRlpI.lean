/- Rlp: items in memory. -/
import Derived.Test.YtdeboidelgnffaaRlp2
namespace Go.Proofs.Ytdeboidelgnffaa
open Go.RowKit

/-- An item as a value. -/
abbrev itemV (l : Bool) (b : List UInt8) (kv : Value) : Value := .agg #[.bool l, .string (mkS b), kv]

mutual
/-- The value reads as the item. -/
def ItemIs (w : World) : It → Value → Prop
  | .mk l b ks, v => ∃ kv, v = itemV l b kv ∧ b.length ≤ 9223372036854775807 ∧
      ((kv = .slice none 0 0 ∧ ks = []) ∨ ∃ (a : Addr) (len cap : Nat), kv = .slice (some a) len cap ∧ len ≤ cap ∧ cap ≤ 9223372036854775807 ∧ ks.length = len ∧ KidsAt w ks a 0)
/-- From element 'i' on the items lie there. -/
def KidsAt (w : World) : List It → Addr → Nat → Prop
  | [], _, _ => True
  | k :: ks, a, i => (∃ v0 v1 v2, w.cell? (a.add (i * 3)) = some v0 ∧ w.cell? (a.add (i * 3 + 1)) = some v1 ∧ w.cell? (a.add (i * 3 + 2)) = some v2 ∧ ItemIs w k (.agg #[v0, v1, v2])) ∧ KidsAt w ks a (i + 1)
end

/-- A slice of items. -/
def KidsIs (w : World) (ks : List It) (kv : Value) : Prop :=
  (kv = .slice none 0 0 ∧ ks = []) ∨ ∃ (a : Addr) (len cap : Nat), kv = .slice (some a) len cap ∧ len ≤ cap ∧ cap ≤ 9223372036854775807 ∧ ks.length = len ∧ KidsAt w ks a 0

theorem itemIs_iff {w : World} {l : Bool} {b : List UInt8} {ks : List It} {v : Value} : ItemIs w (.mk l b ks) v ↔ ∃ kv, v = itemV l b kv ∧ b.length ≤ 9223372036854775807 ∧ KidsIs w ks kv := by
  rw [ItemIs]; rfl

mutual
theorem ItemIs.below {w w' : World} {B : Nat} (hb : Below B w w') (hB : w.heap.size ≤ B) : ∀ (x : It) (v : Value), ItemIs w x v → ItemIs w' x v
  | .mk l b ks, v, h => by
    rw [ItemIs] at h ⊢
    obtain ⟨kv, e, h1, h2⟩ := h
    refine ⟨kv, e, h1, ?_⟩
    rcases h2 with h2 | ⟨a, len, cap, g1, g2, g3, g4, g5⟩
    · exact .inl h2
    · exact .inr ⟨a, len, cap, g1, g2, g3, g4, KidsAt.below hb hB ks a 0 g5⟩
theorem KidsAt.below {w w' : World} {B : Nat} (hb : Below B w w') (hB : w.heap.size ≤ B) : ∀ (ks : List It) (a : Addr) (i : Nat), KidsAt w ks a i → KidsAt w' ks a i
  | [], _, _, _ => by rw [KidsAt]; trivial
  | k :: ks, a, i, h => by
    rw [KidsAt] at h ⊢
    obtain ⟨⟨v0, v1, v2, c0, c1, c2, hi⟩, ht⟩ := h
    have hl := fun {p v} (c : w.cell? p = some v) => Nat.lt_of_lt_of_le (block_lt_of_cell c) hB
    exact ⟨⟨v0, v1, v2, by rw [hb.cell (hl c0)]; exact c0, by rw [hb.cell (hl c1)]; exact c1, by rw [hb.cell (hl c2)]; exact c2, ItemIs.below hb hB k _ hi⟩, KidsAt.below hb hB ks a (i + 1) ht⟩
end

theorem KidsIs.below {w w' : World} {B : Nat} {ks : List It} {v : Value} (h : KidsIs w ks v) (hb : Below B w w') (hB : w.heap.size ≤ B) : KidsIs w' ks v := by
  rcases h with h | ⟨a, len, cap, g1, g2, g3, g4, g5⟩
  · exact .inl h
  · exact .inr ⟨a, len, cap, g1, g2, g3, g4, KidsAt.below hb hB ks a 0 g5⟩

theorem KidsAt.get {w : World} {a : Addr} : ∀ (ks : List It) (j : Nat), KidsAt w ks a j → ∀ i k, ks[i]? = some k →
    ∃ v0 v1 v2, w.cell? (a.add ((j + i) * 3)) = some v0 ∧ w.cell? (a.add ((j + i) * 3 + 1)) = some v1 ∧ w.cell? (a.add ((j + i) * 3 + 2)) = some v2 ∧ ItemIs w k (.agg #[v0, v1, v2])
  | [], _, _, i, k, hk => by simp at hk
  | x :: ks, j, h, 0, k, hk => by
    rw [KidsAt] at h
    simp at hk
    subst hk
    exact h.1
  | x :: ks, j, h, i + 1, k, hk => by
    rw [KidsAt] at h
    have := KidsAt.get ks (j + 1) h.2 i k (by simpa using hk)
    rwa [show j + 1 + i = j + (i + 1) by omega] at this

/-- What a slice of items has. -/
theorem KidsIs.parts {w : World} {ks : List It} {v : Value} (h : KidsIs w ks v) : ∃ (p : Option Addr) (cap : Nat), v = .slice p ks.length cap ∧ ks.length ≤ cap ∧ cap ≤ 9223372036854775807 ∧
    ∀ i k, ks[i]? = some k → ∃ a l b p' n' c', p = some a ∧ w.cell? (a.add (i * 3)) = some (.bool l) ∧ w.cell? (a.add (i * 3 + 1)) = some (.string b) ∧ w.cell? (a.add (i * 3 + 2)) = some (.slice p' n' c') ∧ ItemIs w k (.agg #[.bool l, .string b, .slice p' n' c']) := by
  rcases h with ⟨rfl, rfl⟩ | ⟨a, len, cap, rfl, g2, g3, rfl, g5⟩
  · exact ⟨none, 0, rfl, Nat.le_refl _, Nat.zero_le _, fun i k hk => by simp at hk⟩
  · refine ⟨some a, cap, rfl, g2, g3, fun i k hk => ?_⟩
    obtain ⟨v0, v1, v2, c0, c1, c2, hi⟩ := KidsAt.get ks 0 g5 i k hk
    rw [Nat.zero_add] at c0 c1 c2
    obtain ⟨l, b, kk⟩ := k
    obtain ⟨kv, e, _, hk'⟩ := itemIs_iff.1 hi
    injection e with e
    simp at e
    obtain ⟨rfl, rfl, rfl⟩ := e
    rcases hk' with ⟨rfl, _⟩ | ⟨a', len', cap', rfl, _⟩
    · exact ⟨a, l, mkS b, none, 0, 0, rfl, c0, c1, c2, hi⟩
    · exact ⟨a, l, mkS b, some a', len', cap', rfl, c0, c1, c2, hi⟩
end Go.Proofs.Ytdeboidelgnffaa
