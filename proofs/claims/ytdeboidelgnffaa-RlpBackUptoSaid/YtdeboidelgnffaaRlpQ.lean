/- Rlp: a queue of items: the call's own row of cells, three an item. -/
import Derived.Test.YtdeboidelgnffaaRlp3
import Derived.Laws.AppendOwnNone
namespace Go.Proofs.Ytdeboidelgnffaa
open Go.RowKit

/-- An item's three cells. -/
abbrev IV := Bool × ByteArray × (Option Addr × Nat × Nat)
def IV.kids (x : IV) : Value := .slice x.2.2.1 x.2.2.2.1 x.2.2.2.2
def cells3 (x : IV) : List Value := [.bool x.1, .string x.2.1, x.kids]
def IV.val (x : IV) : Value := .agg #[.bool x.1, .string x.2.1, x.kids]
def flat3 : List IV → List Value
  | [] => []
  | x :: l => cells3 x ++ flat3 l

theorem flat3_length : ∀ l : List IV, (flat3 l).length = l.length * 3
  | [] => rfl
  | x :: l => by rw [flat3, List.length_append, flat3_length l, List.length_cons]; simp [cells3]; omega

theorem flat3_append : ∀ l m : List IV, flat3 (l ++ m) = flat3 l ++ flat3 m
  | [], m => rfl
  | x :: l, m => by rw [List.cons_append, flat3, flat3, flat3_append l m, List.append_assoc]

theorem flat3_get : ∀ (l : List IV) (i : Nat) (x : IV), l[i]? = some x → (flat3 l)[i * 3]? = some (.bool x.1) ∧ (flat3 l)[i * 3 + 1]? = some (.string x.2.1) ∧ (flat3 l)[i * 3 + 2]? = some x.kids
  | [], i, x, h => by simp at h
  | y :: l, 0, x, h => by simp at h; subst h; exact ⟨rfl, rfl, rfl⟩
  | y :: l, i + 1, x, h => by
    obtain ⟨h1, h2, h3⟩ := flat3_get l i x (by simpa using h)
    have e : ∀ j, (flat3 (y :: l))[(i + 1) * 3 + j]? = (flat3 l)[i * 3 + j]? := fun j => by
      rw [flat3, List.getElem?_append_right (by simp [cells3]; omega)]
      congr 1
      simp [cells3]
      omega
    exact ⟨(e 0).trans h1, (e 1).trans h2, (e 2).trans h3⟩

theorem flat3_one : ∀ l : List IV, ∀ u ∈ flat3 l, u.oneCell' = true
  | [], u, h => by cases h
  | x :: l, u, h => by
    rw [flat3] at h
    rcases List.mem_append.1 h with h | h
    · simp only [cells3, List.mem_cons, List.not_mem_nil, or_false] at h
      rcases h with rfl | rfl | rfl <;> rfl
    · exact flat3_one l u h

/-- The items lie in the triples. -/
def QIs (w : World) : List It → List IV → Prop
  | [], [] => True
  | k :: q, x :: l => ItemIs w k x.val ∧ QIs w q l
  | _, _ => False

theorem QIs.length {w : World} : ∀ {q : List It} {l : List IV}, QIs w q l → q.length = l.length
  | [], [], _ => rfl
  | k :: q, x :: l, h => by rw [List.length_cons, List.length_cons, QIs.length h.2]
  | [], _ :: _, h => by cases h
  | _ :: _, [], h => by cases h

theorem QIs.append {w : World} {q' : List It} {l' : List IV} (h' : QIs w q' l') : ∀ {q : List It} {l : List IV}, QIs w q l → QIs w (q ++ q') (l ++ l')
  | [], [], _ => h'
  | k :: q, x :: l, h => ⟨h.1, QIs.append h' h.2⟩
  | [], _ :: _, h => by cases h
  | _ :: _, [], h => by cases h

theorem QIs.below {w w' : World} {B : Nat} (hb : Below B w w') (hB : w.heap.size ≤ B) : ∀ {q : List It} {l : List IV}, QIs w q l → QIs w' q l
  | [], [], _ => trivial
  | k :: q, x :: l, h => ⟨ItemIs.below hb hB k _ h.1, QIs.below hb hB h.2⟩
  | [], _ :: _, h => by cases h
  | _ :: _, [], h => by cases h

theorem QIs.get {w : World} : ∀ {q : List It} {l : List IV} {i : Nat} {k : It}, QIs w q l → q[i]? = some k → ∃ x, l[i]? = some x ∧ ItemIs w k x.val
  | k' :: q, x :: l, 0, k, h, hk => by simp at hk; subst hk; exact ⟨x, rfl, h.1⟩
  | k' :: q, x :: l, i + 1, k, h, hk => by
    obtain ⟨y, h1, h2⟩ := QIs.get (i := i) h.2 (by simpa using hk)
    exact ⟨y, by simpa using h1, h2⟩
  | [], _, i, k, _, hk => by simp at hk
  | _ :: _, [], _, _, h, _ => by cases h

/-- An item's triple. -/
theorem itemIs_val {w : World} {k : It} {v : Value} (h : ItemIs w k v) : ∃ x : IV, v = x.val := by
  obtain ⟨l, b, ks⟩ := k
  obtain ⟨kv, rfl, _, hk⟩ := itemIs_iff.1 h
  obtain ⟨p, cap, rfl, _⟩ := hk.parts
  exact ⟨(l, mkS b, p, ks.length, cap), rfl⟩

theorem KidsAt.list {w : World} {a : Addr} : ∀ (ks : List It) (i : Nat), KidsAt w ks a i → ∃ l : List IV, QIs w ks l ∧ ∀ j u, (flat3 l)[j]? = some u → w.cell? (a.add (i * 3 + j)) = some u
  | [], i, _ => ⟨[], trivial, fun j u h => by simp [flat3] at h⟩
  | k :: ks, i, h => by
    rw [KidsAt] at h
    obtain ⟨⟨v0, v1, v2, c0, c1, c2, hi⟩, ht⟩ := h
    obtain ⟨l, hl, hc⟩ := KidsAt.list ks (i + 1) ht
    obtain ⟨x, hx⟩ := itemIs_val hi
    have e := hx
    unfold IV.val at e
    injection e with e
    simp at e
    obtain ⟨rfl, rfl, rfl⟩ := e
    refine ⟨x :: l, ⟨by rw [← hx]; exact hi, hl⟩, fun j u hj => ?_⟩
    rw [flat3] at hj
    match j, hj with
    | 0, hj => simp [cells3] at hj; subst hj; exact c0
    | 1, hj => simp [cells3] at hj; subst hj; exact c1
    | 2, hj => simp [cells3] at hj; subst hj; exact c2
    | j + 3, hj =>
      have := hc j u (by simpa [cells3] using hj)
      rwa [show (i + 1) * 3 + j = i * 3 + (j + 3) by omega] at this
end Go.Proofs.Ytdeboidelgnffaa
