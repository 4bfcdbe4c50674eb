/- Rows of elements of some cells each: what is read, and what the call itself has made. -/
import Derived.Test.YthipnbiilobjeaaStrs
import Derived.Test.YthipnbiilobjeaaRow
import Derived.Laws.AppendOwnNone
import Derived.Deep.SlicePairs
import Derived.Lib.SliceRun
namespace Go.Proofs.Ythipnbiilobjeaa
open Go.RowKit

/-- How elements lie as cells. -/
structure Enc (α : Type) where
  k : Nat
  cells : α → List Value
  len : ∀ x, (cells x).length = k
  one : ∀ x, ∀ u ∈ cells x, u.oneCell' = true
  pos : 0 < k

def flat {α : Type} (E : Enc α) : List α → List Value
  | [] => []
  | x :: l => E.cells x ++ flat E l

section
variable {α : Type} (E : Enc α)

theorem flat_length : ∀ l : List α, (flat E l).length = l.length * E.k
  | [] => by simp [flat]
  | x :: l => by rw [flat, List.length_append, E.len, flat_length l, List.length_cons, Nat.add_mul]; omega
theorem flat_append : ∀ l m : List α, flat E (l ++ m) = flat E l ++ flat E m
  | [], m => rfl
  | x :: l, m => by rw [List.cons_append, flat, flat, flat_append l m, List.append_assoc]
theorem flat_one : ∀ l : List α, ∀ u ∈ flat E l, u.oneCell' = true
  | [], u, h => by cases h
  | x :: l, u, h => by
    rw [flat] at h
    rcases List.mem_append.1 h with h | h
    · exact E.one x u h
    · exact flat_one l u h
theorem flat_take (l : List α) (i : Nat) : (flat E l).take (i * E.k) = flat E (l.take i) := by
  induction l generalizing i with
  | nil => simp [flat]
  | cons x l ih =>
    cases i with
    | zero => simp [flat]
    | succ i => rw [flat, List.take_succ_cons, flat, ← ih i, Nat.succ_mul, Nat.add_comm, ← E.len x, List.take_length_add_append]
theorem flat_drop (l : List α) (i : Nat) : (flat E l).drop (i * E.k) = flat E (l.drop i) := by
  induction l generalizing i with
  | nil => simp [flat]
  | cons x l ih =>
    cases i with
    | zero => simp
    | succ i => rw [flat, List.drop_succ_cons, ← ih i, Nat.succ_mul, Nat.add_comm, ← E.len x, List.drop_length_add_append]
theorem flat_get {l : List α} {i : Nat} {x : α} (h : l[i]? = some x) (j : Nat) (hj : j < E.k) : (flat E l)[i * E.k + j]? = (E.cells x)[j]? := by
  obtain ⟨hi, he⟩ := List.getElem?_eq_some_iff.1 h
  have h1 : ((flat E l).drop (i * E.k))[j]? = (E.cells x)[j]? := by
    rw [flat_drop, List.drop_eq_getElem_cons hi, he, flat, List.getElem?_append_left (by rw [E.len]; exact hj)]
  rwa [List.getElem?_drop] at h1

/-- The slice holds the elements. -/
def RowE (w : World) (v : Value) (l : List α) : Prop :=
  (v = .slice none 0 0 ∧ l = []) ∨ ∃ (a : Addr) (cap : Nat), v = .slice (some a) l.length cap ∧ l.length ≤ cap ∧ cap ≤ maxLen ∧ ∀ j u, (flat E l)[j]? = some u → w.cell? (a.add j) = some u

theorem RowE.below {w w' : World} {v : Value} {l : List α} {B : Nat} (h : RowE E w v l) (hb : Below B w w') (hB : w.heap.size ≤ B) : RowE E w' v l := by
  rcases h with h | ⟨a, cap, hv, h1, h2, hc⟩
  · exact .inl h
  · refine .inr ⟨a, cap, hv, h1, h2, fun j u hj => ?_⟩
    have := hc j u hj
    have hlt := block_lt_of_cell this
    rw [hb.cell (by omega)]
    exact this

theorem RowE.shape {w : World} {v : Value} {l : List α} (h : RowE E w v l) : ∃ (p : Option Addr) (cap : Nat), v = .slice p l.length cap ∧ l.length ≤ cap ∧ cap ≤ maxLen := by
  rcases h with ⟨rfl, rfl⟩ | ⟨a, cap, hv, h1, h2, _⟩
  · exact ⟨none, 0, rfl, Nat.le_refl _, by unfold maxLen; omega⟩
  · exact ⟨some a, cap, hv, h1, h2⟩

/-- A beginning of it. -/
theorem RowE.take {w : World} {p : Option Addr} {n c : Nat} {l : List α} (h : RowE E w (.slice p n c) l) {m : Nat} (hm : m ≤ l.length) : RowE E w (.slice p m c) (l.take m) := by
  rcases h with ⟨hv, rfl⟩ | ⟨a, cap, hv, h1, h2, hc⟩
  · injection hv with e1 e2 e3
    subst e1 e2 e3
    obtain rfl : m = 0 := by simpa using hm
    exact .inl ⟨rfl, rfl⟩
  · injection hv with e1 e2 e3
    subst e1 e2 e3
    refine .inr ⟨a, _, by rw [List.length_take, Nat.min_eq_left hm], by rw [List.length_take]; omega, h2, fun j u hj => hc j u ?_⟩
    rw [← flat_take, List.getElem?_take] at hj
    split at hj
    · exact hj
    · cases hj

/-- The call's own row. -/
def OwnE (T : TypeId) (w : World) (base : Nat) (v : Value) (l : List α) : Prop := w.ownsRow base T E.k v l.length (flat E l)

theorem OwnE.below {T : TypeId} {w w' : World} {base B : Nat} {v : Value} {l : List α} (h : OwnE E T w base v l) (hb : Below B w w') (hB : w.heap.size ≤ B) : OwnE E T w' base v l := by
  refine ⟨h.1, ?_⟩
  rcases h.2 with h' | ⟨g, cap, cur, hv, hg, hc, r⟩
  · exact .inl h'
  · have hlt : g < w.heap.size := by
      rcases Nat.lt_or_ge g w.heap.size with h | h
      · exact h
      · rw [Array.getElem?_eq_none h] at hc; cases hc
    exact .inr ⟨g, cap, cur, hv, hg, by rw [hb.block g (by omega)]; exact hc, r⟩

theorem OwnE.row {T : TypeId} {w : World} {base : Nat} {v : Value} {l : List α} (h : OwnE E T w base v l) : RowE E w v l := by
  rcases h.2 with ⟨hv, hn⟩ | ⟨g, cap, cur, hv, hg, hc, hn, hcap, hsz, hx⟩
  · exact .inl ⟨hv, List.eq_nil_of_length_eq_zero hn⟩
  · exact .inr ⟨⟨g, 0, none⟩, cap, hv, hn, hcap, fun j u hj => World.ownsRow.cells h (by rw [hv]; rfl) j u hj⟩

theorem OwnE.nil (T : TypeId) (w : World) (base : Nat) : OwnE E T w base (.slice none 0 0) [] := ⟨by simp [flat], .inl ⟨rfl, rfl⟩⟩

theorem OwnE.mono {T : TypeId} {w : World} {base b : Nat} {v : Value} {l : List α} (h : OwnE E T w base v l) (hb : b ≤ base) : OwnE E T w b v l := by
  refine ⟨h.1, ?_⟩
  rcases h.2 with h' | ⟨g, cap, cur, hv, hg, hc, r⟩
  · exact .inl h'
  · exact .inr ⟨g, cap, cur, hv, by omega, hc, r⟩

theorem OwnE.start {T : TypeId} {w : World} {base : Nat} (hb : base ≤ w.heap.size) : OwnE E T (w.alloc (.cells #[] T)) base (.slice (some ⟨w.heap.size, 0, none⟩) 0 0) [] :=
  ⟨by simp [flat], .inr ⟨w.heap.size, 0, #[], rfl, hb, heap_alloc_new w _, Nat.le_refl _, by unfold maxLen; omega, by simp, by simp [flat]⟩⟩

/-- A row that the call lays with one element. -/
theorem OwnE.lit {T : TypeId} {w : World} {base : Nat} (hb : base ≤ w.heap.size) (x : α) (cs : Array Value) (hcs : cs.toList = E.cells x) : OwnE E T (w.alloc (.cells cs T)) base (.slice (some ⟨w.heap.size, 0, none⟩) 1 1) [x] := by
  have hl : cs.size = E.k := by rw [← Array.length_toList, hcs, E.len]
  refine ⟨by simp [flat, E.len], .inr ⟨w.heap.size, 1, cs, rfl, hb, heap_alloc_new w _, Nat.le_refl _, by unfold maxLen; omega, by rw [hl, Nat.one_mul], ?_⟩⟩
  rw [hcs]
  simp [flat]
  rw [← E.len x, List.take_length]
end

/-- A vote: whose it is, whom about, in or out. -/
abbrev Bal := ByteArray × ByteArray × Bool
def encS : Enc ByteArray := ⟨1, fun s => [.string s], fun _ => rfl, fun x u h => by simp at h; subst h; rfl, by decide⟩
def encB : Enc Bal := ⟨3, fun b => [.string b.1, .string b.2.1, .bool b.2.2], fun _ => rfl, fun x u h => by simp at h; rcases h with rfl | rfl | rfl <;> rfl, by decide⟩
abbrev balV (b : Bal) : Value := .agg #[.string b.1, .string b.2.1, .bool b.2.2]
abbrev balO (b : Bal) : Obj := .cells #[.string b.1, .string b.2.1, .bool b.2.2] 92

theorem RowE.atS {w : World} {p : Option Addr} {n c : Nat} {l : List ByteArray} (h : RowE encS w (.slice p n c) l) : n = l.length ∧ l.length ≤ c ∧ c ≤ maxLen ∧ ∀ i x, l[i]? = some x → ∃ a, p = some a ∧ w.cell? (a.add i) = some (.string x) := by
  rcases h with ⟨hv, rfl⟩ | ⟨a, cap, hv, h1, h2, hc⟩
  · injection hv with e1 e2 e3
    subst e1 e2 e3
    exact ⟨rfl, Nat.le_refl _, by unfold maxLen; omega, fun i x hx => by simp at hx⟩
  · injection hv with e1 e2 e3
    subst e1 e2 e3
    refine ⟨rfl, h1, h2, fun i x hx => ⟨a, rfl, ?_⟩⟩
    have := flat_get encS hx 0 (by decide)
    have h3 := hc (i * 1 + 0) (.string x) (by rw [show i * 1 + 0 = i * encS.k + 0 from rfl, this]; rfl)
    simpa using h3

theorem RowE.atB {w : World} {p : Option Addr} {n c : Nat} {l : List Bal} (h : RowE encB w (.slice p n c) l) : n = l.length ∧ l.length ≤ c ∧ c ≤ maxLen ∧ ∀ i b, l[i]? = some b → ∃ a, p = some a ∧
    w.cell? (a.add (i * 3)) = some (.string b.1) ∧ w.cell? ⟨(a.add (i * 3)).block, (a.add (i * 3)).off + 1, none⟩ = some (.string b.2.1) ∧ w.cell? ⟨(a.add (i * 3)).block, (a.add (i * 3)).off + 2, none⟩ = some (.bool b.2.2) := by
  rcases h with ⟨hv, rfl⟩ | ⟨a, cap, hv, h1, h2, hc⟩
  · injection hv with e1 e2 e3
    subst e1 e2 e3
    exact ⟨rfl, Nat.le_refl _, by unfold maxLen; omega, fun i x hx => by simp at hx⟩
  · injection hv with e1 e2 e3
    subst e1 e2 e3
    refine ⟨rfl, h1, h2, fun i b hb => ⟨a, rfl, ?_, ?_, ?_⟩⟩
    · have := flat_get encB hb 0 (by decide)
      exact hc (i * 3) _ (by rw [show i * 3 = i * encB.k + 0 from rfl, this]; rfl)
    · have := flat_get encB hb 1 (by decide)
      have e : (⟨(a.add (i * 3)).block, (a.add (i * 3)).off + 1, none⟩ : Addr) = a.add (i * 3 + 1) := by rw [← Go.Deep.add_add]; rfl
      rw [e]
      exact hc (i * 3 + 1) _ (by rw [show i * 3 + 1 = i * encB.k + 1 from rfl, this]; rfl)
    · have := flat_get encB hb 2 (by decide)
      have e : (⟨(a.add (i * 3)).block, (a.add (i * 3)).off + 2, none⟩ : Addr) = a.add (i * 3 + 2) := by rw [← Go.Deep.add_add]; rfl
      rw [e]
      exact hc (i * 3 + 2) _ (by rw [show i * 3 + 2 = i * encB.k + 2 from rfl, this]; rfl)
end Go.Proofs.Ythipnbiilobjeaa
