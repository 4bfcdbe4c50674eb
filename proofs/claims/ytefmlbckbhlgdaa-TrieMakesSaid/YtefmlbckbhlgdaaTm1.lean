/- Rows of elements of some cells each: what is read, and what the call itself has made. Regions that draw their order and hold calls that make memory: one walk, in the order of the text, at the class of the worlds in which nothing old has turned. Vote: how two texts stand, whether one is among others, and what is made of it. Vote, the plain side: texts stand in an order, and votes do. Vote: whether an address is among others, how many votes are for the same, and whether addresses may be. Vote: how many votes are for the same; whether addresses may be. Vote: whether more than half have voted so, and whether a vote is one of a validator. Tries, in plain words: how pairs are laid as nodes, and how nodes are gone through. Tries, in plain words: nodes that are laid of pairs are gone through as these pairs. Tries, in plain words: nodes that are laid of rising pairs are gone through as these. Tries, in plain words: what is gone through rises. Tries, in plain words: a trie's pairs; a pair put, one deleted. -/
import Derived.Laws.AppendOwnNone
import Derived.Deep.SlicePairs
import Derived.Lib.SliceRun
import Derived.Deep.QuietTactic
import Derived.BigQuiet
import Derived.Lib.Bytealg
import Derived.Test.YtefmlbckbhlgdaaTm0
namespace Go.Proofs.Ytefmlbckbhlgdaa
open Go.RowKit
/-- How elements lie as cells. -/
structure Enc (α : Type) where
  k : Nat
  cells : α → List Value
  len : ∀ x, (cells x).length = k
  one : ∀ x, ∀ u ∈ cells x, u.oneCell' = true
  pos : 0 < k

def flat {α : Type} (E : Enc α) : List α → List Value
  | [] => []
  | x :: l => E.cells x ++ flat E l

section
variable {α : Type} (E : Enc α)
theorem flat_length : ∀ l : List α, (flat E l).length = l.length * E.k
  | [] => by simp [flat]
  | x :: l => by rw [flat, List.length_append, E.len, flat_length l, List.length_cons, Nat.add_mul]; omega
theorem flat_append : ∀ l m : List α, flat E (l ++ m) = flat E l ++ flat E m
  | [], m => rfl
  | x :: l, m => by rw [List.cons_append, flat, flat, flat_append l m, List.append_assoc]
theorem flat_one : ∀ l : List α, ∀ u ∈ flat E l, u.oneCell' = true
  | [], u, h => by cases h
  | x :: l, u, h => by
    rw [flat] at h
    rcases List.mem_append.1 h with h | h
    · exact E.one x u h
    · exact flat_one l u h
theorem flat_take (l : List α) (i : Nat) : (flat E l).take (i * E.k) = flat E (l.take i) := by
  induction l generalizing i with
  | nil => simp [flat]
  | cons x l ih =>
    cases i with
    | zero => simp [flat]
    | succ i => rw [flat, List.take_succ_cons, flat, ← ih i, Nat.succ_mul, Nat.add_comm, ← E.len x, List.take_length_add_append]
theorem flat_drop (l : List α) (i : Nat) : (flat E l).drop (i * E.k) = flat E (l.drop i) := by
  induction l generalizing i with
  | nil => simp [flat]
  | cons x l ih =>
    cases i with
    | zero => simp
    | succ i => rw [flat, List.drop_succ_cons, ← ih i, Nat.succ_mul, Nat.add_comm, ← E.len x, List.drop_length_add_append]
theorem flat_get {l : List α} {i : Nat} {x : α} (h : l[i]? = some x) (j : Nat) (hj : j < E.k) : (flat E l)[i * E.k + j]? = (E.cells x)[j]? := by
  obtain ⟨hi, he⟩ := List.getElem?_eq_some_iff.1 h
  have h1 : ((flat E l).drop (i * E.k))[j]? = (E.cells x)[j]? := by
    rw [flat_drop, List.drop_eq_getElem_cons hi, he, flat, List.getElem?_append_left (by rw [E.len]; exact hj)]
  rwa [List.getElem?_drop] at h1

/-- The slice holds the elements. -/
def RowE (w : World) (v : Value) (l : List α) : Prop :=
  (v = .slice none 0 0 ∧ l = []) ∨ ∃ (a : Addr) (cap : Nat), v = .slice (some a) l.length cap ∧ l.length ≤ cap ∧ cap ≤ maxLen ∧ ∀ j u, (flat E l)[j]? = some u → w.cell? (a.add j) = some u

theorem RowE.below {w w' : World} {v : Value} {l : List α} {B : Nat} (h : RowE E w v l) (hb : Below B w w') (hB : w.heap.size ≤ B) : RowE E w' v l := by
  rcases h with h | ⟨a, cap, hv, h1, h2, hc⟩
  · exact .inl h
  · refine .inr ⟨a, cap, hv, h1, h2, fun j u hj => ?_⟩
    have := hc j u hj
    have hlt := block_lt_of_cell this
    rw [hb.cell (by omega)]
    exact this

theorem RowE.shape {w : World} {v : Value} {l : List α} (h : RowE E w v l) : ∃ (p : Option Addr) (cap : Nat), v = .slice p l.length cap ∧ l.length ≤ cap ∧ cap ≤ maxLen := by
  rcases h with ⟨rfl, rfl⟩ | ⟨a, cap, hv, h1, h2, _⟩
  · exact ⟨none, 0, rfl, Nat.le_refl _, by unfold maxLen; omega⟩
  · exact ⟨some a, cap, hv, h1, h2⟩

/-- A beginning of it. -/
theorem RowE.take {w : World} {p : Option Addr} {n c : Nat} {l : List α} (h : RowE E w (.slice p n c) l) {m : Nat} (hm : m ≤ l.length) : RowE E w (.slice p m c) (l.take m) := by
  rcases h with ⟨hv, rfl⟩ | ⟨a, cap, hv, h1, h2, hc⟩
  · injection hv with e1 e2 e3
    subst e1 e2 e3
    obtain rfl : m = 0 := by simpa using hm
    exact .inl ⟨rfl, rfl⟩
  · injection hv with e1 e2 e3
    subst e1 e2 e3
    refine .inr ⟨a, _, by rw [List.length_take, Nat.min_eq_left hm], by rw [List.length_take]; omega, h2, fun j u hj => hc j u ?_⟩
    rw [← flat_take, List.getElem?_take] at hj
    split at hj
    · exact hj
    · cases hj

/-- The call's own row. -/
def OwnE (T : TypeId) (w : World) (base : Nat) (v : Value) (l : List α) : Prop := w.ownsRow base T E.k v l.length (flat E l)

theorem OwnE.below {T : TypeId} {w w' : World} {base B : Nat} {v : Value} {l : List α} (h : OwnE E T w base v l) (hb : Below B w w') (hB : w.heap.size ≤ B) : OwnE E T w' base v l := by
  refine ⟨h.1, ?_⟩
  rcases h.2 with h' | ⟨g, cap, cur, hv, hg, hc, r⟩
  · exact .inl h'
  · have hlt : g < w.heap.size := by
      rcases Nat.lt_or_ge g w.heap.size with h | h
      · exact h
      · rw [Array.getElem?_eq_none h] at hc; cases hc
    exact .inr ⟨g, cap, cur, hv, hg, by rw [hb.block g (by omega)]; exact hc, r⟩

theorem OwnE.row {T : TypeId} {w : World} {base : Nat} {v : Value} {l : List α} (h : OwnE E T w base v l) : RowE E w v l := by
  rcases h.2 with ⟨hv, hn⟩ | ⟨g, cap, cur, hv, hg, hc, hn, hcap, hsz, hx⟩
  · exact .inl ⟨hv, List.eq_nil_of_length_eq_zero hn⟩
  · exact .inr ⟨⟨g, 0, none⟩, cap, hv, hn, hcap, fun j u hj => World.ownsRow.cells h (by rw [hv]; rfl) j u hj⟩

theorem OwnE.nil (T : TypeId) (w : World) (base : Nat) : OwnE E T w base (.slice none 0 0) [] := ⟨by simp [flat], .inl ⟨rfl, rfl⟩⟩

theorem OwnE.mono {T : TypeId} {w : World} {base b : Nat} {v : Value} {l : List α} (h : OwnE E T w base v l) (hb : b ≤ base) : OwnE E T w b v l := by
  refine ⟨h.1, ?_⟩
  rcases h.2 with h' | ⟨g, cap, cur, hv, hg, hc, r⟩
  · exact .inl h'
  · exact .inr ⟨g, cap, cur, hv, by omega, hc, r⟩

theorem OwnE.start {T : TypeId} {w : World} {base : Nat} (hb : base ≤ w.heap.size) : OwnE E T (w.alloc (.cells #[] T)) base (.slice (some ⟨w.heap.size, 0, none⟩) 0 0) [] :=
  ⟨by simp [flat], .inr ⟨w.heap.size, 0, #[], rfl, hb, heap_alloc_new w _, Nat.le_refl _, by unfold maxLen; omega, by simp, by simp [flat]⟩⟩

/-- A row that the call lays with one element. -/
theorem OwnE.lit {T : TypeId} {w : World} {base : Nat} (hb : base ≤ w.heap.size) (x : α) (cs : Array Value) (hcs : cs.toList = E.cells x) : OwnE E T (w.alloc (.cells cs T)) base (.slice (some ⟨w.heap.size, 0, none⟩) 1 1) [x] := by
  have hl : cs.size = E.k := by rw [← Array.length_toList, hcs, E.len]
  refine ⟨by simp [flat, E.len], .inr ⟨w.heap.size, 1, cs, rfl, hb, heap_alloc_new w _, Nat.le_refl _, by unfold maxLen; omega, by rw [hl, Nat.one_mul], ?_⟩⟩
  rw [hcs]
  simp [flat]
  rw [← E.len x, List.take_length]
end
/-- A vote: whose it is, whom about, in or out. -/
abbrev Bal := ByteArray × ByteArray × Bool
end Go.Proofs.Ytefmlbckbhlgdaa
namespace Go.Proofs.Ytefmlbckbhlgdaa
open Go.RowKit
/-- A world in which all that was in 'W' is as it was. -/
def Later (W : World) : Type := { w' : World // Below W.heap.size W w' }
def Later.w {W : World} (u : Later W) : World := u.1
theorem Later.below {W : World} (u : Later W) : Below W.heap.size W u.w := u.2
theorem Later.size {W : World} (u : Later W) : W.heap.size ≤ u.w.heap.size := u.2.size
def Later.of {W w' : World} (h : Below W.heap.size W w') : Later W := ⟨w', h⟩

instance laterNonempty (W : World) : Nonempty (Later W) := ⟨Later.of (Below.refl _ _)⟩

theorem region_later {P : Program} {id : Nat} {Q : Exit → Act → World → Prop} {a : Act} {w : World} {l : List Oper} (hm : P.follows .mixedOrders = true) (hB : Region.lexB .any l.toArray = true)
    (h : wpQuiet P l.toArray (fun w' => ∃ u : Later w, w' = u.w) (fun a' => ∀ w', (∃ u : Later w, w' = u.w) → Q .normal a' w') l a) : (Code.region id l.toArray true).wp P Q a w :=
  wp_region_quiet (C := fun w' => ∃ u : Later w, w' = u.w) hm hB ⟨Later.of (Below.refl w.heap.size w).drew, rfl⟩ (by simpa using h)

theorem Later.call {P : Program} {f : FuncId} {args : Array Value} {v : Value} {W : World} {u : Later W} (h : Calls P f args u.w fun e w' => e = .returned v ∧ Below u.w.heap.size u.w w') :
    Calls P f args u.w fun e w'' => e = .returned v ∧ ∃ u' : Later W, w'' = u'.w :=
  h.mono fun _ _ ⟨he, hb⟩ => ⟨he, Later.of (u.below.trans (hb.mono u.size)), rfl⟩

theorem RowAt.later {W : World} {k : Nat} {cs : Array Value} {T : TypeId} (h : RowAt W k cs T) (u : Later W) : RowAt u.w k cs T := h.belowS u.below

theorem RowAt.l1 {W : World} {k : Nat} {v0 : Value} {T : TypeId} (h : RowAt W k #[v0] T) : ∀ u : Later W, u.w.cell? ⟨k, 0, none⟩ = some v0 := fun u => (h.later u).cell 0
theorem RowAt.l2 {W : World} {k : Nat} {v0 v1 : Value} {T : TypeId} (h : RowAt W k #[v0, v1] T) : (∀ u : Later W, u.w.cell? ⟨k, 0, none⟩ = some v0) ∧ (∀ u : Later W, u.w.cell? ⟨k, 1, none⟩ = some v1) :=
  ⟨fun u => (h.later u).cell 0, fun u => (h.later u).cell 1⟩
theorem RowAt.l3 {W : World} {k : Nat} {v0 v1 v2 : Value} {T : TypeId} (h : RowAt W k #[v0, v1, v2] T) : (∀ u : Later W, u.w.cell? ⟨k, 0, none⟩ = some v0) ∧ (∀ u : Later W, u.w.cell? ⟨k, 1, none⟩ = some v1) ∧ (∀ u : Later W, u.w.cell? ⟨k, 2, none⟩ = some v2) :=
  ⟨fun u => (h.later u).cell 0, fun u => (h.later u).cell 1, fun u => (h.later u).cell 2⟩
end Go.Proofs.Ytefmlbckbhlgdaa
namespace Go.Proofs.Ytefmlbckbhlgdaa
open Go.RowKit
end Go.Proofs.Ytefmlbckbhlgdaa
namespace Go.Proofs.Ytefmlbckbhlgdaa
open Go.RowKit
abbrev ltL (a b : List UInt8) : Bool := Op.bytesLess a b
theorem ltL_irr : ∀ a : List UInt8, ltL a a = false
  | [] => rfl
  | x :: l => by
    have := ltL_irr l
    unfold ltL at *
    simp [Op.bytesLess, this]
theorem ltL_trans : ∀ a b c : List UInt8, ltL a b = true → ltL b c = true → ltL a c = true
  | _, _, [], _, h => by cases ‹List UInt8› <;> simp [ltL, Op.bytesLess] at h
  | _, [], _ :: _, h, _ => by unfold ltL Op.bytesLess at h; cases h
  | [], _ :: _, _ :: _, _, _ => rfl
  | x :: a, y :: b, z :: c, h1, h2 => by
    unfold ltL at *
    simp only [Op.bytesLess, Bool.or_eq_true, decide_eq_true_eq, Bool.and_eq_true, beq_iff_eq] at h1 h2 ⊢
    rcases h1 with h1 | ⟨rfl, h1⟩
    · rcases h2 with h2 | ⟨rfl, h2⟩
      · exact .inl (UInt8.lt_trans h1 h2)
      · exact .inl h1
    · rcases h2 with h2 | ⟨rfl, h2⟩
      · exact .inl h2
      · exact .inr ⟨rfl, ltL_trans a b c h1 h2⟩
theorem ltL_tri : ∀ a b : List UInt8, ltL a b = true ∨ a = b ∨ ltL b a = true
  | [], [] => .inr (.inl rfl)
  | [], _ :: _ => .inl rfl
  | _ :: _, [] => .inr (.inr rfl)
  | x :: a, y :: b => by
    unfold ltL
    simp only [Op.bytesLess, Bool.or_eq_true, decide_eq_true_eq, Bool.and_eq_true, beq_iff_eq]
    by_cases h : x < y
    · exact .inl (.inl h)
    · by_cases h' : y < x
      · exact .inr (.inr (.inl h'))
      · have e : x = y := UInt8.le_antisymm (UInt8.not_lt.1 h') (UInt8.not_lt.1 h)
        subst e
        rcases ltL_tri a b with h1 | h1 | h1
        · exact .inl (.inr ⟨rfl, h1⟩)
        · exact .inr (.inl (by rw [h1]))
        · exact .inr (.inr (.inr ⟨rfl, h1⟩))
/-- The model's order of texts. -/
abbrev ltS (a b : ByteArray) : Bool := Op.bytesLess a.toList b.toList
/-- They stand at the same place. -/
def keyB (a b : Bal) : Prop := a.2.1 = b.2.1 ∧ a.1 = b.1
theorem keyB.symm {a b : Bal} (h : keyB a b) : keyB b a := ⟨h.1.symm, h.2.symm⟩
end Go.Proofs.Ytefmlbckbhlgdaa
namespace Go.Proofs.Ytefmlbckbhlgdaa
open Go.RowKit
end Go.Proofs.Ytefmlbckbhlgdaa
namespace Go.Proofs.Ytefmlbckbhlgdaa
open Go.RowKit
/-- Addresses may be the set of validators. -/
def SetOk (l : List ByteArray) : Prop := (∀ (j : Nat) x, l[j]? = some x → x.size = 20) ∧ (∀ (j : Nat) x y, l[j]? = some x → l[j + 1]? = some y → ltS x y = true) ∧ 1 ≤ l.length ∧ l.length ≤ 16
/-- What is gone through may be. -/
def SetTo (l : List ByteArray) (k : Nat) : Prop := (∀ (j : Nat) x, j < k → l[j]? = some x → x.size = 20) ∧ (∀ (j : Nat) x y, j + 1 < k → l[j]? = some x → l[j + 1]? = some y → ltS x y = true)
theorem SetTo.step {l : List ByteArray} {k : Nat} {x : ByteArray} (h : SetTo l k) (hx : l[k]? = some x) (hs : x.size = 20) (hp : ∀ j y, k = j + 1 → l[j]? = some y → ltS y x = true) : SetTo l (k + 1) := by
  refine ⟨fun j y hj hy => ?_, fun j y z hj hy hz => ?_⟩
  · by_cases e : j = k
    · subst e; rw [hx] at hy; injection hy with e; subst e; exact hs
    · exact h.1 j y (by omega) hy
  · by_cases e : j + 1 = k
    · subst e; rw [hx] at hz; injection hz with e; subst e; exact hp j y rfl hy
    · exact h.2 j y z (by omega) hy hz
theorem SetTo.all {l : List ByteArray} (h : SetTo l l.length) (h1 : 1 ≤ l.length) (h2 : l.length ≤ 16) : SetOk l :=
  ⟨fun j x hx => h.1 j x (List.getElem?_eq_some_iff.1 hx).1 hx, fun j x y hx hy => h.2 j x y (List.getElem?_eq_some_iff.1 hy).1 hx hy, h1, h2⟩

end Go.Proofs.Ytefmlbckbhlgdaa
namespace Go.Proofs.Ytefmlbckbhlgdaa
open Go.RowKit
end Go.Proofs.Ytefmlbckbhlgdaa
namespace Go.Proofs.Ytefmlbckbhlgdaa
/-- A key's half bytes (or a key) and its value. -/
abbrev Pr := List UInt8 × List UInt8
/-- A node. -/
structure Nd where
  kind : Int
  part : List UInt8
  value : List UInt8
  kids : List Int
def noKids : List Int := List.replicate 16 (-1)
def leafN (p : Pr) : Nd := ⟨1, p.1, p.2, noKids⟩
def jointN (s : List UInt8) (at_ : Int) : Nd := ⟨2, s, [], noKids.set 0 at_⟩
def branchN (v : List UInt8) (ks : List Int) : Nd := ⟨3, [], v, ks⟩

def cutK (k : Nat) (l : List Pr) : List Pr := l.map fun p => (p.1.drop k, p.2)
def hasC (c : Nat) (p : Pr) : Bool := match p.1 with
  | [] => false
  | x :: _ => x.toNat == c
def cutC (c : Nat) (l : List Pr) : List Pr := cutK 1 (l.filter (hasC c))
def valE : List Pr → List UInt8
  | [] => []
  | p :: l => if p.1 = [] then p.2 else valE l
def commonL : List Pr → Nat
  | [] => 0
  | p :: r => r.foldl (fun n q => min n (shareL q.1 p.1)) p.1.length

/-- The nodes of pairs, behind those that there are; the topmost one. -/
def layF : Nat → List Pr → List Nd → List Nd × Int
  | 0, _, ns => (ns, -1)
  | f + 1, l, ns => match l with
    | [] => (ns, -1)
    | [p] => (ns ++ [leafN p], ns.length)
    | p :: q :: r =>
      if 0 < commonL (p :: q :: r) then
        let x := layF f (cutK (commonL (p :: q :: r)) (p :: q :: r)) ns
        (x.1 ++ [jointN (p.1.take (commonL (p :: q :: r))) x.2], x.1.length)
      else
        let y := (List.range 16).foldl (fun s c => let x := layF f (cutC c (p :: q :: r)) s.1; (x.1, s.2 ++ [x.2])) (ns, [])
        (y.1 ++ [branchN (valE (p :: q :: r)) y.2], y.1.length)

def keyP (p : List UInt8) : List UInt8 := if p.all (· < 16) && p.length % 2 == 0 then joinL p else []
def okP (p v : List UInt8) : Bool := (p.all (· < 16) && p.length % 2 == 0) && (decide (1 ≤ (joinL p).length) && decide ((joinL p).length ≤ 32) && decide (1 ≤ v.length) && decide (v.length ≤ 500))
def yieldL (out : List Pr) (p v : List UInt8) : List Pr × Bool := (out ++ [(keyP p, v)], okP p v && decide (out.length + 1 ≤ 64))

/-- The kids of a branch, one behind the other. -/
def kidsW (go : Int → List UInt8 → List Pr → List Pr × Bool) (i : Int) (part : List UInt8) : List Int → Nat → List Pr → List Pr × Bool
  | [], _, out => (out, true)
  | k :: ks, c, out =>
    if k = -1 then kidsW go i part ks (c + 1) out
    else if k < i then
      let x := go k (part ++ [UInt8.ofNat c]) out
      if x.2 then kidsW go i part ks (c + 1) x.1 else (x.1, false)
    else (out, false)

/-- All pairs below a node, as far as it is well laid. -/
def walkF (ns : List Nd) : Nat → Int → List UInt8 → List Pr → List Pr × Bool
  | 0, _, _, out => (out, false)
  | f + 1, i, part, out =>
    if i < 0 then (out, false) else match ns[i.toNat]? with
    | none => (out, false)
    | some n =>
      if 64 < part.length then (out, false)
      else if n.kind = 1 then yieldL out (part ++ n.part) n.value
      else if n.kind = 2 then (if n.kids.getD 0 0 < i then walkF ns f (n.kids.getD 0 0) (part ++ n.part) out else (out, false))
      else if n.kind = 3 then
        (if n.value = [] then kidsW (walkF ns f) i part n.kids 0 out
        else
          let y := yieldL out part n.value
          if y.2 then kidsW (walkF ns f) i part n.kids 0 y.1 else (y.1, false))
      else (out, false)

def partsL (l : List Pr) : List Pr := l.map fun p => (ofL p.1, p.2)
def ofT (l : List Pr) : List Nd × Int := layF 200 (partsL l) []

def sortP (l : List Pr) : Prop := l.Pairwise fun p q => ltL p.1 q.1 = true
def halfP (l : List Pr) : Prop := ∀ p ∈ l, p.1.all (· < 16) = true

theorem share_mid : ∀ {a b c : List UInt8}, ltL a b = true → ltL b c = true → shareL c a ≤ shareL b a
  | [], _, [], _, _ => by simp [shareL]
  | [], _, _ :: _, _, _ => by simp [shareL]
  | _ :: _, [], _, h, _ => by simp [ltL, Op.bytesLess] at h
  | _ :: _, _ :: _, [], _, h => by simp [ltL, Op.bytesLess] at h
  | x :: a, y :: b, z :: c, h1, h2 => by
    unfold shareL
    unfold ltL Op.bytesLess at h1 h2
    by_cases e : z = x
    · subst e
      rw [if_pos rfl]
      have hyz : y = z := by
        apply UInt8.toNat_inj.1
        simp only [Bool.or_eq_true, Bool.and_eq_true, decide_eq_true_eq, beq_iff_eq, UInt8.lt_iff_toNat_lt] at h1 h2
        rcases h1 with h1 | ⟨h1, _⟩ <;> rcases h2 with h2 | ⟨h2, _⟩ <;> subst_vars <;> first | rfl | omega
      subst hyz
      rw [if_pos rfl]
      simp only [Bool.or_eq_true, Bool.and_eq_true, decide_eq_true_eq, beq_iff_eq, UInt8.lt_iff_toNat_lt] at h1 h2
      have h1' : ltL a b = true := by
        rcases h1 with h1 | ⟨_, h1⟩
        · omega
        · exact h1
      have h2' : ltL b c = true := by
        rcases h2 with h2 | ⟨_, h2⟩
        · omega
        · exact h2
      have := share_mid h1' h2'
      omega
    · rw [if_neg e]; omega
end Go.Proofs.Ytefmlbckbhlgdaa
namespace Go.Proofs.Ytefmlbckbhlgdaa
theorem share_take : ∀ {a b : List UInt8} {k : Nat}, k ≤ shareL a b → a.take k = b.take k ∧ k ≤ a.length ∧ k ≤ b.length := by
  intro a b k h
  have hl := shareL_le a b
  refine ⟨?_, by omega, by omega⟩
  refine List.ext_getElem? fun i => ?_
  rw [List.getElem?_take, List.getElem?_take]
  split
  · exact shareL_alike a b i (by omega)
  · rfl
theorem ltL_drop : ∀ {k : Nat} {a b : List UInt8}, a.take k = b.take k → k ≤ a.length → k ≤ b.length → ltL (a.drop k) (b.drop k) = ltL a b
  | 0, a, b, _, _, _ => by simp
  | k + 1, [], _, _, h, _ => by simp at h
  | k + 1, _ :: _, [], _, _, h => by simp at h
  | k + 1, x :: a, y :: b, h, h1, h2 => by
    simp only [List.take_succ_cons, List.cons.injEq] at h
    obtain ⟨rfl, h⟩ := h
    rw [List.drop_succ_cons, List.drop_succ_cons, ltL_drop h (by simpa using h1) (by simpa using h2)]
    simp [ltL, Op.bytesLess]
theorem foldl_min {α : Type} (g : α → Nat) : ∀ (r : List α) (n : Nat), (r.foldl (fun n q => min n (g q)) n ≤ n) ∧ (∀ q ∈ r, r.foldl (fun n q => min n (g q)) n ≤ g q) ∧ (r.foldl (fun n q => min n (g q)) n = n ∨ ∃ q ∈ r, r.foldl (fun n q => min n (g q)) n = g q)
  | [], n => ⟨Nat.le_refl _, fun q h => (by cases h), Or.inl rfl⟩
  | x :: r, n => by
    obtain ⟨h1, h2, h3⟩ := foldl_min g r (min n (g x))
    rw [List.foldl_cons]
    refine ⟨by omega, fun q hq => ?_, ?_⟩
    · rcases List.mem_cons.1 hq with rfl | hq
      · omega
      · exact h2 q hq
    · rcases h3 with h3 | ⟨q, hq, h3⟩
      · by_cases hm : n ≤ g x
        · left; omega
        · right; exact ⟨x, List.mem_cons_self, by omega⟩
      · right; exact ⟨q, List.mem_cons_of_mem _ hq, h3⟩
theorem commonL_le {p : Pr} {r : List Pr} : commonL (p :: r) ≤ p.1.length ∧ ∀ q ∈ r, commonL (p :: r) ≤ shareL q.1 p.1 :=
  ⟨(foldl_min (fun q : Pr => shareL q.1 p.1) r p.1.length).1, (foldl_min (fun q : Pr => shareL q.1 p.1) r p.1.length).2.1⟩
theorem common_take {p : Pr} {r : List Pr} : ∀ q ∈ p :: r, q.1.take (commonL (p :: r)) = p.1.take (commonL (p :: r)) ∧ commonL (p :: r) ≤ q.1.length := fun q hq => by
  obtain ⟨h1, h2⟩ := commonL_le (p := p) (r := r)
  rcases List.mem_cons.1 hq with rfl | hq
  · exact ⟨rfl, h1⟩
  · obtain ⟨e, a, _⟩ := share_take (h2 q hq)
    exact ⟨e, a⟩
/-- In a rising row the first and the last say how much all have in common. -/
theorem commonL_last {p : Pr} {r : List Pr} {z : Pr} (hs : sortP (p :: (r ++ [z]))) : commonL (p :: (r ++ [z])) = shareL z.1 p.1 := by
  obtain ⟨h1, h2, h3⟩ := foldl_min (fun q : Pr => shareL q.1 p.1) (r ++ [z]) p.1.length
  show (r ++ [z]).foldl _ _ = _
  have hp := List.pairwise_cons.1 hs
  have hle : ∀ q ∈ r ++ [z], shareL z.1 p.1 ≤ shareL q.1 p.1 := fun q hq => by
    rcases List.mem_append.1 hq with hq | hq
    · have hz := (List.pairwise_append.1 hp.2).2.2 q hq z (by simp)
      exact share_mid (hp.1 q (by simp [hq])) hz
    · have : q = z := by simpa using hq
      subst this
      exact Nat.le_refl _
  have hz := h2 z (by simp)
  rcases h3 with h3 | ⟨q, hq, h3⟩
  · have := (shareL_le z.1 p.1).2
    omega
  · have := hle q hq
    omega

theorem sortP_cutK {k : Nat} {l : List Pr} (hs : sortP l) (hk : ∀ p ∈ l, ∀ q ∈ l, p.1.take k = q.1.take k) (hl : ∀ p ∈ l, k ≤ p.1.length) : sortP (cutK k l) := by
  unfold sortP cutK at *
  rw [List.pairwise_map]
  refine List.Pairwise.imp_of_mem ?_ hs
  intro a b ha hb hab
  show ltL (a.1.drop k) (b.1.drop k) = true
  rw [ltL_drop (hk a ha b hb) (hl a ha) (hl b hb)]
  exact hab
theorem all_drop {l : List UInt8} (h : l.all (· < 16) = true) (k : Nat) : (l.drop k).all (· < 16) = true := by
  rw [List.all_eq_true] at *
  exact fun x hx => h x (List.mem_of_mem_drop hx)
theorem halfP_cutK {k : Nat} {l : List Pr} (h : halfP l) : halfP (cutK k l) := fun p hp => by
  obtain ⟨q, hq, rfl⟩ := List.mem_map.1 hp
  exact all_drop (h q hq) k
theorem hasC_some {c : Nat} {p : Pr} (h : hasC c p = true) : ∃ x r, p.1 = x :: r ∧ x.toNat = c := by
  unfold hasC at h
  split at h
  · cases h
  · rename_i x r e
    exact ⟨x, r, e, by simpa using h⟩
theorem hasC_take {c : Nat} {p q : Pr} (hp : hasC c p = true) (hq : hasC c q = true) : p.1.take 1 = q.1.take 1 := by
  obtain ⟨x, r, e1, h1⟩ := hasC_some hp
  obtain ⟨y, s, e2, h2⟩ := hasC_some hq
  have : x = y := UInt8.toNat_inj.1 (by omega)
  rw [e1, e2, this]
  rfl
theorem sortP_cutC {c : Nat} {l : List Pr} (hs : sortP l) : sortP (cutC c l) := by
  refine sortP_cutK (List.Pairwise.filter _ hs) ?_ ?_
  · intro p hp q hq
    exact hasC_take (List.mem_filter.1 hp).2 (List.mem_filter.1 hq).2
  · intro p hp
    obtain ⟨x, r, e, _⟩ := hasC_some (List.mem_filter.1 hp).2
    rw [e]; simp
theorem halfP_cutC {c : Nat} {l : List Pr} (h : halfP l) : halfP (cutC c l) := halfP_cutK fun p hp => h p (List.mem_filter.1 hp).1

/-- In a row that does not fall, the elements of each number stand one behind the other. -/
theorem filter_lt_succ {α : Type} (f : α → Nat) (n : Nat) : ∀ l : List α, l.Pairwise (fun a b => f a ≤ f b) → l.filter (fun a => decide (f a < n + 1)) = l.filter (fun a => decide (f a < n)) ++ l.filter (fun a => f a == n)
  | [], _ => rfl
  | a :: l, h => by
    obtain ⟨h1, h2⟩ := List.pairwise_cons.1 h
    have ih := filter_lt_succ f n l h2
    rcases Nat.lt_trichotomy (f a) n with hlt | heq | hgt
    · rw [List.filter_cons_of_pos (by simp; omega), List.filter_cons_of_pos (by simp; omega), List.filter_cons_of_neg (by simp; omega), ih, List.cons_append]
    · have e : l.filter (fun a => decide (f a < n)) = [] := List.filter_eq_nil_iff.2 fun b hb => by have := h1 b hb; simp; omega
      rw [List.filter_cons_of_pos (by simp; omega), List.filter_cons_of_neg (by simp; omega), List.filter_cons_of_pos (by simp; omega), ih, e]
      rfl
    · have e : l.filter (fun a => decide (f a < n)) = [] := List.filter_eq_nil_iff.2 fun b hb => by have := h1 b hb; simp; omega
      have e2 : l.filter (fun a => f a == n) = [] := List.filter_eq_nil_iff.2 fun b hb => by have := h1 b hb; simp; omega
      have e3 : l.filter (fun a => decide (f a < n + 1)) = [] := List.filter_eq_nil_iff.2 fun b hb => by have := h1 b hb; simp; omega
      rw [List.filter_cons_of_neg (by simp; omega), List.filter_cons_of_neg (by simp; omega), List.filter_cons_of_neg (by simp; omega), e, e2, e3]
      rfl
theorem flatMap_range {α : Type} (f : α → Nat) {l : List α} (h : l.Pairwise (fun a b => f a ≤ f b)) : ∀ n : Nat, (List.range n).flatMap (fun c => l.filter (fun a => f a == c)) = l.filter (fun a => decide (f a < n))
  | 0 => by simp
  | n + 1 => by
    rw [List.range_succ, List.flatMap_append, flatMap_range f h n, filter_lt_succ f n l h]
    simp
/-- The number that a key begins with, and one more; none: 0. -/
def headN (p : Pr) : Nat := match p.1 with
  | [] => 0
  | x :: _ => x.toNat + 1
theorem headN_hasC (c : Nat) (p : Pr) : (headN p == c + 1) = hasC c p := by
  obtain ⟨a, v⟩ := p
  cases a with
  | nil => simp [headN, hasC]
  | cons x a => simp [headN, hasC]
theorem headN_le {p q : Pr} (h : ltL p.1 q.1 = true) : headN p ≤ headN q := by
  obtain ⟨a, v⟩ := p
  obtain ⟨b, u⟩ := q
  cases a with
  | nil => exact Nat.zero_le _
  | cons x a =>
    cases b with
    | nil => simp [ltL, Op.bytesLess] at h
    | cons y b =>
      simp only [ltL, Op.bytesLess, Bool.or_eq_true, decide_eq_true_eq, Bool.and_eq_true, beq_iff_eq, UInt8.lt_iff_toNat_lt] at h
      show x.toNat + 1 ≤ y.toNat + 1
      rcases h with h | ⟨rfl, _⟩ <;> omega
/-- A rising row of parts: first the empty one, if it is there, then those that begin with 0, with 1 .. -/
theorem branch_split {l : List Pr} (hs : sortP l) (hh : halfP l) : l = l.filter (fun p => headN p == 0) ++ (List.range 16).flatMap fun c => l.filter (hasC c) := by
  have hw : l.Pairwise (fun a b => headN a ≤ headN b) := List.Pairwise.imp (fun h => headN_le h) hs
  have h17 := flatMap_range headN hw 17
  have hall : l.filter (fun a => decide (headN a < 17)) = l := List.filter_eq_self.2 fun p hp => by
    have := hh p hp
    unfold headN
    split
    · rfl
    · rename_i x r e
      rw [e, List.all_cons, Bool.and_eq_true, decide_eq_true_eq, UInt8.lt_iff_toNat_lt] at this
      have h16 : (16 : UInt8).toNat = 16 := rfl
      simp
      omega
  rw [hall] at h17
  have e : List.range 17 = 0 :: (List.range 16).map (· + 1) := rfl
  rw [e, List.flatMap_cons, List.flatMap_map] at h17
  conv => lhs; rw [← h17]
  congr 1
  rw [List.flatMap_def, List.flatMap_def]
  congr 1
  exact List.map_congr_left fun c _ => List.filter_congr fun p _ => headN_hasC c p
end Go.Proofs.Ytefmlbckbhlgdaa
namespace Go.Proofs.Ytefmlbckbhlgdaa
theorem layF_nil (f : Nat) (ns : List Nd) : layF f [] ns = (ns, -1) := by cases f <;> rfl
theorem layF_one (f : Nat) (p : Pr) (ns : List Nd) : layF (f + 1) [p] ns = (ns ++ [leafN p], (ns.length : Int)) := rfl
theorem layF_joint {f : Nat} {p q : Pr} {r : List Pr} {ns : List Nd} (h : 0 < commonL (p :: q :: r)) : layF (f + 1) (p :: q :: r) ns =
    ((layF f (cutK (commonL (p :: q :: r)) (p :: q :: r)) ns).1 ++ [jointN (p.1.take (commonL (p :: q :: r))) (layF f (cutK (commonL (p :: q :: r)) (p :: q :: r)) ns).2], ((layF f (cutK (commonL (p :: q :: r)) (p :: q :: r)) ns).1.length : Int)) := by
  rw [layF]
  simp only
  rw [if_pos h]
/-- The kids of a branch, laid one behind the other. -/
def kidsF (f : Nat) (l : List Pr) (cs : List Nat) (s : List Nd × List Int) : List Nd × List Int := cs.foldl (fun s c => ((layF f (cutC c l) s.1).1, s.2 ++ [(layF f (cutC c l) s.1).2])) s
theorem layF_branch {f : Nat} {p q : Pr} {r : List Pr} {ns : List Nd} (h : ¬ 0 < commonL (p :: q :: r)) : layF (f + 1) (p :: q :: r) ns =
    ((kidsF f (p :: q :: r) (List.range 16) (ns, [])).1 ++ [branchN (valE (p :: q :: r)) (kidsF f (p :: q :: r) (List.range 16) (ns, [])).2], ((kidsF f (p :: q :: r) (List.range 16) (ns, [])).1.length : Int)) := by
  rw [layF]
  simp only
  rw [if_neg h]
  rfl

def outOf (part : List UInt8) (l : List Pr) : List Pr := l.map fun p => (keyP (part ++ p.1), p.2)
theorem outOf_append (part : List UInt8) (a b : List Pr) : outOf part (a ++ b) = outOf part a ++ outOf part b := List.map_append
theorem outOf_len (part : List UInt8) (a : List Pr) : (outOf part a).length = a.length := List.length_map _
theorem okP_len {p v : List UInt8} (h : okP p v = true) : p.length ≤ 64 := by
  unfold okP at h
  simp only [Bool.and_eq_true, decide_eq_true_eq, beq_iff_eq] at h
  have := joinL_length p
  omega

/-- What the walk is asked of a node that is laid of pairs. -/
def Walks (ns : List Nd) (i : Int) (l : List Pr) : Prop :=
  ∀ (more : List Nd) (F : Nat) (part : List UInt8) (out : List Pr), i.toNat < F → (∀ p ∈ l, okP (part ++ p.1) p.2 = true) → out.length + l.length ≤ 64 →
    walkF (ns ++ more) F i part out = (out ++ outOf part l, true)

theorem yieldL_ok {out : List Pr} {p v : List UInt8} (h : okP p v = true) (hl : out.length + 1 ≤ 64) : yieldL out p v = (out ++ [(keyP p, v)], true) := by
  unfold yieldL
  rw [h, decide_eq_true hl]
  rfl
theorem at_end {ns : List Nd} {n : Nd} (more : List Nd) : (ns ++ [n] ++ more)[((ns.length : Nat) : Int).toNat]? = some n := by
  rw [Int.toNat_natCast, List.append_assoc, List.getElem?_append_right (Nat.le_refl _), Nat.sub_self]
  rfl

theorem cutK_okP {k : Nat} {l : List Pr} {part : List UInt8} {t : List UInt8} (hk : ∀ p ∈ l, p.1.take k = t) (h : ∀ p ∈ l, okP (part ++ p.1) p.2 = true) : (∀ p ∈ cutK k l, okP ((part ++ t) ++ p.1) p.2 = true) ∧ outOf (part ++ t) (cutK k l) = outOf part l := by
  have e : ∀ p ∈ l, (part ++ t) ++ p.1.drop k = part ++ p.1 := fun p hp => by rw [← hk p hp, List.append_assoc, List.take_append_drop]
  refine ⟨fun p hp => ?_, ?_⟩
  · obtain ⟨q, hq, rfl⟩ := List.mem_map.1 hp
    show okP ((part ++ t) ++ q.1.drop k) q.2 = true
    rw [e q hq]
    exact h q hq
  · unfold outOf cutK
    rw [List.map_map]
    refine List.map_congr_left fun p hp => ?_
    show (keyP ((part ++ t) ++ p.1.drop k), p.2) = _
    rw [e p hp]
theorem hasC_ofNat {c : Nat} {p : Pr} (h : hasC c p = true) : p.1.take 1 = [UInt8.ofNat c] := by
  obtain ⟨x, r, e, h1⟩ := hasC_some h
  rw [e, ← h1]
  simp

theorem kidsF_cons (f : Nat) (l : List Pr) (c : Nat) (cs : List Nat) (s : List Nd × List Int) : kidsF f l (c :: cs) s = kidsF f l cs ((layF f (cutC c l) s.1).1, s.2 ++ [(layF f (cutC c l) s.1).2]) := rfl

/-- What is laid stands behind what there was, and the walk of it answers. -/
def LayOk (f : Nat) : Prop := ∀ (l : List Pr) (ns : List Nd), sortP l → halfP l → (∀ p ∈ l, p.1.length < f) → l ≠ [] →
  ns.length < (layF f l ns).1.length ∧ (layF f l ns).2 = ((layF f l ns).1.length : Int) - 1 ∧ (∃ t, (layF f l ns).1 = ns ++ t) ∧ Walks (layF f l ns).1 (layF f l ns).2 l

theorem kids_ok {f : Nat} (ih : LayOk f) {l : List Pr} (hs : sortP l) (hh : halfP l) (hf : ∀ p ∈ l, p.1.length < f + 1) : ∀ (m c : Nat) (ns : List Nd) (ks : List Int),
    ∃ new t, kidsF f l (List.range' c m) (ns, ks) = (ns ++ t, ks ++ new) ∧ new.length = m ∧
      ∀ (more : List Nd) (F : Nat) (i : Int) (part : List UInt8) (out : List Pr), ((ns ++ t).length : Int) ≤ i → i.toNat ≤ F → (∀ p ∈ (List.range' c m).flatMap (fun c => l.filter (hasC c)), okP (part ++ p.1) p.2 = true) → out.length + ((List.range' c m).flatMap (fun c => l.filter (hasC c))).length ≤ 64 →
        kidsW (walkF (ns ++ t ++ more) F) i part new c out = (out ++ outOf part ((List.range' c m).flatMap (fun c => l.filter (hasC c))), true)
  | 0, c, ns, ks => ⟨[], [], by simp [kidsF], rfl, fun more F i part out _ _ _ _ => by simp [kidsW, outOf]⟩
  | m + 1, c, ns, ks => by
    rw [List.range'_succ, kidsF_cons]
    simp only [List.flatMap_cons]
    have hlen : ∀ p ∈ cutC c l, p.1.length < f := fun p hp => by
      obtain ⟨q, hq, rfl⟩ := List.mem_map.1 hp
      obtain ⟨x, r, e, _⟩ := hasC_some (List.mem_filter.1 hq).2
      have := hf q (List.mem_filter.1 hq).1
      show (q.1.drop 1).length < f
      rw [e] at this ⊢
      simp at this ⊢
      omega
    by_cases he : l.filter (hasC c) = []
    · have h0 : cutC c l = [] := by unfold cutC; rw [he]; rfl
      rw [h0, layF_nil]
      obtain ⟨new, t, h1, h2, h3⟩ := kids_ok ih hs hh hf m (c + 1) ns (ks ++ [-1])
      refine ⟨-1 :: new, t, by rw [h1]; simp, by simp [h2], fun more F i part out a1 a2 a3 a4 => ?_⟩
      rw [he, List.nil_append] at a3 a4 ⊢
      rw [kidsW, if_pos rfl]
      exact h3 more F i part out a1 a2 a3 a4
    · have hne : cutC c l ≠ [] := fun e => he (List.map_eq_nil_iff.1 e)
      obtain ⟨g1, g2, ⟨t1, g3⟩, g4⟩ := ih (cutC c l) ns (sortP_cutC hs) (halfP_cutC hh) hlen hne
      generalize layF f (cutC c l) ns = x at *
      obtain ⟨xs, xi⟩ := x
      simp only at g1 g2 g3 g4 ⊢
      subst g3
      obtain ⟨new, t, h1, h2, h3⟩ := kids_ok ih hs hh hf m (c + 1) (ns ++ t1) (ks ++ [xi])
      refine ⟨xi :: new, t1 ++ t, by rw [h1]; simp, by simp [h2], fun more F i part out a1 a2 a3 a4 => ?_⟩
      have hlt : xi < i := by
        rw [g2]
        simp only [List.length_append] at a1 ⊢
        omega
      have hx0 : xi ≠ -1 := by rw [g2]; simp only [List.length_append] at g1 ⊢; omega
      have hxF : xi.toNat < F := by simp only [List.length_append] at g1 g2; omega
      rw [kidsW, if_neg hx0, if_pos hlt]
      have hok := cutK_okP (k := 1) (t := [UInt8.ofNat c]) (part := part) (l := l.filter (hasC c)) (fun p hp => hasC_ofNat (List.mem_filter.1 hp).2) (fun p hp => a3 p (List.mem_append_left _ hp))
      have hw := g4 (t ++ more) F (part ++ [UInt8.ofNat c]) out hxF hok.1 (by
        show out.length + (cutK 1 _).length ≤ 64
        rw [cutK, List.length_map]
        simp only [List.length_append] at a4
        omega)
      have e1 : ns ++ t1 ++ (t ++ more) = ns ++ (t1 ++ t) ++ more := by simp
      rw [e1, show outOf (part ++ [UInt8.ofNat c]) (cutC c l) = outOf part (l.filter (hasC c)) from hok.2] at hw
      rw [hw]
      simp only [if_true]
      have e2 : ns ++ t1 ++ t ++ more = ns ++ (t1 ++ t) ++ more := by simp
      have := h3 more F i part (out ++ outOf part (l.filter (hasC c))) (by simp only [List.length_append] at a1 ⊢; omega) a2 (fun p hp => a3 p (List.mem_append_right _ hp)) (by rw [List.length_append, outOf_len]; simp only [List.length_append] at a4; omega)
      rw [e2] at this
      rw [this, outOf_append, List.append_assoc]

theorem valE_nil {l : List Pr} (h : ∀ p ∈ l, p.1 ≠ []) : valE l = [] := by
  induction l with
  | nil => rfl
  | cons p l ih =>
    rw [valE, if_neg (h p List.mem_cons_self)]
    exact ih fun q hq => h q (List.mem_cons_of_mem _ hq)
theorem empty_first {p : Pr} {r : List Pr} (hs : sortP (p :: r)) : ∀ q ∈ r, q.1 ≠ [] := fun q hq e => by
  have := (List.pairwise_cons.1 hs).1 q hq
  rw [e] at this
  cases p.1 <;> simp [ltL, Op.bytesLess] at this
theorem headN_zero (p : Pr) : (headN p == 0) = decide (p.1 = []) := by
  obtain ⟨a, v⟩ := p
  cases a <;> simp [headN]
theorem lay_ok : ∀ f, LayOk f
  | 0, l, ns, _, _, hf, hne => by
    obtain ⟨p, hp⟩ := List.exists_mem_of_ne_nil l hne
    exact absurd (hf p hp) (by omega)
  | f + 1, [], _, _, _, _, hne => absurd rfl hne
  | f + 1, [p], ns, _, _, _, _ => by
    rw [layF_one]
    refine ⟨by simp, by simp, ⟨_, rfl⟩, fun more F part out hF hok hl => ?_⟩
    cases F with
    | zero => omega
    | succ F =>
      have h1 := hok p (by simp)
      have h2 := okP_len h1
      rw [walkF]
      rw [if_neg (by simp), at_end]
      simp only
      rw [if_neg (by simp at h2; omega), if_pos (show (leafN p).kind = 1 from rfl)]
      exact yieldL_ok h1 (by simpa using hl)
  | f + 1, p :: q :: r, ns, hs, hh, hf, _ => by
    have ih := lay_ok f
    by_cases hc : 0 < commonL (p :: q :: r)
    · rw [layF_joint hc]
      have ht := common_take (p := p) (r := q :: r)
      generalize commonL (p :: q :: r) = k at *
      obtain ⟨g1, g2, ⟨t, g3⟩, g4⟩ := ih (cutK k (p :: q :: r)) ns (sortP_cutK hs (fun a ha b hb => by rw [(ht a ha).1, (ht b hb).1]) (fun a ha => (ht a ha).2)) (halfP_cutK hh) (fun a ha => by
        obtain ⟨b, hb, rfl⟩ := List.mem_map.1 ha
        have h1 := hf b hb
        have h2 := (ht b hb).2
        show (b.1.drop k).length < f
        rw [List.length_drop]
        omega) (by simp [cutK])
      generalize layF f (cutK k (p :: q :: r)) ns = x at *
      obtain ⟨xs, xi⟩ := x
      simp only at g1 g2 g3 g4 ⊢
      subst g3
      refine ⟨by first | (simp; done) | (simp; omega), by first | (simp; done) | (simp; omega), ⟨_, List.append_assoc _ _ _⟩, fun more F part out hF hok hl => ?_⟩
      cases F with
      | zero => omega
      | succ F =>
        have h2 := okP_len (hok p (by simp))
        have hok2 := cutK_okP (k := k) (t := p.1.take k) (part := part) (fun a ha => (ht a ha).1) hok
        rw [walkF]
        rw [if_neg (by omega), at_end]
        simp only
        rw [if_neg (by simp at h2; omega), if_neg (show ¬ (jointN (p.1.take k) xi).kind = 1 from by show ¬ (2 : Int) = 1; omega), if_pos (show (jointN (p.1.take k) xi).kind = 2 from rfl)]
        have hk0 : (jointN (p.1.take k) xi).kids.getD 0 0 = xi := rfl
        rw [hk0, if_pos (by omega)]
        have hxF : xi.toNat < F := by simp only [List.length_append, Int.toNat_natCast] at g1 g2 hF ⊢; omega
        have := g4 ([jointN (p.1.take k) xi] ++ more) F (part ++ p.1.take k) out hxF hok2.1 (by rw [cutK, List.length_map]; exact hl)
        rw [hok2.2, ← List.append_assoc] at this
        exact this
    · rw [layF_branch hc]
      have hsp := branch_split hs hh
      have hr : List.range 16 = List.range' 0 16 := List.range_eq_range'
      obtain ⟨new, t, h1, h2, h3⟩ := kids_ok ih hs hh (fun a ha => hf a ha) 16 0 ns []
      rw [hr, h1]
      simp only [List.nil_append]
      refine ⟨by first | (simp; done) | (simp; omega), by first | (simp; done) | (simp; omega), ⟨_, List.append_assoc _ _ _⟩, fun more F part out hF hok hl => ?_⟩
      cases F with
      | zero => omega
      | succ F =>
        have hp2 := okP_len (hok p (by simp))
        have hg : (List.range' 0 16).flatMap (fun c => (p :: q :: r).filter (hasC c)) = if p.1 = [] then q :: r else p :: q :: r := by
          rw [hr] at hsp
          have hz : (q :: r).filter (fun p => headN p == 0) = [] := List.filter_eq_nil_iff.2 fun a ha => by
            rw [headN_zero]
            simpa using empty_first hs a ha
          by_cases hp : p.1 = []
          · rw [List.filter_cons_of_pos (by rw [headN_zero]; simpa using hp), hz] at hsp
            rw [if_pos hp]
            simpa using hsp.symm
          · rw [List.filter_cons_of_neg (by rw [headN_zero]; simpa using hp), hz] at hsp
            rw [if_neg hp]
            simpa using hsp.symm
        have hv : valE (p :: q :: r) = if p.1 = [] then p.2 else [] := by
          rw [valE]
          split
          · rfl
          · exact valE_nil (empty_first hs)
        rw [hg] at h3
        rw [walkF]
        rw [if_neg (by omega), at_end]
        simp only
        rw [if_neg (by simp at hp2; omega), if_neg (show ¬ (branchN (valE (p :: q :: r)) new).kind = 1 from by show ¬ (3 : Int) = 1; omega), if_neg (show ¬ (branchN (valE (p :: q :: r)) new).kind = 2 from by show ¬ (3 : Int) = 2; omega), if_pos (show (branchN (valE (p :: q :: r)) new).kind = 3 from rfl)]
        have hFF : (((ns ++ t).length : Nat) : Int).toNat ≤ F := by omega
        have hcond : (branchN (valE (p :: q :: r)) new).value = valE (p :: q :: r) := rfl
        have hkids : (branchN (valE (p :: q :: r)) new).kids = new := rfl
        rw [hcond, hkids, hv]
        by_cases hp : p.1 = []
        · rw [if_pos hp] at h3 ⊢
          have hokp := hok p (by simp)
          rw [hp, List.append_nil] at hokp
          have hpv : p.2 ≠ [] := fun e => by
            unfold okP at hokp
            rw [e] at hokp
            simp at hokp
          rw [if_neg hpv, yieldL_ok hokp (by simp at hl; omega)]
          simp only [if_true]
          have := h3 ([branchN p.2 new] ++ more) F (ns ++ t).length part (out ++ [(keyP part, p.2)]) (Int.le_refl _) hFF (fun a ha => hok a (List.mem_cons_of_mem _ ha)) (by simp at hl ⊢; omega)
          rw [← List.append_assoc] at this
          rw [this]
          simp [outOf, hp]
        · rw [if_neg hp] at h3 ⊢
          rw [if_pos rfl]
          have := h3 ([branchN [] new] ++ more) F (ns ++ t).length part out (Int.le_refl _) hFF hok hl
          rw [← List.append_assoc] at this
          rw [this]
end Go.Proofs.Ytefmlbckbhlgdaa
namespace Go.Proofs.Ytefmlbckbhlgdaa
def preP (s : List UInt8) (l : List Pr) : List Pr := l.map fun p => (s ++ p.1, p.2)
theorem ltL_pre : ∀ (s a b : List UInt8), ltL (s ++ a) (s ++ b) = ltL a b
  | [], a, b => rfl
  | x :: s, a, b => by
    have := ltL_pre s a b
    simp only [List.cons_append, ltL, Op.bytesLess] at this ⊢
    simp [this]
theorem sortP_pre {s : List UInt8} {l : List Pr} (h : sortP l) : sortP (preP s l) := by
  unfold sortP preP
  rw [List.pairwise_map]
  exact List.Pairwise.imp (fun {a b} h => by show ltL (s ++ a.1) (s ++ b.1) = true; rw [ltL_pre]; exact h) h
theorem outOf_pre (part s : List UInt8) (l : List Pr) : outOf part (preP s l) = outOf (part ++ s) l := by
  unfold outOf preP
  rw [List.map_map]
  exact List.map_congr_left fun p _ => by simp
theorem okP_pre {part s : List UInt8} {l : List Pr} (h : ∀ p ∈ l, okP ((part ++ s) ++ p.1) p.2 = true) : ∀ p ∈ preP s l, okP (part ++ p.1) p.2 = true := fun p hp => by
  obtain ⟨q, hq, rfl⟩ := List.mem_map.1 hp
  have := h q hq
  rwa [List.append_assoc] at this

/-- What has been gone through below a node: rising, all of it as it may be. -/
def Rose (part : List UInt8) (out : List Pr) (r : List Pr × Bool) : Prop :=
  r.2 = true → ∃ P, r.1 = out ++ outOf part P ∧ sortP P ∧ (∀ p ∈ P, okP (part ++ p.1) p.2 = true) ∧ (P ≠ [] → out.length + P.length ≤ 64)

theorem yield_rose (part : List UInt8) (s v : List UInt8) (out : List Pr) : Rose part out (yieldL out (part ++ s) v) := fun h => by
  unfold yieldL at h ⊢
  simp only [Bool.and_eq_true, decide_eq_true_eq] at h
  exact ⟨[(s, v)], rfl, List.pairwise_singleton _ _, fun p hp => by
    obtain rfl := List.mem_singleton.1 hp
    exact h.1, fun _ => by simpa using h.2⟩
theorem rose_pre {part s : List UInt8} {out : List Pr} {r : List Pr × Bool} (h : Rose (part ++ s) out r) : Rose part out r := fun e => by
  obtain ⟨P, h1, h2, h3, h4⟩ := h e
  refine ⟨preP s P, by rw [outOf_pre]; exact h1, sortP_pre h2, okP_pre h3, fun hn => ?_⟩
  have : P ≠ [] := fun e => hn (by rw [e]; rfl)
  have := h4 this
  rwa [preP, List.length_map]
theorem rose_nil (part : List UInt8) (out : List Pr) (b : Bool) : Rose part out (out, b) := fun _ => ⟨[], by simp [outOf], List.Pairwise.nil, fun p hp => (by cases hp), fun h => absurd rfl h⟩

theorem kids_rose {go : Int → List UInt8 → List Pr → List Pr × Bool} {i : Int} {part : List UInt8} (hg : ∀ k q out, Rose q out (go k q out)) : ∀ (ks : List Int) (c : Nat) (out : List Pr), c + ks.length ≤ 256 →
    (kidsW go i part ks c out).2 = true → ∃ P, (kidsW go i part ks c out).1 = out ++ outOf part P ∧ sortP P ∧ (∀ p ∈ P, okP (part ++ p.1) p.2 = true) ∧ (P ≠ [] → out.length + P.length ≤ 64) ∧ (∀ p ∈ P, c + 1 ≤ headN p)
  | [], c, out, _, _ => ⟨[], by simp [kidsW, outOf], List.Pairwise.nil, fun p hp => (by cases hp), fun h => absurd rfl h, fun p hp => (by cases hp)⟩
  | k :: ks, c, out, hc, h => by
    rw [kidsW] at h ⊢
    simp only [List.length_cons] at hc
    by_cases h1 : k = -1
    · rw [if_pos h1] at h ⊢
      obtain ⟨P, a1, a2, a3, a4, a5⟩ := kids_rose hg ks (c + 1) out (by omega) h
      exact ⟨P, a1, a2, a3, a4, fun p hp => by have := a5 p hp; omega⟩
    · rw [if_neg h1] at h ⊢
      by_cases h2 : k < i
      · rw [if_pos h2] at h ⊢
        have hr := hg k (part ++ [UInt8.ofNat c]) out
        generalize go k (part ++ [UInt8.ofNat c]) out = x at *
        obtain ⟨x1, x2⟩ := x
        simp only at h ⊢
        cases x2 with
        | false => simp at h
        | true =>
          simp only [if_true] at h ⊢
          obtain ⟨P, b1, b2, b3, b4⟩ := rose_pre hr rfl
          obtain ⟨Q0, q1, q2, q3, q4⟩ := hr rfl
          simp only at b1 q1
          -- the first kid's pairs begin with its number
          obtain ⟨Q, a1, a2, a3, a4, a5⟩ := kids_rose hg ks (c + 1) x1 (by omega) h
          have hP : ∀ p ∈ preP [UInt8.ofNat c] Q0, headN p = c + 1 := fun p hp => by
            obtain ⟨q, hq, rfl⟩ := List.mem_map.1 hp
            show (UInt8.ofNat c).toNat + 1 = c + 1
            rw [UInt8.toNat_ofNat']
            omega
          refine ⟨preP [UInt8.ofNat c] Q0 ++ Q, ?_, ?_, ?_, ?_, ?_⟩
          · rw [a1, q1, outOf_append, outOf_pre, List.append_assoc]
          · refine List.pairwise_append.2 ⟨sortP_pre q2, a2, fun p hp q hq => ?_⟩
            have h1 := hP p hp
            have h2 := a5 q hq
            obtain ⟨pa, pv⟩ := p
            obtain ⟨qa, qv⟩ := q
            cases pa with
            | nil => simp [headN] at h1
            | cons y pa =>
              cases qa with
              | nil => simp [headN] at h2
              | cons z qa =>
                simp only [headN] at h1 h2
                show ltL (y :: pa) (z :: qa) = true
                simp only [ltL, Op.bytesLess, Bool.or_eq_true, decide_eq_true_eq, UInt8.lt_iff_toNat_lt]
                left
                omega
          · intro p hp
            rcases List.mem_append.1 hp with hp | hp
            · exact okP_pre q3 p hp
            · exact a3 p hp
          · intro _
            by_cases e : Q = []
            · subst e
              by_cases e0 : Q0 = []
              · subst e0
                rename_i hne
                exact absurd rfl hne
              · have := q4 e0
                simpa [preP] using this
            · have := a4 e
              rw [q1] at this
              simp only [List.length_append, outOf_len] at this
              simp only [List.length_append, preP, List.length_map]
              omega
          · intro p hp
            rcases List.mem_append.1 hp with hp | hp
            · have := hP p hp; omega
            · have := a5 p hp; omega
      · rw [if_neg h2] at h
        cases h

theorem walk_rose {ns : List Nd} (hk : ∀ n ∈ ns, n.kids.length = 16) : ∀ (f : Nat) (i : Int) (part : List UInt8) (out : List Pr), Rose part out (walkF ns f i part out)
  | 0, i, part, out => by rw [walkF]; exact rose_nil part out false
  | f + 1, i, part, out => by
    rw [walkF]
    split
    · exact rose_nil part out false
    · cases e : ns[i.toNat]? with
      | none => exact rose_nil part out false
      | some n =>
        have hn := hk n (List.mem_of_getElem? e)
        simp only
        split
        · exact rose_nil part out false
        · split
          · exact yield_rose part n.part n.value out
          · split
            · split
              · exact rose_pre (walk_rose hk f _ (part ++ n.part) out)
              · exact rose_nil part out false
            · split
              · split
                · intro h
                  obtain ⟨P, a1, a2, a3, a4, _⟩ := kids_rose (fun k q out => walk_rose hk f k q out) n.kids 0 out (by omega) h
                  exact ⟨P, a1, a2, a3, a4⟩
                · have hy := yield_rose part [] n.value out
                  rw [List.append_nil] at hy
                  generalize hyl : yieldL out part n.value = y at *
                  obtain ⟨y1, y2⟩ := y
                  simp only
                  cases y2 with
                  | false => exact fun h => by simp at h
                  | true =>
                    simp only [if_true]
                    intro h
                    have hy2 : y1 = out ++ [(keyP part, n.value)] ∧ okP part n.value = true ∧ out.length + 1 ≤ 64 := by
                      unfold yieldL at hyl
                      injection hyl with e1 e2
                      simp only [Bool.and_eq_true, decide_eq_true_eq] at e2
                      exact ⟨e1.symm, e2.1, e2.2⟩
                    obtain ⟨P, a1, a2, a3, a4, a5⟩ := kids_rose (fun k q out => walk_rose hk f k q out) n.kids 0 y1 (by omega) h
                    refine ⟨([], n.value) :: P, ?_, ?_, ?_, ?_⟩
                    · rw [a1, hy2.1]
                      simp [outOf]
                    · refine List.pairwise_cons.2 ⟨fun q hq => ?_, a2⟩
                      have := a5 q hq
                      obtain ⟨qa, qv⟩ := q
                      cases qa with
                      | nil => simp [headN] at this
                      | cons z qa => rfl
                    · intro p hp
                      rcases List.mem_cons.1 hp with rfl | hp
                      · rw [List.append_nil]; exact hy2.2.1
                      · exact a3 p hp
                    · intro _
                      by_cases eP : P = []
                      · subst eP; simpa using hy2.2.2
                      · have := a4 eP
                        rw [hy2.1] at this
                        simp at this ⊢
                        omega
              · exact rose_nil part out false
end Go.Proofs.Ytefmlbckbhlgdaa
namespace Go.Proofs.Ytefmlbckbhlgdaa
def mayP (p : Pr) : Bool := decide (1 ≤ p.1.length) && decide (p.1.length ≤ 32) && decide (1 ≤ p.2.length) && decide (p.2.length ≤ 500)
theorem ofL_even (l : List UInt8) : (ofL l).length % 2 = 0 := by rw [ofL_length]; omega
theorem keyP_of (k : List UInt8) : keyP (ofL k) = k := by
  unfold keyP
  rw [ofL_small, ofL_even]
  exact joinL_ofL k
theorem okP_of (p : Pr) : okP (ofL p.1) p.2 = mayP p := by
  unfold okP mayP
  rw [ofL_small, ofL_even, joinL_ofL]
  simp
theorem ltL_of : ∀ a b : List UInt8, ltL (ofL a) (ofL b) = ltL a b
  | [], [] => rfl
  | [], y :: b => rfl
  | x :: a, [] => rfl
  | x :: a, y :: b => by
    have ih := ltL_of a b
    simp only [ltL, ofL, Op.bytesLess] at ih ⊢
    rw [ih]
    have hx := x.toNat_lt
    have hy := y.toNat_lt
    have e1 : (x / 16).toNat = x.toNat / 16 := by simp
    have e2 : (y / 16).toNat = y.toNat / 16 := by simp
    have e3 : (x % 16).toNat = x.toNat % 16 := by simp
    have e4 : (y % 16).toNat = y.toNat % 16 := by simp
    generalize Op.bytesLess a b = c
    apply Bool.eq_iff_iff.2
    simp only [Bool.or_eq_true, Bool.and_eq_true, decide_eq_true_eq, beq_iff_eq, UInt8.lt_iff_toNat_lt, ← UInt8.toNat_inj, e1, e2, e3, e4]
    constructor
    · rintro (h | ⟨h, h' | ⟨h', hc⟩⟩)
      · left; omega
      · left; omega
      · right; exact ⟨by omega, hc⟩
    · rintro (h | ⟨h, hc⟩)
      · by_cases hq : x.toNat / 16 < y.toNat / 16
        · left; exact hq
        · right; exact ⟨by omega, .inl (by omega)⟩
      · right; exact ⟨by omega, .inr ⟨by omega, hc⟩⟩
theorem sortP_parts {l : List Pr} : sortP (partsL l) ↔ sortP l := by
  unfold sortP partsL
  rw [List.pairwise_map]
  constructor
  · exact List.Pairwise.imp fun {a b} h => by
      have : ltL (ofL a.1) (ofL b.1) = true := h
      rwa [ltL_of] at this
  · exact List.Pairwise.imp fun {a b} h => by show ltL (ofL a.1) (ofL b.1) = true; rw [ltL_of]; exact h
theorem halfP_parts (l : List Pr) : halfP (partsL l) := fun p hp => by
  obtain ⟨q, _, rfl⟩ := List.mem_map.1 hp
  exact ofL_small q.1
theorem outOf_parts (l : List Pr) : outOf [] (partsL l) = l := by
  unfold outOf partsL
  rw [List.map_map]
  conv => rhs; rw [← List.map_id l]
  exact List.map_congr_left fun p _ => by
    show (keyP ([] ++ ofL p.1), p.2) = p
    rw [List.nil_append, keyP_of]
/-- Pairs of which a trie may be: rising, few, none too long. -/
def Pairs (l : List Pr) : Prop := sortP l ∧ (∀ p ∈ l, mayP p = true) ∧ l.length ≤ 64
theorem Pairs.nil : Pairs [] := ⟨List.Pairwise.nil, fun p h => (by cases h), Nat.zero_le _⟩

noncomputable def pairsT (t : List Nd × Int) : List Pr × Bool :=
  if t.2 = -1 then ([], @decide (t.1 = []) (Classical.propDecidable _))
  else ((walkF t.1 (t.1.length + 1) t.2 [] []).1, (walkF t.1 (t.1.length + 1) t.2 [] []).2 && @decide (t = ofT (walkF t.1 (t.1.length + 1) t.2 [] []).1) (Classical.propDecidable _))

theorem mayP_len {p : Pr} (h : mayP p = true) : 1 ≤ p.1.length ∧ p.1.length ≤ 32 ∧ 1 ≤ p.2.length ∧ p.2.length ≤ 500 := by
  unfold mayP at h
  simp only [Bool.and_eq_true, decide_eq_true_eq] at h
  exact ⟨h.1.1.1, h.1.1.2, h.1.2, h.2⟩
theorem parts_len {l : List Pr} (h : ∀ p ∈ l, mayP p = true) {f : Nat} (hf : 64 < f) : ∀ p ∈ partsL l, p.1.length < f := fun p hp => by
  obtain ⟨q, hq, rfl⟩ := List.mem_map.1 hp
  show (ofL q.1).length < f
  rw [ofL_length]
  have := mayP_len (h q hq)
  omega
theorem pairsT_of {l : List Pr} (h : Pairs l) : pairsT (ofT l) = (l, true) := by
  obtain ⟨h1, h2, h3⟩ := h
  by_cases e : l = []
  · subst e
    unfold pairsT
    have : ofT [] = ([], -1) := rfl
    rw [this, if_pos rfl]
    congr 1
    exact @decide_eq_true _ (Classical.propDecidable _) rfl
  · have hne : partsL l ≠ [] := fun h => e (List.map_eq_nil_iff.1 h)
    obtain ⟨g1, g2, ⟨t, g3⟩, g4⟩ := lay_ok 200 (partsL l) [] (sortP_parts.2 h1) (halfP_parts l) (parts_len h2 (by omega)) hne
    have hx : ofT l = layF 200 (partsL l) [] := rfl
    have hw := g4 [] ((ofT l).1.length + 1) [] [] (by rw [← hx] at g2 ⊢; omega) (fun p hp => by
      obtain ⟨q, hq, rfl⟩ := List.mem_map.1 hp
      show okP ([] ++ ofL q.1) q.2 = true
      rw [List.nil_append, okP_of]
      exact h2 q hq) (by simpa [partsL] using h3)
    rw [← hx] at g1 g2 hw
    rw [List.append_nil, outOf_parts, List.nil_append] at hw
    unfold pairsT
    rw [if_neg (by simp only [List.length_nil] at g1; omega), hw]
    rw [@decide_eq_true (ofT l = ofT l) (Classical.propDecidable _) rfl]
    rfl
theorem parts_out {P : List Pr} (h : ∀ p ∈ P, okP ([] ++ p.1) p.2 = true) : partsL (outOf [] P) = P := by
  unfold partsL outOf
  rw [List.map_map]
  conv => rhs; rw [← List.map_id P]
  refine List.map_congr_left fun p hp => ?_
  have := h p hp
  show (ofL (keyP ([] ++ p.1)), p.2) = p
  rw [List.nil_append] at this ⊢
  unfold okP at this
  simp only [Bool.and_eq_true] at this
  unfold keyP
  rw [if_pos (by rw [this.1.1, this.1.2]; rfl), ofL_joinL p.1 this.1.1 (by simpa using this.1.2)]
theorem walk_pairs {ns : List Nd} (hk : ∀ n ∈ ns, n.kids.length = 16) {f : Nat} {i : Int} (h : (walkF ns f i [] []).2 = true) : Pairs (walkF ns f i [] []).1 := by
  obtain ⟨P, h1, h2, h3, h4⟩ := walk_rose hk f i [] [] h
  rw [List.nil_append] at h1
  have hp := parts_out h3
  rw [h1]
  refine ⟨sortP_parts.1 (by rw [hp]; exact h2), fun p hq => ?_, ?_⟩
  · have hm : (ofL p.1, p.2) ∈ partsL (outOf [] P) := List.mem_map.2 ⟨p, hq, rfl⟩
    rw [hp] at hm
    have := h3 _ hm
    rw [List.nil_append, okP_of] at this
    exact this
  · by_cases e : P = []
    · rw [e]; simp [outOf]
    · have := h4 e
      rw [outOf_len]
      simpa using this
theorem pairsT_true {t : List Nd × Int} (hk : ∀ n ∈ t.1, n.kids.length = 16) (h : (pairsT t).2 = true) : Pairs (pairsT t).1 ∧ t = ofT (pairsT t).1 := by
  unfold pairsT at *
  by_cases e : t.2 = -1
  · rw [if_pos e] at h ⊢
    have h1 : t.1 = [] := @of_decide_eq_true _ (Classical.propDecidable _) h
    refine ⟨Pairs.nil, ?_⟩
    obtain ⟨a, b⟩ := t
    simp only at e h1
    subst e h1
    rfl
  · rw [if_neg e] at h ⊢
    simp only [Bool.and_eq_true] at h ⊢
    exact ⟨walk_pairs hk h.1, @of_decide_eq_true _ (Classical.propDecidable _) h.2⟩
end Go.Proofs.Ytefmlbckbhlgdaa
