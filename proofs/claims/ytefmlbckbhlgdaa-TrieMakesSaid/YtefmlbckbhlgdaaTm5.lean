/- Rlp: items that a call has made: they lie in blocks of a class; the row of kids that grows. Rlp: a list that is being read: its state in memory from kid to kid; plain laws of the readers' loops. Rlp: the contract of read. Rlp: what is encoded is apart. Rlp: the contract of Decode. Frame, the plain side: kinds of a form, fields as items and back. Frame: how kinds and fields lie; how many bytes fields of a kind have; the kind that stands first. Frame: kinds, as many as stand there; the kinds of a form. Frame: are there few fields in a row? Frame: items as trees; sizes; one list's items (given one item's contract). Frame: the items of a list of fields (given one item's contract). Regions that draw their order, hold reads, calls that make memory, and ONE store (unguarded) into cells that nothing else of the region reads or writes: one walk, in the order of the text. Frame: Write, by a form. Frame: one item as a field (given a list's contract). Frame: the fields of a list of items (given one field's contract). Frame: Read, by a form. Frame: how many fields there are (that it answers). Frame: ref11.Like of rows that are the same. Frame: fields that come in; the law's own call that must answer. The reference's forms: where a kind ends, the kinds of a flat form; how many fields there are. The reference's Many: how many fields there are, of few. The reference: does a field fit a kind of one sign? The reference: does a field fit a kind of a star and one sign? The reference: do fields fit a flat form? The reference: do fields fit a form (a flat one)? Regions that draw their order, hold reads and ONE call whose answer hangs on the world, and then its slice, ahead of a tail in one order. The reference: a field as an item, by a kind of one sign. The reference: a field as an item, by a kind of a star and one sign. The reference's Write, by a flat form. -/
import Derived.Defers
import Derived.Recover
import Derived.BigRegion
import Derived.Deep.DeepCutAuto
import Derived.WalkMore
import Derived.Deep.Slices
import Derived.BigQuiet
import Derived.Test.YtefmlbckbhlgdaaTm1
import Derived.Test.YtefmlbckbhlgdaaTm2
import Derived.Test.YtefmlbckbhlgdaaTm3
import Derived.Test.YtefmlbckbhlgdaaTm4
namespace Go.Proofs.Ytefmlbckbhlgdaa
open Go.RowKit
set_option maxRecDepth 100000
mutual
/-- The value reads as the item, all of whose cells lie in blocks of a class. -/
def ItemP (A : Nat → Prop) (w : World) : It → Value → Prop
  | .mk l b ks, v => ∃ kv, v = itemV l b kv ∧ b.length ≤ 9223372036854775807 ∧
      ((kv = .slice none 0 0 ∧ ks = []) ∨ ∃ (a : Addr) (len cap : Nat), kv = .slice (some a) len cap ∧ len ≤ cap ∧ cap ≤ 9223372036854775807 ∧ ks.length = len ∧ KidsP A w ks a 0)
def KidsP (A : Nat → Prop) (w : World) : List It → Addr → Nat → Prop
  | [], _, _ => True
  | k :: ks, a, i => (A a.block ∧ ∃ v0 v1 v2, w.cell? (a.add (i * 3)) = some v0 ∧ w.cell? (a.add (i * 3 + 1)) = some v1 ∧ w.cell? (a.add (i * 3 + 2)) = some v2 ∧ ItemP A w k (.agg #[v0, v1, v2])) ∧ KidsP A w ks a (i + 1)
end
mutual
theorem ItemP.is {A : Nat → Prop} {w : World} : ∀ (x : It) (v : Value), ItemP A w x v → ItemIs w x v
  | .mk l b ks, v, h => by
    rw [ItemP] at h
    rw [ItemIs]
    obtain ⟨kv, e, h1, h2⟩ := h
    refine ⟨kv, e, h1, ?_⟩
    rcases h2 with h2 | ⟨a, len, cap, g1, g2, g3, g4, g5⟩
    · exact .inl h2
    · exact .inr ⟨a, len, cap, g1, g2, g3, g4, KidsP.is ks a 0 g5⟩
theorem KidsP.is {A : Nat → Prop} {w : World} : ∀ (ks : List It) (a : Addr) (i : Nat), KidsP A w ks a i → KidsAt w ks a i
  | [], _, _, _ => by rw [KidsAt]; trivial
  | k :: ks, a, i, h => by
    rw [KidsP] at h
    rw [KidsAt]
    obtain ⟨⟨_, v0, v1, v2, c0, c1, c2, hi⟩, ht⟩ := h
    exact ⟨⟨v0, v1, v2, c0, c1, c2, ItemP.is k _ hi⟩, KidsP.is ks a (i + 1) ht⟩
end
mutual
theorem ItemP.keep {A A' : Nat → Prop} {w w' : World} (hk : ∀ (a : Addr) (v : Value), A a.block → w.cell? a = some v → w'.cell? a = some v ∧ A' a.block) : ∀ (x : It) (v : Value), ItemP A w x v → ItemP A' w' x v
  | .mk l b ks, v, h => by
    rw [ItemP] at h ⊢
    obtain ⟨kv, e, h1, h2⟩ := h
    refine ⟨kv, e, h1, ?_⟩
    rcases h2 with h2 | ⟨a, len, cap, g1, g2, g3, g4, g5⟩
    · exact .inl h2
    · exact .inr ⟨a, len, cap, g1, g2, g3, g4, KidsP.keep hk ks a 0 g5⟩
theorem KidsP.keep {A A' : Nat → Prop} {w w' : World} (hk : ∀ (a : Addr) (v : Value), A a.block → w.cell? a = some v → w'.cell? a = some v ∧ A' a.block) : ∀ (ks : List It) (a : Addr) (i : Nat), KidsP A w ks a i → KidsP A' w' ks a i
  | [], _, _, _ => by rw [KidsP]; trivial
  | k :: ks, a, i, h => by
    rw [KidsP] at h ⊢
    obtain ⟨⟨hA, v0, v1, v2, c0, c1, c2, hi⟩, ht⟩ := h
    have hb : ∀ n, A (a.add n).block := fun n => by rw [addr_add_block]; exact hA
    have k0 := hk _ _ (hb _) c0
    refine ⟨⟨by have := k0.2; rwa [addr_add_block] at this, v0, v1, v2, k0.1, (hk _ _ (hb _) c1).1, (hk _ _ (hb _) c2).1, ItemP.keep hk k _ hi⟩, KidsP.keep hk ks a (i + 1) ht⟩
end
/-- Items in triples, as QIs. -/
def QP (A : Nat → Prop) (w : World) : List It → List IV → Prop
  | [], [] => True
  | k :: q, x :: l => ItemP A w k x.val ∧ QP A w q l
  | _, _ => False

theorem QP.length {A : Nat → Prop} {w : World} : ∀ {q : List It} {l : List IV}, QP A w q l → q.length = l.length
  | [], [], _ => rfl
  | k :: q, x :: l, h => by rw [List.length_cons, List.length_cons, QP.length h.2]
  | [], _ :: _, h => by cases h
  | _ :: _, [], h => by cases h
theorem QP.snoc {A : Nat → Prop} {w : World} {k : It} {x : IV} (h' : ItemP A w k x.val) : ∀ {q : List It} {l : List IV}, QP A w q l → QP A w (q ++ [k]) (l ++ [x])
  | [], [], _ => ⟨h', trivial⟩
  | k :: q, x :: l, h => ⟨h.1, QP.snoc h' h.2⟩
  | [], _ :: _, h => by cases h
  | _ :: _, [], h => by cases h
theorem QP.keep {A A' : Nat → Prop} {w w' : World} (hk : ∀ (a : Addr) (v : Value), A a.block → w.cell? a = some v → w'.cell? a = some v ∧ A' a.block) : ∀ {q : List It} {l : List IV}, QP A w q l → QP A' w' q l
  | [], [], _ => trivial
  | k :: q, x :: l, h => ⟨ItemP.keep hk k _ h.1, QP.keep hk h.2⟩
  | [], _ :: _, h => by cases h
  | _ :: _, [], h => by cases h

theorem ItemP.triple {A : Nat → Prop} {w : World} {k : It} {v : Value} (h : ItemP A w k v) : ∃ x : IV, v = x.val := itemIs_val (ItemP.is k v h)

/-- A row of kids that the call has made is a list's kids. -/
theorem QP.kids {A : Nat → Prop} {w : World} {g : Nat} (hA : A g) : ∀ {q : List It} {l : List IV} (i : Nat), QP A w q l → (∀ j u, (flat3 l)[j]? = some u → w.cell? ⟨g, i * 3 + j, none⟩ = some u) → KidsP A w q ⟨g, 0, none⟩ i
  | [], [], i, _, _ => by rw [KidsP]; trivial
  | k :: q, x :: l, i, h, hc => by
    have hadd : ∀ n, (⟨g, 0, none⟩ : Addr).add n = ⟨g, n, none⟩ := fun n => by unfold Addr.add; split <;> simp_all
    rw [KidsP]
    refine ⟨⟨hA, .bool x.1, .string x.2.1, x.kids, ?_, ?_, ?_, h.1⟩, QP.kids hA (i + 1) h.2 fun j u hj => ?_⟩
    · rw [hadd]; exact hc 0 _ rfl
    · rw [hadd]; exact hc 1 _ rfl
    · rw [hadd]; exact hc 2 _ rfl
    · have := hc (j + 3) u (by rw [flat3]; simpa [cells3] using hj)
      rwa [show i * 3 + (j + 3) = (i + 1) * 3 + j by omega] at this
  | [], _ :: _, _, h, _ => by cases h
  | _ :: _, [], _, h, _ => by cases h

theorem OwnQ.item {A : Nat → Prop} {w : World} {base : Nat} {kv : Value} {ks : List It} {lv : List IV} (h : OwnQ w base kv lv) (hA : ∀ g, kv.ownBlock = some g → A g) (hq : QP A w ks lv) : ItemP A w (.mk true [] ks) (.agg #[.bool true, .string ⟨#[]⟩, kv]) := by
  have hl := hq.length
  rw [ItemP]
  refine ⟨kv, rfl, by simp, ?_⟩
  rcases h.2 with ⟨hv, hn⟩ | ⟨g, cap, cur, hv, hg, hc, hn, hcap, hsz, hx⟩
  · exact .inl ⟨by rw [hv], List.eq_nil_of_length_eq_zero (by omega)⟩
  · refine .inr ⟨⟨g, 0, none⟩, lv.length, cap, hv, hn, hcap, hl, QP.kids (hA g (by rw [hv]; rfl)) 0 hq fun j u hj => ?_⟩
    have := World.ownsRow.cells h (by rw [hv]; rfl) j u hj
    have hadd : (⟨g, 0, none⟩ : Addr).add j = ⟨g, j, none⟩ := by unfold Addr.add; split <;> simp_all
    rw [hadd] at this
    simpa using this

end Go.Proofs.Ytefmlbckbhlgdaa
namespace Go.Proofs.Ytefmlbckbhlgdaa
open Go.RowKit
set_option maxRecDepth 100000
/-- Behind some kids: the result's cells, the list's cells, its kids. -/
structure KSt (w wr : World) (kv : Value) (ks : List It) (lv : List IV) : Prop where
  rowG : RowAt wr w.heap.size #[.bool false, .string ⟨#[]⟩, .slice none 0 0] 98
  rowX : RowAt wr (w.heap.size + 1) #[.bool true, .string ⟨#[]⟩, kv] 98
  own : OwnQ wr (w.heap.size + 2) kv lv
  kids : QP (fun b => w.heap.size + 2 ≤ b ∧ kv.ownBlock ≠ some b) wr ks lv
  below : Below w.heap.size w wr

theorem KSt.at4 {w wr w4 : World} {kv : Value} {ks : List It} {lv : List IV} (h : KSt w wr kv ks lv) (hb : Below wr.heap.size wr w4) :
    RowAt w4 w.heap.size #[.bool false, .string ⟨#[]⟩, .slice none 0 0] 98 ∧ RowAt w4 (w.heap.size + 1) #[.bool true, .string ⟨#[]⟩, kv] 98 ∧ OwnQ w4 (w.heap.size + 2) kv lv ∧ Below w.heap.size w w4 :=
  ⟨h.rowG.belowS hb, h.rowX.belowS hb, h.own.below hb (Nat.le_refl _), h.below.trans (hb.mono h.below.size)⟩

theorem KSt.ownlt {w wr : World} {kv : Value} {ks : List It} {lv : List IV} (h : KSt w wr kv ks lv) : ∀ g, kv.ownBlock = some g → w.heap.size + 2 ≤ g ∧ g < wr.heap.size := fun g hg => World.ownsRow.lt h.own g hg

theorem KSt.at5 {w wr w4 w5 : World} {kv : Value} {ks : List It} {lv : List IV} (h : KSt w wr kv ks lv) (hb : Below wr.heap.size wr w4) (hg : w4.grownBy w5 kv.ownBlock) :
    RowAt w5 (w.heap.size + 1) #[.bool true, .string ⟨#[]⟩, kv] 98 := by
  obtain ⟨_, h2, _, _⟩ := h.at4 hb
  refine h2.grown hg fun e => ?_
  have := (h.ownlt _ e.symm).1
  omega

theorem KSt.step {w wr w4 w5 : World} {kv kv' : Value} {ks : List It} {lv : List IV} {k : It} {y : IV} (h : KSt w wr kv ks lv) (hb : Below wr.heap.size wr w4) (hk : ItemP (fun b => wr.heap.size ≤ b) w4 k y.val)
    (own5 : OwnQ w5 (w.heap.size + 2) kv' (lv ++ [y])) (hg : w4.grownBy w5 kv.ownBlock) (hn : ∀ g, kv'.ownBlock = some g → kv.ownBlock = some g ∨ w4.heap.size ≤ g) :
    KSt w (w5.setCell ⟨w.heap.size + 1, 2, none⟩ kv') kv' (ks ++ [k]) (lv ++ [y]) := by
  obtain ⟨h1, h2, h3, h4⟩ := h.at4 hb
  have hlt := h.ownlt
  have hwr := h.rowX.lt
  have hown5 : ∀ g, kv'.ownBlock = some g → w.heap.size + 2 ≤ g := fun g e => (World.ownsRow.lt own5 g e).1
  refine ⟨?_, ?_, ?_, ?_, ?_⟩
  · refine (h1.grown hg fun e => ?_).other _ _ (by simp)
    have := (hlt _ e.symm).1
    omega
  · exact (h.at5 hb hg).set 2 kv' rfl
  · refine ownsRow_setCell_below own5 (by simp) kv'
  · have hset : ∀ (a : Addr) (v : Value), a.block ≠ w.heap.size + 1 → w5.cell? a = some v → (w5.setCell ⟨w.heap.size + 1, 2, none⟩ kv').cell? a = some v := fun a v hne hc => by
      rw [World.cell?_of_block (w := w5) (heap_setCell_other _ _ _ _ hne)]
      exact hc
    refine QP.snoc ?_ (QP.keep ?_ h.kids)
    · refine ItemP.keep ?_ _ _ hk
      intro a v hA hc
      have hal := block_lt_of_cell hc
      refine ⟨hset a v (by omega) (hg.cell hc fun e => ?_), by omega, fun e => ?_⟩
      · have := (hlt _ e.symm).2; omega
      · rcases hn _ e with e | e
        · have := (hlt _ e).2; omega
        · omega
    · intro a v hA hc
      have hal := block_lt_of_cell hc
      have hc4 : w4.cell? a = some v := by rw [hb.cell hal]; exact hc
      have h4s := hb.size
      refine ⟨hset a v (by omega) (hg.cell hc4 fun e => hA.2 e.symm), hA.1, fun e => ?_⟩
      rcases hn _ e with e | e
      · exact hA.2 e
      · omega
  · refine (h4.grown hg h4.size fun g e => ?_).setCell (p := ⟨w.heap.size + 1, 2, none⟩) (by simp) kv'
    have := (hlt _ e).1
    omega

/-- In the end the list is an item. -/
theorem KSt.done {w wr : World} {kv : Value} {ks : List It} {lv : List IV} (h : KSt w wr kv ks lv) (v0 v1 v2 : Value) :
    ItemP (fun b => w.heap.size ≤ b) (((wr.setCell ⟨w.heap.size, 0, none⟩ v0).setCell ⟨w.heap.size, 1, none⟩ v1).setCell ⟨w.heap.size, 2, none⟩ v2) (.mk true [] ks) (.agg #[.bool true, .string ⟨#[]⟩, kv]) ∧
    Below w.heap.size w (((wr.setCell ⟨w.heap.size, 0, none⟩ v0).setCell ⟨w.heap.size, 1, none⟩ v1).setCell ⟨w.heap.size, 2, none⟩ v2) := by
  have hi : ItemP (fun b => w.heap.size + 2 ≤ b) wr (.mk true [] ks) (.agg #[.bool true, .string ⟨#[]⟩, kv]) := OwnQ.item h.own (fun g e => (h.ownlt g e).1) (QP.keep (fun a v hA hc => ⟨hc, hA.1⟩) h.kids)
  refine ⟨ItemP.keep (fun a v hA hc => ⟨?_, by omega⟩) _ _ hi, ((h.below.setCell (p := ⟨w.heap.size, 0, none⟩) (Nat.le_refl _) _).setCell (p := ⟨w.heap.size, 1, none⟩) (Nat.le_refl _) _).setCell (p := ⟨w.heap.size, 2, none⟩) (Nat.le_refl _) _⟩
  have hne : a.block ≠ w.heap.size := by omega
  rw [World.cell?_of_block (heap_setCell_other _ _ _ _ hne), World.cell?_of_block (heap_setCell_other _ _ _ _ hne), World.cell?_of_block (heap_setCell_other _ _ _ _ hne)]
  exact hc

theorem read_less {f : Nat} {s : List UInt8} {x : It} {t : List UInt8} (h : readL f s = some (x, t)) : t.length < s.length := by
  obtain ⟨e, hp⟩ := (read_sound f).1 _ _ _ h
  have := write_pos x hp
  rw [e, List.length_append]
  omega

/-- Some kids have been read: what is left of the bytes. -/
structure KInv (n : Nat) (body rest : List UInt8) (ks : List It) (m : Nat) : Prop where
  enough : 2 * rest.length ≤ m
  most : m ≤ n
  few : ks.length + rest.length ≤ 4100
  same : kidsL n body = (match kidsL m rest with | none => none | some ks' => some (ks ++ ks'))

theorem KInv.start {n : Nat} {body : List UInt8} (h : 2 * body.length ≤ n) (h' : body.length ≤ 4100) : KInv n body body [] n :=
  ⟨h, Nat.le_refl _, by simpa using h', by cases kidsL n body <;> rfl⟩
theorem KInv.more {n m : Nat} {body rest : List UInt8} {ks : List It} (h : KInv n body rest ks m) (hr : rest ≠ []) : ∃ m', m = m' + 1 ∧ 2 * rest.length ≤ m' + 1 ∧ m' < n + 1 := by
  have h0 := List.length_pos_iff.2 hr
  have h1 := h.enough
  have h2 := h.most
  exact ⟨m - 1, by omega, by omega, by omega⟩
theorem KInv.step {n m : Nat} {body rest t : List UInt8} {ks : List It} {k : It} (h : KInv n body rest ks (m + 1)) (hr : rest ≠ []) (hn : readL m rest = some (k, t)) : KInv n body t (ks ++ [k]) m := by
  have hl := read_less hn
  have h1 := h.enough
  have h2 := h.most
  have h3 := h.few
  refine ⟨by omega, by omega, by rw [List.length_append, List.length_singleton]; omega, ?_⟩
  rw [h.same]
  cases rest with
  | nil => exact absurd rfl hr
  | cons c t' =>
    rw [kidsL, hn]
    simp only
    cases kidsL m t <;> simp
theorem KInv.done {n m : Nat} {body : List UInt8} {ks : List It} (h : KInv n body [] ks m) : kidsL n body = some ks := by
  rw [h.same]
  have : kidsL m [] = some [] := by cases m <;> rfl
  rw [this]
  simp
end Go.Proofs.Ytefmlbckbhlgdaa
namespace Go.Proofs.Ytefmlbckbhlgdaa
open Go.RowKit
set_option maxRecDepth 100000
end Go.Proofs.Ytefmlbckbhlgdaa
namespace Go.Proofs.Ytefmlbckbhlgdaa
open Go.RowKit
set_option maxRecDepth 100000
end Go.Proofs.Ytefmlbckbhlgdaa
namespace Go.Proofs.Ytefmlbckbhlgdaa
open Go.RowKit
set_option maxRecDepth 100000
mutual
theorem size_le_write : ∀ x : It, x.pure → x.size ≤ x.write.length
  | .mk l b ks, h => by
    rw [It.pure] at h
    have hk := sizes_le_writes ks h.2.2
    rw [It.write, It.size]
    cases l with
    | true =>
      rw [if_pos rfl, List.length_append]
      have := headL_pos 192 (writes ks).length
      omega
    | false =>
      obtain rfl := h.2.1 rfl
      rw [if_neg (by simp)]
      simp only [sizes]
      split
      · omega
      · have := headL_pos 128 b.length
        rw [List.length_append]
        omega
theorem sizes_le_writes : ∀ ks : List It, pures ks → sizes ks ≤ (writes ks).length
  | [], _ => by simp [sizes]
  | k :: ks, h => by
    rw [pures] at h
    have h1 := size_le_write k h.1
    have h2 := sizes_le_writes ks h.2
    rw [sizes, writes, List.length_append]
    omega
end
end Go.Proofs.Ytefmlbckbhlgdaa
namespace Go.Proofs.Ytefmlbckbhlgdaa
open Go.RowKit
/-- A field: a number, bytes, fields; a kind: its sign, and what it is of. -/
abbrev Fd := Tr (Nat × List UInt8)
abbrev Kd := Tr UInt8

mutual
def Tr.count {α : Type} : Tr α → Nat
  | .mk _ ks => 1 + counts ks
def counts {α : Type} : List (Tr α) → Nat
  | [] => 0
  | k :: ks => k.count + counts ks
end
def leafK (c : UInt8) : Bool := decide (c = 110) || decide (c = 104) || decide (c = 97) || decide (c = 115) || decide (c = 98)
def sizeK (c : UInt8) : Int := if c = 104 then 32 else if c = 97 then 20 else if c = 115 then 65 else -1

mutual
/-- A field as an item by its kind; none: it does not fit. -/
def itemK : Kd → Fd → Option It
  | .mk c ks, .mk (n, b) l =>
    if c = 110 then (if b = [] ∧ l = [] then some (.mk false (dig n) []) else none)
    else if c = 98 then (if n = 0 ∧ l = [] ∧ b.length ≤ 64 then some (.mk false b []) else none)
    else if c = 42 then (if n = 0 ∧ b = [] ∧ l.length ≤ 40 then (starI ks l).map (.mk true []) else none)
    else if c = 40 then (if n = 0 ∧ b = [] then (rowI ks l).map (.mk true []) else none)
    else (if n = 0 ∧ l = [] ∧ (b.length : Int) = sizeK c then some (.mk false b []) else none)
def starI : List Kd → List Fd → Option (List It)
  | [], _ => none
  | k :: _, l => l.mapM (itemK k)
def rowI : List Kd → List Fd → Option (List It)
  | [], [] => some []
  | k :: ks, f :: l => (itemK k f).bind fun x => (rowI ks l).map (x :: ·)
  | [], _ :: _ => none
  | _ :: _, [] => none
end
end Go.Proofs.Ytefmlbckbhlgdaa
namespace Go.Proofs.Ytefmlbckbhlgdaa
open Go.RowKit
def encK : TE UInt8 := ⟨1, fun c => [.int .u8 c.toNat], fun _ => rfl, fun a u h => by simp at h; subst h; rfl⟩
def encFd : TE (Nat × List UInt8) := ⟨2, fun a => [.int .u64 a.1, .string (mkS a.2)], fun _ => rfl, fun a u h => by simp at h; rcases h with rfl | rfl <;> rfl⟩
/-- How the reading of a kind ends. -/
def OnePost (r : Option (Kd × Nat)) (w : World) (e : Ending) (w' : World) : Prop :=
  match r with
  | none => ∃ c p m q n, e = .returned (.tuple #[.agg #[.int .u8 c, .slice p m q], .int .i64 n, .bool false]) ∧ Below w.heap.size w w'
  | some (k, n) => ∃ p m q, e = .returned (.tuple #[.agg #[.int .u8 k.val.toNat, .slice p m q], .int .i64 n, .bool true]) ∧ RowT encK (fun b => w.heap.size ≤ b) w' (.slice p m q) k.kids ∧ Below w.heap.size w w'
theorem bel1 (w : World) (o : Obj) : Below w.heap.size w (w.alloc o) := (Below.refl _ w).alloc (Nat.le_refl _) o
end Go.Proofs.Ytefmlbckbhlgdaa
namespace Go.Proofs.Ytefmlbckbhlgdaa
open Go.RowKit
theorem OnePost.parts {r : Option (Kd × Nat)} {w w' : World} {e : Ending} (h : OnePost r w e w') : ∃ c p m q n is, e = .returned (.tuple #[.agg #[.int .u8 c, .slice p m q], .int .i64 n, .bool is]) ∧ Below w.heap.size w w' ∧
    ((r = none ∧ is = false) ∨ ∃ k n', r = some (k, n') ∧ is = true ∧ n = (n' : Int) ∧ c = (k.val.toNat : Int) ∧ Hid (RowT encK (fun b => w.heap.size ≤ b) w' (.slice p m q) k.kids)) := by
  cases r with
  | none =>
    obtain ⟨c, p, m, q, n, rfl, hb⟩ := h
    exact ⟨c, p, m, q, n, false, rfl, hb, .inl ⟨rfl, rfl⟩⟩
  | some kn =>
    obtain ⟨p, m, q, rfl, hr, hb⟩ := h
    exact ⟨_, p, m, q, _, true, rfl, hb, .inr ⟨kn.1, kn.2, rfl, rfl, rfl, rfl, Lib.hid hr⟩⟩

end Go.Proofs.Ytefmlbckbhlgdaa
namespace Go.Proofs.Ytefmlbckbhlgdaa
open Go.RowKit
theorem counts_append {α : Type} : ∀ (a b : List (Tr α)), counts (a ++ b) = counts a + counts b
  | [], b => by simp [counts]
  | x :: a, b => by rw [List.cons_append, counts, counts, counts_append a b]; omega
theorem count_pos {α : Type} (t : Tr α) : 1 + counts t.kids = t.count := by
  cases t with
  | mk a ks => rw [Tr.count]
theorem counts_len {α : Type} : ∀ a : List (Tr α), a.length ≤ counts a
  | [] => Nat.le_refl _
  | x :: a => by have := counts_len a; have := count_pos x; rw [counts, List.length_cons]; omega
end Go.Proofs.Ytefmlbckbhlgdaa
namespace Go.Proofs.Ytefmlbckbhlgdaa
open Go.RowKit
def encIt : TE (Bool × List UInt8) := ⟨2, fun a => [.bool a.1, .string (mkS a.2)], fun _ => rfl, fun a u h => by simp at h; rcases h with rfl | rfl <;> rfl⟩
theorem info_it : (Try.prog.info? 98).map (fun i => (i.zero, i.size, i.bytes)) = some (some (.agg #[.bool false, .string ⟨#[]⟩, .slice none 0 0]), 3, 48) := by kernel_rfl
mutual
def itT : It → Tr (Bool × List UInt8)
  | .mk l b ks => .mk (l, b) (itTs ks)
def itTs : List It → List (Tr (Bool × List UInt8))
  | [] => []
  | k :: ks => itT k :: itTs ks
end
theorem itTs_map : ∀ l : List It, itTs l = l.map itT
  | [] => rfl
  | x :: l => by rw [itTs, itTs_map l]; rfl

/-- How the reading of a field as an item ends. -/
def ItemPost (r : Option It) (w : World) (e : Ending) (w' : World) : Prop :=
  ∃ l b p n c is, e = .returned (.tuple #[.agg #[.bool l, .string (mkS b), .slice p n c], .bool is]) ∧ Below w.heap.size w w' ∧
    ((r = none ∧ is = false) ∨ ∃ ks, r = some (.mk l b ks) ∧ is = true ∧ RowT encIt (fun b => w.heap.size ≤ b) w' (.slice p n c) (itTs ks))

/-- Three cells of a box of the call's own, laid anew. -/
theorem box3 {w0 w : World} {B k : Nat} {u0 u1 u2 : Value} {T : TypeId} (R : RowAt w k #[u0, u1, u2] T) (hb : Below B w0 w) (hk : B ≤ k) (v0 v1 v2 : Value) :
    RowAt (((w.setCell ⟨k, 0, none⟩ v0).setCell ⟨k, 1, none⟩ v1).setCell ⟨k, 2, none⟩ v2) k #[v0, v1, v2] T ∧ Below B w0 (((w.setCell ⟨k, 0, none⟩ v0).setCell ⟨k, 1, none⟩ v1).setCell ⟨k, 2, none⟩ v2) :=
  ⟨((R.set 0 v0 rfl).set 1 v1 rfl).set 2 v2 rfl, ((hb.setCell (p := ⟨k, 0, none⟩) hk _).setCell (p := ⟨k, 1, none⟩) hk _).setCell (p := ⟨k, 2, none⟩) hk _⟩

theorem OwnT.setLow {α : Type} {E : TE α} {A : Nat → Prop} {w : World} {T : TypeId} {base : Nat} {v : Value} {ts : List (Tr α)} (h : OwnT E T A w base v ts) (a : Addr) (u : Value) (ha : a.block < base) (hA : ∀ b, A b → b ≠ a.block) : OwnT E T A (w.setCell a u) base v ts := by
  obtain ⟨xs, hl, ho, ht⟩ := h
  refine ⟨xs, hl, ⟨ho.1, ?_⟩, fun i t x h1 h2 => (ht i t x h1 h2).keep (fun b v hb hc => ?_) (fun _ _ h _ => h) (fun _ h => h)⟩
  · rcases ho.2 with h' | ⟨g, cap, cur, hv, hg, hc, r⟩
    · exact .inl h'
    · exact .inr ⟨g, cap, cur, hv, hg, by rw [heap_setCell_other _ _ _ _ (by omega)]; exact hc, r⟩
  · rw [World.cell?_setCell_other]
    · exact hc
    · intro e
      exact hA _ hb.1 (by rw [← e])
theorem RowT.at2 {α : Type} {E : TE α} {A : Nat → Prop} {w : World} {p : Option Addr} {n c : Nat} {ts : List (Tr α)} (h : RowT E A w (.slice p n c) ts) {i : Nat} {t : Tr α} (ht : ts[i]? = some t) : ∃ ad s, p = some ad ∧ (∀ r u, (E.enc.cells (t.val, s))[r]? = some u → w.cell? ((ad.add (i * (E.n + 1))).add r) = some u) ∧ RowT E A w (slV s) t.kids := by
  obtain ⟨ad, x, rfl, hc, hp⟩ := RowT.at h ht
  have e := hp.parts.1
  obtain ⟨a, s⟩ := x
  simp only at e
  subst e
  exact ⟨ad, s, rfl, fun r u hr => by rw [Go.Deep.add_add]; exact hc r u hr, hp.row⟩
end Go.Proofs.Ytefmlbckbhlgdaa
namespace Go.Proofs.Ytefmlbckbhlgdaa
open Go.RowKit
theorem RowT.sane {α : Type} {E : TE α} {A : Nat → Prop} {w : World} {p : Option Addr} {n c : Nat} {ts : List (Tr α)} (h : RowT E A w (.slice p n c) ts) : n = ts.length ∧ n ≤ c ∧ c ≤ maxLen := by
  obtain ⟨xs, hl, hr, _, _⟩ := h
  obtain ⟨h1, h2, h3, _⟩ := RowE.sane hr
  exact ⟨by omega, h2, h3⟩
theorem ItemPost.no {w w' : World} {l : Bool} {b : List UInt8} {p : Option Addr} {n c : Nat} (hb : Below w.heap.size w w') : ItemPost none w (.returned (.tuple #[.agg #[.bool l, .string (mkS b), .slice p n c], .bool false])) w' := ⟨l, b, p, n, c, false, rfl, hb, .inl ⟨rfl, rfl⟩⟩

end Go.Proofs.Ytefmlbckbhlgdaa
namespace Go.Proofs.Ytefmlbckbhlgdaa
open Go.RowKit
/-- A world later than 'W0' (the store has not come up yet) or than 'W1' (it has). -/
structure LB (W0 W1 : World) : Type where
  b : Bool
  w : World
  below : Below W0.heap.size (if b then W1 else W0) w

section
variable {P : Program} {ops : Array Oper} {md : Region.Mode} {W0 W1 : World} {s : Nat}
def LC (W0 W1 : World) (b : Bool) (w : World) : Prop := ∃ u : LB W0 W1, u.b = b ∧ w = u.w

/-- What is asked of the store. -/
def storeUpon (W1 : World) : Result Next → Prop
  | .ok .skip w' => ∃ u : Later W1, w' = u.w
  | _ => False

/-- What operation 'i' leaves in its temporary, in each world of the class. -/
def YieldsO (P : Program) (ops : Array Oper) (W0 W1 : World) (s i : Nat) (o : Oper) (v : Value) (a : Act) : Prop :=
  if i = s then Region.wanted o (yielded ops a.tmps) = true ∧ v = undef ∧ ∀ u : Later W0, storeUpon W1 ((execOp a.eval o).run P u.w)
  else (Region.wanted o (yielded ops a.tmps) = true ∧ ∀ u : LB W0 W1, o.quietAt P a (fun w' => LC W0 W1 u.b w') u.w v) ∨ (Region.wanted o (yielded ops a.tmps) = false ∧ v = undef)

theorem getD_set_same (l : Array Bool) (i : Nat) : (l.setIfInBounds i true).getD i true = true := by
  rcases Nat.lt_or_ge i l.size with h | h
  · simp [h]
  · simp

theorem YieldsO.of_same {i : Nat} {o : Oper} {v : Value} {a a' : Act} (hy : YieldsO P ops W0 W1 s i o v a) (he : execOp a'.eval o = execOp a.eval o)
    (hw : Region.wanted o (yielded ops a'.tmps) = Region.wanted o (yielded ops a.tmps)) : YieldsO P ops W0 W1 s i o v a' := by
  unfold YieldsO Oper.quietAt at *
  rw [he, hw]
  exact hy

instance lbNonempty (W0 W1 : World) : Nonempty (LB W0 W1) := ⟨⟨false, W0, Below.refl _ _⟩⟩

theorem LB.size (hs1 : W1.heap.size = W0.heap.size) (u : LB W0 W1) : W0.heap.size ≤ u.w.heap.size := by
  have := u.below.size
  split at this <;> omega
theorem LB.call (hs1 : W1.heap.size = W0.heap.size) {f : FuncId} {args : Array Value} {v : Value} {u : LB W0 W1} (h : Calls P f args u.w fun e w' => e = .returned v ∧ Below u.w.heap.size u.w w') :
    Calls P f args u.w fun e w'' => e = .returned v ∧ LC W0 W1 u.b w'' :=
  h.mono fun _ _ ⟨he, hb⟩ => ⟨he, ⟨u.b, _, u.below.trans (hb.mono (u.size hs1))⟩, rfl, rfl⟩
theorem RowAt.lb (_ : W1.heap.size = W0.heap.size) {k : Nat} {cs : Array Value} {T : TypeId} (h0 : RowAt W0 k cs T) (h1 : RowAt W1 k cs T) (u : LB W0 W1) : RowAt u.w k cs T := by
  have hb := u.below
  split at hb
  · exact h1.below hb h0.lt
  · exact h0.below hb h0.lt
/-- The same cells are written in a later world: it is later than the one in which they were. -/
theorem below_set {B : Nat} {W w : World} (h : Below B W w) (p : Addr) (v : Value) (_ : p.block < B) : Below B (W.setCell p v) (w.setCell p v) := by
  refine ⟨h.os, h.tape, h.output, ?_, fun k hk => ?_⟩
  · have := h.size
    simpa using this
  · have := h.block k hk
    unfold World.setCell
    simp only [Array.getElem?_modify]
    split
    · rename_i e
      rw [this]
    · exact this
theorem Later.set {W : World} (u : Later W) (p : Addr) (v : Value) (hp : p.block < W.heap.size) : ∃ u' : Later (W.setCell p v), u.w.setCell p v = u'.w :=
  ⟨Later.of (by rw [show (W.setCell p v).heap.size = W.heap.size by simp]; exact below_set u.below p v hp), rfl⟩
end
end Go.Proofs.Ytefmlbckbhlgdaa
namespace Go.Proofs.Ytefmlbckbhlgdaa
open Go.RowKit
/-! ### A row of items, as the codec reads it -/
theorem itTs_get {l : List It} {i : Nat} {x : It} (h : l[i]? = some x) : (itTs l)[i]? = some (itT x) := by rw [itTs_map, List.getElem?_map, h]; rfl
theorem weights_mem : ∀ {l : List It} {x : It}, x ∈ l → x.weight ≤ weights l
  | [], x, h => by cases h
  | y :: l, x, h => by
    rw [weights]
    rcases List.mem_cons.1 h with rfl | h
    · omega
    · have := weights_mem h
      omega
theorem KidsAt.mk {w : World} {a : Addr} : ∀ (ks : List It) (j : Nat), (∀ i k, ks[i]? = some k → ∃ v0 v1 v2, w.cell? (a.add ((j + i) * 3)) = some v0 ∧ w.cell? (a.add ((j + i) * 3 + 1)) = some v1 ∧ w.cell? (a.add ((j + i) * 3 + 2)) = some v2 ∧ ItemIs w k (.agg #[v0, v1, v2])) → KidsAt w ks a j
  | [], _, _ => by rw [KidsAt]; trivial
  | k :: ks, j, h => by
    rw [KidsAt]
    refine ⟨h 0 k rfl, KidsAt.mk ks (j + 1) fun i k' hk => ?_⟩
    have := h (i + 1) k' (by simpa using hk)
    rwa [show j + (i + 1) = j + 1 + i by omega] at this
theorem kidsIs_of {A : Nat → Prop} {w : World} : ∀ (N : Nat) (ks : List It) (p : Option Addr) (n c : Nat), weights ks ≤ N → N ≤ 9223372036854775807 → RowT encIt A w (.slice p n c) (itTs ks) → KidsIs w ks (.slice p n c)
  | N, ks, p, n, c, hN, hM, h => by
    have hr := h
    obtain ⟨h1, h2, h3⟩ := RowT.sane h
    rw [itTs_map, List.length_map] at h1
    unfold maxLen at h3
    cases p with
    | none =>
      obtain ⟨xs, hl, hx, _⟩ := h
      obtain ⟨_, _, _, h4⟩ := RowE.sane hx
      have hc := h4 rfl
      subst hc
      obtain rfl : n = 0 := by omega
      exact .inl ⟨rfl, List.eq_nil_of_length_eq_zero h1.symm⟩
    | some ad =>
      refine .inr ⟨ad, n, c, rfl, h2, by omega, h1.symm, KidsAt.mk ks 0 fun i k hk => ?_⟩
      obtain ⟨ad', s, e, hc, hp⟩ := RowT.at2 hr (itTs_get hk)
      injection e with e
      subst e
      obtain ⟨l, b, kk⟩ := k
      obtain ⟨p', n', c'⟩ := s
      have hw := weights_mem (List.mem_of_getElem? hk)
      rw [It.weight] at hw
      have c0 := hc 0 _ rfl
      have c1 := hc 1 _ rfl
      have c2 := hc 2 _ rfl
      rw [Go.Deep.add_add] at c0 c1 c2
      rw [Nat.zero_add]
      refine ⟨_, _, _, c0, c1, c2, ?_⟩
      rw [itemIs_iff]
      match N, hN, hM with
      | 0, hN, hM => omega
      | N + 1, hN, hM => exact ⟨.slice p' n' c', rfl, by omega, kidsIs_of N kk p' n' c' (by omega) (by omega) hp⟩

end Go.Proofs.Ytefmlbckbhlgdaa
namespace Go.Proofs.Ytefmlbckbhlgdaa
open Go.RowKit
/-- How the reading of an item as fields ends. -/
def FieldsPost (r : Option (List Fd)) (w : World) (e : Ending) (w' : World) : Prop :=
  ∃ (p : Option Addr) (m c : Nat) (is : Bool), e = .returned (.tuple #[.slice p m c, .bool is]) ∧ Below w.heap.size w w' ∧
    ((r = none ∧ is = false) ∨ ∃ ks, r = some ks ∧ is = true ∧ RowT encFd (fun b => w.heap.size ≤ b) w' (.slice p m c) ks)
end Go.Proofs.Ytefmlbckbhlgdaa
namespace Go.Proofs.Ytefmlbckbhlgdaa
open Go.RowKit
theorem FieldsPost.no {w w' : World} {p : Option Addr} {m c : Nat} (hb : Below w.heap.size w w') : FieldsPost none w (.returned (.tuple #[.slice p m c, .bool false])) w' := ⟨p, m, c, false, rfl, hb, .inl ⟨rfl, rfl⟩⟩

end Go.Proofs.Ytefmlbckbhlgdaa
namespace Go.Proofs.Ytefmlbckbhlgdaa
open Go.RowKit
end Go.Proofs.Ytefmlbckbhlgdaa
namespace Go.Proofs.Ytefmlbckbhlgdaa
open Go.RowKit
end Go.Proofs.Ytefmlbckbhlgdaa
namespace Go.Proofs.Ytefmlbckbhlgdaa
open Go.RowKit
end Go.Proofs.Ytefmlbckbhlgdaa
namespace Go.Proofs.Ytefmlbckbhlgdaa
open Go.RowKit Go.ChangeShapes Go.WideShapes Go.ChangeAt
set_option maxRecDepth 100000
/-- Two fields in a block of the call's own. -/
theorem RowT.two {A : Nat → Prop} {w : World} {t1 t2 : Fd} {s1 s2 : Sl} {g : Nat} {cs : Array Value} {T : TypeId} (hg : w.heap[g]? = some (.cells cs T (0, 0))) (hcs : cs.toList = encFd.pre t1.val ++ [slV s1] ++ (encFd.pre t2.val ++ [slV s2])) (hA : A g) (h1 : RowT encFd A w (slV s1) t1.kids) (h2 : RowT encFd A w (slV s2) t2.kids) :
    RowT encFd A w (.slice (some ⟨g, 0, none⟩) 2 2) [t1, t2] := by
  refine ⟨[(t1.val, s1), (t2.val, s2)], rfl, .inr ⟨⟨g, 0, none⟩, 2, rfl, Nat.le_refl _, by unfold maxLen; omega, fun j u hj => ?_⟩, fun _ ad n c e => by injection e with e _ _; injection e with e; subst e; exact hA, fun i t x e1 e2 => ?_⟩
  · have e : flat encFd.enc [(t1.val, s1), (t2.val, s2)] = cs.toList := by rw [hcs]; rfl
    rw [e, Array.getElem?_toList] at hj
    have : w.cell? ⟨g, j, none⟩ = cs[j]? := cell_of_row w g j cs T _ hg
    rw [← hj, ← this]
    cases j <;> simp [Addr.add]
  · match i, e1, e2 with
    | 0, e1, e2 =>
      simp at e1 e2
      subst e1 e2
      cases t1 with
      | mk a ks => exact RowT.node a h1
    | 1, e1, e2 =>
      simp at e1 e2
      subst e1 e2
      cases t2 with
      | mk a ks => exact RowT.node a h2
    | i + 2, e1, e2 => simp at e1

end Go.Proofs.Ytefmlbckbhlgdaa
namespace Go.Proofs.Ytefmlbckbhlgdaa
open Go.RowKit Go.Shelf
set_option maxRecDepth 100000
theorem at_byte {s : ByteArray} {i : Nat} {c : UInt8} (h : (bl s)[i]? = some c) : ∃ hi : i < s.size, s[i] = c := by
  have hi : i < s.size := by have := (List.getElem?_eq_some_iff.1 h).1; rwa [bl_length] at this
  refine ⟨hi, ?_⟩
  rw [sget hi] at h
  exact Option.some.inj h

/-- A kind of one level, as it stands in a form. -/
def tokOk (t : List UInt8) : Prop := ∃ c, leafK c = true ∧ (t = [c] ∨ t = [42, c])
def tokK : List UInt8 → Kd
  | [c] => .mk c []
  | [_, c] => .mk 42 [.mk c []]
  | _ => .mk 0 []
theorem tokOk.pos {t : List UInt8} (h : tokOk t) : 0 < t.length := by
  obtain ⟨c, _, rfl | rfl⟩ := h <;> exact Nat.succ_pos _
end Go.Proofs.Ytefmlbckbhlgdaa
namespace Go.Proofs.Ytefmlbckbhlgdaa
open Go.RowKit
/-- What is counted, of few: 'i' are gone through, those behind them stand with all in them, 'rest' are to come. -/
def MInv (N : Nat) (ts : List Fd) (i rest : Nat) : Prop := N ≤ 1000 → i ≤ ts.length ∧ i + counts (ts.drop i) + rest = N
theorem counts_dropF {L : List Fd} {j : Nat} {f : Fd} (h : L[j]? = some f) : counts (L.drop j) = f.count + counts (L.drop (j + 1)) := by
  rw [List.drop_eq_getElem_cons (List.getElem?_eq_some_iff.1 h).1, (List.getElem?_eq_some_iff.1 h).2, counts]
theorem MInv.add {N : Nat} {ts : List Fd} {i j : Nat} {L : List Fd} {f : Fd} (h : MInv N ts i (counts (L.drop j))) (hf : L[j]? = some f) : MInv N (ts ++ [f]) i (counts (L.drop (j + 1))) := fun hN => by
  obtain ⟨h1, h2⟩ := h hN
  rw [counts_dropF hf] at h2
  refine ⟨by rw [List.length_append]; omega, ?_⟩
  rw [List.drop_append_of_le_length h1, counts_append]
  simp only [counts]
  omega
theorem MInv.done {N : Nat} {ts : List Fd} {i : Nat} {L : List Fd} (h : MInv N ts i (counts (L.drop L.length))) : MInv N ts i 0 := by
  rw [List.drop_length] at h
  exact h
theorem MInv.next {N : Nat} {ts : List Fd} {i : Nat} {t : Fd} (h : MInv N ts i 0) (ht : ts[i]? = some t) : MInv N ts (i + 1) (counts (t.kids.drop 0)) := fun hN => by
  obtain ⟨h1, h2⟩ := h hN
  have h3 := (List.getElem?_eq_some_iff.1 ht).1
  rw [counts_dropF ht, ← count_pos] at h2
  refine ⟨by omega, ?_⟩
  rw [List.drop_zero]
  omega
theorem MInv.over {N : Nat} {ts : List Fd} {i : Nat} (h : MInv N ts i 0) (hN : N ≤ 1000) : ts.length ≤ 1000 := by
  obtain ⟨h1, h2⟩ := h hN
  have := counts_len (ts.drop i)
  rw [List.length_drop] at this
  omega
theorem MInv.last {N : Nat} {ts : List Fd} {i : Nat} (h : MInv N ts i 0) (hN : N ≤ 1000) : i ≤ ts.length ∧ (ts.length ≤ i → ts.length = N) := by
  obtain ⟨h1, h2⟩ := h hN
  refine ⟨h1, fun hle => ?_⟩
  rw [List.drop_of_length_le hle] at h2
  simp only [counts] at h2
  omega

end Go.Proofs.Ytefmlbckbhlgdaa
namespace Go.Proofs.Ytefmlbckbhlgdaa
open Go.RowKit
end Go.Proofs.Ytefmlbckbhlgdaa
namespace Go.Proofs.Ytefmlbckbhlgdaa
open Go.RowKit
end Go.Proofs.Ytefmlbckbhlgdaa
namespace Go.Proofs.Ytefmlbckbhlgdaa
open Go.RowKit
end Go.Proofs.Ytefmlbckbhlgdaa
namespace Go.Proofs.Ytefmlbckbhlgdaa
open Go.RowKit
/-- A form of kinds of one level, its fields of few. -/
structure FlatF (s : ByteArray) (toks : List (List UInt8)) : Prop where
  eq : bl s = toks.flatten
  ok : ∀ t ∈ toks, tokOk t
  size : s.size ≤ 40
  few : ∀ l, (rowI (toks.map tokK) l).isSome = true → counts l ≤ 1000

end Go.Proofs.Ytefmlbckbhlgdaa
namespace Go.Proofs.Ytefmlbckbhlgdaa
open Go.RowKit
section
variable {P : Program} {ops : Array Oper} {md : Region.Mode} {W : World} {c : Nat}
/-- A read's value, the same in all later worlds, none of which it turns. -/
def YR (P : Program) (ops : Array Oper) (W : World) (o : Oper) (v : Value) (a : Act) : Prop :=
  (Region.wanted o (yielded ops a.tmps) = true ∧ ∀ u : Later W, o.quietAt P a (fun w' => w' = u.w) u.w v) ∨ (Region.wanted o (yielded ops a.tmps) = false ∧ v = undef)
/-- The call, whatever it answers. -/
def EC (P : Program) (W : World) (o : Oper) (K : Act → World → Prop) (a : Act) (w : World) : Prop :=
  match (execOp a.eval o).run P w with
  | .ok (.enter f args) w' => w' = w ∧ Calls P f args w (fun e w'' => ∃ v, e = .returned v ∧ Below W.heap.size W w'' ∧ K (a.put o.dst v) w'')
  | _ => False
/-- What is made behind it. -/
def EB (P : Program) (o : Oper) (K : Act → World → Prop) (a : Act) (w : World) : Prop :=
  match (execOp a.eval o).run P w with
  | .ok (.value u) w' => (∃ obj, w' = w.alloc obj) ∧ K (a.put o.dst u) w'
  | _ => False
theorem EB.of {o : Oper} {K : Act → World → Prop} {a : Act} {w : World} {u : Value} {obj : Obj} (h1 : (execOp a.eval o).run P w = .ok (.value u) (w.alloc obj)) (h2 : K (a.put o.dst u) (w.alloc obj)) : EB P o K a w := by
  unfold EB
  rw [h1]
  exact ⟨⟨obj, rfl⟩, h2⟩
theorem EC.mono {o : Oper} {K K' : Act → World → Prop} {a : Act} {w : World} (h : ∀ a w, K a w → K' a w) (hh : EC P W o K a w) : EC P W o K' a w := by
  unfold EC at *
  split at hh
  · exact ⟨hh.1, hh.2.mono fun e w'' ⟨v, h1, h2, h3⟩ => ⟨v, h1, h2, h _ _ h3⟩⟩
  · cases hh
theorem YR.of_same {o : Oper} {v : Value} {a a' : Act} (hy : YR P ops W o v a) (he : execOp a'.eval o = execOp a.eval o) (hw : Region.wanted o (yielded ops a'.tmps) = Region.wanted o (yielded ops a.tmps)) : YR P ops W o v a' := by
  unfold YR Oper.quietAt at *
  rw [he, hw]
  exact hy
/-- The reads, in the order of the text. -/
def wpR (P : Program) (ops : Array Oper) (W : World) (Q : Act → Prop) : List Oper → Act → Prop
  | [], a => Q a
  | o :: rest, a => ∃ v, YR P ops W o v a ∧ wpR P ops W Q rest (a.put o.dst v)

/-- All ahead of 'k' are through: what may come is 'k'. -/
theorem only_ready {k n : Nat} {listed : Array Bool} (hs : Region.sinkB md ops n = true) (hc : Region.chainB md ops n = true) (hn : n < ops.size) (hkn : k < n) (inv : HeadInv md ops n listed) (hd : ∀ j, j < k → listed.getD j true = true)
    (hun : listed.getD k true = false) (hlast : ∀ j, k < j → j < n → j ∉ Region.ready md ops listed) : ∀ j ∈ Region.ready md ops listed, j = k := by
  intro j hj
  rcases Nat.lt_or_ge j n with h | h
  · rcases Nat.lt_or_ge j k with h2 | h2
    · have h1 := (mem_ready.1 hj).1
      rw [hd j h2] at h1; cases h1
    · by_cases e : j = k
      · exact e
      · exact absurd hj (hlast j (by omega) h)
  · exact absurd hj (tail_waits hs hc hn inv _ k rfl hkn hun j h)

end
section
variable {P : Program} {ops : Array Oper} {W : World}
theorem cr_nil {Q : Act → Prop} {a : Act} (h : Q a) : wpR P ops W Q [] a := h
theorem cr_step {Q : Act → Prop} {a : Act} {o : Oper} {rest : List Oper}
    (h : ∀ K : Act → Prop, (∀ a, wpR P ops W Q rest a → K a) → if Region.wanted o (yielded ops a.tmps) then (∃ v, (∀ u : Later W, o.quietAt P a (fun w' => w' = u.w) u.w v) ∧ K (a.put o.dst v)) else K (a.put o.dst undef)) : wpR P ops W Q (o :: rest) a := by
  have := h _ (fun _ h => h)
  unfold wpR YR
  split at this
  · rename_i hw
    obtain ⟨v, h1, h2⟩ := this
    exact ⟨v, .inl ⟨hw, h1⟩, h2⟩
  · rename_i hw
    exact ⟨_, .inr ⟨by simpa using hw, rfl⟩, this⟩
end
section
variable {P : Program} {ops : Array Oper} {md : Region.Mode} {W : World} {c : Nat}
/-- A call, whatever it answers; or a value, in the same world or with one block more. -/
def EF (P : Program) (W : World) (o : Oper) (K : Act → World → Prop) (a : Act) (w : World) : Prop :=
  match (execOp a.eval o).run P w with
  | .ok (.enter f args) w' => w' = w ∧ Calls P f args w (fun e w'' => ∃ v, e = .returned v ∧ Below W.heap.size W w'' ∧ K (a.put o.dst v) w'')
  | .ok (.value u) w' => (w' = w ∨ ∃ obj, w' = w.alloc obj) ∧ K (a.put o.dst u) w'
  | _ => False
theorem EF.mono {o : Oper} {K K' : Act → World → Prop} {a : Act} {w : World} (h : ∀ a w, K a w → K' a w) (hh : EF P W o K a w) : EF P W o K' a w := by
  unfold EF at *
  generalize (execOp a.eval o).run P w = r at *
  cases r with
  | ok n w' =>
    cases n <;> simp only at hh ⊢
    case enter f args => exact ⟨hh.1, hh.2.mono fun e w'' ⟨v, h1, h2, h3⟩ => ⟨v, h1, h2, h _ _ h3⟩⟩
    case value u => exact ⟨hh.1, h _ _ hh.2⟩
  | halt x w' => simp only at hh
def eOp (P : Program) (ops : Array Oper) (W : World) (c i : Nat) (K : Act → World → Prop) (a : Act) (w : World) : Prop :=
  match ops[i]? with
  | none => K a w
  | some o => if c ≤ i then Region.wanted o (yielded ops a.tmps) = true ∧ EF P W o K a w
    else ∃ v, YR P ops W o v a ∧ K (a.put o.dst v) w
theorem eOp_mono {i : Nat} {a : Act} {w : World} {K K' : Act → World → Prop} (h : ∀ a w, K a w → K' a w) (hh : eOp P ops W c i K a w) : eOp P ops W c i K' a w := by
  unfold eOp at *
  split
  · rename_i ho
    simp only [ho] at hh
    exact h _ _ hh
  · rename_i o ho
    simp only [ho] at hh
    by_cases e : c ≤ i
    · rw [if_pos e] at hh ⊢
      exact ⟨hh.1, hh.2.mono h⟩
    · rw [if_neg e] at hh ⊢
      obtain ⟨v, h1, h2⟩ := hh
      exact ⟨v, h1, h _ _ h2⟩
theorem eOp_put {j : Nat} {oi oj : Oper} {v : Value} {w : World} (hj : ops[j]? = some oj) (hap : oi.apart ops oj = true)
    (hsi : ∀ cs b, oi.op ≠ .select cs b) (hsj : ∀ cs b, oj.op ≠ .select cs b) {K : Act → World → Prop} {a : Act}
    (hy : YR P ops W oi v a) (h : eOp P ops W c j K (a.put oi.dst v) w) :
    eOp P ops W c j (fun a' w' => YR P ops W oi v a' ∧ K (a'.put oi.dst v) w') a w := by
  obtain ⟨h1, h2, h3⟩ := Oper.apart_spec hap
  have hs : ∀ u, YR P ops W oi v (a.put oj.dst u) := fun u => hy.of_same (execOp_put oi hsi a oj.dst u h3) (wanted_put oi a oj.dst u h3)
  have ee := execOp_put oj hsj a oi.dst v h1
  have ew := wanted_put (ops := ops) oj a oi.dst v h1
  unfold eOp at *
  simp only [hj] at *
  by_cases e : c ≤ j
  · rw [if_pos e] at h ⊢
    refine ⟨by rw [← ew]; exact h.1, ?_⟩
    have h5 := h.2
    unfold EF at *
    rw [ee] at h5
    generalize (execOp a.eval oj).run P w = r at *
    cases r with
    | ok n w' =>
      cases n <;> simp only at h5 ⊢
      case enter f args => exact ⟨h5.1, h5.2.mono fun e w'' ⟨u, k1, k2, k3⟩ => ⟨u, k1, k2, hs u, by rw [← Act.put_comm a v u h2]; exact k3⟩⟩
      case value u => exact ⟨h5.1, hs u, by rw [← Act.put_comm a v u h2]; exact h5.2⟩
    | halt x w' => simp only at h5
  · rw [if_neg e] at h ⊢
    obtain ⟨u, hu, hn⟩ := h
    exact ⟨u, hu.of_same ee.symm ew.symm, hs u, by rw [← Act.put_comm a v u h2]; exact hn⟩

def wpHeadE (P : Program) (md : Region.Mode) (ops : Array Oper) (W : World) (c n : Nat) (L : Array Bool → Act → World → Prop) : Nat → Array Bool → Act → World → Prop
  | 0, listed, a, w => L listed a w
  | f + 1, listed, a, w =>
    Region.ready md ops listed ≠ [] ∧ ∀ i ∈ Region.ready md ops listed, i < n ∧ eOp P ops W c i (wpHeadE P md ops W c n L f (listed.setIfInBounds i true)) a w

theorem wpOp_of_eOp {i : Nat} {a : Act} {K K' : Act → World → Prop} {Q' : Exit → Act → World → Prop} {w : World}
    (hC : Below W.heap.size W w) (h : ∀ a w', Below W.heap.size W w' → K a w' → K' a w') (hh : eOp P ops W c i K a w) : wpOp P ops Q' i K' a w := by
  unfold eOp at hh
  unfold wpOp
  split
  · rename_i ho
    simp only [ho] at hh
    exact h _ _ hC hh
  rename_i o ho
  simp only [ho] at hh
  by_cases e : c ≤ i
  · rw [if_pos e] at hh
    obtain ⟨hw, hc⟩ := hh
    simp only [hw, if_true]
    refine .inl ?_
    unfold Oper.wp
    unfold EF at hc
    generalize (execOp a.eval o).run P w = r at *
    cases r with
    | ok n w' =>
      cases n <;> simp only at hc <;> simp only [Oper.upon]
      case enter f args =>
        obtain ⟨rfl, hcc⟩ := hc
        exact hcc.mono fun e w'' ⟨v, he, hb, hk⟩ => by
          subst he
          exact h _ _ hb hk
      case value u =>
        obtain ⟨hw', hk⟩ := hc
        refine h _ _ ?_ hk
        rcases hw' with rfl | ⟨obj, rfl⟩
        · exact hC
        · exact hC.alloc hC.size obj
    | halt x w' => simp only at hc
  · rw [if_neg e] at hh
    obtain ⟨v, hy, hK⟩ := hh
    rcases hy with ⟨hw, hq⟩ | ⟨hw, rfl⟩
    · simp only [hw, if_true]
      refine .inl ?_
      refine Oper.wp_of_quiet (C := fun w' => w' = w) rfl (fun a w' hw' hk => h a w' (by rw [hw']; exact hC) (by rw [hw']; exact hk)) (o := o) (K := fun a => K a w) ⟨v, fun w2 hw2 => ?_, hK⟩
      rw [hw2]
      exact hq (Later.of hC)
    · simp only [hw, Bool.false_eq_true, if_false]
      exact h _ _ hC hK

theorem wpAny_of_headE {n g : Nat} {L : Array Bool → Act → World → Prop} {Q' : Exit → Act → World → Prop} (hL : ∀ listed a w, L listed a w → wpAny P md ops Q' g listed a w) :
    ∀ (f : Nat) (listed : Array Bool) (a : Act) (w : World), Below W.heap.size W w → wpHeadE P md ops W c n L f listed a w → wpAny P md ops Q' (f + g) listed a w
  | 0, listed, a, w, _, h => by rw [Nat.zero_add]; exact hL _ _ _ h
  | f + 1, listed, a, w, hw, h => by
    rw [show f + 1 + g = (f + g) + 1 by omega]
    exact ⟨fun h0 => absurd h0 h.1, fun i hi => wpOp_of_eOp hw (fun a' w' hw' h' => wpAny_of_headE hL f _ a' w' hw' h') (h.2 i hi).2⟩

theorem YR.eOp {i : Nat} {o : Oper} {v : Value} {a : Act} {w : World} (hi : ops[i]? = some o) (hic : i < c) (hy : YR P ops W o v a) {K : Act → World → Prop} (h : K (a.put o.dst v) w) : eOp P ops W c i K a w := by
  unfold Go.Proofs.Ytefmlbckbhlgdaa.eOp
  simp only [hi, if_neg (show ¬ c ≤ i by omega)]
  exact ⟨v, hy, h⟩

theorem wpHeadE_first {n i : Nat} {oi : Oper} {v : Value} {L : Array Bool → Act → World → Prop} (hi : ops[i]? = some oi) (hic : i < c) (hsel : ∀ (j : Nat) (o : Oper) cs b, ops[j]? = some o → o.op ≠ .select cs b)
    (hs : Region.sinkB md ops n = true) (hc : Region.chainB md ops n = true) (hn : n < ops.size) (hin : i < n)
    (hdone : ∀ listed a w, L listed a w → ∀ j ∈ Region.ready md ops listed, n ≤ j) :
    ∀ (f : Nat) (listed : Array Bool) (a : Act) (w : World), HeadInv md ops n listed →
      (∀ j oj, ops[j]? = some oj → j ≠ i → listed.getD j true = false → (∀ e ∈ oj.after, Region.binds md e = true → e.on ≠ i) → oi.apart ops oj = true) →
      i ∈ Region.ready md ops listed → YR P ops W oi v a →
      wpHeadE P md ops W c n L f (listed.setIfInBounds i true) (a.put oi.dst v) w → wpHeadE P md ops W c n L (f + 1) listed a w := by
  intro f
  induction f with
  | zero =>
    intro listed a w inv _ hr hy H
    have hun := (mem_ready.1 hr).1
    refine ⟨fun h => (by rw [h] at hr; cases hr), fun j hj => ?_⟩
    have hjn : j < n := by
      rcases Nat.lt_or_ge j n with h | h
      · exact h
      · exact absurd hj (tail_waits hs hc hn inv _ i rfl hin hun j h)
    refine ⟨hjn, ?_⟩
    by_cases hji : j = i
    · subst hji; exact hy.eOp hi hic H
    · have := hdone _ _ _ H j (ready_mono hj hji)
      omega
  | succ f ih =>
    intro listed a w inv hfree hr hy H
    have hun := (mem_ready.1 hr).1
    refine ⟨fun h => (by rw [h] at hr; cases hr), fun j hj => ?_⟩
    have hjn : j < n := by
      rcases Nat.lt_or_ge j n with h | h
      · exact h
      · exact absurd hj (tail_waits hs hc hn inv _ i rfl hin hun j h)
    refine ⟨hjn, ?_⟩
    by_cases hji : j = i
    · subst hji; exact hy.eOp hi hic H
    · have h1 := (H.2 j (ready_mono hj hji)).2
      obtain ⟨hjun, oj, hoj, hall⟩ := mem_ready.1 hj
      have hnot : ∀ e ∈ oj.after, Region.binds md e = true → e.on ≠ i := fun e he hb heq => by
        have h1 := hall e he hb
        rw [heq, getD_both hun] at h1
        cases h1
      have h2 := eOp_put hoj (hfree j oj hoj hji hjun hnot) (fun cs b => hsel i oi cs b hi) (fun cs b => hsel j oj cs b hoj) hy h1
      have hfree' : ∀ k ok, ops[k]? = some ok → k ≠ i → (listed.setIfInBounds j true).getD k true = false →
          (∀ e ∈ ok.after, Region.binds md e = true → e.on ≠ i) → oi.apart ops ok = true := fun k ok hk hki hun hno => by
        refine hfree k ok hk hki ?_ hno
        by_cases hjk : j = k
        · subst hjk; exact hjun
        · rw [getD_set_ne true hjk] at hun; exact hun
      refine eOp_mono (fun a' w' h3 => ih (listed.setIfInBounds j true) a' w' (inv.set hj hjn) hfree' (ready_mono hr (Ne.symm hji)) h3.1 ?_) h2
      rw [Array.setIfInBounds_comm _ _ hji]
      exact h3.2

/-- The effects, in their order. -/
def wpE (P : Program) (ops : Array Oper) (W : World) (Q : Act → World → Prop) : List Oper → Act → World → Prop
  | [], a, w => Q a w
  | o :: rest, a, w => Region.wanted o (yielded ops a.tmps) = true ∧ EF P W o (wpE P ops W Q rest) a w
def effB (md : Region.Mode) (ops : Array Oper) (c n : Nat) : Bool := (List.range n).all fun j => decide (j ≤ c) || Region.waitsFor md ops j (j - 1)
theorem chain_listed {n : Nat} {listed : Array Bool} (hE : effB md ops c n = true) (inv : HeadInv md ops n listed) {k : Nat} (hck : c ≤ k) : ∀ (d : Nat), k + d < n → listed.getD (k + d) false = true → listed.getD k false = true
  | 0, _, h => h
  | d + 1, hn, h => by
    have h1 := List.all_eq_true.1 hE (k + (d + 1)) (List.mem_range.2 hn)
    simp only [Bool.or_eq_true, decide_eq_true_eq] at h1
    rcases h1 with h1 | h1
    · omega
    · obtain ⟨o, ho, e, he, hb, hon⟩ := Region.waitsFor_spec h1
      have h2 := inv.closed _ o ho h e he hb
      rw [hon, show k + (d + 1) - 1 = k + d by omega] at h2
      exact chain_listed hE inv hck d (by omega) h2

theorem wpHeadE_eff {n g : Nat} {Lq : Act → World → Prop} (hs : Region.sinkB md ops n = true) (hc : Region.chainB md ops n = true) (hn : n < ops.size) (hE : effB md ops c n = true) :
    ∀ (l : List Oper) (k : Nat) (listed : Array Bool) (a : Act) (w : World), (∀ j, j < l.length → l[j]? = ops[k + j]?) → c ≤ k → k + l.length = n → HeadInv md ops n listed → (∀ j, j < k → listed.getD j true = true) →
    Region.lexHead md ops g l.length k listed = true → wpE P ops W Lq l a w →
    wpHeadE P md ops W c n (fun listed' a' w' => Region.seqB md ops g n listed' = true ∧ Lq a' w') l.length listed a w
  | [], k, listed, a, w, _, _, hk, _, _, hB, h => by
    have : k = n := by simpa using hk
    subst this
    exact ⟨by simpa [Region.lexHead] using hB, h⟩
  | o :: l, k, listed, a, w, hl, hck, hk, inv, hd, hB, h => by
    have h0 : ops[k]? = some o := by simpa using (hl 0 (by simp)).symm
    rw [List.length_cons, Region.lexHead, Bool.and_eq_true, Bool.and_eq_true] at hB
    obtain ⟨⟨hr, -⟩, hB'⟩ := hB
    have hkn : k < n := by simp only [List.length_cons] at hk; omega
    have hr' : k ∈ Region.ready md ops listed := by simpa using hr
    have hun := (mem_ready.1 hr').1
    refine ⟨fun h => (by rw [h] at hr'; cases hr'), fun i hi => ?_⟩
    have hik : i = k := only_ready hs hc hn hkn inv hd hun (fun j h1 h2 hj => by
      obtain ⟨_, oj, hoj, hall⟩ := mem_ready.1 hj
      have h3 := List.all_eq_true.1 hE j (List.mem_range.2 h2)
      simp only [Bool.or_eq_true, decide_eq_true_eq] at h3
      rcases h3 with h3 | h3
      · omega
      · obtain ⟨o', ho', e, he, hb, hon⟩ := Region.waitsFor_spec h3
        obtain rfl : o' = oj := Option.some.inj (ho'.symm.trans hoj)
        have h4 := hall e he hb
        rw [hon] at h4
        have h5 := chain_listed hE inv hck (j - 1 - k) (by omega) (by rw [show k + (j - 1 - k) = j - 1 by omega]; exact h4)
        rw [getD_both hun] at h5
        cases h5) i hi
    subst hik
    refine ⟨hkn, ?_⟩
    unfold eOp
    simp only [h0, if_pos hck]
    refine ⟨h.1, h.2.mono fun a' w' h' => ?_⟩
    exact wpHeadE_eff hs hc hn hE l (i + 1) _ _ _ (fun j hj => by have := hl (j + 1) (by simp; omega); simpa [Nat.add_assoc, Nat.add_comm 1 j] using this) (by omega) (by simp only [List.length_cons] at hk; omega) (inv.set hr' hkn) (fun j hj => by
      by_cases e : i = j
      · subst e; exact getD_set_same _ _
      · rw [getD_set_ne true e]; exact hd j (by omega)) hB' h'

theorem wpHeadE_lex {n g : Nat} {Lq : Act → World → Prop} (le : List Oper) (hle : ∀ j, j < le.length → le[j]? = ops[c + j]?) (hcn : c + le.length = n) (hsel : Region.noSelect ops = true) (hs : Region.sinkB md ops n = true) (hc : Region.chainB md ops n = true) (hn : n < ops.size) (hE : effB md ops c n = true) :
    ∀ (l : List Oper) (k : Nat) (listed : Array Bool) (a : Act) (w : World), (∀ j, j < l.length → l[j]? = ops[k + j]?) → k + l.length = c → HeadInv md ops n listed → (∀ j, j < k → listed.getD j true = true) →
    Region.lexHead md ops g (l.length + le.length) k listed = true → wpR P ops W (fun a => wpE P ops W Lq le a w) l a →
    wpHeadE P md ops W c n (fun listed' a' w' => Region.seqB md ops g n listed' = true ∧ Lq a' w') (l.length + le.length) listed a w
  | [], k, listed, a, w, _, hk, inv, hd, hB, h => by
    have : k = c := by simpa using hk
    subst this
    rw [List.length_nil, Nat.zero_add] at hB ⊢
    exact wpHeadE_eff hs hc hn hE le k listed a w hle (Nat.le_refl _) hcn inv hd hB h
  | o :: l, k, listed, a, w, hl, hk, inv, hd, hB, h => by
    have h0 : ops[k]? = some o := by simpa using (hl 0 (by simp)).symm
    rw [List.length_cons, show l.length + 1 + le.length = (l.length + le.length) + 1 by omega, Region.lexHead, Bool.and_eq_true, Bool.and_eq_true] at hB
    obtain ⟨⟨hr, hf⟩, hB'⟩ := hB
    have hkc : k < c := by simp only [List.length_cons] at hk; omega
    have hr' : k ∈ Region.ready md ops listed := by simpa using hr
    obtain ⟨v, hy, hK⟩ := h
    rw [List.length_cons, show l.length + 1 + le.length = (l.length + le.length) + 1 by omega]
    exact wpHeadE_first h0 hkc (Region.noSelect_spec hsel) hs hc hn (by omega) (fun listed' a' w' hL => seqB_ready hL.1) (l.length + le.length) listed a w inv (Region.free_spec h0 hf) hr' hy
      (wpHeadE_lex le hle hcn hsel hs hc hn hE l (k + 1) _ _ w (fun j hj => by have := hl (j + 1) (by simp; omega); simpa [Nat.add_assoc, Nat.add_comm 1 j] using this) (by simp only [List.length_cons] at hk; omega) (inv.set hr' (by omega)) (fun j hj => by
        by_cases e : k = j
        · subst e; exact getD_set_same _ _
        · rw [getD_set_ne true e]; exact hd j (by omega)) hB' hK)
end
/-- Reads ahead of 'c', effects from 'c' to 'n' (each waits for the one ahead of it), a tail in one order from 'n' on: one walk, in the order of the text. -/
theorem region_chain {P : Program} {id : Nat} {Q : Exit → Act → World → Prop} {a : Act} {w : World} {l : List Oper} (c n : Nat) (hm : P.follows .mixedOrders = true) (hB : (Region.lexTailB .any l.toArray n && (effB .any l.toArray c n && decide (c ≤ n))) = true)
    (h : wpR P l.toArray w (fun a => wpE P l.toArray w (fun a w => wpList P l.toArray Q (l.drop n) a w) ((l.take n).drop c) a { w with drawn := w.drawn + 1 }) (l.take c) a) : (Code.region id l.toArray true).wp P Q a w := by
  simp only [Region.lexTailB, Bool.and_eq_true, decide_eq_true_eq] at hB
  obtain ⟨⟨⟨⟨⟨hsel, hn⟩, hs⟩, hc⟩, hlex⟩, hE, hcn⟩ := hB
  have hn' : n < l.length := by simpa using hn
  have htl : (l.take c).length = c := by simp; omega
  have hel : ((l.take n).drop c).length = n - c := by simp; omega
  have hdl : (l.drop n).length = l.toArray.size - n := by simp
  have inv0 : HeadInv .any l.toArray n (Array.replicate l.toArray.size false) :=
    ⟨by simp, fun j oj _ hl => (by rw [getD_replicate_false] at hl; cases hl), fun t _ ht => getD_in (by simpa using ht) (getD_replicate_false _ _)⟩
  have hsum : (l.take c).length + ((l.take n).drop c).length = n := by rw [htl, hel]; omega
  have H := wpHeadE_lex (md := .any) (g := l.toArray.size - n) (c := c) (n := n) (Lq := fun a' w' => wpList P l.toArray Q (l.drop n) a' w') ((l.take n).drop c) (fun j hj => by
    rw [hel] at hj
    rw [List.getElem?_drop, List.getElem?_take, if_pos (by omega)]
    simp) (by rw [hel]; omega) hsel hs hc hn hE (l.take c) 0 _ a { w with drawn := w.drawn + 1 } (fun j hj => by
    have hj' : j < c := by rw [htl] at hj; exact hj
    simp [hj']) (by simpa using htl) inv0 (fun j hj => absurd hj (Nat.not_lt_zero _)) (by rw [hsum]; exact hlex) h
  refine wp_region_any hm ?_
  have := wpAny_of_headE (Q' := Q) (c := c) (g := l.toArray.size - n) (fun listed a' w' hL => by
    have := wpAny_of_seq (md := .any) (Q' := Q) (l.drop n) n listed a' w' (fun j => by simp [List.getElem?_drop]) (by rw [hdl]; exact hL.1) hL.2
    rwa [hdl] at this) _ _ _ { w with drawn := w.drawn + 1 } (Below.refl w.heap.size w).drew H
  rw [hsum, show n + (l.toArray.size - n) = l.toArray.size by omega] at this
  exact this
section
variable {P : Program} {ops : Array Oper} {W : World}
theorem ef_step {o : Oper} {rest : List Oper} {a : Act} {w : World} {Q : Act → World → Prop} (hg : o.guard = Option.none) (h : ∀ K : Act → World → Prop, (∀ a w, wpE P ops W Q rest a w → K a w) → EF P W o K a w) : wpE P ops W Q (o :: rest) a w :=
  ⟨by simp [Region.wanted, hg], h _ (fun _ _ h => h)⟩
theorem ef_nil {a : Act} {w : World} {Q : Act → World → Prop} (h : Q a w) : wpE P ops W Q [] a w := h
end
end Go.Proofs.Ytefmlbckbhlgdaa
namespace Go.Proofs.Ytefmlbckbhlgdaa
open Go.RowKit
set_option maxRecDepth 100000
/-- The item as it is handed back. -/
def ItemAns (x : It) (w : World) (v : Value) (w' : World) : Prop :=
  ∃ l b p n c ks, v = .agg #[.bool l, .string (mkS b), .slice p n c] ∧ x = .mk l b ks ∧ Below w.heap.size w w' ∧ RowT encIt (fun b => w.heap.size ≤ b) w' (.slice p n c) (itTs ks)
theorem itemAns_leaf {w w' : World} {l : Bool} {b : List UInt8} (hb : Below w.heap.size w w') : ItemAns (.mk l b []) w (.agg #[.bool l, .string (mkS b), .slice none 0 0]) w' :=
  ⟨l, b, none, 0, 0, [], rfl, rfl, hb, RowT.nil⟩
end Go.Proofs.Ytefmlbckbhlgdaa
namespace Go.Proofs.Ytefmlbckbhlgdaa
open Go.RowKit
set_option maxRecDepth 100000
theorem ItemAns.drew {x : It} {w w' : World} {v : Value} (h : ItemAns x { w with drawn := w.drawn + 1 } v w') : ItemAns x w v w' := by
  obtain ⟨l, b, p, n, c, ks, h1, h2, h3, h4⟩ := h
  exact ⟨l, b, p, n, c, ks, h1, h2, (Below.refl w.heap.size w).drew.trans h3, h4⟩
theorem ItemAns.below {x : It} {w w' : World} {v : Value} (h : ItemAns x w v w') : Below w.heap.size w w' := by
  obtain ⟨l, b, p, n, c, ks, h1, h2, h3, h4⟩ := h
  exact h3
end Go.Proofs.Ytefmlbckbhlgdaa
namespace Go.Proofs.Ytefmlbckbhlgdaa
open Go.RowKit
set_option maxRecDepth 100000
end Go.Proofs.Ytefmlbckbhlgdaa
