/- Rlp: items that a call has made: they lie in blocks of a class; the row of kids that grows. Rlp: a list that is being read: its state in memory from kid to kid; plain laws of the readers' loops. Rlp: the contract of read. Rlp: what is encoded is apart. Rlp: the contract of Decode. -/
import Derived.Defers
import Derived.Recover
import Derived.Test.YtefmlbckbhlgdaaRa1
import Derived.Test.YtefmlbckbhlgdaaRa3
import Derived.Test.YtefmlbckbhlgdaaRa4
namespace Go.Proofs.Ytefmlbckbhlgdaa
open Go.RowKit
set_option maxRecDepth 100000
mutual
/-- The value reads as the item, all of whose cells lie in blocks of a class. -/
def ItemP (A : Nat → Prop) (w : World) : It → Value → Prop
  | .mk l b ks, v => ∃ kv, v = itemV l b kv ∧ b.length ≤ 9223372036854775807 ∧
      ((kv = .slice none 0 0 ∧ ks = []) ∨ ∃ (a : Addr) (len cap : Nat), kv = .slice (some a) len cap ∧ len ≤ cap ∧ cap ≤ 9223372036854775807 ∧ ks.length = len ∧ KidsP A w ks a 0)
def KidsP (A : Nat → Prop) (w : World) : List It → Addr → Nat → Prop
  | [], _, _ => True
  | k :: ks, a, i => (A a.block ∧ ∃ v0 v1 v2, w.cell? (a.add (i * 3)) = some v0 ∧ w.cell? (a.add (i * 3 + 1)) = some v1 ∧ w.cell? (a.add (i * 3 + 2)) = some v2 ∧ ItemP A w k (.agg #[v0, v1, v2])) ∧ KidsP A w ks a (i + 1)
end
mutual
theorem ItemP.is {A : Nat → Prop} {w : World} : ∀ (x : It) (v : Value), ItemP A w x v → ItemIs w x v
  | .mk l b ks, v, h => by
    rw [ItemP] at h
    rw [ItemIs]
    obtain ⟨kv, e, h1, h2⟩ := h
    refine ⟨kv, e, h1, ?_⟩
    rcases h2 with h2 | ⟨a, len, cap, g1, g2, g3, g4, g5⟩
    · exact .inl h2
    · exact .inr ⟨a, len, cap, g1, g2, g3, g4, KidsP.is ks a 0 g5⟩
theorem KidsP.is {A : Nat → Prop} {w : World} : ∀ (ks : List It) (a : Addr) (i : Nat), KidsP A w ks a i → KidsAt w ks a i
  | [], _, _, _ => by rw [KidsAt]; trivial
  | k :: ks, a, i, h => by
    rw [KidsP] at h
    rw [KidsAt]
    obtain ⟨⟨_, v0, v1, v2, c0, c1, c2, hi⟩, ht⟩ := h
    exact ⟨⟨v0, v1, v2, c0, c1, c2, ItemP.is k _ hi⟩, KidsP.is ks a (i + 1) ht⟩
end
mutual
theorem ItemP.keep {A A' : Nat → Prop} {w w' : World} (hk : ∀ (a : Addr) (v : Value), A a.block → w.cell? a = some v → w'.cell? a = some v ∧ A' a.block) : ∀ (x : It) (v : Value), ItemP A w x v → ItemP A' w' x v
  | .mk l b ks, v, h => by
    rw [ItemP] at h ⊢
    obtain ⟨kv, e, h1, h2⟩ := h
    refine ⟨kv, e, h1, ?_⟩
    rcases h2 with h2 | ⟨a, len, cap, g1, g2, g3, g4, g5⟩
    · exact .inl h2
    · exact .inr ⟨a, len, cap, g1, g2, g3, g4, KidsP.keep hk ks a 0 g5⟩
theorem KidsP.keep {A A' : Nat → Prop} {w w' : World} (hk : ∀ (a : Addr) (v : Value), A a.block → w.cell? a = some v → w'.cell? a = some v ∧ A' a.block) : ∀ (ks : List It) (a : Addr) (i : Nat), KidsP A w ks a i → KidsP A' w' ks a i
  | [], _, _, _ => by rw [KidsP]; trivial
  | k :: ks, a, i, h => by
    rw [KidsP] at h ⊢
    obtain ⟨⟨hA, v0, v1, v2, c0, c1, c2, hi⟩, ht⟩ := h
    have hb : ∀ n, A (a.add n).block := fun n => by rw [addr_add_block]; exact hA
    have k0 := hk _ _ (hb _) c0
    refine ⟨⟨by have := k0.2; rwa [addr_add_block] at this, v0, v1, v2, k0.1, (hk _ _ (hb _) c1).1, (hk _ _ (hb _) c2).1, ItemP.keep hk k _ hi⟩, KidsP.keep hk ks a (i + 1) ht⟩
end
/-- Items in triples, as QIs. -/
def QP (A : Nat → Prop) (w : World) : List It → List IV → Prop
  | [], [] => True
  | k :: q, x :: l => ItemP A w k x.val ∧ QP A w q l
  | _, _ => False

theorem QP.length {A : Nat → Prop} {w : World} : ∀ {q : List It} {l : List IV}, QP A w q l → q.length = l.length
  | [], [], _ => rfl
  | k :: q, x :: l, h => by rw [List.length_cons, List.length_cons, QP.length h.2]
  | [], _ :: _, h => by cases h
  | _ :: _, [], h => by cases h
theorem QP.snoc {A : Nat → Prop} {w : World} {k : It} {x : IV} (h' : ItemP A w k x.val) : ∀ {q : List It} {l : List IV}, QP A w q l → QP A w (q ++ [k]) (l ++ [x])
  | [], [], _ => ⟨h', trivial⟩
  | k :: q, x :: l, h => ⟨h.1, QP.snoc h' h.2⟩
  | [], _ :: _, h => by cases h
  | _ :: _, [], h => by cases h
theorem QP.keep {A A' : Nat → Prop} {w w' : World} (hk : ∀ (a : Addr) (v : Value), A a.block → w.cell? a = some v → w'.cell? a = some v ∧ A' a.block) : ∀ {q : List It} {l : List IV}, QP A w q l → QP A' w' q l
  | [], [], _ => trivial
  | k :: q, x :: l, h => ⟨ItemP.keep hk k _ h.1, QP.keep hk h.2⟩
  | [], _ :: _, h => by cases h
  | _ :: _, [], h => by cases h

theorem ItemP.triple {A : Nat → Prop} {w : World} {k : It} {v : Value} (h : ItemP A w k v) : ∃ x : IV, v = x.val := itemIs_val (ItemP.is k v h)

/-- A row of kids that the call has made is a list's kids. -/
theorem QP.kids {A : Nat → Prop} {w : World} {g : Nat} (hA : A g) : ∀ {q : List It} {l : List IV} (i : Nat), QP A w q l → (∀ j u, (flat3 l)[j]? = some u → w.cell? ⟨g, i * 3 + j, none⟩ = some u) → KidsP A w q ⟨g, 0, none⟩ i
  | [], [], i, _, _ => by rw [KidsP]; trivial
  | k :: q, x :: l, i, h, hc => by
    have hadd : ∀ n, (⟨g, 0, none⟩ : Addr).add n = ⟨g, n, none⟩ := fun n => by unfold Addr.add; split <;> simp_all
    rw [KidsP]
    refine ⟨⟨hA, .bool x.1, .string x.2.1, x.kids, ?_, ?_, ?_, h.1⟩, QP.kids hA (i + 1) h.2 fun j u hj => ?_⟩
    · rw [hadd]; exact hc 0 _ rfl
    · rw [hadd]; exact hc 1 _ rfl
    · rw [hadd]; exact hc 2 _ rfl
    · have := hc (j + 3) u (by rw [flat3]; simpa [cells3] using hj)
      rwa [show i * 3 + (j + 3) = (i + 1) * 3 + j by omega] at this
  | [], _ :: _, _, h, _ => by cases h
  | _ :: _, [], _, h, _ => by cases h

theorem OwnQ.item {A : Nat → Prop} {w : World} {base : Nat} {kv : Value} {ks : List It} {lv : List IV} (h : OwnQ w base kv lv) (hA : ∀ g, kv.ownBlock = some g → A g) (hq : QP A w ks lv) : ItemP A w (.mk true [] ks) (.agg #[.bool true, .string ⟨#[]⟩, kv]) := by
  have hl := hq.length
  rw [ItemP]
  refine ⟨kv, rfl, by simp, ?_⟩
  rcases h.2 with ⟨hv, hn⟩ | ⟨g, cap, cur, hv, hg, hc, hn, hcap, hsz, hx⟩
  · exact .inl ⟨by rw [hv], List.eq_nil_of_length_eq_zero (by omega)⟩
  · refine .inr ⟨⟨g, 0, none⟩, lv.length, cap, hv, hn, hcap, hl, QP.kids (hA g (by rw [hv]; rfl)) 0 hq fun j u hj => ?_⟩
    have := World.ownsRow.cells h (by rw [hv]; rfl) j u hj
    have hadd : (⟨g, 0, none⟩ : Addr).add j = ⟨g, j, none⟩ := by unfold Addr.add; split <;> simp_all
    rw [hadd] at this
    simpa using this

/-- One more kid: the row stays where it was, or lies in a new block. -/
theorem run_append_kid (w : World) (ty : TypeId) (base : Nat) (v : Value) (l : List IV) (hown : OwnQ w base v l) (ad : Addr) (y : IV) (hc : ∀ j u, (cells3 y)[j]? = some u → w.cell? (ad.add j) = some u)
    (hb : l.length + 1 ≤ 100000) (hbase : base ≤ w.heap.size) :
    ∃ v' w', (Builtin.append_ #[93, 93] ty #[v, .slice (some ad) 1 1]).run Try.prog w = .ok v' w' ∧ OwnQ w' base v' (l ++ [y]) ∧ w.grownBy w' v.ownBlock ∧ (∀ g, v'.ownBlock = some g → v.ownBlock = some g ∨ w.heap.size ≤ g) := by
  obtain ⟨i0, hi, hz0, hz1, hz2⟩ := info_item
  have e1 : flat3 [y] = cells3 y := by simp [flat3]
  have hone : ∀ u ∈ cells3 y, u.oneCell' = true := by rw [← e1]; exact flat3_one [y]
  have hown' : w.ownsRow base 98 3 v l.length (flat3 l) := hown
  obtain ⟨v', w', hr, h2, h3, _⟩ := run_append_own (P := Try.prog) w base 93 ty 98 i0 _ 3 48 Try.underlying93 hi hz0 hz1 hz2 rfl (by decide) v l.length (flat3 l) hown ad 1 1 (cells3 y) rfl hc hone (by unfold maxLen; omega) (by omega) hbase
  refine ⟨v', w', hr, ?_, h3, ?_⟩
  · unfold OwnQ
    rw [List.length_append, flat3_append, e1]
    exact h2
  · rcases hown'.2 with ⟨rfl, h0⟩ | ⟨g, cap, cur, rfl, hbg, hg, hnc, hcm, hcs, htake⟩
    · obtain ⟨v2, w2, hr2, k2, _, _⟩ := run_append_own (P := Try.prog) w w.heap.size 93 ty 98 i0 _ 3 48 Try.underlying93 hi hz0 hz1 hz2 rfl (by decide) (.slice none 0 0) 0 [] (World.ownsRow_nil w w.heap.size 98 3) ad 1 1 (cells3 y) rfl hc hone (by unfold maxLen; omega) (by omega) (Nat.le_refl _)
      rw [hr] at hr2
      injection hr2 with e2 e3
      subst e2
      intro g hg
      rcases k2.2 with ⟨e, _⟩ | ⟨g', cap, cur, e, hgb, _⟩
      · rw [e] at hg; cases hg
      · rw [e] at hg; simp [Value.ownBlock] at hg; exact .inr (by omega)
    · intro g' hg'
      by_cases hroom : l.length + 1 ≤ cap
      · have hr2 := run_append_room (P := Try.prog) w 93 ty 98 i0 Try.underlying93 hi g l.length cap cur hg ad 1 1 (cells3 y) (by rw [hz1]; rfl) hc hone hroom (by rw [hz1]; simp [cells3]; omega)
        rw [hr] at hr2
        injection hr2 with e2 e3
        subst e2
        exact .inl hg'
      · have hr2 := run_append_grow (P := Try.prog) w 93 ty 98 i0 _ Try.underlying93 hi hz0 ⟨g, 0, none⟩ l.length cap (flat3 l) (by rw [flat3_length, hz1]) (hown'.cells rfl) ad 1 1 (cells3 y) (by rw [hz1]; rfl) hc (by omega) (by omega) (growslice_fits (by omega) (by rw [hz2]; omega))
        rw [hr] at hr2
        injection hr2 with e2 e3
        subst e2
        simp [Value.ownBlock] at hg'
        exact .inr (by omega)

theorem wpList_append_kid {ops : Array Oper} {rest : List Oper} {o : Oper} {a : Act} {Q : Exit → Act → World → Prop} {w : World} (hgd : o.guard = Option.none) (s x : Operand)
    (ho : o.op = .call { callee := .builtin .append, args := #[s, x], argTypes := #[93, 93] }) (base : Nat) (v : Value) (l : List IV) (hs : a.eval s = v) (hown : OwnQ w base v l)
    (ad : Addr) (y : IV) (hx : a.eval x = .slice (some ad) 1 1) (hc : ∀ j u, (cells3 y)[j]? = some u → w.cell? (ad.add j) = some u)
    (hb : l.length + 1 ≤ 100000) (hbase : base ≤ w.heap.size)
    (h : ∀ v' w', OwnQ w' base v' (l ++ [y]) → w.grownBy w' v.ownBlock → (∀ g, v'.ownBlock = some g → v.ownBlock = some g ∨ w.heap.size ≤ g) → wpList Try.prog ops Q rest (a.put o.dst v') w') : wpList Try.prog ops Q (o :: rest) a w := by
  obtain ⟨v', w', hr, h1, h2, h3⟩ := run_append_kid w o.type base v l hown ad y hc hb hbase
  refine wpList_plain hgd fun _ hK => ?_
  unfold Oper.wp execOp
  simp only [ho, resolve, invoke, builtin, Sem.run_bind, Sem.run_pure, Result.andThen_ok, List.map_toArray, List.map_cons, List.map_nil, hs, hx, hr]
  exact hK _ _ (h v' w' h1 h2 h3)
end Go.Proofs.Ytefmlbckbhlgdaa
namespace Go.Proofs.Ytefmlbckbhlgdaa
open Go.RowKit
set_option maxRecDepth 100000
abbrev zeroO : Obj := .cells #[.bool false, .string ⟨#[]⟩, .slice none 0 0] 98

/-- Behind some kids: the result's cells, the list's cells, its kids. -/
structure KSt (w wr : World) (kv : Value) (ks : List It) (lv : List IV) : Prop where
  rowG : RowAt wr w.heap.size #[.bool false, .string ⟨#[]⟩, .slice none 0 0] 98
  rowX : RowAt wr (w.heap.size + 1) #[.bool true, .string ⟨#[]⟩, kv] 98
  own : OwnQ wr (w.heap.size + 2) kv lv
  kids : QP (fun b => w.heap.size + 2 ≤ b ∧ kv.ownBlock ≠ some b) wr ks lv
  below : Below w.heap.size w wr

theorem KSt.at4 {w wr w4 : World} {kv : Value} {ks : List It} {lv : List IV} (h : KSt w wr kv ks lv) (hb : Below wr.heap.size wr w4) :
    RowAt w4 w.heap.size #[.bool false, .string ⟨#[]⟩, .slice none 0 0] 98 ∧ RowAt w4 (w.heap.size + 1) #[.bool true, .string ⟨#[]⟩, kv] 98 ∧ OwnQ w4 (w.heap.size + 2) kv lv ∧ Below w.heap.size w w4 :=
  ⟨h.rowG.belowS hb, h.rowX.belowS hb, h.own.below hb (Nat.le_refl _), h.below.trans (hb.mono h.below.size)⟩

theorem KSt.ownlt {w wr : World} {kv : Value} {ks : List It} {lv : List IV} (h : KSt w wr kv ks lv) : ∀ g, kv.ownBlock = some g → w.heap.size + 2 ≤ g ∧ g < wr.heap.size := fun g hg => World.ownsRow.lt h.own g hg

theorem KSt.at5 {w wr w4 w5 : World} {kv : Value} {ks : List It} {lv : List IV} (h : KSt w wr kv ks lv) (hb : Below wr.heap.size wr w4) (hg : w4.grownBy w5 kv.ownBlock) :
    RowAt w5 (w.heap.size + 1) #[.bool true, .string ⟨#[]⟩, kv] 98 := by
  obtain ⟨_, h2, _, _⟩ := h.at4 hb
  refine h2.grown hg fun e => ?_
  have := (h.ownlt _ e.symm).1
  omega

theorem KSt.step {w wr w4 w5 : World} {kv kv' : Value} {ks : List It} {lv : List IV} {k : It} {y : IV} (h : KSt w wr kv ks lv) (hb : Below wr.heap.size wr w4) (hk : ItemP (fun b => wr.heap.size ≤ b) w4 k y.val)
    (own5 : OwnQ w5 (w.heap.size + 2) kv' (lv ++ [y])) (hg : w4.grownBy w5 kv.ownBlock) (hn : ∀ g, kv'.ownBlock = some g → kv.ownBlock = some g ∨ w4.heap.size ≤ g) :
    KSt w (w5.setCell ⟨w.heap.size + 1, 2, none⟩ kv') kv' (ks ++ [k]) (lv ++ [y]) := by
  obtain ⟨h1, h2, h3, h4⟩ := h.at4 hb
  have hlt := h.ownlt
  have hwr := h.rowX.lt
  have hown5 : ∀ g, kv'.ownBlock = some g → w.heap.size + 2 ≤ g := fun g e => (World.ownsRow.lt own5 g e).1
  refine ⟨?_, ?_, ?_, ?_, ?_⟩
  · refine (h1.grown hg fun e => ?_).other _ _ (by simp)
    have := (hlt _ e.symm).1
    omega
  · exact (h.at5 hb hg).set 2 kv' rfl
  · refine ownsRow_setCell_below own5 (by simp) kv'
  · have hset : ∀ (a : Addr) (v : Value), a.block ≠ w.heap.size + 1 → w5.cell? a = some v → (w5.setCell ⟨w.heap.size + 1, 2, none⟩ kv').cell? a = some v := fun a v hne hc => by
      rw [World.cell?_of_block (w := w5) (heap_setCell_other _ _ _ _ hne)]
      exact hc
    refine QP.snoc ?_ (QP.keep ?_ h.kids)
    · refine ItemP.keep ?_ _ _ hk
      intro a v hA hc
      have hal := block_lt_of_cell hc
      refine ⟨hset a v (by omega) (hg.cell hc fun e => ?_), by omega, fun e => ?_⟩
      · have := (hlt _ e.symm).2; omega
      · rcases hn _ e with e | e
        · have := (hlt _ e).2; omega
        · omega
    · intro a v hA hc
      have hal := block_lt_of_cell hc
      have hc4 : w4.cell? a = some v := by rw [hb.cell hal]; exact hc
      have h4s := hb.size
      refine ⟨hset a v (by omega) (hg.cell hc4 fun e => hA.2 e.symm), hA.1, fun e => ?_⟩
      rcases hn _ e with e | e
      · exact hA.2 e
      · omega
  · refine (h4.grown hg h4.size fun g e => ?_).setCell (p := ⟨w.heap.size + 1, 2, none⟩) (by simp) kv'
    have := (hlt _ e).1
    omega

/-- In the end the list is an item. -/
theorem KSt.done {w wr : World} {kv : Value} {ks : List It} {lv : List IV} (h : KSt w wr kv ks lv) (v0 v1 v2 : Value) :
    ItemP (fun b => w.heap.size ≤ b) (((wr.setCell ⟨w.heap.size, 0, none⟩ v0).setCell ⟨w.heap.size, 1, none⟩ v1).setCell ⟨w.heap.size, 2, none⟩ v2) (.mk true [] ks) (.agg #[.bool true, .string ⟨#[]⟩, kv]) ∧
    Below w.heap.size w (((wr.setCell ⟨w.heap.size, 0, none⟩ v0).setCell ⟨w.heap.size, 1, none⟩ v1).setCell ⟨w.heap.size, 2, none⟩ v2) := by
  have hi : ItemP (fun b => w.heap.size + 2 ≤ b) wr (.mk true [] ks) (.agg #[.bool true, .string ⟨#[]⟩, kv]) := OwnQ.item h.own (fun g e => (h.ownlt g e).1) (QP.keep (fun a v hA hc => ⟨hc, hA.1⟩) h.kids)
  refine ⟨ItemP.keep (fun a v hA hc => ⟨?_, by omega⟩) _ _ hi, ((h.below.setCell (p := ⟨w.heap.size, 0, none⟩) (Nat.le_refl _) _).setCell (p := ⟨w.heap.size, 1, none⟩) (Nat.le_refl _) _).setCell (p := ⟨w.heap.size, 2, none⟩) (Nat.le_refl _) _⟩
  have hne : a.block ≠ w.heap.size := by omega
  rw [World.cell?_of_block (heap_setCell_other _ _ _ _ hne), World.cell?_of_block (heap_setCell_other _ _ _ _ hne), World.cell?_of_block (heap_setCell_other _ _ _ _ hne)]
  exact hc

theorem read_less {f : Nat} {s : List UInt8} {x : It} {t : List UInt8} (h : readL f s = some (x, t)) : t.length < s.length := by
  obtain ⟨e, hp⟩ := (read_sound f).1 _ _ _ h
  have := write_pos x hp
  rw [e, List.length_append]
  omega

/-- Some kids have been read: what is left of the bytes. -/
structure KInv (n : Nat) (body rest : List UInt8) (ks : List It) (m : Nat) : Prop where
  enough : 2 * rest.length ≤ m
  most : m ≤ n
  few : ks.length + rest.length ≤ 4100
  same : kidsL n body = (match kidsL m rest with | none => none | some ks' => some (ks ++ ks'))

theorem KInv.start {n : Nat} {body : List UInt8} (h : 2 * body.length ≤ n) (h' : body.length ≤ 4100) : KInv n body body [] n :=
  ⟨h, Nat.le_refl _, by simpa using h', by cases kidsL n body <;> rfl⟩
theorem KInv.more {n m : Nat} {body rest : List UInt8} {ks : List It} (h : KInv n body rest ks m) (hr : rest ≠ []) : ∃ m', m = m' + 1 ∧ 2 * rest.length ≤ m' + 1 ∧ m' < n + 1 := by
  have h0 := List.length_pos_iff.2 hr
  have h1 := h.enough
  have h2 := h.most
  exact ⟨m - 1, by omega, by omega, by omega⟩
theorem KInv.stop {n m : Nat} {body rest : List UInt8} {ks : List It} (h : KInv n body rest ks (m + 1)) (hr : rest ≠ []) (hn : readL m rest = none) : kidsL n body = none := by
  rw [h.same]
  cases rest with
  | nil => exact absurd rfl hr
  | cons c t => rw [kidsL, hn]
theorem KInv.step {n m : Nat} {body rest t : List UInt8} {ks : List It} {k : It} (h : KInv n body rest ks (m + 1)) (hr : rest ≠ []) (hn : readL m rest = some (k, t)) : KInv n body t (ks ++ [k]) m := by
  have hl := read_less hn
  have h1 := h.enough
  have h2 := h.most
  have h3 := h.few
  refine ⟨by omega, by omega, by rw [List.length_append, List.length_singleton]; omega, ?_⟩
  rw [h.same]
  cases rest with
  | nil => exact absurd rfl hr
  | cons c t' =>
    rw [kidsL, hn]
    simp only
    cases kidsL m t <;> simp
theorem KInv.done {n m : Nat} {body : List UInt8} {ks : List It} (h : KInv n body [] ks m) : kidsL n body = some ks := by
  rw [h.same]
  have : kidsL m [] = some [] := by cases m <;> rfl
  rw [this]
  simp
end Go.Proofs.Ytefmlbckbhlgdaa
namespace Go.Proofs.Ytefmlbckbhlgdaa
open Go.RowKit
set_option maxRecDepth 100000
/-- How read ends. -/
def ReadPost (r : Option (It × List UInt8)) (w : World) (e : Ending) (w' : World) : Prop :=
  Below w.heap.size w w' ∧ (match r with
    | none => e = .panicked [badE]
    | some (x, t) => ∃ v, e = .returned (.tuple #[v, .string (mkS t)]) ∧ ItemP (fun b => w.heap.size ≤ b) w' x v)

theorem ReadPost.none_mk {w w' : World} (h : Below w.heap.size w w') : ReadPost none w (.panicked [badE]) w' := ⟨h, rfl⟩
theorem ReadPost.some_mk {w w' : World} {x : It} {t : List UInt8} {v : Value} (h : Below w.heap.size w w') (hi : ItemP (fun b => w.heap.size ≤ b) w' x v) : ReadPost (some (x, t)) w (.returned (.tuple #[v, .string (mkS t)])) w' := ⟨h, v, rfl, hi⟩

theorem leafP {A : Nat → Prop} {w : World} (T : ByteArray) (h : (bl T).length ≤ 9223372036854775807) : ItemP A w (.mk false (bl T) []) (.agg #[.bool false, .string T, .slice none 0 0]) := by
  rw [ItemP]; exact ⟨_, rfl, h, .inl ⟨rfl, rfl⟩⟩

def strLen : Value → Nat
  | .string b => b.size
  | _ => 0

theorem cut_bounds {s : List UInt8} {is : Bool} {fr en : Nat} (h : cutL s = some (is, fr, en)) : fr ≤ en ∧ 1 ≤ en ∧ (is = true → 1 ≤ fr) := by
  rcases cut_inv h with ⟨rfl, rfl, rfl, _⟩ | ⟨n, t, _, _, rfl, rfl⟩
  · exact ⟨by omega, by omega, by simp⟩
  · have := headL_pos (frOf is) n
    exact ⟨by omega, by omega, fun _ => this⟩

theorem readL_some {n : Nat} {s : List UInt8} {is : Bool} {fr en : Nat} (hc : cutL s = some (is, fr, en)) : readL (n + 1) s =
    if s.length < en then none
    else if is = true then (match kidsL n ((s.take en).drop fr) with | none => none | some ks => some (.mk true [] ks, s.drop en))
    else if fr = 1 ∧ en = 2 ∧ (s.getD 1 0).toNat < 128 then none
    else some (.mk false ((s.take en).drop fr) [], s.drop en) := by rw [readL, hc]; rfl

theorem ItemP.set3 {w2 : World} {N : Nat} {k : It} {v : Value} (v0 v1 v2 : Value) (o : Obj) (h : ItemP (fun b => N + 1 ≤ b) w2 k v) :
    ItemP (fun b => N ≤ b) ((((w2.setCell ⟨N, 0, none⟩ v0).setCell ⟨N, 1, none⟩ v1).setCell ⟨N, 2, none⟩ v2).alloc o) k v := by
  refine ItemP.keep (fun a v hA hc => ⟨?_, by omega⟩) _ _ h
  have hal := block_lt_of_cell hc
  have hne : a.block ≠ N := by omega
  rw [World.cell?_of_block (Below.heap_alloc _ o a.block (by simpa [World.setCell] using hal)), World.cell?_of_block (heap_setCell_other _ _ _ _ hne), World.cell?_of_block (heap_setCell_other _ _ _ _ hne), World.cell?_of_block (heap_setCell_other _ _ _ _ hne)]
  exact hc

set_option maxRecDepth 100000 in
set_option maxHeartbeats 2000000 in
theorem read_any (f : Nat) : ∀ (s : ByteArray) (w : World), s.size ≤ 4100 → 2 * s.size ≤ f + 1 →
    Calls Try.prog 97 #[.string s] w (ReadPost (readL f (bl s)) w) := by
  induction f using Nat.strongRecOn with
  | ind f ih =>
  intro s w hs hf
  have KC := Lib.hid (fun w => cut_any s w (by omega))
  have B0 : Hid (Below w.heap.size w (w.alloc (.cells #[.bool false, .string ⟨#[]⟩, .slice none 0 0] 98))) := Lib.hid ((Below.refl _ _).alloc (Nat.le_refl _) _)
  cases hc : cutL (bl s) with
  | none =>
    have hr : readL f (bl s) = none := by
      cases f with
      | zero => rfl
      | succ f => rw [readL, hc]
    rw [hr]
    rw [hc] at KC
    clear ih hc hr
    go_enter Try.func97, Try.ntmps97
    go_wp2_with fail
    refine (KC.out _).mono ?_
    rintro e w1 ⟨rfl, rfl⟩
    exact ⟨rfl, ReadPost.none_mk B0.out⟩
  | some q =>
    obtain ⟨is, fr, en⟩ := q
    obtain ⟨hfe, hen, hfr⟩ := cut_bounds hc
    rw [hc] at KC
    obtain ⟨n, rfl⟩ : ∃ n, f = n + 1 := by
      cases f with
      | zero =>
        have h0 : s.size = 0 := by omega
        have : bl s = [] := List.eq_nil_of_length_eq_zero (by rw [bl_length]; exact h0)
        rw [this] at hc
        cases hc
      | succ n => exact ⟨n, rfl⟩
    have hr := readL_some (n := n) hc
    rw [bl_length] at hr
    simp only [cutE] at KC
    by_cases c1 : s.size < en
    · rw [if_pos c1] at hr
      rw [hr]
      clear ih hc hr hfe hen hfr hf
      go_enter Try.func97, Try.ntmps97
      go_wp2_with fail
      refine (KC.out _).mono ?_
      rintro e w1 ⟨rfl, rfl⟩
      go_wp2
      exact ⟨rfl, ReadPost.none_mk B0.out⟩
    · rw [if_neg c1] at hr
      have hzb : (s.extract fr en).size = en - fr := by rw [ByteArray.size_extract]; omega
      have hbb : bl (s.extract fr en) = ((bl s).take en).drop fr := bl_extract _ _ _
      have hbr : bl (s.extract en s.size) = (bl s).drop en := by rw [bl_extract, stake_all]
      cases is with
      | false =>
        rw [if_neg (by simp)] at hr
        clear ih hfr
        have hT0 : ∀ h : 0 < (s.extract fr en).size, fr = 1 → ((s.extract fr en)[0]'h).toNat = ((bl s).getD 1 0).toNat := fun h e => by
          subst e
          have h1 := sgetD h
          rw [hbb] at h1
          rw [← h1, List.getD, List.getElem?_drop, List.getElem?_take, if_pos (by omega)]
          rfl
        have hen2 : en ≤ s.size := by omega
        rw [← hbb, ← hbr] at hr
        generalize hT : s.extract fr en = T at *
        generalize hU : s.extract en s.size = U at *
        have HR := Lib.hid hr
        have hTl : (bl T).length ≤ 9223372036854775807 := by rw [bl_length]; omega
        clear hr hbb hbr hf hc hen
        by_cases c2 : fr = 1
        · by_cases c3 : en = 2
          · have hz1 : T.size = 1 := by omega
            have h0 : 0 < T.size := by omega
            have ht0 := hT0 h0 c2
            have hs1 : ((T.size : Int) == 1) = true := by rw [hz1]; rfl
            have hf1 : ((fr : Int) == 1) = true := by rw [c2]; rfl
            by_cases c4 : ((bl s).getD 1 0).toNat < 128
            · have hR2 : Hid (readL (n + 1) (bl s) = none) := Lib.hid (by rw [HR.out, if_pos ⟨c2, c3, c4⟩])
              have ht1 : ((T[0]'h0).toNat : Int) < 128 := by omega
              rw [hR2.out]
              clear hT0 c4 ht0 HR hz1 c2 c3 hzb
              go_enter Try.func97, Try.ntmps97
              go_wp2_with fail
              refine (KC.out _).mono ?_
              rintro e w1 ⟨rfl, rfl⟩
              go_wp2
              (refine region_tail 8 mix ?hB ?_; case hB => kernel_rfl); (simp only [List.take_succ_cons, List.take_zero, List.drop_succ_cons, List.drop_zero]; (iterate 8 (with_reducible refine wpStill_step ?_; intro K hK; go_simp; with_reducible refine hK _ ?_; clear hK K)); with_reducible refine wpStill_nil ?_)
              go_wp2
              exact ⟨rfl, ReadPost.none_mk B0.out.drew⟩
            · have hR2 : Hid (readL (n + 1) (bl s) = some (.mk false (bl T) [], bl U)) := Lib.hid (by rw [HR.out, if_neg (fun h => c4 h.2.2)])
              have ht1 : ¬ ((T[0]'h0).toNat : Int) < 128 := by omega
              rw [hR2.out]
              clear hT0 c4 ht0 HR hz1 c2 c3 hzb
              go_enter Try.func97, Try.ntmps97
              go_wp2_with fail
              refine (KC.out _).mono ?_
              rintro e w1 ⟨rfl, rfl⟩
              go_wp2
              (refine region_tail 8 mix ?hB ?_; case hB => kernel_rfl); (simp only [List.take_succ_cons, List.take_zero, List.drop_succ_cons, List.drop_zero]; (iterate 8 (with_reducible refine wpStill_step ?_; intro K hK; go_simp; with_reducible refine hK _ ?_; clear hK K)); with_reducible refine wpStill_nil ?_)
              go_wp2
              refine bodyPost_ret (v := .tuple #[.agg #[.bool false, .string T, .slice none 0 0], .string U]) (by simp [results, Try.results97, go_sem]) rfl ?_
              exact ReadPost.some_mk (t := bl U) ((Below.refl _ _).alloc (Nat.le_refl _) _).drew (leafP T hTl)
          · have hs1 : ((T.size : Int) == 1) = false := by simp; omega
            have hf1 : ((fr : Int) == 1) = true := by rw [c2]; rfl
            have hR2 : Hid (readL (n + 1) (bl s) = some (.mk false (bl T) [], bl U)) := Lib.hid (by rw [HR.out, if_neg (fun h => c3 h.2.1)])
            rw [hR2.out]
            clear hT0 HR c2 c3 hzb
            go_enter Try.func97, Try.ntmps97
            go_wp2_with fail
            refine (KC.out _).mono ?_
            rintro e w1 ⟨rfl, rfl⟩
            go_wp2
            (refine region_tail 8 mix ?hB ?_; case hB => kernel_rfl); (simp only [List.take_succ_cons, List.take_zero, List.drop_succ_cons, List.drop_zero]; (iterate 8 (with_reducible refine wpStill_step ?_; intro K hK; go_simp; with_reducible refine hK _ ?_; clear hK K)); with_reducible refine wpStill_nil ?_)
            go_wp2
            refine bodyPost_ret (v := .tuple #[.agg #[.bool false, .string T, .slice none 0 0], .string U]) (by simp [results, Try.results97, go_sem]) rfl ?_
            exact ReadPost.some_mk (t := bl U) ((Below.refl _ _).alloc (Nat.le_refl _) _).drew (leafP T hTl)
        · have hf1 : ((fr : Int) == 1) = false := by simp; omega
          have hR2 : Hid (readL (n + 1) (bl s) = some (.mk false (bl T) [], bl U)) := Lib.hid (by rw [HR.out, if_neg (fun h => c2 h.1)])
          rw [hR2.out]
          clear hT0 HR c2 hzb
          go_enter Try.func97, Try.ntmps97
          go_wp2_with fail
          refine (KC.out _).mono ?_
          rintro e w1 ⟨rfl, rfl⟩
          go_wp2
          (refine region_tail 8 mix ?hB ?_; case hB => kernel_rfl); (simp only [List.take_succ_cons, List.take_zero, List.drop_succ_cons, List.drop_zero]; (iterate 8 (with_reducible refine wpStill_step ?_; intro K hK; go_simp; with_reducible refine hK _ ?_; clear hK K)); with_reducible refine wpStill_nil ?_)
          go_wp2
          refine bodyPost_ret (v := .tuple #[.agg #[.bool false, .string T, .slice none 0 0], .string U]) (by simp [results, Try.results97, go_sem]) rfl ?_
          exact ReadPost.some_mk (t := bl U) ((Below.refl _ _).alloc (Nat.le_refl _) _).drew (leafP T hTl)
      | true =>
        rw [if_pos rfl] at hr
        have hfr1 := hfr rfl
        have hen2 : en ≤ s.size := by omega
        have hbl : (bl (s.extract fr en)).length = en - fr := by rw [bl_length]; exact hzb
        rw [← hbb, ← hbr] at hr
        have hI : Hid (KInv n (bl (s.extract fr en)) (bl (s.extract fr en)) [] n) := Lib.hid (KInv.start (by omega) (by omega))
        generalize hT : s.extract fr en = T at *
        generalize hU : s.extract en s.size = U at *
        have HR := Lib.hid hr
        have IH := Lib.hid ih
        have HT : Hid (mkS (bl T) = T) := Lib.hid (mk_bl T)
        clear ih hfr hr hbb hbr hc hf hen hbl
        go_enter Try.func97, Try.ntmps97
        go_wp2_with fail
        refine (KC.out _).mono ?_
        rintro e w1 ⟨rfl, rfl⟩
        go_wp2
        (refine region_tail 8 mix ?hB ?_; case hB => kernel_rfl); (simp only [List.take_succ_cons, List.take_zero, List.drop_succ_cons, List.drop_zero]; (iterate 8 (with_reducible refine wpStill_step ?_; intro K hK; go_simp; with_reducible refine hK _ ?_; clear hK K)); with_reducible refine wpStill_nil ?_)
        go_wp2
        have K0 : Hid (KSt w ((w.alloc zeroO).alloc (.cells #[.bool true, .string ⟨#[]⟩, .slice none 0 0] 98)).drew (.slice none 0 0) [] []) := Lib.hid
          ⟨((RowAt.new w _ _).alloc _).drew, (RowAt.new' _ _ _ (by simp)).drew, World.ownsRow_nil _ _ _ _, trivial, (((Below.refl _ _).alloc (Nat.le_refl _) _).alloc (by simp) _).drew⟩
        clear KC B0
        go_loopw [7] (fun s7 wr => ∃ (rest : List UInt8) (ks : List It) (lv : List IV) (kv : Value) (m : Nat), s7 = .string (mkS rest) ∧ KInv n (bl T) rest ks m ∧ KSt w wr kv ks lv) (fun s7 _ => strLen s7)
        case atStart => exact ⟨bl T, [], [], .slice none 0 0, n, rfl, hI.out, K0.out⟩
        case round =>
          clear K0 hI
          obtain ⟨rest, ks, lv, kv, m, rfl, hinv, hst⟩ := hrel
          obtain ⟨p1, c9, rfl, -⟩ := hst.own.parts
          have HI := Lib.hid hinv
          have HK := Lib.hid hst
          clear hinv hst
          by_cases hrest : rest = []
          · subst hrest
            have hse : (mkS []).toList = [] := by rw [toList_bl, bl_mk]
            have hR2 : readL (n + 1) (bl s) = some (.mk true [] ks, bl U) := by rw [HR.out, HI.out.done]
            have HR2 := Lib.hid hR2
            have HD := Lib.hid (HK.out.done (.bool true) (.string ⟨#[]⟩) (.slice p1 lv.length c9))
            have X := HK.out.rowX.c3
            have G := HK.out.rowG
            obtain ⟨x0, x1, x2, xf0, xf1, xf2⟩ := X
            have R0 := G.set 0 (.bool true) (cs' := #[.bool true, .string ⟨#[]⟩, .slice none 0 0]) rfl
            have R1 := R0.set 1 (.string ⟨#[]⟩) (cs' := #[.bool true, .string ⟨#[]⟩, .slice none 0 0]) rfl
            have R2 := R1.set 2 (.slice p1 lv.length c9) (cs' := #[.bool true, .string ⟨#[]⟩, .slice p1 lv.length c9]) rfl
            obtain ⟨c0, c1', c2, f0, f1, f2⟩ := G.c3
            have m0 := R0.c3.1
            have m1 := R1.c3.2.1
            have m2 := R2.c3.2.2.1
            clear G R0 R1 R2 HI HR IH hR2
            go_wp2
            refine bodyPost_ret (v := .tuple #[.agg #[.bool true, .string ⟨#[]⟩, .slice p1 lv.length c9], .string U]) (by simp [results, Try.results97, go_sem, m0, m1, m2]) rfl ?_
            rw [HR2.out]
            exact ReadPost.some_mk (t := bl U) HD.out.2 HD.out.1
          · have hse : ¬ (mkS rest).toList = [] := by rw [toList_bl, bl_mk]; exact hrest
            have hse2 : (mkS rest).toList.isEmpty = false := by rw [toList_bl, bl_mk]; simpa using hrest
            obtain ⟨m', rfl, hm1, hm2⟩ := HI.out.more hrest
            have hlr := HI.out.few
            have KR := IH.out m' hm2 (mkS rest) (wr.alloc zeroO) (by rw [mk_size]; omega) (by rw [mk_size]; omega)
            rw [bl_mk] at KR
            cases hrd : readL m' rest with
            | none =>
              have hst := HI.out.stop hrest hrd
              have hR2 : readL (n + 1) (bl s) = none := by rw [HR.out, hst]
              have HB := Lib.hid (HK.out.below.alloc HK.out.below.size zeroO)
              rw [hR2]
              rw [hrd] at KR
              have KRH := Lib.hid KR
              clear hst hR2 HR KR IH HI HK hrd
              go_wp2_with fail
              refine KRH.out.mono ?_
              rintro e w2 ⟨hb, rfl⟩
              exact ⟨rfl, ReadPost.none_mk (HB.out.trans (hb.mono HB.out.size))⟩
            | some q =>
              obtain ⟨k, t⟩ := q
              rw [hrd] at KR
              have HI2 := Lib.hid (HI.out.step hrest hrd)
              have hless := read_less hrd
              have KRH := Lib.hid KR
              clear KR IH HI hrd
              go_wp2_with fail
              refine KRH.out.mono ?_
              rintro e w2 ⟨hb, v, rfl, hv⟩
              obtain ⟨⟨yl, yb, yp, yn, yc⟩, rfl⟩ := hv.triple
              simp only [IV.val, IV.kids] at hv ⊢
              have RZ : RowAt w2 wr.heap.size #[.bool false, .string ⟨#[]⟩, .slice none 0 0] 98 := (RowAt.new wr _ _).belowS hb
              have hws : wr.heap.size + 1 ≤ w2.heap.size := by have := hb.size; simpa using this
              have R0 := RZ.set 0 (.bool yl) (cs' := #[.bool yl, .string ⟨#[]⟩, .slice none 0 0]) rfl
              have R1 := R0.set 1 (.string yb) (cs' := #[.bool yl, .string yb, .slice none 0 0]) rfl
              have R2 := R1.set 2 (.slice yp yn yc) (cs' := #[.bool yl, .string yb, .slice yp yn yc]) rfl
              obtain ⟨c0, c1', c2, f0, f1, f2⟩ := RZ.c3
              have m0 := R0.c3.1
              have m1 := R1.c3.2.1
              have m2 := R2.c3.2.2.1
              have HB2 : Below wr.heap.size wr w2 := ((Below.refl _ _).alloc (Nat.le_refl _) _).trans (hb.mono (by simp))
              have HB3 := (((HB2.setCell (p := ⟨wr.heap.size, 0, none⟩) (Nat.le_refl _) (.bool yl)).setCell (p := ⟨wr.heap.size, 1, none⟩) (Nat.le_refl _) (.string yb)).setCell (p := ⟨wr.heap.size, 2, none⟩) (Nat.le_refl _) (.slice yp yn yc))
              have HB4 := Lib.hid (HB3.alloc HB3.size (ivO (yl, yb, yp, yn, yc)))
              have hk4 := Lib.hid (ItemP.set3 (N := wr.heap.size) (.bool yl) (.string yb) (.slice yp yn yc) (ivO (yl, yb, yp, yn, yc)) (by simpa using hv))
              have x2 := (HK.out.at4 HB2).2.1.c3.2.2.1
              have x3 := (HK.out.at4 HB3).2.1.c3.2.2.1
              have O4 := Lib.hid (HK.out.at4 HB4.out).2.2.1
              have hll := HK.out.kids.length
              have hgx := HK.out.rowX.lt
              have hgx2 : ¬ w.heap.size + 1 = wr.heap.size := by omega
              clear hv hb RZ R0 R1 R2 HB2 HB3 KRH
              go_wp2_with (at_builtin; refine wpList_append_kid rfl _ _ rfl (w.heap.size + 2) _ lv rfl O4.out ⟨w2.heap.size, 0, none⟩ (yl, yb, yp, yn, yc) rfl ?_ (by omega) (by simp; omega) ?_)
              · exact alloc_cells3 _ (yl, yb, yp, yn, yc) w2.heap.size (by simp [World.setCell])
              · intro v' w5 own5 hg hn
                obtain ⟨p5, c5, rfl, -⟩ := own5.parts
                obtain ⟨t0, t1, t2, tf0, tf1, tf2⟩ := (HK.out.at5 HB4.out hg).c3
                have hk2 := HK.out.step HB4.out hk4.out own5 hg (fun g e => by have := hn g e; simpa [World.setCell] using this)
                simp only [List.length_append, List.length_singleton] at hk2
                have HK2 := Lib.hid hk2
                clear hk2
                clear own5 hg hn HB4 hk4 O4 HK c0 c1' c2 f0 f1 f2 m0 m1 m2 x2 x3
                have hlt : (mkS t).size < (mkS rest).size := by rw [mk_size, mk_size]; exact hless
                go_wp2_with fail
                go_roundw
                case rel => exact ⟨t, _, _, _, m', rfl, HI2.out, HK2.out⟩
                case measure => exact hlt
end Go.Proofs.Ytefmlbckbhlgdaa
namespace Go.Proofs.Ytefmlbckbhlgdaa
open Go.RowKit
set_option maxRecDepth 100000
theorem enc_ok {x : It} (h : x.enc.2 = 0) : x.pure ∧ x.write.length ≤ 4000 ∧ x.enc.1 = x.write ∧ x.size ≤ 4000 ∧ x.depth ≤ 8 := by
  by_cases hp : (x.pureB && decide (x.size ≤ 4000)) = false
  · rw [It.enc, if_pos hp] at h; simp at h
  by_cases h2 : 8 < x.depth
  · rw [It.enc, if_neg hp, if_pos h2] at h; simp at h
  by_cases h3 : 4000 < x.write.length
  · rw [It.enc, if_neg hp, if_neg h2, if_pos h3] at h; simp at h
  have e : x.enc = (x.write, 0) := by rw [It.enc, if_neg hp, if_neg h2, if_neg h3]
  simp only [Bool.not_eq_false, Bool.and_eq_true, decide_eq_true_eq] at hp
  exact ⟨(pureB_iff x).1 hp.1, by omega, by rw [e], hp.2, by omega⟩

end Go.Proofs.Ytefmlbckbhlgdaa
namespace Go.Proofs.Ytefmlbckbhlgdaa
open Go.RowKit
set_option maxRecDepth 100000
theorem assert_bad (w : World) : (Instr.typeAssert (.iface 149 (.agg #[])) 20 149 true).run Try.prog w = .ok (.tuple #[.agg #[], .bool true]) w := by
  simp [Instr.typeAssert, run_underlying Try.underlying149]

set_option maxRecDepth 100000 in
set_option maxHeartbeats 1000000 in
theorem catch_panicking (g : Nat) (older : List PanicEntry) (w : World) (cs0 : Array Value) (hG : RowAt w g cs0 98) (hz : cs0.size = 3) (n0 : Value) (hE : RowAt w (g + 1) #[n0] 27) :
    CallsD Try.prog 96 #[.pointer (some ⟨g, 0, none⟩), .pointer (some ⟨g + 1, 0, none⟩)] (.panicking (badE :: older)) w fun e u' w' =>
      e = .returned (.tuple #[]) ∧ u' = .panicking ({ badE with recovered := true } :: older) ∧ RowAt w' g #[.bool false, .string ⟨#[]⟩, .slice none 0 0] 98 ∧ RowAt w' (g + 1) #[.int .i64 4] 27 ∧ Below g w w' := by
  obtain ⟨l⟩ := cs0
  match l, hz with
  | [v0, v1, v2], _ =>
    have G1 := hG.alloc (.cells #[] 149)
    have E1 := hE.alloc (.cells #[] 149)
    have B1 : Below g w (w.alloc (.cells #[] 149)) := (Below.refl _ _).alloc (by have := hG.lt; omega) _
    have R0 := G1.set 0 (.bool false) (cs' := #[.bool false, v1, v2]) rfl
    have R1 := R0.set 1 (.string ⟨#[]⟩) (cs' := #[.bool false, .string ⟨#[]⟩, v2]) rfl
    have R2 := R1.set 2 (.slice none 0 0) (cs' := #[.bool false, .string ⟨#[]⟩, .slice none 0 0]) rfl
    have E4 := ((E1.other ⟨g, 0, none⟩ (.bool false) (by simp)).other ⟨g, 1, none⟩ (.string ⟨#[]⟩) (by simp)).other ⟨g, 2, none⟩ (.slice none 0 0) (by simp)
    have HF := Lib.hid (R2.other ⟨g + 1, 0, none⟩ (.int .i64 4) (by simp))
    have HE := Lib.hid (E4.set 0 (.int .i64 4) (cs' := #[.int .i64 4]) rfl)
    have HB := Lib.hid ((((B1.setCell (p := ⟨g, 0, none⟩) (Nat.le_refl _) (.bool false)).setCell (p := ⟨g, 1, none⟩) (Nat.le_refl _) (.string ⟨#[]⟩)).setCell (p := ⟨g, 2, none⟩) (Nat.le_refl _) (.slice none 0 0)).setCell (p := ⟨g + 1, 0, none⟩) (by simp) (.int .i64 4))
    obtain ⟨c0, c1, c2, f0, f1, f2⟩ := G1.c3
    obtain ⟨d0, e0⟩ := E1.c1
    obtain ⟨d4, e4⟩ := E4.c1
    clear hG hE G1 E1 B1 R0 R1 R2 E4
    refine callsD_of_wpS Try.func96 rfl fun c₀ cs hu => ?_
    apply wpS_seq
    apply wpS_region
    simp [wpOpsS, go_sem, recoverD, hu, badE, Try.ntmps96, Exit.thenS]
    refine wpS_of_wp ?_
    change Code.wp _ _ _ { tmps := #[.pointer (some ⟨g, 0, none⟩), .pointer (some ⟨g + 1, 0, none⟩), .iface 149 (.agg #[]), undef, undef, .iface 149 (.agg #[]), undef, undef, undef, undef, undef, undef, undef, undef, undef, undef, undef], defers := [] } w
    have hta := assert_bad
    go_wp2
    refine ⟨rfl, _, rfl, .tuple #[], ?_, rfl, rfl, HF.out, HE.out, HB.out⟩
    simp [results, Try.results96, go_sem]

set_option maxRecDepth 100000 in
set_option maxHeartbeats 1000000 in
theorem catch_idle (g : Nat) (w : World) : CallsD Try.prog 96 #[.pointer (some ⟨g, 0, none⟩), .pointer (some ⟨g + 1, 0, none⟩)] .returning w fun e u' w' => e = .returned (.tuple #[]) ∧ u' = .returning ∧ w' = w := by
  refine callsD_of_wpS Try.func96 rfl fun c₀ cs hu => ?_
  apply wpS_seq
  apply wpS_region
  simp [wpOpsS, go_sem, recoverD, hu, Try.ntmps96, Exit.thenS]
  refine wpS_of_wp ?_
  change Code.wp _ _ _ { tmps := #[.pointer (some ⟨g, 0, none⟩), .pointer (some ⟨g + 1, 0, none⟩), .nilIface, undef, undef, .nilIface, undef, undef, undef, undef, undef, undef, undef, undef, undef, undef, undef], defers := [] } w
  go_wp2
  refine ⟨rfl, .returning, ?_, .tuple #[], ?_, rfl, rfl, rfl⟩
  · cases c₀; simp_all
  · simp [results, Try.results96, go_sem]

mutual
theorem size_le_write : ∀ x : It, x.pure → x.size ≤ x.write.length
  | .mk l b ks, h => by
    rw [It.pure] at h
    have hk := sizes_le_writes ks h.2.2
    rw [It.write, It.size]
    cases l with
    | true =>
      rw [if_pos rfl, List.length_append]
      have := headL_pos 192 (writes ks).length
      omega
    | false =>
      obtain rfl := h.2.1 rfl
      rw [if_neg (by simp)]
      simp only [sizes]
      split
      · omega
      · have := headL_pos 128 b.length
        rw [List.length_append]
        omega
theorem sizes_le_writes : ∀ ks : List It, pures ks → sizes ks ≤ (writes ks).length
  | [], _ => by simp [sizes]
  | k :: ks, h => by
    rw [pures] at h
    have h1 := size_le_write k h.1
    have h2 := sizes_le_writes ks h.2
    rw [sizes, writes, List.length_append]
    omega
end
abbrev zeroI : It := .mk false [] []

/-- What bytes are decoded as, and the error's number. -/
def decL (s : List UInt8) : It × Int :=
  if 4000 < s.length then (zeroI, 2)
  else match readL (2 * s.length) s with
    | none => (zeroI, 4)
    | some (x, t) => if t ≠ [] then (zeroI, 4) else if 8 < x.depth then (zeroI, 5) else (x, 0)

/-- How a Decode ends. -/
def DecPost (r : It × Int) (w : World) (e : Ending) (w' : World) : Prop :=
  ∃ v, e = .returned (.tuple #[v, .int .i64 r.2]) ∧ ItemP (fun b => w.heap.size ≤ b) w' r.1 v ∧ Below w.heap.size w w'

theorem zeroP {A : Nat → Prop} {w : World} : ItemP A w zeroI (.agg #[.bool false, .string ⟨#[]⟩, .slice none 0 0]) := by
  rw [ItemP]; exact ⟨_, rfl, by simp, .inl ⟨rfl, rfl⟩⟩

/-- Stores into both results' cells. -/
theorem store4 {w : World} {g : Nat} {a0 a1 a2 b0 : Value} (G : RowAt w g #[a0, a1, a2] 98) (E : RowAt w (g + 1) #[b0] 27) (v0 v1 v2 u0 : Value) :
    (w.setCell ⟨g, 0, none⟩ v0).cell? ⟨g, 0, none⟩ = some v0 ∧ ((w.setCell ⟨g, 0, none⟩ v0).setCell ⟨g, 1, none⟩ v1).cell? ⟨g, 1, none⟩ = some v1 ∧ (((w.setCell ⟨g, 0, none⟩ v0).setCell ⟨g, 1, none⟩ v1).setCell ⟨g, 2, none⟩ v2).cell? ⟨g, 2, none⟩ = some v2 ∧
    ((((w.setCell ⟨g, 0, none⟩ v0).setCell ⟨g, 1, none⟩ v1).setCell ⟨g, 2, none⟩ v2).setCell ⟨g + 1, 0, none⟩ u0).cell? ⟨g + 1, 0, none⟩ = some u0 ∧
    (((w.setCell ⟨g, 0, none⟩ v0).setCell ⟨g, 1, none⟩ v1).setCell ⟨g, 2, none⟩ v2).cell? ⟨g + 1, 0, none⟩ = some b0 ∧
    (((w.setCell ⟨g, 0, none⟩ v0).setCell ⟨g, 1, none⟩ v1).setCell ⟨g, 2, none⟩ v2).frozen? ⟨g + 1, 0, none⟩ = false ∧
    RowAt ((((w.setCell ⟨g, 0, none⟩ v0).setCell ⟨g, 1, none⟩ v1).setCell ⟨g, 2, none⟩ v2).setCell ⟨g + 1, 0, none⟩ u0) g #[v0, v1, v2] 98 := by
  have R0 := G.set 0 v0 (cs' := #[v0, a1, a2]) rfl
  have R1 := R0.set 1 v1 (cs' := #[v0, v1, a2]) rfl
  have R2 := R1.set 2 v2 (cs' := #[v0, v1, v2]) rfl
  have E4 := ((E.other ⟨g, 0, none⟩ v0 (by simp)).other ⟨g, 1, none⟩ v1 (by simp)).other ⟨g, 2, none⟩ v2 (by simp)
  exact ⟨R0.c3.1, R1.c3.2.1, R2.c3.2.2.1, (E4.set 0 u0 (cs' := #[u0]) rfl).c1.1, E4.c1.1, E4.c1.2, R2.other ⟨g + 1, 0, none⟩ u0 (by simp)⟩

theorem below_store4 {w0 w : World} {g : Nat} (h : Below g w0 w) (v0 v1 v2 u0 : Value) : Below g w0 ((((w.setCell ⟨g, 0, none⟩ v0).setCell ⟨g, 1, none⟩ v1).setCell ⟨g, 2, none⟩ v2).setCell ⟨g + 1, 0, none⟩ u0) :=
  (((h.setCell (p := ⟨g, 0, none⟩) (Nat.le_refl _) v0).setCell (p := ⟨g, 1, none⟩) (Nat.le_refl _) v1).setCell (p := ⟨g, 2, none⟩) (Nat.le_refl _) v2).setCell (p := ⟨g + 1, 0, none⟩) (by simp) u0

theorem ItemP.store4 {w : World} {g : Nat} {k : It} {v : Value} (h : ItemP (fun b => g + 2 ≤ b) w k v) (v0 v1 v2 u0 : Value) : ItemP (fun b => g ≤ b) ((((w.setCell ⟨g, 0, none⟩ v0).setCell ⟨g, 1, none⟩ v1).setCell ⟨g, 2, none⟩ v2).setCell ⟨g + 1, 0, none⟩ u0) k v := by
  refine ItemP.keep (fun a v hA hc => ⟨?_, by omega⟩) _ _ h
  have hne : a.block ≠ g := by omega
  have hne2 : a.block ≠ g + 1 := by omega
  rw [World.cell?_of_block (heap_setCell_other _ _ _ _ hne2), World.cell?_of_block (heap_setCell_other _ _ _ _ hne), World.cell?_of_block (heap_setCell_other _ _ _ _ hne), World.cell?_of_block (heap_setCell_other _ _ _ _ hne)]
  exact hc

set_option maxRecDepth 100000 in
set_option maxHeartbeats 2000000 in
theorem decode_any (s : ByteArray) (w : World) (hs : s.size ≤ 4100) : Calls Try.prog 52 #[.string s] w (DecPost (decL (bl s)) w) := by
  have hmf : ∀ (fn : Fn) (first cap : Array Value) (w : World), (Instr.makeFunc fn first cap).run Try.prog w = .ok (.func fn first cap) w := fun _ _ _ _ => rfl
  by_cases h1 : 4000 < s.size
  · have hd : decL (bl s) = (zeroI, 2) := by rw [decL, if_pos (by rw [bl_length]; exact h1)]
    rw [hd]
    go_enter_defers Try.func52, Try.ntmps52
    go_wp2
    simp [bodyPostD, Leaves, results, Try.results52, go_sem]
    exact ⟨_, rfl, zeroP, ((Below.refl _ _).alloc (Nat.le_refl _) _).alloc (by simp) _⟩
  · have KR := Lib.hid (fun W => read_any (2 * s.size) s W hs (by omega))
    have B0 : Hid (Below w.heap.size w ((w.alloc zeroO).alloc (.cells #[.int .i64 0] 27))) := Lib.hid (((Below.refl _ _).alloc (Nat.le_refl _) _).alloc (by simp) _)
    have G0 : Hid (RowAt ((w.alloc zeroO).alloc (.cells #[.int .i64 0] 27)) w.heap.size #[.bool false, .string ⟨#[]⟩, .slice none 0 0] 98) := Lib.hid ((RowAt.new _ _ _).alloc _)
    have E0 : Hid (RowAt ((w.alloc zeroO).alloc (.cells #[.int .i64 0] 27)) (w.heap.size + 1) #[.int .i64 0] 27) := Lib.hid (RowAt.new' _ _ _ (by simp))
    cases hr : readL (2 * s.size) (bl s) with
    | none =>
      have hd : decL (bl s) = (zeroI, 4) := by rw [decL, if_neg (by rw [bl_length]; exact h1), bl_length, hr]
      rw [hd]
      rw [hr] at KR
      go_enter_defers Try.func52, Try.ntmps52
      go_wp2_with fail
      refine (KR.out _).mono ?_
      rintro e w2 ⟨hb, rfl⟩
      have HG := G0.out.belowS hb
      have HE := E0.out.belowS hb
      have HB := Lib.hid (B0.out.trans (hb.mono B0.out.size))
      clear hb
      refine leaves_cons (f := 96) (args := #[.pointer (some ⟨w.heap.size, 0, none⟩), .pointer (some ⟨w.heap.size + 1, 0, none⟩)]) (by simp) (by simp [go_sem]) ?_
      refine (catch_panicking w.heap.size [] _ _ HG rfl _ HE).mono ?_
      rintro e u' w3 ⟨rfl, rfl, hG, hE, hB⟩
      obtain ⟨c0, c1, c2, -, -, -⟩ := hG.c3
      obtain ⟨d0, -⟩ := hE.c1
      simp [Leaves, settle, results, Try.results52, go_sem, c0, c1, c2, d0]
      exact ⟨_, rfl, zeroP, HB.out.trans hB⟩
    | some q =>
      obtain ⟨x, t⟩ := q
      have hd : decL (bl s) = if t ≠ [] then (zeroI, 4) else if 8 < x.depth then (zeroI, 5) else (x, 0) := by rw [decL, if_neg (by rw [bl_length]; exact h1), bl_length, hr]
      rw [hr] at KR
      obtain ⟨he, hp⟩ := (read_sound _).1 _ _ _ hr
      have hsz : x.size ≤ 1000000 := by
        have h2 := size_le_write x hp
        have h3 := congrArg List.length he
        rw [bl_length, List.length_append] at h3
        omega
      by_cases ht : t = []
      · subst ht
        rw [if_neg (by simp)] at hd
        rw [hd]
        have hse : (mkS []).toList = [] := by rw [toList_bl, bl_mk]
        have KP := Lib.hid (fun W v (hi : ItemIs W x v) => deep_any x.size x (Nat.le_refl _) hp hsz v W hi)
        clear hd hr he hp hsz
        generalize x.depth = d at *
        by_cases h8 : 8 < d
        · rw [if_pos h8]
          go_enter_defers Try.func52, Try.ntmps52
          go_wp2_with fail
          refine (KR.out _).mono ?_
          rintro e w2 ⟨hb, v, rfl, hv⟩
          obtain ⟨⟨yl, yb, yp, yn, yc⟩, rfl⟩ := hv.triple
          simp only [IV.val, IV.kids] at hv ⊢
          have G2 := Lib.hid ((G0.out.belowS hb).alloc (ivO (yl, yb, yp, yn, yc)))
          have E2 := Lib.hid ((E0.out.belowS hb).alloc (ivO (yl, yb, yp, yn, yc)))
          have T2 : Hid (RowAt (w2.alloc (ivO (yl, yb, yp, yn, yc))) w2.heap.size #[.bool yl, .string yb, .slice yp yn yc] 98) := Lib.hid (RowAt.new _ _ _)
          have hws : w.heap.size + 2 ≤ w2.heap.size := by have := hb.size; simpa using this
          have B2 := Lib.hid ((B0.out.trans (hb.mono B0.out.size)).alloc (by omega) (ivO (yl, yb, yp, yn, yc)))
          have I2 : Hid (ItemP (fun b => w.heap.size + 2 ≤ b) (w2.alloc (ivO (yl, yb, yp, yn, yc))) x (.agg #[.bool yl, .string yb, .slice yp yn yc])) := Lib.hid (ItemP.keep (fun a v hA hc => ⟨by rw [World.cell?_of_block (Below.heap_alloc _ _ _ (block_lt_of_cell hc))]; exact hc, by simpa using hA⟩) _ _ hv)
          have KD := Lib.hid (KP.out _ _ (ItemP.is _ _ I2.out))
          clear hb hv B0 G0 E0 KR KP
          obtain ⟨t0, t1, t2, tf0, tf1, tf2⟩ := T2.out.c3
          go_wp2_with fail
          refine KD.out.mono ?_
          rintro e w4 ⟨rfl, hb⟩
          clear t0 t1 t2 tf0 tf1 tf2
          have G4 := G2.out.belowS hb
          have E4 := E2.out.belowS hb
          have T4 := T2.out.belowS hb
          have B4 := B2.out.trans (hb.mono B2.out.size)
          have I4 : Hid (ItemP (fun b => w.heap.size + 2 ≤ b) w4 x (.agg #[.bool yl, .string yb, .slice yp yn yc])) := Lib.hid (ItemP.keep (fun a v hA hc => ⟨by rw [hb.cell (block_lt_of_cell hc)]; exact hc, hA⟩) _ _ I2.out)
          have hne : ¬ w2.heap.size = w.heap.size := by omega
          have hne2 : ¬ w2.heap.size = w.heap.size + 1 := by omega
          obtain ⟨t0, t1, t2, tf0, tf1, tf2⟩ := T4.c3
          obtain ⟨c0, c1, c2, f0, f1, f2⟩ := G4.c3
          obtain ⟨m0, m1, m2, n0, d4, e4, -⟩ := store4 G4 E4 (.bool false) (.string ⟨#[]⟩) (.slice none 0 0) (.int .i64 5)
          have HB := Lib.hid (below_store4 B4 (.bool false) (.string ⟨#[]⟩) (.slice none 0 0) (.int .i64 5))
          clear hb G4 E4 T4 B4 G2 E2 T2 B2 I2 I4 KD
          go_wp2
          refine leaves_cons (f := 96) (args := #[.pointer (some ⟨w.heap.size, 0, none⟩), .pointer (some ⟨w.heap.size + 1, 0, none⟩)]) (by simp) (by simp [go_sem]) ?_
          refine (catch_idle w.heap.size _).mono ?_
          rintro e u' wz ⟨rfl, rfl, rfl⟩
          simp [Leaves, settle, results, Try.results52, go_sem, m0, m1, m2, n0]
          exact ⟨_, rfl, zeroP, HB.out⟩
        · rw [if_neg h8]
          go_enter_defers Try.func52, Try.ntmps52
          go_wp2_with fail
          refine (KR.out _).mono ?_
          rintro e w2 ⟨hb, v, rfl, hv⟩
          obtain ⟨⟨yl, yb, yp, yn, yc⟩, rfl⟩ := hv.triple
          simp only [IV.val, IV.kids] at hv ⊢
          have G2 := Lib.hid ((G0.out.belowS hb).alloc (ivO (yl, yb, yp, yn, yc)))
          have E2 := Lib.hid ((E0.out.belowS hb).alloc (ivO (yl, yb, yp, yn, yc)))
          have T2 : Hid (RowAt (w2.alloc (ivO (yl, yb, yp, yn, yc))) w2.heap.size #[.bool yl, .string yb, .slice yp yn yc] 98) := Lib.hid (RowAt.new _ _ _)
          have hws : w.heap.size + 2 ≤ w2.heap.size := by have := hb.size; simpa using this
          have B2 := Lib.hid ((B0.out.trans (hb.mono B0.out.size)).alloc (by omega) (ivO (yl, yb, yp, yn, yc)))
          have I2 : Hid (ItemP (fun b => w.heap.size + 2 ≤ b) (w2.alloc (ivO (yl, yb, yp, yn, yc))) x (.agg #[.bool yl, .string yb, .slice yp yn yc])) := Lib.hid (ItemP.keep (fun a v hA hc => ⟨by rw [World.cell?_of_block (Below.heap_alloc _ _ _ (block_lt_of_cell hc))]; exact hc, by simpa using hA⟩) _ _ hv)
          have KD := Lib.hid (KP.out _ _ (ItemP.is _ _ I2.out))
          clear hb hv B0 G0 E0 KR KP
          obtain ⟨t0, t1, t2, tf0, tf1, tf2⟩ := T2.out.c3
          go_wp2_with fail
          refine KD.out.mono ?_
          rintro e w4 ⟨rfl, hb⟩
          clear t0 t1 t2 tf0 tf1 tf2
          have G4 := G2.out.belowS hb
          have E4 := E2.out.belowS hb
          have T4 := T2.out.belowS hb
          have B4 := B2.out.trans (hb.mono B2.out.size)
          have I4 : Hid (ItemP (fun b => w.heap.size + 2 ≤ b) w4 x (.agg #[.bool yl, .string yb, .slice yp yn yc])) := Lib.hid (ItemP.keep (fun a v hA hc => ⟨by rw [hb.cell (block_lt_of_cell hc)]; exact hc, hA⟩) _ _ I2.out)
          have hne : ¬ w2.heap.size = w.heap.size := by omega
          have hne2 : ¬ w2.heap.size = w.heap.size + 1 := by omega
          obtain ⟨t0, t1, t2, tf0, tf1, tf2⟩ := T4.c3
          obtain ⟨c0, c1, c2, f0, f1, f2⟩ := G4.c3
          obtain ⟨m0, m1, m2, n0, d4, e4, -⟩ := store4 G4 E4 (.bool yl) (.string yb) (.slice yp yn yc) (.int .i64 0)
          have HB := Lib.hid (below_store4 B4 (.bool yl) (.string yb) (.slice yp yn yc) (.int .i64 0))
          have HI := Lib.hid (I4.out.store4 (.bool yl) (.string yb) (.slice yp yn yc) (.int .i64 0))
          clear hb G4 E4 T4 B4 G2 E2 T2 B2 I2 I4 KD
          go_wp2
          refine leaves_cons (f := 96) (args := #[.pointer (some ⟨w.heap.size, 0, none⟩), .pointer (some ⟨w.heap.size + 1, 0, none⟩)]) (by simp) (by simp [go_sem]) ?_
          refine (catch_idle w.heap.size _).mono ?_
          rintro e u' wz ⟨rfl, rfl, rfl⟩
          simp [Leaves, settle, results, Try.results52, go_sem, m0, m1, m2, n0]
          exact ⟨_, rfl, HI.out, HB.out⟩
      · rw [if_pos ht] at hd
        rw [hd]
        have hst : ¬ (mkS t).toList = [] := by rw [toList_bl, bl_mk]; exact ht
        have hst2 : (mkS t).toList.isEmpty = false := by rw [toList_bl, bl_mk]; simpa using ht
        clear hd hr he hp hsz ht
        go_enter_defers Try.func52, Try.ntmps52
        go_wp2_with fail
        refine (KR.out _).mono ?_
        rintro e w2 ⟨hb, v, rfl, hv⟩
        obtain ⟨⟨yl, yb, yp, yn, yc⟩, rfl⟩ := hv.triple
        simp only [IV.val, IV.kids] at hv ⊢
        have HG := (G0.out.belowS hb).alloc (ivO (yl, yb, yp, yn, yc))
        have HE := (E0.out.belowS hb).alloc (ivO (yl, yb, yp, yn, yc))
        have HB0 := (B0.out.trans (hb.mono B0.out.size)).alloc (by have := B0.out.size; have := hb.size; simp at *; omega) (ivO (yl, yb, yp, yn, yc))
        obtain ⟨m0, m1, m2, n0, d4, e4, -⟩ := store4 HG HE (.bool false) (.string ⟨#[]⟩) (.slice none 0 0) (.int .i64 4)
        have HB := Lib.hid (below_store4 HB0 (.bool false) (.string ⟨#[]⟩) (.slice none 0 0) (.int .i64 4))
        obtain ⟨c0, c1, c2, f0, f1, f2⟩ := HG.c3
        clear hb hv HG HE HB0 B0 G0 E0 KR
        go_wp2
        refine leaves_cons (f := 96) (args := #[.pointer (some ⟨w.heap.size, 0, none⟩), .pointer (some ⟨w.heap.size + 1, 0, none⟩)]) (by simp) (by simp [go_sem]) ?_
        refine (catch_idle w.heap.size _).mono ?_
        rintro e u' wz ⟨rfl, rfl, rfl⟩
        simp [Leaves, settle, results, Try.results52, go_sem, m0, m1, m2, n0]
        exact ⟨_, rfl, zeroP, HB.out⟩

theorem decL_enc {x : It} (h : x.enc.2 = 0) : decL x.write = (x, 0) := by
  obtain ⟨hp, hl, -, -, hd⟩ := enc_ok h
  have hr := (read_write (2 * x.write.length)).1 x [] hp (by omega) (by omega)
  rw [List.append_nil] at hr
  rw [decL, if_neg (by omega), hr]
  simp only
  rw [if_neg (by simp), if_neg (by omega)]

theorem decL_ok {s : List UInt8} (h : (decL s).2 = 0) : (decL s).1.enc = (s, 0) := by
  rw [decL] at h ⊢
  split at h
  · simp at h
  · rename_i h1
    rw [if_neg h1]
    cases hr : readL (2 * s.length) s with
    | none => rw [hr] at h; simp at h
    | some q =>
      obtain ⟨x, t⟩ := q
      rw [hr] at h
      simp only at h ⊢
      by_cases ht : t = []
      · subst ht
        rw [if_neg (by simp)] at h ⊢
        by_cases hd : 8 < x.depth
        · rw [if_pos hd] at h; simp at h
        · rw [if_neg hd]
          obtain ⟨e, hp⟩ := (read_sound _).1 _ _ _ hr
          rw [List.append_nil] at e
          have hsz := size_le_write x hp
          rw [← e] at hsz
          have hpb := (pureB_iff x).2 hp
          rw [It.enc, if_neg (by rw [hpb]; simp; omega), if_neg hd, ← e, if_neg h1]
      · rw [if_pos ht] at h; simp at h
end Go.Proofs.Ytefmlbckbhlgdaa
