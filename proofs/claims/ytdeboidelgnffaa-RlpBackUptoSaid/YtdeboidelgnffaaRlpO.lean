/- Rlp: items that a call has made: they lie in blocks of a class; the row of kids that grows. -/
import Derived.Test.YtdeboidelgnffaaRlp16
namespace Go.Proofs.Ytdeboidelgnffaa
open Go.RowKit

mutual
/-- The value reads as the item, all of whose cells lie in blocks of a class. -/
def ItemP (A : Nat → Prop) (w : World) : It → Value → Prop
  | .mk l b ks, v => ∃ kv, v = itemV l b kv ∧ b.length ≤ 9223372036854775807 ∧
      ((kv = .slice none 0 0 ∧ ks = []) ∨ ∃ (a : Addr) (len cap : Nat), kv = .slice (some a) len cap ∧ len ≤ cap ∧ cap ≤ 9223372036854775807 ∧ ks.length = len ∧ KidsP A w ks a 0)
def KidsP (A : Nat → Prop) (w : World) : List It → Addr → Nat → Prop
  | [], _, _ => True
  | k :: ks, a, i => (A a.block ∧ ∃ v0 v1 v2, w.cell? (a.add (i * 3)) = some v0 ∧ w.cell? (a.add (i * 3 + 1)) = some v1 ∧ w.cell? (a.add (i * 3 + 2)) = some v2 ∧ ItemP A w k (.agg #[v0, v1, v2])) ∧ KidsP A w ks a (i + 1)
end

mutual
theorem ItemP.is {A : Nat → Prop} {w : World} : ∀ (x : It) (v : Value), ItemP A w x v → ItemIs w x v
  | .mk l b ks, v, h => by
    rw [ItemP] at h
    rw [ItemIs]
    obtain ⟨kv, e, h1, h2⟩ := h
    refine ⟨kv, e, h1, ?_⟩
    rcases h2 with h2 | ⟨a, len, cap, g1, g2, g3, g4, g5⟩
    · exact .inl h2
    · exact .inr ⟨a, len, cap, g1, g2, g3, g4, KidsP.is ks a 0 g5⟩
theorem KidsP.is {A : Nat → Prop} {w : World} : ∀ (ks : List It) (a : Addr) (i : Nat), KidsP A w ks a i → KidsAt w ks a i
  | [], _, _, _ => by rw [KidsAt]; trivial
  | k :: ks, a, i, h => by
    rw [KidsP] at h
    rw [KidsAt]
    obtain ⟨⟨_, v0, v1, v2, c0, c1, c2, hi⟩, ht⟩ := h
    exact ⟨⟨v0, v1, v2, c0, c1, c2, ItemP.is k _ hi⟩, KidsP.is ks a (i + 1) ht⟩
end

mutual
theorem ItemP.keep {A A' : Nat → Prop} {w w' : World} (hk : ∀ (a : Addr) (v : Value), A a.block → w.cell? a = some v → w'.cell? a = some v ∧ A' a.block) : ∀ (x : It) (v : Value), ItemP A w x v → ItemP A' w' x v
  | .mk l b ks, v, h => by
    rw [ItemP] at h ⊢
    obtain ⟨kv, e, h1, h2⟩ := h
    refine ⟨kv, e, h1, ?_⟩
    rcases h2 with h2 | ⟨a, len, cap, g1, g2, g3, g4, g5⟩
    · exact .inl h2
    · exact .inr ⟨a, len, cap, g1, g2, g3, g4, KidsP.keep hk ks a 0 g5⟩
theorem KidsP.keep {A A' : Nat → Prop} {w w' : World} (hk : ∀ (a : Addr) (v : Value), A a.block → w.cell? a = some v → w'.cell? a = some v ∧ A' a.block) : ∀ (ks : List It) (a : Addr) (i : Nat), KidsP A w ks a i → KidsP A' w' ks a i
  | [], _, _, _ => by rw [KidsP]; trivial
  | k :: ks, a, i, h => by
    rw [KidsP] at h ⊢
    obtain ⟨⟨hA, v0, v1, v2, c0, c1, c2, hi⟩, ht⟩ := h
    have hb : ∀ n, A (a.add n).block := fun n => by rw [addr_add_block]; exact hA
    have k0 := hk _ _ (hb _) c0
    refine ⟨⟨by have := k0.2; rwa [addr_add_block] at this, v0, v1, v2, k0.1, (hk _ _ (hb _) c1).1, (hk _ _ (hb _) c2).1, ItemP.keep hk k _ hi⟩, KidsP.keep hk ks a (i + 1) ht⟩
end

/-- Items in triples, as QIs. -/
def QP (A : Nat → Prop) (w : World) : List It → List IV → Prop
  | [], [] => True
  | k :: q, x :: l => ItemP A w k x.val ∧ QP A w q l
  | _, _ => False

theorem QP.length {A : Nat → Prop} {w : World} : ∀ {q : List It} {l : List IV}, QP A w q l → q.length = l.length
  | [], [], _ => rfl
  | k :: q, x :: l, h => by rw [List.length_cons, List.length_cons, QP.length h.2]
  | [], _ :: _, h => by cases h
  | _ :: _, [], h => by cases h
theorem QP.snoc {A : Nat → Prop} {w : World} {k : It} {x : IV} (h' : ItemP A w k x.val) : ∀ {q : List It} {l : List IV}, QP A w q l → QP A w (q ++ [k]) (l ++ [x])
  | [], [], _ => ⟨h', trivial⟩
  | k :: q, x :: l, h => ⟨h.1, QP.snoc h' h.2⟩
  | [], _ :: _, h => by cases h
  | _ :: _, [], h => by cases h
theorem QP.keep {A A' : Nat → Prop} {w w' : World} (hk : ∀ (a : Addr) (v : Value), A a.block → w.cell? a = some v → w'.cell? a = some v ∧ A' a.block) : ∀ {q : List It} {l : List IV}, QP A w q l → QP A' w' q l
  | [], [], _ => trivial
  | k :: q, x :: l, h => ⟨ItemP.keep hk k _ h.1, QP.keep hk h.2⟩
  | [], _ :: _, h => by cases h
  | _ :: _, [], h => by cases h

theorem ItemP.triple {A : Nat → Prop} {w : World} {k : It} {v : Value} (h : ItemP A w k v) : ∃ x : IV, v = x.val := itemIs_val (ItemP.is k v h)

/-- A row of kids that the call has made is a list's kids. -/
theorem QP.kids {A : Nat → Prop} {w : World} {g : Nat} (hA : A g) : ∀ {q : List It} {l : List IV} (i : Nat), QP A w q l → (∀ j u, (flat3 l)[j]? = some u → w.cell? ⟨g, i * 3 + j, none⟩ = some u) → KidsP A w q ⟨g, 0, none⟩ i
  | [], [], i, _, _ => by rw [KidsP]; trivial
  | k :: q, x :: l, i, h, hc => by
    have hadd : ∀ n, (⟨g, 0, none⟩ : Addr).add n = ⟨g, n, none⟩ := fun n => by unfold Addr.add; split <;> simp_all
    rw [KidsP]
    refine ⟨⟨hA, .bool x.1, .string x.2.1, x.kids, ?_, ?_, ?_, h.1⟩, QP.kids hA (i + 1) h.2 fun j u hj => ?_⟩
    · rw [hadd]; exact hc 0 _ rfl
    · rw [hadd]; exact hc 1 _ rfl
    · rw [hadd]; exact hc 2 _ rfl
    · have := hc (j + 3) u (by rw [flat3]; simpa [cells3] using hj)
      rwa [show i * 3 + (j + 3) = (i + 1) * 3 + j by omega] at this
  | [], _ :: _, _, h, _ => by cases h
  | _ :: _, [], _, h, _ => by cases h

theorem OwnQ.item {A : Nat → Prop} {w : World} {base : Nat} {kv : Value} {ks : List It} {lv : List IV} (h : OwnQ w base kv lv) (hA : ∀ g, kv.ownBlock = some g → A g) (hq : QP A w ks lv) : ItemP A w (.mk true [] ks) (.agg #[.bool true, .string ⟨#[]⟩, kv]) := by
  have hl := hq.length
  rw [ItemP]
  refine ⟨kv, rfl, by simp, ?_⟩
  rcases h.2 with ⟨hv, hn⟩ | ⟨g, cap, cur, hv, hg, hc, hn, hcap, hsz, hx⟩
  · exact .inl ⟨by rw [hv], List.eq_nil_of_length_eq_zero (by omega)⟩
  · refine .inr ⟨⟨g, 0, none⟩, lv.length, cap, hv, hn, hcap, hl, QP.kids (hA g (by rw [hv]; rfl)) 0 hq fun j u hj => ?_⟩
    have := World.ownsRow.cells h (by rw [hv]; rfl) j u hj
    have hadd : (⟨g, 0, none⟩ : Addr).add j = ⟨g, j, none⟩ := by unfold Addr.add; split <;> simp_all
    rw [hadd] at this
    simpa using this

/-- One more kid: the row stays where it was, or lies in a new block. -/
theorem run_append_kid (w : World) (ty : TypeId) (base : Nat) (v : Value) (l : List IV) (hown : OwnQ w base v l) (ad : Addr) (y : IV) (hc : ∀ j u, (cells3 y)[j]? = some u → w.cell? (ad.add j) = some u)
    (hb : l.length + 1 ≤ 100000) (hbase : base ≤ w.heap.size) :
    ∃ v' w', (Builtin.append_ #[22, 22] ty #[v, .slice (some ad) 1 1]).run Try.prog w = .ok v' w' ∧ OwnQ w' base v' (l ++ [y]) ∧ w.grownBy w' v.ownBlock ∧ (∀ g, v'.ownBlock = some g → v.ownBlock = some g ∨ w.heap.size ≤ g) := by
  obtain ⟨i0, hi, hz0, hz1, hz2⟩ := info_item
  have e1 : flat3 [y] = cells3 y := by simp [flat3]
  have hone : ∀ u ∈ cells3 y, u.oneCell' = true := by rw [← e1]; exact flat3_one [y]
  have hown' : w.ownsRow base 24 3 v l.length (flat3 l) := hown
  obtain ⟨v', w', hr, h2, h3, _⟩ := run_append_own (P := Try.prog) w base 22 ty 24 i0 _ 3 48 Try.underlying22 hi hz0 hz1 hz2 rfl (by decide) v l.length (flat3 l) hown ad 1 1 (cells3 y) rfl hc hone (by unfold maxLen; omega) (by omega) hbase
  refine ⟨v', w', hr, ?_, h3, ?_⟩
  · unfold OwnQ
    rw [List.length_append, flat3_append, e1]
    exact h2
  · rcases hown'.2 with ⟨rfl, h0⟩ | ⟨g, cap, cur, rfl, hbg, hg, hnc, hcm, hcs, htake⟩
    · obtain ⟨v2, w2, hr2, k2, _, _⟩ := run_append_own (P := Try.prog) w w.heap.size 22 ty 24 i0 _ 3 48 Try.underlying22 hi hz0 hz1 hz2 rfl (by decide) (.slice none 0 0) 0 [] (World.ownsRow_nil w w.heap.size 24 3) ad 1 1 (cells3 y) rfl hc hone (by unfold maxLen; omega) (by omega) (Nat.le_refl _)
      rw [hr] at hr2
      injection hr2 with e2 e3
      subst e2
      intro g hg
      rcases k2.2 with ⟨e, _⟩ | ⟨g', cap, cur, e, hgb, _⟩
      · rw [e] at hg; cases hg
      · rw [e] at hg; simp [Value.ownBlock] at hg; exact .inr (by omega)
    · intro g' hg'
      by_cases hroom : l.length + 1 ≤ cap
      · have hr2 := run_append_room (P := Try.prog) w 22 ty 24 i0 Try.underlying22 hi g l.length cap cur hg ad 1 1 (cells3 y) (by rw [hz1]; rfl) hc hone hroom (by rw [hz1]; simp [cells3]; omega)
        rw [hr] at hr2
        injection hr2 with e2 e3
        subst e2
        exact .inl hg'
      · have hr2 := run_append_grow (P := Try.prog) w 22 ty 24 i0 _ Try.underlying22 hi hz0 ⟨g, 0, none⟩ l.length cap (flat3 l) (by rw [flat3_length, hz1]) (hown'.cells rfl) ad 1 1 (cells3 y) (by rw [hz1]; rfl) hc (by omega) (by omega) (growslice_fits (by omega) (by rw [hz2]; omega))
        rw [hr] at hr2
        injection hr2 with e2 e3
        subst e2
        simp [Value.ownBlock] at hg'
        exact .inr (by omega)

theorem wpList_append_kid {ops : Array Oper} {rest : List Oper} {o : Oper} {a : Act} {Q : Exit → Act → World → Prop} {w : World} (hgd : o.guard = Option.none) (s x : Operand)
    (ho : o.op = .call { callee := .builtin .append, args := #[s, x], argTypes := #[22, 22] }) (base : Nat) (v : Value) (l : List IV) (hs : a.eval s = v) (hown : OwnQ w base v l)
    (ad : Addr) (y : IV) (hx : a.eval x = .slice (some ad) 1 1) (hc : ∀ j u, (cells3 y)[j]? = some u → w.cell? (ad.add j) = some u)
    (hb : l.length + 1 ≤ 100000) (hbase : base ≤ w.heap.size)
    (h : ∀ v' w', OwnQ w' base v' (l ++ [y]) → w.grownBy w' v.ownBlock → (∀ g, v'.ownBlock = some g → v.ownBlock = some g ∨ w.heap.size ≤ g) → wpList Try.prog ops Q rest (a.put o.dst v') w') : wpList Try.prog ops Q (o :: rest) a w := by
  obtain ⟨v', w', hr, h1, h2, h3⟩ := run_append_kid w o.type base v l hown ad y hc hb hbase
  refine wpList_plain hgd fun _ hK => ?_
  unfold Oper.wp execOp
  simp only [ho, resolve, invoke, builtin, Sem.run_bind, Sem.run_pure, Result.andThen_ok, List.map_toArray, List.map_cons, List.map_nil, hs, hx, hr]
  exact hK _ _ (h v' w' h1 h2 h3)
end Go.Proofs.Ytdeboidelgnffaa
