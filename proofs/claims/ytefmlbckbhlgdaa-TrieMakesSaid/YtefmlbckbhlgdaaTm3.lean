/- Trees in memory: a node is some cells, the last of which is the slice of its kids; rows of nodes of one's own. Rlp: items, how they are written and read: plain laws. Rlp: reading: plain laws. Rlp: the reference's reading: plain laws. Rlp: contracts of the program: plain, head. Rlp: contracts of the program: head. Rlp: items in memory. From one contract of a law's call to the given statement of the second form (bulk at most the bound). Rlp: items that come in. Rlp: contracts of the program: deep. Rlp: a queue of items: the call's own row of cells, three an item. Rlp: contracts of the reference: Depth. Rlp: contracts of the reference: pure. -/
import Derived.Laws.AppendOwnNone
import Derived.JoinedCond
import Derived.Lib.SmallJoins
import Derived.Deep.SlicePairs
import Derived.Test.YtefmlbckbhlgdaaTm0
import Derived.Test.YtefmlbckbhlgdaaTm2
namespace Go.Proofs.Ytefmlbckbhlgdaa
open Go.RowKit
inductive Tr (α : Type) where
  | mk (a : α) (ks : List (Tr α))
abbrev Tr.val {α : Type} : Tr α → α
  | .mk a _ => a
abbrev Tr.kids {α : Type} : Tr α → List (Tr α)
  | .mk _ ks => ks

/-- How a node lies, but for its kids. -/
structure TE (α : Type) where
  n : Nat
  pre : α → List Value
  len : ∀ a, (pre a).length = n
  one : ∀ a, ∀ u ∈ pre a, u.oneCell' = true

abbrev Sl := Option Addr × Nat × Nat
abbrev slV (s : Sl) : Value := .slice s.1 s.2.1 s.2.2
abbrev EV (α : Type) := α × Sl
def TE.enc {α : Type} (E : TE α) : Enc (EV α) := ⟨E.n + 1, fun x => E.pre x.1 ++ [slV x.2], fun x => by simp [E.len], fun x u h => by
  rcases List.mem_append.1 h with h | h
  · exact E.one _ u h
  · simp at h; subst h; rfl, Nat.succ_pos _⟩

theorem Addr.add_block (a : Addr) (n : Nat) : (a.add n).block = a.block := by unfold Addr.add; split <;> rfl

theorem RowE.keep {α : Type} {E : Enc α} {w w' : World} {ad : Addr} {n c : Nat} {l : List α} (h : RowE E w (.slice (some ad) n c) l) (hk : ∀ (a : Addr) (v : Value), a.block = ad.block → w.cell? a = some v → w'.cell? a = some v) : RowE E w' (.slice (some ad) n c) l := by
  rcases h with ⟨h, _⟩ | ⟨a, cap, hv, h1, h2, hc⟩
  · cases h
  · injection hv with e1 e2 e3
    injection e1 with e1
    subst e1 e2 e3
    exact .inr ⟨ad, c, rfl, h1, h2, fun j u hj => hk _ _ (Addr.add_block _ _) (hc j u hj)⟩

theorem RowE.empty {α : Type} {E : Enc α} {w : World} {p : Option Addr} {c : Nat} (hc : c ≤ maxLen) (hp : p = none → c = 0) : RowE E w (.slice p 0 c) [] := by
  cases p with
  | none => rw [hp rfl]; exact .inl ⟨rfl, rfl⟩
  | some ad => exact .inr ⟨ad, c, rfl, Nat.zero_le _, hc, fun j u h => by simp [flat] at h⟩
theorem RowE.sane {α : Type} {E : Enc α} {w : World} {p : Option Addr} {n c : Nat} {l : List α} (h : RowE E w (.slice p n c) l) : n = l.length ∧ n ≤ c ∧ c ≤ maxLen ∧ (p = none → c = 0) := by
  rcases h with ⟨e, rfl⟩ | ⟨a, cap, hv, h1, h2, _⟩
  · injection e with e1 e2 e3
    subst e1 e2 e3
    exact ⟨rfl, Nat.le_refl _, Nat.zero_le _, fun _ => rfl⟩
  · injection hv with e1 e2 e3
    subst e1 e2 e3
    exact ⟨rfl, h1, h2, fun e => by cases e⟩
theorem RowE.lt {α : Type} {E : Enc α} {w : World} {ad : Addr} {n c : Nat} {l : List α} (h : RowE E w (.slice (some ad) n c) l) (hl : l ≠ []) : ad.block < w.heap.size := by
  rcases h with ⟨e, _⟩ | ⟨a, cap, hv, h1, h2, hc⟩
  · cases e
  · injection hv with e1 e2 e3
    injection e1 with e1
    subst e1
    cases l with
    | nil => exact absurd rfl hl
    | cons x l =>
      have hk := E.pos
      have h0 : 0 < (flat E (x :: l)).length := by rw [flat_length, List.length_cons, Nat.add_mul]; omega
      have := hc 0 _ (List.getElem?_eq_getElem h0)
      have := block_lt_of_cell this
      rwa [Addr.add_block] at this

/-- The node 'x' reads as the tree; all rows of kids lie in blocks of the class. -/
inductive TreeP {α : Type} (E : TE α) (A : Nat → Prop) (w : World) : Tr α → EV α → Prop
  | leaf (a : α) (p : Option Addr) (c : Nat) (hc : c ≤ maxLen) (hp : p = none → c = 0) : TreeP E A w (.mk a []) (a, p, 0, c)
  | node (a : α) (ks : List (Tr α)) (xs : List (EV α)) (ad : Addr) (cap : Nat) (hn : ks ≠ []) (hl : xs.length = ks.length) (hA : A ad.block) (hr : RowE E.enc w (.slice (some ad) ks.length cap) xs)
      (h : ∀ (i : Nat) (k : Tr α) (x : EV α), ks[i]? = some k → xs[i]? = some x → TreeP E A w k x) : TreeP E A w (.mk a ks) (a, some ad, ks.length, cap)

section
variable {α : Type} {E : TE α} {A A' : Nat → Prop} {w w' : World}
theorem TreeP.keep (hk : ∀ (a : Addr) (v : Value), A a.block → w.cell? a = some v → w'.cell? a = some v) (_ : ∀ (a : Addr) (v : Value), A a.block → w.cell? a = some v → A' a.block) (hA0 : ∀ b, A b → A' b) {t : Tr α} {x : EV α} (h : TreeP E A w t x) : TreeP E A' w' t x := by
  induction h with
  | leaf a p c hc hp => exact .leaf a p c hc hp
  | node a ks xs ad cap hn hl hAd hr _ ih => exact .node a ks xs ad cap hn hl (hA0 _ hAd) (RowE.keep hr fun a v ha => hk a v (by rw [ha]; exact hAd)) ih

theorem TreeP.weaken (hA : ∀ b, A b → A' b) {t : Tr α} {x : EV α} (h : TreeP E A w t x) : TreeP E A' w t x := h.keep (fun _ _ _ h => h) (fun _ _ h _ => hA _ h) hA
theorem TreeP.move {B : Nat} (hb : Below B w w') (hB : w.heap.size ≤ B) {t : Tr α} {x : EV α} (h : TreeP E A w t x) : TreeP E A w' t x :=
  h.keep (fun a v _ hc => by rw [hb.cell (Nat.lt_of_lt_of_le (block_lt_of_cell hc) hB)]; exact hc) (fun _ _ h _ => h) (fun _ h => h)
/-- Where only blocks from 'B' on are touched. -/
theorem TreeP.low {B : Nat} (hb : Below B w w') {t : Tr α} {x : EV α} (h : TreeP E (fun b => b < B) w t x) : TreeP E (fun b => b < B) w' t x :=
  h.keep (fun a v ha hc => by rw [hb.cell ha]; exact hc) (fun _ _ h _ => h) (fun _ h => h)
theorem TreeP.parts {t : Tr α} {x : EV α} (h : TreeP E A w t x) : x.1 = t.val ∧ x.2.2.1 = t.kids.length ∧ x.2.2.1 ≤ x.2.2.2 ∧ x.2.2.2 ≤ maxLen ∧ ∃ xs, xs.length = t.kids.length ∧ RowE E.enc w (slV x.2) xs ∧ ∀ (i : Nat) (k : Tr α) (y : EV α), t.kids[i]? = some k → xs[i]? = some y → TreeP E A w k y := by
  cases h with
  | leaf a p c hc hp => exact ⟨rfl, rfl, Nat.zero_le _, hc, [], rfl, RowE.empty hc hp, fun i k y h => by simp at h⟩
  | node a ks xs ad cap hn hl hA hr h =>
    obtain ⟨p, c, e, h1, h2⟩ := RowE.shape _ hr
    injection e with e1 e2 e3
    subst e3
    exact ⟨rfl, rfl, by show ks.length ≤ cap; omega, h2, xs, hl, hr, h⟩

/-- A row of trees. -/
def RowT (E : TE α) (A : Nat → Prop) (w : World) (v : Value) (ts : List (Tr α)) : Prop :=
  ∃ xs, xs.length = ts.length ∧ RowE E.enc w v xs ∧ (ts ≠ [] → ∀ ad n c, v = .slice (some ad) n c → A ad.block) ∧ ∀ (i : Nat) (t : Tr α) (x : EV α), ts[i]? = some t → xs[i]? = some x → TreeP E A w t x
theorem RowT.nil : RowT E A w (.slice none 0 0) [] := ⟨[], rfl, .inl ⟨rfl, rfl⟩, fun h => absurd rfl h, fun i t x h => by simp at h⟩
theorem RowT.shape {v : Value} {ts : List (Tr α)} (h : RowT E A w v ts) : ∃ (p : Option Addr) (cap : Nat), v = .slice p ts.length cap ∧ ts.length ≤ cap ∧ cap ≤ maxLen := by
  obtain ⟨xs, hl, hr, _, _⟩ := h
  obtain ⟨p, c, e, h1, h2⟩ := RowE.shape _ hr
  exact ⟨p, c, by rw [← hl]; exact e, by omega, h2⟩
theorem RowT.below {B : Nat} {v : Value} {ts : List (Tr α)} (h : RowT E A w v ts) (hb : Below B w w') (hB : w.heap.size ≤ B) : RowT E A w' v ts := by
  obtain ⟨xs, hl, hr, ha, ht⟩ := h
  exact ⟨xs, hl, RowE.below _ hr hb hB, ha, fun i t x h1 h2 => (ht i t x h1 h2).move hb hB⟩
theorem RowT.weaken (hA : ∀ b, A b → A' b) {v : Value} {ts : List (Tr α)} (h : RowT E A w v ts) : RowT E A' w v ts := by
  obtain ⟨xs, hl, hr, ha, ht⟩ := h
  exact ⟨xs, hl, hr, fun hn ad n c e => hA _ (ha hn ad n c e), fun i t x h1 h2 => (ht i t x h1 h2).weaken hA⟩
theorem RowT.keep (hk : ∀ (a : Addr) (v : Value), A a.block → w.cell? a = some v → w'.cell? a = some v) (hA0 : ∀ b, A b → A' b) {v : Value} {ts : List (Tr α)} (h : RowT E A w v ts) : RowT E A' w' v ts := by
  obtain ⟨xs, hl, hr, ha, ht⟩ := h
  refine ⟨xs, hl, ?_, fun hn ad n c e => hA0 _ (ha hn ad n c e), fun i t x h1 h2 => (ht i t x h1 h2).keep hk (fun a _ h _ => hA0 _ h) hA0⟩
  obtain ⟨p, c, e, _, _⟩ := RowE.shape _ hr
  subst e
  by_cases hn : ts = []
  · subst hn
    obtain rfl : xs = [] := List.eq_nil_of_length_eq_zero hl
    obtain ⟨_, _, h2, h3⟩ := RowE.sane hr
    exact RowE.empty h2 h3
  · cases p with
    | none =>
      rcases hr with hr | ⟨_, _, e, _⟩
      · exact .inl hr
      · cases e
    | some ad => exact RowE.keep hr fun a v hb => hk a v (by rw [hb]; exact ha hn ad _ _ rfl)
/-- A row of trees as the kids of a node. -/
theorem RowT.node (a : α) {s : Sl} {ts : List (Tr α)} (h : RowT E A w (slV s) ts) : TreeP E A w (.mk a ts) (a, s) := by
  obtain ⟨xs, hl, hr, ha, ht⟩ := h
  obtain ⟨p, n, c⟩ := s
  obtain ⟨e0, e1, e2, e3⟩ := RowE.sane hr
  by_cases hn : ts = []
  · subst hn
    obtain rfl : xs = [] := List.eq_nil_of_length_eq_zero hl
    simp only [List.length_nil] at e0
    subst e0
    exact .leaf a p c e2 e3
  · cases p with
    | none =>
      rcases hr with ⟨_, rfl⟩ | ⟨_, _, e, _⟩
      · exact absurd (List.eq_nil_of_length_eq_zero hl.symm) hn
      · cases e
    | some ad =>
      subst e0
      simp only [hl] at hr ⊢
      exact .node a ts xs ad c hn hl (ha hn ad _ _ rfl) hr ht
/-- One tree in a block of its own. -/
theorem RowT.one {t : Tr α} {s : Sl} {g : Nat} {cs : Array Value} {T : TypeId} (hg : w.heap[g]? = some (.cells cs T (0, 0))) (hcs : cs.toList = E.pre t.val ++ [slV s]) (hA : A g) (h : RowT E A w (slV s) t.kids) : RowT E A w (.slice (some ⟨g, 0, none⟩) 1 1) [t] := by
  refine ⟨[(t.val, s)], rfl, RowE.lit E.enc hg _ hcs, fun _ ad n c e => by injection e with e _ _; injection e with e; subst e; exact hA, fun i t' x h1 h2 => ?_⟩
  obtain ⟨rfl, rfl⟩ : i = 0 ∧ t = t' := by
    cases i with
    | zero => simp at h1; exact ⟨rfl, h1⟩
    | succ i => simp at h1
  simp at h2
  subst h2
  cases t with
  | mk a ks => exact RowT.node a h
theorem TreeP.row {t : Tr α} {x : EV α} (h : TreeP E A w t x) : RowT E A w (slV x.2) t.kids := by
  cases h with
  | leaf a p c hc hp => exact ⟨[], rfl, RowE.empty hc hp, fun h => absurd rfl h, fun i t x h => by simp at h⟩
  | node a ks xs ad cap hn hl hA hr h => exact ⟨xs, hl, hr, fun _ ad' n c e => by injection e with e; injection e with e; subst e; exact hA, h⟩
theorem RowT.at {p : Option Addr} {n c : Nat} {ts : List (Tr α)} (h : RowT E A w (.slice p n c) ts) {i : Nat} {t : Tr α} (ht : ts[i]? = some t) : ∃ ad x, p = some ad ∧ (∀ r u, (E.enc.cells x)[r]? = some u → w.cell? (ad.add (i * (E.n + 1) + r)) = some u) ∧ TreeP E A w t x := by
  obtain ⟨xs, hl, hr, _, h⟩ := h
  have hi := (List.getElem?_eq_some_iff.1 ht).1
  have hx := List.getElem?_eq_getElem (show i < xs.length by omega)
  rcases hr with ⟨_, rfl⟩ | ⟨ad, cap, hv, h1, h2, hc⟩
  · simp at hl; omega
  · injection hv with e1 e2 e3
    subst e1
    refine ⟨ad, xs[i], rfl, fun r u hr => hc _ _ ?_, h i t _ ht hx⟩
    have hr' : r < E.enc.k := by have := (List.getElem?_eq_some_iff.1 hr).1; rwa [E.enc.len] at this
    rw [show i * (E.n + 1) + r = i * E.enc.k + r from rfl, flat_get _ hx r hr']
    exact hr
theorem RowT.take {p : Option Addr} {n c : Nat} {ts : List (Tr α)} (h : RowT E A w (.slice p n c) ts) {m : Nat} (hm : m ≤ ts.length) : RowT E A w (.slice p m c) (ts.take m) := by
  obtain ⟨xs, hl, hr, ha, ht⟩ := h
  refine ⟨xs.take m, by simp; omega, RowE.take _ hr (by omega), fun hn ad n' c' e => ?_, fun i t x h1 h2 => ?_⟩
  · injection e with e _ _
    subst e
    exact ha (fun h => hn (by rw [h]; simp)) ad n c rfl
  · rw [List.getElem?_take] at h1 h2
    split at h1
    · rename_i hlt
      rw [if_pos hlt] at h2
      exact ht i t x h1 h2
    · cases h1

/-- The call's own row of trees; what is below lies outside of it. -/
def OwnT (E : TE α) (T : TypeId) (A : Nat → Prop) (w : World) (base : Nat) (v : Value) (ts : List (Tr α)) : Prop :=
  ∃ xs, xs.length = ts.length ∧ OwnE E.enc T w base v xs ∧ ∀ (i : Nat) (t : Tr α) (x : EV α), ts[i]? = some t → xs[i]? = some x → TreeP E (fun b => A b ∧ v.ownBlock ≠ some b) w t x
theorem OwnT.nil (T : TypeId) (base : Nat) : OwnT E T A w base (.slice none 0 0) [] := ⟨[], rfl, OwnE.nil _ _ _ _, fun i t x h => by simp at h⟩
theorem OwnT.start {T : TypeId} {base : Nat} (hb : base ≤ w.heap.size) : OwnT E T A (w.alloc (.cells #[] T)) base (.slice (some ⟨w.heap.size, 0, none⟩) 0 0) [] := ⟨[], rfl, OwnE.start _ hb, fun i t x h => by simp at h⟩
theorem OwnT.below {T : TypeId} {base B : Nat} {v : Value} {ts : List (Tr α)} (h : OwnT E T A w base v ts) (hb : Below B w w') (hB : w.heap.size ≤ B) : OwnT E T A w' base v ts := by
  obtain ⟨xs, hl, ho, ht⟩ := h
  exact ⟨xs, hl, OwnE.below _ ho hb hB, fun i t x h1 h2 => (ht i t x h1 h2).move hb hB⟩
theorem OwnT.shape {T : TypeId} {base : Nat} {v : Value} {ts : List (Tr α)} (h : OwnT E T A w base v ts) : ∃ (p : Option Addr) (cap : Nat), v = .slice p ts.length cap ∧ ts.length ≤ cap ∧ cap ≤ maxLen := by
  obtain ⟨xs, hl, ho, _⟩ := h
  obtain ⟨p, c, e, h1, h2⟩ := RowE.shape _ (OwnE.row _ ho)
  exact ⟨p, c, by rw [← hl]; exact e, by omega, h2⟩
theorem OwnT.row {T : TypeId} {base : Nat} {v : Value} {ts : List (Tr α)} (h : OwnT E T A w base v ts) (hA : ∀ b, base ≤ b → A b) : RowT E A w v ts := by
  obtain ⟨xs, hl, ho, ht⟩ := h
  refine ⟨xs, hl, OwnE.row _ ho, fun _ ad n c e => ?_, fun i t x h1 h2 => (ht i t x h1 h2).weaken fun b h => h.1⟩
  subst e
  rcases ho.2 with ⟨e, _⟩ | ⟨g, cap, cur, hv, hg, _⟩
  · cases e
  · injection hv with e _ _
    injection e with e
    subst e
    exact hA _ hg

theorem OwnT.lt {T : TypeId} {base : Nat} {v : Value} {ts : List (Tr α)} (h : OwnT E T A w base v ts) : ∀ g, v.ownBlock = some g → base ≤ g ∧ g < w.heap.size := by
  obtain ⟨xs, _, ho, _⟩ := h
  exact fun g hg => World.ownsRow.lt ho g hg
theorem lit_cells {g : Nat} {cs : Array Value} {T : TypeId} (hg : w.heap[g]? = some (.cells cs T (0, 0))) {y : EV α} (hcs : cs.toList = E.enc.cells y) : ∀ j u, (E.enc.cells y)[j]? = some u → w.cell? ((⟨g, 0, none⟩ : Addr).add j) = some u := by
  intro j u hj
  rw [← hcs, Array.getElem?_toList] at hj
  have : w.cell? ⟨g, j, none⟩ = cs[j]? := cell_of_row w g j cs T _ hg
  rw [← hj, ← this]
  cases j <;> simp [Addr.add]
/-- What a call has made, behind the call's own row. -/
theorem OwnT.fresh {T : TypeId} {base B : Nat} {v : Value} {ts : List (Tr α)} {w1 : World} {t : Tr α} {s : Sl} (h : OwnT E T A w base v ts) (hB : w.heap.size ≤ B) (hA : ∀ b, B ≤ b → A b) (hr : RowT E (fun b => B ≤ b) w1 (slV s) t.kids) : TreeP E (fun b => A b ∧ v.ownBlock ≠ some b) w1 t (t.val, s) := by
  cases t with
  | mk a ks => exact (RowT.node a hr).weaken fun b hb => ⟨hA b hb, fun e => by have := (h.lt b e).2; omega⟩

/-- One more element: the row stays where it was, or lies in a new block. -/
theorem run_append_one (F : Enc (EV α)) {ts te : TypeId} {z : Value} {bytes : Nat} (ht : Try.prog.underlying ts = some (.slice te)) (hinf : (Try.prog.info? te).map (fun i => (i.zero, i.size, i.bytes)) = some (some z, F.k, bytes)) (hzs : z.cells.size = F.k) (hbb : bytes ≤ 1000)
    (w : World) (ty : TypeId) (base : Nat) (v : Value) (l : List (EV α)) (hown : OwnE F te w base v l) (ad : Addr) (y : EV α) (hc : ∀ j u, (F.cells y)[j]? = some u → w.cell? (ad.add j) = some u)
    (hb : l.length + 1 ≤ 1000000) (hbase : base ≤ w.heap.size) :
    ∃ v' w', (Builtin.append_ #[ts, ts] ty #[v, .slice (some ad) 1 1]).run Try.prog w = .ok v' w' ∧ OwnE F te w' base v' (l ++ [y]) ∧ w.grownBy w' v.ownBlock ∧ (∀ g, v'.ownBlock = some g → v.ownBlock = some g ∨ w.heap.size ≤ g) := by
  obtain ⟨i0, hi, hz0, hz1, hz2⟩ := info_parts hinf
  have e1 : flat F [y] = F.cells y := by simp [flat]
  have hone : ∀ u ∈ F.cells y, u.oneCell' = true := F.one y
  have hfit : (l.length + 1) * bytes ≤ 140737488355328 := Nat.le_trans (Nat.mul_le_mul hb hbb) (by omega)
  have hfit0 : (0 + 1) * bytes ≤ 140737488355328 := by omega
  have hkl : (F.cells y).length = 1 * F.k := by rw [F.len, Nat.one_mul]
  have hown' : w.ownsRow base te F.k v l.length (flat F l) := hown
  obtain ⟨v', w', hr, h2, h3, _⟩ := run_append_own (P := Try.prog) w base ts ty te i0 _ F.k bytes ht hi hz0 hz1 hz2 hzs F.pos v l.length (flat F l) hown ad 1 1 (F.cells y) hkl hc hone (by unfold maxLen; omega) hfit hbase
  refine ⟨v', w', hr, ?_, h3, ?_⟩
  · unfold OwnE
    rw [List.length_append, flat_append, e1]
    exact h2
  · rcases hown'.2 with ⟨rfl, h0⟩ | ⟨g, cap, cur, rfl, hbg, hg, hnc, hcm, hcs, htake⟩
    · obtain ⟨v2, w2, hr2, k2, _, _⟩ := run_append_own (P := Try.prog) w w.heap.size ts ty te i0 _ F.k bytes ht hi hz0 hz1 hz2 hzs F.pos (.slice none 0 0) 0 [] (World.ownsRow_nil w w.heap.size te F.k) ad 1 1 (F.cells y) hkl hc hone (by unfold maxLen; omega) hfit0 (Nat.le_refl _)
      rw [hr] at hr2
      injection hr2 with e2 e3
      subst e2
      intro g hg
      rcases k2.2 with ⟨e, _⟩ | ⟨g', cap, cur, e, hgb, _⟩
      · rw [e] at hg; cases hg
      · rw [e] at hg; simp [Value.ownBlock] at hg; exact .inr (by omega)
    · intro g' hg'
      by_cases hroom : l.length + 1 ≤ cap
      · have hr2 := run_append_room (P := Try.prog) w ts ty te i0 ht hi g l.length cap cur hg ad 1 1 (F.cells y) (by rw [hz1]; exact hkl) hc hone hroom (by
          rw [hz1, hkl, hcs, ← Nat.add_mul]
          exact Nat.mul_le_mul_right _ hroom)
        rw [hr] at hr2
        injection hr2 with e2 e3
        subst e2
        exact .inl hg'
      · have hr2 := run_append_grow (P := Try.prog) w ts ty te i0 _ ht hi hz0 ⟨g, 0, none⟩ l.length cap (flat F l) (by rw [flat_length, hz1]) (hown'.cells rfl) ad 1 1 (F.cells y) (by rw [hz1]; exact hkl) hc (by omega) (by omega) (growslice_fits (by omega) (by rw [hz2]; exact hfit))
        rw [hr] at hr2
        injection hr2 with e2 e3
        subst e2
        simp [Value.ownBlock] at hg'
        exact .inr (by omega)

/-- One more tree behind the call's own row. -/
theorem wpList_append_tree {ts te : TypeId} {z : Value} {bytes : Nat} (ht : Try.prog.underlying ts = some (.slice te)) (hinf : (Try.prog.info? te).map (fun i => (i.zero, i.size, i.bytes)) = some (some z, E.n + 1, bytes)) (hzs : z.cells.size = E.n + 1) (hbb : bytes ≤ 1000)
    {ops : Array Oper} {rest : List Oper} {o : Oper} {a : Act} {Q : Exit → Act → World → Prop} {w : World} (hgd : o.guard = Option.none) (s x : Operand)
    (ho : o.op = .call { callee := .builtin .append, args := #[s, x], argTypes := #[ts, ts] }) (base : Nat) (v : Value) (l : List (Tr α)) (hs : a.eval s = v) (hown : OwnT E te A w base v l)
    (ad : Addr) (t : Tr α) (y : EV α) (hx : a.eval x = .slice (some ad) 1 1) (hc : ∀ j u, (E.enc.cells y)[j]? = some u → w.cell? (ad.add j) = some u) (hy : TreeP E (fun b => A b ∧ v.ownBlock ≠ some b) w t y)
    (hb : l.length + 1 ≤ 1000000) (hbase : base ≤ w.heap.size)
    (h : ∀ v' w', OwnT E te A w' base v' (l ++ [t]) → w.grownBy w' v.ownBlock → (∀ w0, Below base w0 w → Below base w0 w') → w.heap.size ≤ w'.heap.size → wpList Try.prog ops Q rest (a.put o.dst v') w') : wpList Try.prog ops Q (o :: rest) a w := by
  obtain ⟨xs, hl, hoe, htr⟩ := hown
  obtain ⟨v', w', hr, h1, h2, h3⟩ := run_append_one E.enc ht hinf hzs hbb w o.type base v xs hoe ad y hc (by omega) hbase
  refine wpList_plain hgd fun _ hK => ?_
  unfold Oper.wp execOp
  simp only [ho, resolve, invoke, builtin, Sem.run_bind, Sem.run_pure, Result.andThen_ok, List.map_toArray, List.map_cons, List.map_nil, hs, hx, hr]
  have hkeep : ∀ {t x}, TreeP E (fun b => A b ∧ v.ownBlock ≠ some b) w t x → TreeP E (fun b => (A b ∧ v.ownBlock ≠ some b) ∧ (b < w.heap.size)) w t x → TreeP E (fun b => A b ∧ v'.ownBlock ≠ some b) w' t x := fun _ hp => by
    refine hp.keep (fun a u ha hc => ?_) (fun a u ha hc => ?_) (fun b hb => ?_)
    · rw [World.cell?_of_block (h2.block _ ha.2 (Ne.symm ha.1.2))]
      exact hc
    · exact ⟨ha.1.1, fun e => (h3 _ e).elim ha.1.2 (fun h => absurd ha.2 (by omega))⟩
    · exact ⟨hb.1.1, fun e => (h3 _ e).elim hb.1.2 (fun h => absurd hb.2 (by omega))⟩
  have hlt : ∀ {t x}, TreeP E (fun b => A b ∧ v.ownBlock ≠ some b) w t x → TreeP E (fun b => (A b ∧ v.ownBlock ≠ some b) ∧ (b < w.heap.size)) w t x := fun {t x} hp => by
    induction hp with
    | leaf a p c hc hp => exact .leaf a p c hc hp
    | node a ks xs ad cap hn hl hAd hr hh ih => exact .node a ks xs ad cap hn hl ⟨hAd, RowE.lt hr (fun e => hn (List.eq_nil_of_length_eq_zero (by rw [← hl, e]; rfl)))⟩ hr ih
  refine hK _ _ (h v' w' ⟨xs ++ [y], by simp [hl], h1, fun i t' x' e1 e2 => ?_⟩ h2 (below_grown hoe h2 hbase) h2.size)
  by_cases hi : i < l.length
  · rw [List.getElem?_append_left hi] at e1
    rw [List.getElem?_append_left (by omega)] at e2
    have := htr i t' x' e1 e2
    exact hkeep this (hlt this)
  · obtain rfl : i = l.length := by
      have := (List.getElem?_eq_some_iff.1 e1).1
      simp at this
      omega
    rw [List.getElem?_append_right (Nat.le_refl _), Nat.sub_self] at e1
    rw [List.getElem?_append_right (by omega), hl, Nat.sub_self] at e2
    simp at e1 e2
    subst e1 e2
    exact hkeep hy (hlt hy)
end
end Go.Proofs.Ytefmlbckbhlgdaa
namespace Go.Proofs.Ytefmlbckbhlgdaa
set_option maxRecDepth 100000
/-- An item: whether it is a list, its bytes, its kids. -/
inductive It where
  | mk (l : Bool) (b : List UInt8) (k : List It)

mutual
/-- How many items there are in one. -/
def It.size : It → Nat
  | .mk _ _ ks => 1 + sizes ks
def sizes : List It → Nat
  | [] => 0
  | k :: ks => k.size + sizes ks
end
mutual
/-- Each one in it is bytes or a list. -/
def It.pure : It → Prop
  | .mk l b ks => (l = true → b = []) ∧ (l = false → ks = []) ∧ pures ks
def pures : List It → Prop
  | [] => True
  | k :: ks => k.pure ∧ pures ks
end
mutual
/-- How deep lists go. -/
def It.depth : It → Nat
  | .mk l _ ks => depths ks + (if l = true then 1 else 0)
def depths : List It → Nat
  | [] => 0
  | k :: ks => max k.depth (depths ks)
end
/-- A number's bytes, the highest first. -/
def dig (n : Nat) : List UInt8 := if n = 0 then [] else dig (n / 256) ++ [UInt8.ofNat n]
termination_by n
decreasing_by omega

theorem dig_zero : dig 0 = [] := by rw [dig]; rfl
theorem dig_pos {n : Nat} (h : 0 < n) : dig n = dig (n / 256) ++ [UInt8.ofNat n] := by rw [dig, if_neg (by omega)]
theorem dig_one {n : Nat} (h : 0 < n) (h' : n < 256) : dig n = [UInt8.ofNat n] := by
  rw [dig_pos h, show n / 256 = 0 by omega, dig_zero]; rfl
theorem dig_two {n : Nat} (h : 256 ≤ n) (h' : n < 65536) : dig n = [UInt8.ofNat (n / 256), UInt8.ofNat n] := by
  rw [dig_pos (by omega), dig_one (by omega) (by omega)]; rfl

/-- What stands ahead of so many bytes. -/
def headL (fr n : Nat) : List UInt8 := if n ≤ 55 then [UInt8.ofNat (fr + n)] else UInt8.ofNat (fr + 55 + (dig n).length) :: dig n

theorem headL_short {fr n : Nat} (h : n ≤ 55) : headL fr n = [UInt8.ofNat (fr + n)] := by rw [headL, if_pos h]
theorem headL_one {fr n : Nat} (h : 55 < n) (h' : n < 256) : headL fr n = [UInt8.ofNat (fr + 56), UInt8.ofNat n] := by
  rw [headL, if_neg (by omega), dig_one (by omega) h']; rfl
theorem headL_two {fr n : Nat} (h : 256 ≤ n) (h' : n < 65536) : headL fr n = [UInt8.ofNat (fr + 57), UInt8.ofNat (n / 256), UInt8.ofNat n] := by
  rw [headL, if_neg (by omega), dig_two h h']; rfl
theorem headL_length {fr n : Nat} (h : n < 65536) : (headL fr n).length = if n ≤ 55 then 1 else if n < 256 then 2 else 3 := by
  split
  · rw [headL_short (by assumption)]; rfl
  · split
    · rw [headL_one (by omega) (by assumption)]; rfl
    · rw [headL_two (by omega) h]; rfl
theorem headL_pos (fr n : Nat) : 1 ≤ (headL fr n).length := by
  unfold headL; split <;> simp

mutual
/-- What an item is written as. -/
def It.write : It → List UInt8
  | .mk l b ks => if l = true then headL 192 (writes ks).length ++ writes ks else if b.length = 1 ∧ (b.getD 0 0).toNat < 128 then b else headL 128 b.length ++ b
def writes : List It → List UInt8
  | [] => []
  | k :: ks => k.write ++ writes ks
end
/-- A head: whether it is a list's, where what it stands ahead of begins, and ends. -/
def cutL : List UInt8 → Option (Bool × Nat × Nat)
  | [] => none
  | c :: s =>
    if c.toNat < 128 then some (false, 0, 1)
    else
      let fr := if 192 ≤ c.toNat then 192 else 128
      let n := c.toNat - fr
      if n ≤ 55 then some (decide (192 ≤ c.toNat), 1, 1 + n)
      else if n = 56 then (match s with | a :: _ => if a.toNat ≤ 55 then none else some (decide (192 ≤ c.toNat), 2, 2 + a.toNat) | [] => none)
      else if n = 57 then (match s with | a :: b :: _ => if a.toNat = 0 then none else some (decide (192 ≤ c.toNat), 3, 3 + (256 * a.toNat + b.toNat)) | _ => none)
      else none

/-- Where a head counts from. -/
def frOf (is : Bool) : Nat := if is = true then 192 else 128

theorem cut_inv {s : List UInt8} {is : Bool} {fr tz : Nat} (h : cutL s = some (is, fr, tz)) :
    (fr = 0 ∧ tz = 1 ∧ is = false ∧ ∃ c t, s = c :: t ∧ c.toNat < 128) ∨ ∃ n t, n < 65536 ∧ s = headL (frOf is) n ++ t ∧ fr = (headL (frOf is) n).length ∧ tz = fr + n := by
  have hc : ∀ c : UInt8, UInt8.ofNat c.toNat = c := fun c => by simp
  match s, h with
  | [], h => simp [cutL] at h
  | c :: s, h =>
    have hlt := c.toNat_lt
    simp only [cutL] at h
    split at h
    · simp at h; exact .inl ⟨h.2.1.symm, h.2.2.symm, h.1, c, s, rfl, by assumption⟩
    · have hf : (if 192 ≤ c.toNat then 192 else 128) = frOf (decide (192 ≤ c.toNat)) := by unfold frOf; simp
      rw [hf] at h
      have hle : frOf (decide (192 ≤ c.toNat)) ≤ c.toNat := by unfold frOf; split <;> simp_all
      obtain ⟨k, hk⟩ := Nat.le.dest hle
      rw [show c.toNat - frOf (decide (192 ≤ c.toNat)) = k by omega] at h
      split at h
      · simp only [Option.some.injEq, Prod.mk.injEq] at h
        obtain ⟨rfl, rfl, rfl⟩ := h
        refine .inr ⟨k, s, by omega, ?_, ?_, ?_⟩
        · rw [headL_short (by omega), hk, hc]; rfl
        · rw [headL_short (by omega)]; rfl
        · rfl
      · split at h
        · match s, h with
          | a :: s, h =>
            have ha := a.toNat_lt
            simp only at h
            split at h
            · simp at h
            · simp only [Option.some.injEq, Prod.mk.injEq] at h
              obtain ⟨rfl, rfl, rfl⟩ := h
              refine .inr ⟨a.toNat, s, by omega, ?_, ?_, rfl⟩
              · rw [headL_one (by omega) (by omega), show frOf (decide (192 ≤ c.toNat)) + 56 = c.toNat by omega, hc, hc]; rfl
              · rw [headL_one (by omega) (by omega)]; rfl
          | [], h => simp at h
        · split at h
          · match s, h with
            | a :: b :: s, h =>
              have ha := a.toNat_lt
              have hb := b.toNat_lt
              simp only at h
              split at h
              · simp at h
              · simp only [Option.some.injEq, Prod.mk.injEq] at h
                obtain ⟨rfl, rfl, rfl⟩ := h
                have q1 : (256 * a.toNat + b.toNat) / 256 = a.toNat := by omega
                have q2 : UInt8.ofNat (256 * a.toNat + b.toNat) = b := by
                  apply UInt8.toNat.inj
                  simp
                refine .inr ⟨256 * a.toNat + b.toNat, s, by omega, ?_, ?_, rfl⟩
                · rw [headL_two (by omega) (by omega), show frOf (decide (192 ≤ c.toNat)) + 57 = c.toNat by omega, hc, q1, hc, q2]; rfl
                · rw [headL_two (by omega) (by omega)]; rfl
            | [a], h => simp at h
            | [], h => simp at h
          · simp at h
end Go.Proofs.Ytefmlbckbhlgdaa
namespace Go.Proofs.Ytefmlbckbhlgdaa
set_option maxRecDepth 100000
mutual
/-- The item that stands first, and what stands behind it. -/
def readL : Nat → List UInt8 → Option (It × List UInt8)
  | 0, _ => none
  | f + 1, s =>
    match cutL s with
    | none => none
    | some (is, fr, tz) =>
      if s.length < tz then none
      else if is = true then (match kidsL f ((s.take tz).drop fr) with | none => none | some ks => some (.mk true [] ks, s.drop tz))
      else if fr = 1 ∧ tz = 2 ∧ (s.getD 1 0).toNat < 128 then none
      else some (.mk false ((s.take tz).drop fr) [], s.drop tz)
def kidsL : Nat → List UInt8 → Option (List It)
  | _, [] => some []
  | 0, _ :: _ => none
  | f + 1, c :: s =>
    match readL f (c :: s) with
    | none => none
    | some (k, t) => (match kidsL f t with | none => none | some ks => some (k :: ks))
end
theorem write_pos : ∀ x : It, x.pure → 1 ≤ x.write.length
  | .mk l b ks, h => by
    rw [It.write]
    split
    · have := headL_pos 192 (writes ks).length; rw [List.length_append]; omega
    · split
      · omega
      · have := headL_pos 128 b.length; rw [List.length_append]; omega

theorem read_sound : ∀ f : Nat, (∀ s x t, readL f s = some (x, t) → s = x.write ++ t ∧ x.pure) ∧ (∀ s ks, kidsL f s = some ks → s = writes ks ∧ pures ks)
  | 0 => by
    refine ⟨fun s x t h => by simp [readL] at h, fun s ks h => ?_⟩
    cases s with
    | nil => simp [kidsL] at h; subst h; simp [writes, pures]
    | cons c s => simp [kidsL] at h
  | f + 1 => by
    obtain ⟨ih1, ih2⟩ := read_sound f
    refine ⟨fun s x t h => ?_, fun s ks h => ?_⟩
    · rw [readL] at h
      cases hc : cutL s with
      | none => simp [hc] at h
      | some q =>
        obtain ⟨is, fr, tz⟩ := q
        simp only [hc] at h
        split at h
        · cases h
        rename_i hto
        rcases cut_inv hc with ⟨rfl, rfl, rfl, c, u, rfl, hlt⟩ | ⟨n, u, hn, rfl, rfl, rfl⟩
        · simp at h
          obtain ⟨rfl, rfl⟩ := h
          simp [It.write, It.pure, pures, hlt]
        · have hl : n ≤ u.length := by rw [List.length_append] at hto; omega
          have e1 : ((headL (frOf is) n ++ u).take ((headL (frOf is) n).length + n)).drop (headL (frOf is) n).length = u.take n := by
            rw [List.take_length_add_append, List.drop_left]
          have e2 : (headL (frOf is) n ++ u).drop ((headL (frOf is) n).length + n) = u.drop n := by
            rw [List.drop_length_add_append]
          rw [e1, e2] at h
          have e3 : (u.take n).length = n := by rw [List.length_take]; omega
          split at h
          · rename_i his
            subst his
            cases hk : kidsL f (u.take n) with
            | none => simp [hk] at h
            | some ks =>
              simp only [hk, Option.some.injEq, Prod.mk.injEq] at h
              obtain ⟨rfl, rfl⟩ := h
              obtain ⟨g1, g2⟩ := ih2 _ _ hk
              refine ⟨?_, by simp [It.pure, g2]⟩
              rw [It.write, if_pos rfl, ← g1, e3, List.append_assoc, List.take_append_drop]
              rfl
          · rename_i his
            have his' : is = false := by simpa using his
            subst his'
            split at h
            · cases h
            rename_i hb
            simp only [Option.some.injEq, Prod.mk.injEq] at h
            obtain ⟨rfl, rfl⟩ := h
            refine ⟨?_, by simp [It.pure, pures]⟩
            rw [It.write, if_neg (by simp), e3]
            by_cases hx : n = 1 ∧ ((u.take n).getD 0 0).toNat < 128
            · exfalso
              obtain ⟨rfl, hx⟩ := hx
              apply hb
              rw [headL_short (by omega)]
              refine ⟨rfl, rfl, ?_⟩
              cases u with
              | nil => simp at hl
              | cons a u => simpa using hx
            · rw [if_neg hx, List.append_assoc, List.take_append_drop]
              rfl
    · cases s with
      | nil => simp [kidsL] at h; subst h; simp [writes, pures]
      | cons c s =>
        rw [kidsL] at h
        cases hr : readL f (c :: s) with
        | none => simp [hr] at h
        | some q =>
          obtain ⟨k, t⟩ := q
          simp only [hr] at h
          cases hk : kidsL f t with
          | none => simp [hk] at h
          | some ks' =>
            simp only [hk, Option.some.injEq] at h
            subst h
            obtain ⟨g1, g2⟩ := ih1 _ _ _ hr
            obtain ⟨g3, g4⟩ := ih2 _ _ hk
            exact ⟨by rw [writes, g1, ← g3], by simp [pures, g2, g4]⟩

end Go.Proofs.Ytefmlbckbhlgdaa
namespace Go.Proofs.Ytefmlbckbhlgdaa
set_option maxRecDepth 100000
/-- What bytes tell, the highest first. -/
def valL (l : List UInt8) : Nat := l.foldl (fun n a => 256 * n + a.toNat) 0

end Go.Proofs.Ytefmlbckbhlgdaa
namespace Go.Proofs.Ytefmlbckbhlgdaa
open Go.RowKit
set_option maxRecDepth 100000
/-- 'append' of the call's own bytes to the call's own bytes. -/
theorem wpList_append_own_bytes {ops : Array Oper} {rest : List Oper} {o : Oper} {a : Act} {Q : Exit → Act → World → Prop} {w : World} (hgd : o.guard = Option.none) (s x : Operand)
    (ho : o.op = .call { callee := .builtin .append, args := #[s, x], argTypes := #[123, 123] }) (base : Nat) (v : Value) (l : List UInt8) (hs : a.eval s = v) (hown : OwnB w base v l)
    (b2 : Nat) (v2 : Value) (news : List UInt8) (hx : a.eval x = v2) (hsrc : OwnB w b2 v2 news)
    (hb : l.length + news.length ≤ 140737488355328) (hbase : base ≤ w.heap.size)
    (h : ∀ v' w', OwnB w' base v' (l ++ news) → (∀ w0, Below base w0 w → Below base w0 w') → w.heap.size ≤ w'.heap.size → wpList Try.prog ops Q rest (a.put o.dst v') w') : wpList Try.prog ops Q (o :: rest) a w := by
  obtain ⟨i0, hi, hz0, hz1, hz2⟩ := info_parts info_u8
  rcases hsrc.2 with ⟨hv, hn⟩ | ⟨g, cap, cur, hv, hg, hc, hn, hcap, hsz, hx'⟩
  · obtain rfl : news = [] := List.eq_nil_of_length_eq_zero hn
    subst hv
    refine wpList_append_own_none hgd s x 123 ho base 5 i0 1 Try.underlying123 hi v l.length (bvals l) hs hown hx ?_
    refine h v w ?_ (fun _ h => h) (Nat.le_refl _)
    rw [List.append_nil]
    exact hown
  · subst hv
    refine wpList_append_bytes hgd s x ho base v l hs hown ⟨g, 0, none⟩ news.length cap news hx rfl (fun j hj => ?_) hb hbase h
    refine World.ownsRow.cells hsrc rfl j _ ?_
    simp [bvals, List.getElem?_eq_getElem hj]

set_option maxHeartbeats 1000000 in
theorem plain_any (n : Nat) (w : World) (hn : n < 18446744073709551616) :
    Calls Try.prog 163 #[.int .u64 n] w fun e w' => e = .returned (.string (mkS (dig n))) ∧ Below w.heap.size w w' := by
  go_enter Try.func163, Try.ntmps163
  go_wp2
  go_loopw [0, 3] (fun s0 s3 wr => ∃ (k : Nat) (l : List UInt8), s0 = .int .u64 k ∧ OwnB wr w.heap.size s3 l ∧ dig n = dig k ++ l ∧ k * 256 ^ l.length ≤ n ∧ Below w.heap.size w wr) (fun s0 _ _ => (intOf s0).toNat)
  case atStart => exact ⟨n, [], rfl, OwnB.nil _ _, by simp, by simp, Below.refl _ _⟩
  case round =>
    obtain ⟨k, l, rfl, hown, hd, hle, hbl⟩ := hrel
    by_cases hk : 0 < k
    · have h8 : l.length ≤ 7 := by
        rcases Nat.lt_or_ge l.length 8 with h | h
        · omega
        · have h1 := Nat.pow_le_pow_right (n := 256) (by decide) h
          have h2 : 256 ^ l.length ≤ k * 256 ^ l.length := Nat.le_mul_of_pos_left _ hk
          omega
      have hkn : k < 18446744073709551616 := by
        have := Nat.le_mul_of_pos_right k (Nat.pow_pos (n := l.length) (show 0 < 256 by decide))
        omega
      have hsz := hbl.size
      have O2 := Lib.hid (hown.alloc (.cells #[.int .u8 ((k : Int) % 256)] 5))
      have O1 : Hid (OwnB (wr.alloc (.cells #[.int .u8 ((k : Int) % 256)] 5)) w.heap.size (.slice (some ⟨wr.heap.size, 0, Option.none⟩) 1 1) [UInt8.ofNat k]) := Lib.hid (OwnB.one hsz (UInt8.ofNat k) (by simp))
      have B1 := Lib.hid (hbl.alloc hsz (.cells #[.int .u8 ((k : Int) % 256)] 5))
      have D : Hid (dig n = dig (k / 256) ++ ([UInt8.ofNat k] ++ l)) := Lib.hid (by rw [hd, dig_pos hk, List.append_assoc])
      have E : Hid (k / 256 * 256 ^ ([UInt8.ofNat k] ++ l).length ≤ n) := Lib.hid (by
        rw [List.length_append, List.length_singleton, Nat.pow_add, Nat.pow_one, ← Nat.mul_assoc]
        exact Nat.le_trans (Nat.mul_le_mul_right _ (Nat.div_mul_le_self k 256)) hle)
      clear hown hd hle hbl
      go_wp2_with (at_builtin; refine wpList_append_own_bytes rfl _ _ rfl w.heap.size _ [UInt8.ofNat k] rfl O1.out w.heap.size _ l rfl O2.out (by simp; omega) (by simp; omega) ?_; intro v' w1 hown1 hb1 hz1)
      have HO := Lib.hid hown1
      have HB := Lib.hid (hb1 _ B1.out)
      clear hown1 hb1
      go_roundw
      case rel => exact ⟨k / 256, [UInt8.ofNat k] ++ l, by go_num, HO.out, D.out, E.out, HB.out⟩
      case measure => simp [intOf]; omega
    · obtain rfl : k = 0 := by omega
      have hcv := hown.conv
      rw [dig_zero, List.nil_append] at hd
      have HD := Lib.hid hd
      have HB := Lib.hid hbl
      clear hown hd hle hbl hk
      go_wp2
      go_ret
      rw [HD.out]
      exact ⟨rfl, HB.out⟩
end Go.Proofs.Ytefmlbckbhlgdaa
namespace Go.Proofs.Ytefmlbckbhlgdaa
open Go.RowKit
set_option maxRecDepth 100000
theorem dig_len : ∀ (k n : Nat), n < 256 ^ k → (dig n).length ≤ k
  | 0, n, h => by rw [show n = 0 by simpa using h, dig_zero]; exact Nat.le_refl _
  | k + 1, n, h => by
    rcases Nat.eq_zero_or_pos n with rfl | h0
    · rw [dig_zero]; simp
    · rw [dig_pos h0, List.length_append, List.length_singleton]
      have := dig_len k (n / 256) (by rw [Nat.pow_succ] at h; omega)
      omega

set_option maxHeartbeats 1000000 in
theorem head_any (fr n : Nat) (w : World) (hf : fr = 128 ∨ fr = 192) (hn : n < 9223372036854775808) :
    Calls Try.prog 134 #[.int .u8 fr, .int .i64 n] w fun e w' => e = .returned (.string (mkS (headL fr n))) ∧ Below w.heap.size w w' := by
  have hf2 : fr ≤ 192 := by omega
  by_cases h : n ≤ 55
  · obtain ⟨c, hc, hx⟩ : ∃ c : UInt8, UInt8.ofNat (fr + n) = c ∧ (fr : Int) + n = (c.toNat : Int) := ⟨_, rfl, by simp; omega⟩
    have hcv := (OwnB.one (w := w) (Nat.le_refl _) c hx).conv
    have B1 := Lib.hid ((Below.refl w.heap.size w).alloc (Nat.le_refl _) (.cells #[.int .u8 ((fr : Int) + n)] 5))
    rw [headL_short h, hc]
    have s1 : ((n : Int) % 256) = n := by omega
    have s2 : IntKind.u8.wrap ((fr : Int) + n) = (fr : Int) + n := by simp [IntKind.wrap, IntKind.bits, IntKind.signed]; omega
    clear hf hc hx
    go_enter Try.func134, Try.ntmps134
    go_wp2
    go_ret
    exact ⟨rfl, B1.out⟩
  · have hl := dig_len 8 n (by omega)
    have KP := Lib.hid (fun w => plain_any n w (by omega))
    rw [headL, if_neg h]
    have hl0 : 1 ≤ (dig n).length := by rw [dig_pos (by omega), List.length_append]; simp
    have hz : (mkS (dig n)).size = (dig n).length := mk_size _
    obtain ⟨c, hc, hx⟩ : ∃ c : UInt8, UInt8.ofNat (fr + 55 + (dig n).length) = c ∧ (fr : Int) + 55 + (dig n).length = (c.toNat : Int) := ⟨_, rfl, by simp; omega⟩
    rw [hc]
    have E : Hid ((⟨[c].toArray⟩ : ByteArray) ++ mkS (dig n) = mkS (c :: dig n)) := Lib.hid (mk_append [c] (dig n))
    generalize mkS (c :: dig n) = R at *
    generalize (dig n).length = m at *
    generalize mkS (dig n) = D at *
    have s1 : ((m : Int) % 256) = m := by omega
    have HX := Lib.hid hx
    clear hf hc hx
    go_enter Try.func134, Try.ntmps134
    go_wp2_with fail
    refine (KP.out _).mono ?_
    rintro e w1 ⟨rfl, hb⟩
    have hcv := (OwnB.one (w := w1) (Nat.le_refl _) c HX.out).conv
    have B1 := Lib.hid (hb.alloc hb.size (.cells #[.int .u8 ((fr : Int) + 55 + m)] 5))
    clear hb
    go_wp2
    go_ret
    exact ⟨by rw [← E.out]; rfl, B1.out⟩
end Go.Proofs.Ytefmlbckbhlgdaa
namespace Go.Proofs.Ytefmlbckbhlgdaa
open Go.RowKit
set_option maxRecDepth 100000
/-- An item as a value. -/
abbrev itemV (l : Bool) (b : List UInt8) (kv : Value) : Value := .agg #[.bool l, .string (mkS b), kv]

mutual
/-- The value reads as the item. -/
def ItemIs (w : World) : It → Value → Prop
  | .mk l b ks, v => ∃ kv, v = itemV l b kv ∧ b.length ≤ 9223372036854775807 ∧
      ((kv = .slice none 0 0 ∧ ks = []) ∨ ∃ (a : Addr) (len cap : Nat), kv = .slice (some a) len cap ∧ len ≤ cap ∧ cap ≤ 9223372036854775807 ∧ ks.length = len ∧ KidsAt w ks a 0)
/-- From element 'i' on the items lie there. -/
def KidsAt (w : World) : List It → Addr → Nat → Prop
  | [], _, _ => True
  | k :: ks, a, i => (∃ v0 v1 v2, w.cell? (a.add (i * 3)) = some v0 ∧ w.cell? (a.add (i * 3 + 1)) = some v1 ∧ w.cell? (a.add (i * 3 + 2)) = some v2 ∧ ItemIs w k (.agg #[v0, v1, v2])) ∧ KidsAt w ks a (i + 1)
end
/-- A slice of items. -/
def KidsIs (w : World) (ks : List It) (kv : Value) : Prop :=
  (kv = .slice none 0 0 ∧ ks = []) ∨ ∃ (a : Addr) (len cap : Nat), kv = .slice (some a) len cap ∧ len ≤ cap ∧ cap ≤ 9223372036854775807 ∧ ks.length = len ∧ KidsAt w ks a 0

theorem itemIs_iff {w : World} {l : Bool} {b : List UInt8} {ks : List It} {v : Value} : ItemIs w (.mk l b ks) v ↔ ∃ kv, v = itemV l b kv ∧ b.length ≤ 9223372036854775807 ∧ KidsIs w ks kv := by
  rw [ItemIs]; rfl

mutual
theorem ItemIs.below {w w' : World} {B : Nat} (hb : Below B w w') (hB : w.heap.size ≤ B) : ∀ (x : It) (v : Value), ItemIs w x v → ItemIs w' x v
  | .mk l b ks, v, h => by
    rw [ItemIs] at h ⊢
    obtain ⟨kv, e, h1, h2⟩ := h
    refine ⟨kv, e, h1, ?_⟩
    rcases h2 with h2 | ⟨a, len, cap, g1, g2, g3, g4, g5⟩
    · exact .inl h2
    · exact .inr ⟨a, len, cap, g1, g2, g3, g4, KidsAt.below hb hB ks a 0 g5⟩
theorem KidsAt.below {w w' : World} {B : Nat} (hb : Below B w w') (hB : w.heap.size ≤ B) : ∀ (ks : List It) (a : Addr) (i : Nat), KidsAt w ks a i → KidsAt w' ks a i
  | [], _, _, _ => by rw [KidsAt]; trivial
  | k :: ks, a, i, h => by
    rw [KidsAt] at h ⊢
    obtain ⟨⟨v0, v1, v2, c0, c1, c2, hi⟩, ht⟩ := h
    have hl := fun {p v} (c : w.cell? p = some v) => Nat.lt_of_lt_of_le (block_lt_of_cell c) hB
    exact ⟨⟨v0, v1, v2, by rw [hb.cell (hl c0)]; exact c0, by rw [hb.cell (hl c1)]; exact c1, by rw [hb.cell (hl c2)]; exact c2, ItemIs.below hb hB k _ hi⟩, KidsAt.below hb hB ks a (i + 1) ht⟩
end
theorem KidsIs.below {w w' : World} {B : Nat} {ks : List It} {v : Value} (h : KidsIs w ks v) (hb : Below B w w') (hB : w.heap.size ≤ B) : KidsIs w' ks v := by
  rcases h with h | ⟨a, len, cap, g1, g2, g3, g4, g5⟩
  · exact .inl h
  · exact .inr ⟨a, len, cap, g1, g2, g3, g4, KidsAt.below hb hB ks a 0 g5⟩

theorem KidsAt.get {w : World} {a : Addr} : ∀ (ks : List It) (j : Nat), KidsAt w ks a j → ∀ i k, ks[i]? = some k →
    ∃ v0 v1 v2, w.cell? (a.add ((j + i) * 3)) = some v0 ∧ w.cell? (a.add ((j + i) * 3 + 1)) = some v1 ∧ w.cell? (a.add ((j + i) * 3 + 2)) = some v2 ∧ ItemIs w k (.agg #[v0, v1, v2])
  | [], _, _, i, k, hk => by simp at hk
  | x :: ks, j, h, 0, k, hk => by
    rw [KidsAt] at h
    simp at hk
    subst hk
    exact h.1
  | x :: ks, j, h, i + 1, k, hk => by
    rw [KidsAt] at h
    have := KidsAt.get ks (j + 1) h.2 i k (by simpa using hk)
    rwa [show j + 1 + i = j + (i + 1) by omega] at this

/-- What a slice of items has. -/
theorem KidsIs.parts {w : World} {ks : List It} {v : Value} (h : KidsIs w ks v) : ∃ (p : Option Addr) (cap : Nat), v = .slice p ks.length cap ∧ ks.length ≤ cap ∧ cap ≤ 9223372036854775807 ∧
    ∀ i k, ks[i]? = some k → ∃ a l b p' n' c', p = some a ∧ w.cell? (a.add (i * 3)) = some (.bool l) ∧ w.cell? (a.add (i * 3 + 1)) = some (.string b) ∧ w.cell? (a.add (i * 3 + 2)) = some (.slice p' n' c') ∧ ItemIs w k (.agg #[.bool l, .string b, .slice p' n' c']) := by
  rcases h with ⟨rfl, rfl⟩ | ⟨a, len, cap, rfl, g2, g3, rfl, g5⟩
  · exact ⟨none, 0, rfl, Nat.le_refl _, Nat.zero_le _, fun i k hk => by simp at hk⟩
  · refine ⟨some a, cap, rfl, g2, g3, fun i k hk => ?_⟩
    obtain ⟨v0, v1, v2, c0, c1, c2, hi⟩ := KidsAt.get ks 0 g5 i k hk
    rw [Nat.zero_add] at c0 c1 c2
    obtain ⟨l, b, kk⟩ := k
    obtain ⟨kv, e, _, hk'⟩ := itemIs_iff.1 hi
    injection e with e
    simp at e
    obtain ⟨rfl, rfl, rfl⟩ := e
    rcases hk' with ⟨rfl, _⟩ | ⟨a', len', cap', rfl, _⟩
    · exact ⟨a, l, mkS b, none, 0, 0, rfl, c0, c1, c2, hi⟩
    · exact ⟨a, l, mkS b, some a', len', cap', rfl, c0, c1, c2, hi⟩
end Go.Proofs.Ytefmlbckbhlgdaa
namespace Go.Proofs.Ytefmlbckbhlgdaa
open Go.ChangeShapes Go.WideShapes Go.ChangeAt Go.RowKit
/-- What the contract of a law's call is told of the call's arguments, of bulk at most the bound. -/
structure ToldUpto {H : Type} (enc : TypeId × Value → H) (P : Program) (ts : List TypeId) (W : World) (args : List Value) (ds : List (DataW H)) (p : List MemPlace) : Prop where
  trod : DataW.TrodAll enc P W 0 (fun _ => true) true ts args ds p
  ok : ∃ base, ∀ (j : Nat) t v, ts[j]? = some t → args[j]? = some v → Value.okWide P W .any base t v
  lt : ∀ x ∈ p, x.block < W.heap.size
  small : Rows.uptoSmall H ds = true

end Go.Proofs.Ytefmlbckbhlgdaa
namespace Go.Proofs.Ytefmlbckbhlgdaa
open Go.RowKit Go.ChangeShapes Go.WideShapes Go.ChangeAt
set_option maxRecDepth 100000
mutual
/-- How many items and bytes there are in one. -/
def It.weight : It → Nat
  | .mk _ b ks => 1 + b.length + weights ks
def weights : List It → Nat
  | [] => 0
  | k :: ks => k.weight + weights ks
end
end Go.Proofs.Ytefmlbckbhlgdaa
namespace Go.Proofs.Ytefmlbckbhlgdaa
open Go.RowKit
set_option maxRecDepth 100000
theorem It.size_pos : ∀ x : It, 1 ≤ x.size
  | .mk l b ks => by rw [It.size]; omega

mutual
theorem It.depth_le : ∀ x : It, x.depth ≤ x.size
  | .mk l b ks => by
    rw [It.depth, It.size]
    have := depths_le ks
    split <;> omega
theorem depths_le : ∀ ks : List It, depths ks ≤ sizes ks
  | [] => by rw [depths, sizes]; exact Nat.le_refl _
  | k :: ks => by
    rw [depths, sizes]
    have := It.depth_le k
    have := depths_le ks
    omega
end
theorem depths_append : ∀ (xs ys : List It), depths (xs ++ ys) = max (depths xs) (depths ys)
  | [], ys => by rw [List.nil_append, depths]; omega
  | x :: xs, ys => by rw [List.cons_append, depths, depths, depths_append xs ys]; omega

theorem sizes_append : ∀ (xs ys : List It), sizes (xs ++ ys) = sizes xs + sizes ys
  | [], ys => by rw [List.nil_append, sizes]; omega
  | x :: xs, ys => by rw [List.cons_append, sizes, sizes, sizes_append xs ys]; omega

theorem sizes_get {ks : List It} {i : Nat} {k : It} (h : ks[i]? = some k) : k.size ≤ sizes ks := by
  obtain ⟨hi, rfl⟩ := List.getElem?_eq_some_iff.1 h
  have e : ks = ks.take i ++ (ks[i] :: ks.drop (i + 1)) := by rw [List.getElem_cons_drop, List.take_append_drop]
  have := congrArg sizes e
  rw [sizes_append, sizes] at this
  omega

theorem pures_get : ∀ {ks : List It} {i : Nat} {k : It}, pures ks → ks[i]? = some k → k.pure
  | [], i, k, _, h => by simp at h
  | x :: ks, 0, k, hp, h => by simp at h; subst h; exact hp.1
  | x :: ks, i + 1, k, hp, h => pures_get hp.2 (by simpa using h)

theorem depths_take {ks : List It} {i : Nat} {k : It} (h : ks[i]? = some k) : depths (ks.take (i + 1)) = max (depths (ks.take i)) k.depth := by
  rw [List.take_add_one, h, depths_append]
  simp [depths]

abbrev itemO (l : Bool) (b : ByteArray) (kv : Value) : Obj := .cells #[.bool l, .string b, kv] 98

set_option maxHeartbeats 1000000 in
theorem deep_any : ∀ (n : Nat) (x : It), x.size ≤ n → x.pure → x.size ≤ 1000000 → ∀ (v : Value) (w : World), ItemIs w x v →
    Calls Try.prog 84 #[v] w fun e w' => e = .returned (.int .i64 x.depth) ∧ Below w.heap.size w w'
  | 0, x, h, _, _, _, _, _ => by have := x.size_pos; omega
  | n + 1, .mk l b ks, hsz, hp, hs, v, w, hv => by
    obtain ⟨kv, rfl, hbz, hk⟩ := itemIs_iff.1 hv
    have KI := Lib.hid (deep_any n)
    clear hv
    cases l with
    | false =>
      obtain rfl := hp.2.1 rfl
      have L : Hid (RowAt (w.alloc (itemO false (mkS b) kv)) w.heap.size #[.bool false, .string (mkS b), kv] 98) := Lib.hid (RowAt.new _ _ _)
      have B : Hid (Below w.heap.size w (w.alloc (itemO false (mkS b) kv))) := Lib.hid ((Below.refl _ _).alloc (Nat.le_refl _) _)
      have E : Hid ((It.mk false b []).depth = 0) := Lib.hid (by simp [It.depth, depths])
      obtain ⟨p, cap, rfl, _⟩ := hk.parts
      clear hk hp hsz hs
      obtain ⟨a0, a1, a2, af0, af1, af2⟩ := L.out.c3
      go_enter Try.func84, Try.ntmps84
      go_wp2
      go_ret
      rw [E.out]
      exact ⟨rfl, B.out⟩
    | true =>
      obtain ⟨p, cap, rfl, h1, h2, hg⟩ := hk.parts
      rw [It.size] at hsz hs
      have hdl := depths_le ks
      have HG := Lib.hid hg
      have HS := Lib.hid (fun i k (h : ks[i]? = some k) => (⟨by have := sizes_get h; omega, pures_get hp.2.2 h, by have := sizes_get h; omega⟩ : k.size ≤ n ∧ k.pure ∧ k.size ≤ 1000000))
      have HD := Lib.hid (fun i k (h : ks[i]? = some k) => depths_take h)
      have E : Hid ((It.mk true b ks).depth = depths (ks.take ks.length) + 1) := Lib.hid (by simp [It.depth])
      have HL := Lib.hid (fun i => (by have := depths_le (ks.take i); have h := congrArg sizes (List.take_append_drop i ks); rw [sizes_append] at h; omega : depths (ks.take i) ≤ 1000000))
      have L : Hid (RowAt (w.alloc (itemO true (mkS b) (.slice p ks.length cap))) w.heap.size #[.bool true, .string (mkS b), .slice p ks.length cap] 98) := Lib.hid (RowAt.new _ _ _)
      have B : Hid (Below w.heap.size w (w.alloc (itemO true (mkS b) (.slice p ks.length cap)))) := Lib.hid ((Below.refl _ _).alloc (Nat.le_refl _) _)
      have D0 : Hid (depths (ks.take 0) = 0) := Lib.hid (by simp [depths])
      clear hk hp hsz hs hg hdl hbz
      generalize hm : ks.length = m at *
      have HM := Lib.hid hm
      clear hm
      obtain ⟨a0, a1, a2, af0, af1, af2⟩ := L.out.c3
      go_enter Try.func84, Try.ntmps84
      go_wp2
      go_loopw [3, 12] (fun d i wr => ∃ k : Nat, k ≤ m ∧ i = .int .i64 k ∧ d = .int .i64 (depths (ks.take k)) ∧ Below w.heap.size w wr) (fun _ i _ => m - (intOf i).toNat)
      case atStart => exact ⟨0, Nat.zero_le _, rfl, by rw [D0.out]; rfl, B.out⟩
      case round =>
        obtain ⟨k, hk, rfl, rfl, hbl⟩ := hrel
        have HB := Lib.hid hbl
        clear hbl L B
        by_cases hlt : k < m
        · obtain ⟨x, hx⟩ : ∃ x, ks[k]? = some x := ⟨_, List.getElem?_eq_getElem (by rw [HM.out]; exact hlt)⟩
          obtain ⟨a, l', b', p', n', c', rfl, c0, c1, c2, hi⟩ := HG.out k x hx
          obtain ⟨g1, g2, g3⟩ := HS.out k x hx
          have HX := Lib.hid (ItemIs.below HB.out (Nat.le_refl _) _ _ hi)
          have q0 : wr.cell? (a.add (k * 3)) = some (.bool l') := by rw [HB.out.cell (block_lt_of_cell c0)]; exact c0
          have q1 : wr.cell? ⟨(a.add (k * 3)).block, (a.add (k * 3)).off + 1, none⟩ = some (.string b') := by
            have e : (⟨(a.add (k * 3)).block, (a.add (k * 3)).off + 1, none⟩ : Addr) = a.add (k * 3 + 1) := by rw [← Go.Deep.add_add]; rfl
            rw [e, HB.out.cell (block_lt_of_cell c1)]
            exact c1
          have q2 : wr.cell? ⟨(a.add (k * 3)).block, (a.add (k * 3)).off + 2, none⟩ = some (.slice p' n' c') := by
            have e : (⟨(a.add (k * 3)).block, (a.add (k * 3)).off + 2, none⟩ : Addr) = a.add (k * 3 + 2) := by rw [← Go.Deep.add_add]; rfl
            rw [e, HB.out.cell (block_lt_of_cell c2)]
            exact c2
          clear hi c0 c1 c2
          have L : Hid (RowAt (wr.alloc (itemO l' b' (.slice p' n' c'))) wr.heap.size #[.bool l', .string b', (.slice p' n' c')] 98) := Lib.hid (RowAt.new _ _ _)
          replace HB := Lib.hid (HB.out.alloc HB.out.size (itemO l' b' (.slice p' n' c')))
          replace HX := Lib.hid (ItemIs.below ((Below.refl wr.heap.size wr).alloc (Nat.le_refl _) (itemO l' b' (.slice p' n' c'))) (Nat.le_refl _) _ _ HX.out)
          have HD1 := Lib.hid (HD.out k x hx)
          have hd1 := HL.out k
          have hd2 := HL.out (k + 1)
          obtain ⟨a0, a1, a2, af0, af1, af2⟩ := L.out.c3
          go_wp2_with fail
          refine (KI.out x g1 g2 g3 _ _ HX.out).mono ?_
          rintro e w2 ⟨rfl, hb⟩
          (replace HB := Lib.hid (HB.out.trans (hb.mono HB.out.size)); clear hb)
          rw [HD1.out] at hd2
          generalize depths (ks.take k) = d at *
          generalize x.depth = dx at *
          go_wp2_with fail
          go_roundw
          case rel => exact ⟨k + 1, by omega, by go_num, by rw [HD1.out]; go_num, HB.out⟩
          case measure => simp [intOf]; omega
        · obtain rfl : k = m := by omega
          have hd := HL.out k
          have E1 := Lib.hid E.out
          generalize depths (ks.take k) = d at *
          go_wp2
          go_ret
          rw [E1.out]
          exact ⟨by go_num, HB.out⟩
end Go.Proofs.Ytefmlbckbhlgdaa
namespace Go.Proofs.Ytefmlbckbhlgdaa
open Go.RowKit
set_option maxRecDepth 100000
/-- An item's three cells. -/
abbrev IV := Bool × ByteArray × (Option Addr × Nat × Nat)
def IV.kids (x : IV) : Value := .slice x.2.2.1 x.2.2.2.1 x.2.2.2.2
def cells3 (x : IV) : List Value := [.bool x.1, .string x.2.1, x.kids]
def IV.val (x : IV) : Value := .agg #[.bool x.1, .string x.2.1, x.kids]
def flat3 : List IV → List Value
  | [] => []
  | x :: l => cells3 x ++ flat3 l

theorem flat3_length : ∀ l : List IV, (flat3 l).length = l.length * 3
  | [] => rfl
  | x :: l => by rw [flat3, List.length_append, flat3_length l, List.length_cons]; simp [cells3]; omega

theorem flat3_append : ∀ l m : List IV, flat3 (l ++ m) = flat3 l ++ flat3 m
  | [], m => rfl
  | x :: l, m => by rw [List.cons_append, flat3, flat3, flat3_append l m, List.append_assoc]

theorem flat3_get : ∀ (l : List IV) (i : Nat) (x : IV), l[i]? = some x → (flat3 l)[i * 3]? = some (.bool x.1) ∧ (flat3 l)[i * 3 + 1]? = some (.string x.2.1) ∧ (flat3 l)[i * 3 + 2]? = some x.kids
  | [], i, x, h => by simp at h
  | y :: l, 0, x, h => by simp at h; subst h; exact ⟨rfl, rfl, rfl⟩
  | y :: l, i + 1, x, h => by
    obtain ⟨h1, h2, h3⟩ := flat3_get l i x (by simpa using h)
    have e : ∀ j, (flat3 (y :: l))[(i + 1) * 3 + j]? = (flat3 l)[i * 3 + j]? := fun j => by
      rw [flat3, List.getElem?_append_right (by simp [cells3]; omega)]
      congr 1
      simp [cells3]
      omega
    exact ⟨(e 0).trans h1, (e 1).trans h2, (e 2).trans h3⟩

theorem flat3_one : ∀ l : List IV, ∀ u ∈ flat3 l, u.oneCell' = true
  | [], u, h => by cases h
  | x :: l, u, h => by
    rw [flat3] at h
    rcases List.mem_append.1 h with h | h
    · simp only [cells3, List.mem_cons, List.not_mem_nil, or_false] at h
      rcases h with rfl | rfl | rfl <;> rfl
    · exact flat3_one l u h

/-- The items lie in the triples. -/
def QIs (w : World) : List It → List IV → Prop
  | [], [] => True
  | k :: q, x :: l => ItemIs w k x.val ∧ QIs w q l
  | _, _ => False

theorem QIs.length {w : World} : ∀ {q : List It} {l : List IV}, QIs w q l → q.length = l.length
  | [], [], _ => rfl
  | k :: q, x :: l, h => by rw [List.length_cons, List.length_cons, QIs.length h.2]
  | [], _ :: _, h => by cases h
  | _ :: _, [], h => by cases h

theorem QIs.append {w : World} {q' : List It} {l' : List IV} (h' : QIs w q' l') : ∀ {q : List It} {l : List IV}, QIs w q l → QIs w (q ++ q') (l ++ l')
  | [], [], _ => h'
  | k :: q, x :: l, h => ⟨h.1, QIs.append h' h.2⟩
  | [], _ :: _, h => by cases h
  | _ :: _, [], h => by cases h

theorem QIs.below {w w' : World} {B : Nat} (hb : Below B w w') (hB : w.heap.size ≤ B) : ∀ {q : List It} {l : List IV}, QIs w q l → QIs w' q l
  | [], [], _ => trivial
  | k :: q, x :: l, h => ⟨ItemIs.below hb hB k _ h.1, QIs.below hb hB h.2⟩
  | [], _ :: _, h => by cases h
  | _ :: _, [], h => by cases h

theorem QIs.get {w : World} : ∀ {q : List It} {l : List IV} {i : Nat} {k : It}, QIs w q l → q[i]? = some k → ∃ x, l[i]? = some x ∧ ItemIs w k x.val
  | k' :: q, x :: l, 0, k, h, hk => by simp at hk; subst hk; exact ⟨x, rfl, h.1⟩
  | k' :: q, x :: l, i + 1, k, h, hk => by
    obtain ⟨y, h1, h2⟩ := QIs.get (i := i) h.2 (by simpa using hk)
    exact ⟨y, by simpa using h1, h2⟩
  | [], _, i, k, _, hk => by simp at hk
  | _ :: _, [], _, _, h, _ => by cases h

/-- An item's triple. -/
theorem itemIs_val {w : World} {k : It} {v : Value} (h : ItemIs w k v) : ∃ x : IV, v = x.val := by
  obtain ⟨l, b, ks⟩ := k
  obtain ⟨kv, rfl, _, hk⟩ := itemIs_iff.1 h
  obtain ⟨p, cap, rfl, _⟩ := hk.parts
  exact ⟨(l, mkS b, p, ks.length, cap), rfl⟩

theorem KidsAt.list {w : World} {a : Addr} : ∀ (ks : List It) (i : Nat), KidsAt w ks a i → ∃ l : List IV, QIs w ks l ∧ ∀ j u, (flat3 l)[j]? = some u → w.cell? (a.add (i * 3 + j)) = some u
  | [], i, _ => ⟨[], trivial, fun j u h => by simp [flat3] at h⟩
  | k :: ks, i, h => by
    rw [KidsAt] at h
    obtain ⟨⟨v0, v1, v2, c0, c1, c2, hi⟩, ht⟩ := h
    obtain ⟨l, hl, hc⟩ := KidsAt.list ks (i + 1) ht
    obtain ⟨x, hx⟩ := itemIs_val hi
    have e := hx
    unfold IV.val at e
    injection e with e
    simp at e
    obtain ⟨rfl, rfl, rfl⟩ := e
    refine ⟨x :: l, ⟨by rw [← hx]; exact hi, hl⟩, fun j u hj => ?_⟩
    rw [flat3] at hj
    match j, hj with
    | 0, hj => simp [cells3] at hj; subst hj; exact c0
    | 1, hj => simp [cells3] at hj; subst hj; exact c1
    | 2, hj => simp [cells3] at hj; subst hj; exact c2
    | j + 3, hj =>
      have := hc j u (by simpa [cells3] using hj)
      rwa [show (i + 1) * 3 + j = i * 3 + (j + 3) by omega] at this
end Go.Proofs.Ytefmlbckbhlgdaa
namespace Go.Proofs.Ytefmlbckbhlgdaa
open Go.RowKit
set_option maxRecDepth 100000
end Go.Proofs.Ytefmlbckbhlgdaa
namespace Go.Proofs.Ytefmlbckbhlgdaa
open Go.RowKit
set_option maxRecDepth 100000
mutual
def It.pureB : It → Bool
  | .mk l b ks => (if l = true then b.isEmpty else ks.isEmpty) && puresB ks
def puresB : List It → Bool
  | [] => true
  | k :: ks => k.pureB && puresB ks
end
mutual
theorem pureB_iff : ∀ x : It, x.pureB = true ↔ x.pure
  | .mk l b ks => by
    rw [It.pureB, It.pure, Bool.and_eq_true, puresB_iff ks]
    cases l <;> simp
theorem puresB_iff : ∀ ks : List It, puresB ks = true ↔ pures ks
  | [] => by simp [puresB, pures]
  | k :: ks => by rw [puresB, pures, Bool.and_eq_true, pureB_iff k, puresB_iff ks]
end
end Go.Proofs.Ytefmlbckbhlgdaa
