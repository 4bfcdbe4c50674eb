/- Trees in memory: a node is some cells, the last of which is the slice of its kids; rows of nodes of one's own. -/
import Derived.Test.YthipnbiilobjeaaApp
namespace Go.Proofs.Ythipnbiilobjeaa
open Go.RowKit

inductive Tr (α : Type) where
  | mk (a : α) (ks : List (Tr α))
abbrev Tr.val {α : Type} : Tr α → α
  | .mk a _ => a
abbrev Tr.kids {α : Type} : Tr α → List (Tr α)
  | .mk _ ks => ks

/-- How a node lies, but for its kids. -/
structure TE (α : Type) where
  n : Nat
  pre : α → List Value
  len : ∀ a, (pre a).length = n
  one : ∀ a, ∀ u ∈ pre a, u.oneCell' = true

abbrev Sl := Option Addr × Nat × Nat
abbrev slV (s : Sl) : Value := .slice s.1 s.2.1 s.2.2
abbrev EV (α : Type) := α × Sl
def TE.enc {α : Type} (E : TE α) : Enc (EV α) := ⟨E.n + 1, fun x => E.pre x.1 ++ [slV x.2], fun x => by simp [E.len], fun x u h => by
  rcases List.mem_append.1 h with h | h
  · exact E.one _ u h
  · simp at h; subst h; rfl, Nat.succ_pos _⟩

theorem Addr.add_block (a : Addr) (n : Nat) : (a.add n).block = a.block := by unfold Addr.add; split <;> rfl

theorem RowE.keep {α : Type} {E : Enc α} {w w' : World} {ad : Addr} {n c : Nat} {l : List α} (h : RowE E w (.slice (some ad) n c) l) (hk : ∀ (a : Addr) (v : Value), a.block = ad.block → w.cell? a = some v → w'.cell? a = some v) : RowE E w' (.slice (some ad) n c) l := by
  rcases h with ⟨h, _⟩ | ⟨a, cap, hv, h1, h2, hc⟩
  · cases h
  · injection hv with e1 e2 e3
    injection e1 with e1
    subst e1 e2 e3
    exact .inr ⟨ad, c, rfl, h1, h2, fun j u hj => hk _ _ (Addr.add_block _ _) (hc j u hj)⟩

theorem RowE.empty {α : Type} {E : Enc α} {w : World} {p : Option Addr} {c : Nat} (hc : c ≤ maxLen) (hp : p = none → c = 0) : RowE E w (.slice p 0 c) [] := by
  cases p with
  | none => rw [hp rfl]; exact .inl ⟨rfl, rfl⟩
  | some ad => exact .inr ⟨ad, c, rfl, Nat.zero_le _, hc, fun j u h => by simp [flat] at h⟩
theorem RowE.sane {α : Type} {E : Enc α} {w : World} {p : Option Addr} {n c : Nat} {l : List α} (h : RowE E w (.slice p n c) l) : n = l.length ∧ n ≤ c ∧ c ≤ maxLen ∧ (p = none → c = 0) := by
  rcases h with ⟨e, rfl⟩ | ⟨a, cap, hv, h1, h2, _⟩
  · injection e with e1 e2 e3
    subst e1 e2 e3
    exact ⟨rfl, Nat.le_refl _, Nat.zero_le _, fun _ => rfl⟩
  · injection hv with e1 e2 e3
    subst e1 e2 e3
    exact ⟨rfl, h1, h2, fun e => by cases e⟩
theorem RowE.lt {α : Type} {E : Enc α} {w : World} {ad : Addr} {n c : Nat} {l : List α} (h : RowE E w (.slice (some ad) n c) l) (hl : l ≠ []) : ad.block < w.heap.size := by
  rcases h with ⟨e, _⟩ | ⟨a, cap, hv, h1, h2, hc⟩
  · cases e
  · injection hv with e1 e2 e3
    injection e1 with e1
    subst e1
    cases l with
    | nil => exact absurd rfl hl
    | cons x l =>
      have hk := E.pos
      have h0 : 0 < (flat E (x :: l)).length := by rw [flat_length, List.length_cons, Nat.add_mul]; omega
      have := hc 0 _ (List.getElem?_eq_getElem h0)
      have := block_lt_of_cell this
      rwa [Addr.add_block] at this

/-- The node 'x' reads as the tree; all rows of kids lie in blocks of the class. -/
inductive TreeP {α : Type} (E : TE α) (A : Nat → Prop) (w : World) : Tr α → EV α → Prop
  | leaf (a : α) (p : Option Addr) (c : Nat) (hc : c ≤ maxLen) (hp : p = none → c = 0) : TreeP E A w (.mk a []) (a, p, 0, c)
  | node (a : α) (ks : List (Tr α)) (xs : List (EV α)) (ad : Addr) (cap : Nat) (hn : ks ≠ []) (hl : xs.length = ks.length) (hA : A ad.block) (hr : RowE E.enc w (.slice (some ad) ks.length cap) xs)
      (h : ∀ (i : Nat) (k : Tr α) (x : EV α), ks[i]? = some k → xs[i]? = some x → TreeP E A w k x) : TreeP E A w (.mk a ks) (a, some ad, ks.length, cap)

section
variable {α : Type} {E : TE α} {A A' : Nat → Prop} {w w' : World}

theorem TreeP.keep (hk : ∀ (a : Addr) (v : Value), A a.block → w.cell? a = some v → w'.cell? a = some v) (_ : ∀ (a : Addr) (v : Value), A a.block → w.cell? a = some v → A' a.block) (hA0 : ∀ b, A b → A' b) {t : Tr α} {x : EV α} (h : TreeP E A w t x) : TreeP E A' w' t x := by
  induction h with
  | leaf a p c hc hp => exact .leaf a p c hc hp
  | node a ks xs ad cap hn hl hAd hr _ ih => exact .node a ks xs ad cap hn hl (hA0 _ hAd) (RowE.keep hr fun a v ha => hk a v (by rw [ha]; exact hAd)) ih

theorem TreeP.weaken (hA : ∀ b, A b → A' b) {t : Tr α} {x : EV α} (h : TreeP E A w t x) : TreeP E A' w t x := h.keep (fun _ _ _ h => h) (fun _ _ h _ => hA _ h) hA
theorem TreeP.move {B : Nat} (hb : Below B w w') (hB : w.heap.size ≤ B) {t : Tr α} {x : EV α} (h : TreeP E A w t x) : TreeP E A w' t x :=
  h.keep (fun a v _ hc => by rw [hb.cell (Nat.lt_of_lt_of_le (block_lt_of_cell hc) hB)]; exact hc) (fun _ _ h _ => h) (fun _ h => h)
/-- Where only blocks from 'B' on are touched. -/
theorem TreeP.low {B : Nat} (hb : Below B w w') {t : Tr α} {x : EV α} (h : TreeP E (fun b => b < B) w t x) : TreeP E (fun b => b < B) w' t x :=
  h.keep (fun a v ha hc => by rw [hb.cell ha]; exact hc) (fun _ _ h _ => h) (fun _ h => h)
theorem TreeP.parts {t : Tr α} {x : EV α} (h : TreeP E A w t x) : x.1 = t.val ∧ x.2.2.1 = t.kids.length ∧ x.2.2.1 ≤ x.2.2.2 ∧ x.2.2.2 ≤ maxLen ∧ ∃ xs, xs.length = t.kids.length ∧ RowE E.enc w (slV x.2) xs ∧ ∀ (i : Nat) (k : Tr α) (y : EV α), t.kids[i]? = some k → xs[i]? = some y → TreeP E A w k y := by
  cases h with
  | leaf a p c hc hp => exact ⟨rfl, rfl, Nat.zero_le _, hc, [], rfl, RowE.empty hc hp, fun i k y h => by simp at h⟩
  | node a ks xs ad cap hn hl hA hr h =>
    obtain ⟨p, c, e, h1, h2⟩ := RowE.shape _ hr
    injection e with e1 e2 e3
    subst e3
    exact ⟨rfl, rfl, by show ks.length ≤ cap; omega, h2, xs, hl, hr, h⟩

/-- A row of trees. -/
def RowT (E : TE α) (A : Nat → Prop) (w : World) (v : Value) (ts : List (Tr α)) : Prop :=
  ∃ xs, xs.length = ts.length ∧ RowE E.enc w v xs ∧ (ts ≠ [] → ∀ ad n c, v = .slice (some ad) n c → A ad.block) ∧ ∀ (i : Nat) (t : Tr α) (x : EV α), ts[i]? = some t → xs[i]? = some x → TreeP E A w t x
theorem RowT.nil : RowT E A w (.slice none 0 0) [] := ⟨[], rfl, .inl ⟨rfl, rfl⟩, fun h => absurd rfl h, fun i t x h => by simp at h⟩
theorem RowT.shape {v : Value} {ts : List (Tr α)} (h : RowT E A w v ts) : ∃ (p : Option Addr) (cap : Nat), v = .slice p ts.length cap ∧ ts.length ≤ cap ∧ cap ≤ maxLen := by
  obtain ⟨xs, hl, hr, _, _⟩ := h
  obtain ⟨p, c, e, h1, h2⟩ := RowE.shape _ hr
  exact ⟨p, c, by rw [← hl]; exact e, by omega, h2⟩
theorem RowT.below {B : Nat} {v : Value} {ts : List (Tr α)} (h : RowT E A w v ts) (hb : Below B w w') (hB : w.heap.size ≤ B) : RowT E A w' v ts := by
  obtain ⟨xs, hl, hr, ha, ht⟩ := h
  exact ⟨xs, hl, RowE.below _ hr hb hB, ha, fun i t x h1 h2 => (ht i t x h1 h2).move hb hB⟩
theorem RowT.weaken (hA : ∀ b, A b → A' b) {v : Value} {ts : List (Tr α)} (h : RowT E A w v ts) : RowT E A' w v ts := by
  obtain ⟨xs, hl, hr, ha, ht⟩ := h
  exact ⟨xs, hl, hr, fun hn ad n c e => hA _ (ha hn ad n c e), fun i t x h1 h2 => (ht i t x h1 h2).weaken hA⟩
theorem RowT.keep (hk : ∀ (a : Addr) (v : Value), A a.block → w.cell? a = some v → w'.cell? a = some v) (hA0 : ∀ b, A b → A' b) {v : Value} {ts : List (Tr α)} (h : RowT E A w v ts) : RowT E A' w' v ts := by
  obtain ⟨xs, hl, hr, ha, ht⟩ := h
  refine ⟨xs, hl, ?_, fun hn ad n c e => hA0 _ (ha hn ad n c e), fun i t x h1 h2 => (ht i t x h1 h2).keep hk (fun a _ h _ => hA0 _ h) hA0⟩
  obtain ⟨p, c, e, _, _⟩ := RowE.shape _ hr
  subst e
  by_cases hn : ts = []
  · subst hn
    obtain rfl : xs = [] := List.eq_nil_of_length_eq_zero hl
    obtain ⟨_, _, h2, h3⟩ := RowE.sane hr
    exact RowE.empty h2 h3
  · cases p with
    | none =>
      rcases hr with hr | ⟨_, _, e, _⟩
      · exact .inl hr
      · cases e
    | some ad => exact RowE.keep hr fun a v hb => hk a v (by rw [hb]; exact ha hn ad _ _ rfl)
/-- A row of trees as the kids of a node. -/
theorem RowT.node (a : α) {s : Sl} {ts : List (Tr α)} (h : RowT E A w (slV s) ts) : TreeP E A w (.mk a ts) (a, s) := by
  obtain ⟨xs, hl, hr, ha, ht⟩ := h
  obtain ⟨p, n, c⟩ := s
  obtain ⟨e0, e1, e2, e3⟩ := RowE.sane hr
  by_cases hn : ts = []
  · subst hn
    obtain rfl : xs = [] := List.eq_nil_of_length_eq_zero hl
    simp only [List.length_nil] at e0
    subst e0
    exact .leaf a p c e2 e3
  · cases p with
    | none =>
      rcases hr with ⟨_, rfl⟩ | ⟨_, _, e, _⟩
      · exact absurd (List.eq_nil_of_length_eq_zero hl.symm) hn
      · cases e
    | some ad =>
      subst e0
      simp only [hl] at hr ⊢
      exact .node a ts xs ad c hn hl (ha hn ad _ _ rfl) hr ht
/-- One tree in a block of its own. -/
theorem RowT.one {t : Tr α} {s : Sl} {g : Nat} {cs : Array Value} {T : TypeId} (hg : w.heap[g]? = some (.cells cs T (0, 0))) (hcs : cs.toList = E.pre t.val ++ [slV s]) (hA : A g) (h : RowT E A w (slV s) t.kids) : RowT E A w (.slice (some ⟨g, 0, none⟩) 1 1) [t] := by
  refine ⟨[(t.val, s)], rfl, RowE.lit E.enc hg _ hcs, fun _ ad n c e => by injection e with e _ _; injection e with e; subst e; exact hA, fun i t' x h1 h2 => ?_⟩
  obtain ⟨rfl, rfl⟩ : i = 0 ∧ t = t' := by
    cases i with
    | zero => simp at h1; exact ⟨rfl, h1⟩
    | succ i => simp at h1
  simp at h2
  subst h2
  cases t with
  | mk a ks => exact RowT.node a h
theorem TreeP.row {t : Tr α} {x : EV α} (h : TreeP E A w t x) : RowT E A w (slV x.2) t.kids := by
  cases h with
  | leaf a p c hc hp => exact ⟨[], rfl, RowE.empty hc hp, fun h => absurd rfl h, fun i t x h => by simp at h⟩
  | node a ks xs ad cap hn hl hA hr h => exact ⟨xs, hl, hr, fun _ ad' n c e => by injection e with e; injection e with e; subst e; exact hA, h⟩
theorem RowT.at {p : Option Addr} {n c : Nat} {ts : List (Tr α)} (h : RowT E A w (.slice p n c) ts) {i : Nat} {t : Tr α} (ht : ts[i]? = some t) : ∃ ad x, p = some ad ∧ (∀ r u, (E.enc.cells x)[r]? = some u → w.cell? (ad.add (i * (E.n + 1) + r)) = some u) ∧ TreeP E A w t x := by
  obtain ⟨xs, hl, hr, _, h⟩ := h
  have hi := (List.getElem?_eq_some_iff.1 ht).1
  have hx := List.getElem?_eq_getElem (show i < xs.length by omega)
  rcases hr with ⟨_, rfl⟩ | ⟨ad, cap, hv, h1, h2, hc⟩
  · simp at hl; omega
  · injection hv with e1 e2 e3
    subst e1
    refine ⟨ad, xs[i], rfl, fun r u hr => hc _ _ ?_, h i t _ ht hx⟩
    have hr' : r < E.enc.k := by have := (List.getElem?_eq_some_iff.1 hr).1; rwa [E.enc.len] at this
    rw [show i * (E.n + 1) + r = i * E.enc.k + r from rfl, flat_get _ hx r hr']
    exact hr
theorem RowT.take {p : Option Addr} {n c : Nat} {ts : List (Tr α)} (h : RowT E A w (.slice p n c) ts) {m : Nat} (hm : m ≤ ts.length) : RowT E A w (.slice p m c) (ts.take m) := by
  obtain ⟨xs, hl, hr, ha, ht⟩ := h
  refine ⟨xs.take m, by simp; omega, RowE.take _ hr (by omega), fun hn ad n' c' e => ?_, fun i t x h1 h2 => ?_⟩
  · injection e with e _ _
    subst e
    exact ha (fun h => hn (by rw [h]; simp)) ad n c rfl
  · rw [List.getElem?_take] at h1 h2
    split at h1
    · rename_i hlt
      rw [if_pos hlt] at h2
      exact ht i t x h1 h2
    · cases h1

/-- The call's own row of trees; what is below lies outside of it. -/
def OwnT (E : TE α) (T : TypeId) (A : Nat → Prop) (w : World) (base : Nat) (v : Value) (ts : List (Tr α)) : Prop :=
  ∃ xs, xs.length = ts.length ∧ OwnE E.enc T w base v xs ∧ ∀ (i : Nat) (t : Tr α) (x : EV α), ts[i]? = some t → xs[i]? = some x → TreeP E (fun b => A b ∧ v.ownBlock ≠ some b) w t x
theorem OwnT.nil (T : TypeId) (base : Nat) : OwnT E T A w base (.slice none 0 0) [] := ⟨[], rfl, OwnE.nil _ _ _ _, fun i t x h => by simp at h⟩
theorem OwnT.start {T : TypeId} {base : Nat} (hb : base ≤ w.heap.size) : OwnT E T A (w.alloc (.cells #[] T)) base (.slice (some ⟨w.heap.size, 0, none⟩) 0 0) [] := ⟨[], rfl, OwnE.start _ hb, fun i t x h => by simp at h⟩
theorem OwnT.below {T : TypeId} {base B : Nat} {v : Value} {ts : List (Tr α)} (h : OwnT E T A w base v ts) (hb : Below B w w') (hB : w.heap.size ≤ B) : OwnT E T A w' base v ts := by
  obtain ⟨xs, hl, ho, ht⟩ := h
  exact ⟨xs, hl, OwnE.below _ ho hb hB, fun i t x h1 h2 => (ht i t x h1 h2).move hb hB⟩
theorem OwnT.shape {T : TypeId} {base : Nat} {v : Value} {ts : List (Tr α)} (h : OwnT E T A w base v ts) : ∃ (p : Option Addr) (cap : Nat), v = .slice p ts.length cap ∧ ts.length ≤ cap ∧ cap ≤ maxLen := by
  obtain ⟨xs, hl, ho, _⟩ := h
  obtain ⟨p, c, e, h1, h2⟩ := RowE.shape _ (OwnE.row _ ho)
  exact ⟨p, c, by rw [← hl]; exact e, by omega, h2⟩
theorem OwnT.row {T : TypeId} {base : Nat} {v : Value} {ts : List (Tr α)} (h : OwnT E T A w base v ts) (hA : ∀ b, base ≤ b → A b) : RowT E A w v ts := by
  obtain ⟨xs, hl, ho, ht⟩ := h
  refine ⟨xs, hl, OwnE.row _ ho, fun _ ad n c e => ?_, fun i t x h1 h2 => (ht i t x h1 h2).weaken fun b h => h.1⟩
  subst e
  rcases ho.2 with ⟨e, _⟩ | ⟨g, cap, cur, hv, hg, _⟩
  · cases e
  · injection hv with e _ _
    injection e with e
    subst e
    exact hA _ hg

theorem OwnT.lt {T : TypeId} {base : Nat} {v : Value} {ts : List (Tr α)} (h : OwnT E T A w base v ts) : ∀ g, v.ownBlock = some g → base ≤ g ∧ g < w.heap.size := by
  obtain ⟨xs, _, ho, _⟩ := h
  exact fun g hg => World.ownsRow.lt ho g hg
theorem lit_cells {g : Nat} {cs : Array Value} {T : TypeId} (hg : w.heap[g]? = some (.cells cs T (0, 0))) {y : EV α} (hcs : cs.toList = E.enc.cells y) : ∀ j u, (E.enc.cells y)[j]? = some u → w.cell? ((⟨g, 0, none⟩ : Addr).add j) = some u := by
  intro j u hj
  rw [← hcs, Array.getElem?_toList] at hj
  have : w.cell? ⟨g, j, none⟩ = cs[j]? := cell_of_row w g j cs T _ hg
  rw [← hj, ← this]
  cases j <;> simp [Addr.add]
/-- What a call has made, behind the call's own row. -/
theorem OwnT.fresh {T : TypeId} {base B : Nat} {v : Value} {ts : List (Tr α)} {w1 : World} {t : Tr α} {s : Sl} (h : OwnT E T A w base v ts) (hB : w.heap.size ≤ B) (hA : ∀ b, B ≤ b → A b) (hr : RowT E (fun b => B ≤ b) w1 (slV s) t.kids) : TreeP E (fun b => A b ∧ v.ownBlock ≠ some b) w1 t (t.val, s) := by
  cases t with
  | mk a ks => exact (RowT.node a hr).weaken fun b hb => ⟨hA b hb, fun e => by have := (h.lt b e).2; omega⟩

/-- One more element: the row stays where it was, or lies in a new block. -/
theorem run_append_one (F : Enc (EV α)) {ts te : TypeId} {z : Value} {bytes : Nat} (ht : Try.prog.underlying ts = some (.slice te)) (hinf : (Try.prog.info? te).map (fun i => (i.zero, i.size, i.bytes)) = some (some z, F.k, bytes)) (hzs : z.cells.size = F.k) (hbb : bytes ≤ 1000)
    (w : World) (ty : TypeId) (base : Nat) (v : Value) (l : List (EV α)) (hown : OwnE F te w base v l) (ad : Addr) (y : EV α) (hc : ∀ j u, (F.cells y)[j]? = some u → w.cell? (ad.add j) = some u)
    (hb : l.length + 1 ≤ 1000000) (hbase : base ≤ w.heap.size) :
    ∃ v' w', (Builtin.append_ #[ts, ts] ty #[v, .slice (some ad) 1 1]).run Try.prog w = .ok v' w' ∧ OwnE F te w' base v' (l ++ [y]) ∧ w.grownBy w' v.ownBlock ∧ (∀ g, v'.ownBlock = some g → v.ownBlock = some g ∨ w.heap.size ≤ g) := by
  obtain ⟨i0, hi, hz0, hz1, hz2⟩ := info_parts hinf
  have e1 : flat F [y] = F.cells y := by simp [flat]
  have hone : ∀ u ∈ F.cells y, u.oneCell' = true := F.one y
  have hfit : (l.length + 1) * bytes ≤ 140737488355328 := Nat.le_trans (Nat.mul_le_mul hb hbb) (by omega)
  have hfit0 : (0 + 1) * bytes ≤ 140737488355328 := by omega
  have hkl : (F.cells y).length = 1 * F.k := by rw [F.len, Nat.one_mul]
  have hown' : w.ownsRow base te F.k v l.length (flat F l) := hown
  obtain ⟨v', w', hr, h2, h3, _⟩ := run_append_own (P := Try.prog) w base ts ty te i0 _ F.k bytes ht hi hz0 hz1 hz2 hzs F.pos v l.length (flat F l) hown ad 1 1 (F.cells y) hkl hc hone (by unfold maxLen; omega) hfit hbase
  refine ⟨v', w', hr, ?_, h3, ?_⟩
  · unfold OwnE
    rw [List.length_append, flat_append, e1]
    exact h2
  · rcases hown'.2 with ⟨rfl, h0⟩ | ⟨g, cap, cur, rfl, hbg, hg, hnc, hcm, hcs, htake⟩
    · obtain ⟨v2, w2, hr2, k2, _, _⟩ := run_append_own (P := Try.prog) w w.heap.size ts ty te i0 _ F.k bytes ht hi hz0 hz1 hz2 hzs F.pos (.slice none 0 0) 0 [] (World.ownsRow_nil w w.heap.size te F.k) ad 1 1 (F.cells y) hkl hc hone (by unfold maxLen; omega) hfit0 (Nat.le_refl _)
      rw [hr] at hr2
      injection hr2 with e2 e3
      subst e2
      intro g hg
      rcases k2.2 with ⟨e, _⟩ | ⟨g', cap, cur, e, hgb, _⟩
      · rw [e] at hg; cases hg
      · rw [e] at hg; simp [Value.ownBlock] at hg; exact .inr (by omega)
    · intro g' hg'
      by_cases hroom : l.length + 1 ≤ cap
      · have hr2 := run_append_room (P := Try.prog) w ts ty te i0 ht hi g l.length cap cur hg ad 1 1 (F.cells y) (by rw [hz1]; exact hkl) hc hone hroom (by
          rw [hz1, hkl, hcs, ← Nat.add_mul]
          exact Nat.mul_le_mul_right _ hroom)
        rw [hr] at hr2
        injection hr2 with e2 e3
        subst e2
        exact .inl hg'
      · have hr2 := run_append_grow (P := Try.prog) w ts ty te i0 _ ht hi hz0 ⟨g, 0, none⟩ l.length cap (flat F l) (by rw [flat_length, hz1]) (hown'.cells rfl) ad 1 1 (F.cells y) (by rw [hz1]; exact hkl) hc (by omega) (by omega) (growslice_fits (by omega) (by rw [hz2]; exact hfit))
        rw [hr] at hr2
        injection hr2 with e2 e3
        subst e2
        simp [Value.ownBlock] at hg'
        exact .inr (by omega)

/-- One more tree behind the call's own row. -/
theorem wpList_append_tree {ts te : TypeId} {z : Value} {bytes : Nat} (ht : Try.prog.underlying ts = some (.slice te)) (hinf : (Try.prog.info? te).map (fun i => (i.zero, i.size, i.bytes)) = some (some z, E.n + 1, bytes)) (hzs : z.cells.size = E.n + 1) (hbb : bytes ≤ 1000)
    {ops : Array Oper} {rest : List Oper} {o : Oper} {a : Act} {Q : Exit → Act → World → Prop} {w : World} (hgd : o.guard = Option.none) (s x : Operand)
    (ho : o.op = .call { callee := .builtin .append, args := #[s, x], argTypes := #[ts, ts] }) (base : Nat) (v : Value) (l : List (Tr α)) (hs : a.eval s = v) (hown : OwnT E te A w base v l)
    (ad : Addr) (t : Tr α) (y : EV α) (hx : a.eval x = .slice (some ad) 1 1) (hc : ∀ j u, (E.enc.cells y)[j]? = some u → w.cell? (ad.add j) = some u) (hy : TreeP E (fun b => A b ∧ v.ownBlock ≠ some b) w t y)
    (hb : l.length + 1 ≤ 1000000) (hbase : base ≤ w.heap.size)
    (h : ∀ v' w', OwnT E te A w' base v' (l ++ [t]) → w.grownBy w' v.ownBlock → (∀ w0, Below base w0 w → Below base w0 w') → w.heap.size ≤ w'.heap.size → wpList Try.prog ops Q rest (a.put o.dst v') w') : wpList Try.prog ops Q (o :: rest) a w := by
  obtain ⟨xs, hl, hoe, htr⟩ := hown
  obtain ⟨v', w', hr, h1, h2, h3⟩ := run_append_one E.enc ht hinf hzs hbb w o.type base v xs hoe ad y hc (by omega) hbase
  refine wpList_plain hgd fun _ hK => ?_
  unfold Oper.wp execOp
  simp only [ho, resolve, invoke, builtin, Sem.run_bind, Sem.run_pure, Result.andThen_ok, List.map_toArray, List.map_cons, List.map_nil, hs, hx, hr]
  have hkeep : ∀ {t x}, TreeP E (fun b => A b ∧ v.ownBlock ≠ some b) w t x → TreeP E (fun b => (A b ∧ v.ownBlock ≠ some b) ∧ (b < w.heap.size)) w t x → TreeP E (fun b => A b ∧ v'.ownBlock ≠ some b) w' t x := fun _ hp => by
    refine hp.keep (fun a u ha hc => ?_) (fun a u ha hc => ?_) (fun b hb => ?_)
    · rw [World.cell?_of_block (h2.block _ ha.2 (Ne.symm ha.1.2))]
      exact hc
    · exact ⟨ha.1.1, fun e => (h3 _ e).elim ha.1.2 (fun h => absurd ha.2 (by omega))⟩
    · exact ⟨hb.1.1, fun e => (h3 _ e).elim hb.1.2 (fun h => absurd hb.2 (by omega))⟩
  have hlt : ∀ {t x}, TreeP E (fun b => A b ∧ v.ownBlock ≠ some b) w t x → TreeP E (fun b => (A b ∧ v.ownBlock ≠ some b) ∧ (b < w.heap.size)) w t x := fun {t x} hp => by
    induction hp with
    | leaf a p c hc hp => exact .leaf a p c hc hp
    | node a ks xs ad cap hn hl hAd hr hh ih => exact .node a ks xs ad cap hn hl ⟨hAd, RowE.lt hr (fun e => hn (List.eq_nil_of_length_eq_zero (by rw [← hl, e]; rfl)))⟩ hr ih
  refine hK _ _ (h v' w' ⟨xs ++ [y], by simp [hl], h1, fun i t' x' e1 e2 => ?_⟩ h2 (below_grown hoe h2 hbase) h2.size)
  by_cases hi : i < l.length
  · rw [List.getElem?_append_left hi] at e1
    rw [List.getElem?_append_left (by omega)] at e2
    have := htr i t' x' e1 e2
    exact hkeep this (hlt this)
  · obtain rfl : i = l.length := by
      have := (List.getElem?_eq_some_iff.1 e1).1
      simp at this
      omega
    rw [List.getElem?_append_right (Nat.le_refl _), Nat.sub_self] at e1
    rw [List.getElem?_append_right (by omega), hl, Nat.sub_self] at e2
    simp at e1 e2
    subst e1 e2
    exact hkeep hy (hlt hy)
end
end Go.Proofs.Ythipnbiilobjeaa
