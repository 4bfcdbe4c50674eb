/- Vote, the plain side: what a cast makes, and that the two Casts are one. Vote, the plain side: what a cast leaves may be. Vote, the plain side of the laws. -/
import Derived.Test.YthipnbiilobjeaaVo22
namespace Go.Proofs.Ythipnbiilobjeaa
open Go.RowKit

section
variable {α : Type} {lt : α → α → Bool}
abbrev Pw (lt : α → α → Bool) (V : List α) : Prop := V.Pairwise fun x y => lt x y = true
theorem SortedBy.pw {V : List α} (h : SortedBy lt V) : Pw lt V := List.pairwise_iff_getElem.2 fun i j hi hj hij => h i j _ _ hij (List.getElem?_eq_getElem hi) (List.getElem?_eq_getElem hj)
theorem pw_adj {V : List α} (h : Pw lt V) : ∀ (j : Nat) x y, V[j]? = some x → V[j + 1]? = some y → lt x y = true := fun j x y hx hy => by
  obtain ⟨h1, rfl⟩ := List.getElem?_eq_some_iff.1 hx
  obtain ⟨h2, rfl⟩ := List.getElem?_eq_some_iff.1 hy
  exact List.pairwise_iff_getElem.1 h j (j + 1) h1 h2 (by omega)
theorem pw_ext (ha : ∀ {a b : α}, lt a b = true → lt b a = false) (hi : ∀ a : α, lt a a = false) : ∀ {l m : List α}, Pw lt l → Pw lt m → (∀ x, x ∈ l ↔ x ∈ m) → l = m
  | [], [], _, _, _ => rfl
  | [], y :: m, _, _, h => absurd ((h y).2 (List.mem_cons_self ..)) (by simp)
  | x :: l, [], _, _, h => absurd ((h x).1 (List.mem_cons_self ..)) (by simp)
  | x :: l, y :: m, h1, h2, h => by
    obtain ⟨p1, p2⟩ := List.pairwise_cons.1 h1
    obtain ⟨q1, q2⟩ := List.pairwise_cons.1 h2
    have e : x = y := by
      rcases List.mem_cons.1 ((h x).1 (List.mem_cons_self ..)) with e | e
      · exact e
      · rcases List.mem_cons.1 ((h y).2 (List.mem_cons_self ..)) with f | f
        · exact f.symm
        · have := ha (q1 x e); rw [p1 y f] at this; cases this
    subst e
    congr 1
    refine pw_ext ha hi p2 q2 fun z => ⟨fun hz => ?_, fun hz => ?_⟩
    · rcases List.mem_cons.1 ((h z).1 (List.mem_cons_of_mem _ hz)) with e | e
      · subst e; have := p1 z hz; rw [hi] at this; cases this
      · exact e
    · rcases List.mem_cons.1 ((h z).2 (List.mem_cons_of_mem _ hz)) with e | e
      · subst e; have := q1 z hz; rw [hi] at this; cases this
      · exact e

theorem cut_mem_take {V : List α} {b : α} {i : Nat} (h : CutAt lt V b i) {x : α} (hx : x ∈ V.take i) : lt x b = true := by
  rw [cut_take h] at hx; exact (List.mem_filter.1 hx).2
theorem cut_mem_drop {V : List α} {b : α} {i : Nat} (h : CutAt lt V b i) {x : α} (hx : x ∈ V.drop i) : lt x b = false := by
  rw [cut_drop h] at hx; simpa using (List.mem_filter.1 hx).2
end

theorem stands_add {S : List ByteArray} {x b : Bal} (hx : standsL S x = true) (hb : standsL S b = true) (k : keyB x b) : x = b := by
  obtain ⟨x1, x2, x3⟩ := x
  obtain ⟨b1, b2, b3⟩ := b
  obtain ⟨k1, k2⟩ := k
  simp only at k1 k2
  subst k1 k2
  unfold standsL at hx hb
  simp only [Bool.and_eq_true, beq_iff_eq] at hx hb
  have := hx.2.symm.trans hb.2
  simp only [Bool.not_eq_eq_eq_not, Bool.not_not] at this
  rw [this]

/-- Behind the cut all stand behind the vote, where none stands at its place. -/
theorem drop_gt {V : List Bal} {b : Bal} {i : Nat} (h : CutAt ltB V b i) (hs : Pw ltB V) (hn : ¬ FoundB V b i) {y : Bal} (hy : y ∈ V.drop i) : ltB b y = true := by
  have hl := cut_mem_drop h hy
  rcases ltB_tri b y with e | e | e
  · exact e
  · obtain ⟨j, hj⟩ := List.getElem?_of_mem hy
    rw [List.getElem?_drop] at hj
    cases j with
    | zero => exact absurd ⟨y, hj, e.symm⟩ hn
    | succ j =>
      have hlt := (List.getElem?_eq_some_iff.1 hj).1
      have hz := List.getElem?_eq_getElem (show i < V.length by omega)
      have hzy : ltB V[i] y = true := by
        obtain ⟨h2, rfl⟩ := List.getElem?_eq_some_iff.1 hj
        exact List.pairwise_iff_getElem.1 hs i _ (by omega) h2 (by omega)
      have := h.2.2 i _ hz (Nat.le_refl _)
      rw [ltB_key hzy e.symm] at this
      cases this
  · rw [e] at hl; cases hl

theorem put_pw {V V1 : List Bal} {b : Bal} (hs : Pw ltB V) (hp : PutIn V b V1) : Pw ltB V1 := by
  obtain ⟨i, hc, ⟨_, rfl⟩ | ⟨hn, rfl⟩⟩ := hp
  · exact hs
  · have h1 : Pw ltB (V.take i) := hs.sublist (List.take_sublist _ _)
    have h2 : Pw ltB (V.drop i) := hs.sublist (List.drop_sublist _ _)
    refine List.pairwise_append.2 ⟨h1, List.pairwise_cons.2 ⟨fun y hy => drop_gt hc hs hn hy, h2⟩, fun x hx y hy => ?_⟩
    rcases List.mem_cons.1 hy with e | hy
    · subst e; exact cut_mem_take hc hx
    · exact ltB_trans (cut_mem_take hc hx) (drop_gt hc hs hn hy)

theorem put_mem {S : List ByteArray} {V V1 : List Bal} {b : Bal} (hst : ∀ x ∈ V, standsL S x = true) (hb : standsL S b = true) (hp : PutIn V b V1) (x : Bal) : x ∈ V1 ↔ x = b ∨ x ∈ V := by
  obtain ⟨i, hc, ⟨⟨z, hz, hk⟩, rfl⟩ | ⟨hn, rfl⟩⟩ := hp
  · have e : z = b := stands_add (hst z (List.mem_of_getElem? hz)) hb hk
    subst e
    exact ⟨.inr, fun h => by rcases h with rfl | h; exact List.mem_of_getElem? hz; exact h⟩
  · have : x ∈ V ↔ x ∈ V.take i ∨ x ∈ V.drop i := by rw [← List.mem_append, List.take_append_drop]
    rw [this, List.mem_append, List.mem_cons]
    exact ⟨fun h => by rcases h with h | h | h <;> simp [h], fun h => by rcases h with h | h | h <;> simp [h]⟩

theorem fold_lt (b : Bal) : ∀ (l o : List Bal), (∀ x ∈ l, ltB x b = true) → l.foldl (putS b) (o, false) = (o ++ l, false)
  | [], o, _ => by simp
  | x :: l, o, h => by
    have hx := h x (List.mem_cons_self ..)
    have hk : (decide (x.2.1 ≠ b.2.1) || decide (x.1 ≠ b.1)) = true := by
      have := ltB_nkey hx
      simp only [Bool.or_eq_true, decide_eq_true_eq, keyB] at this ⊢
      by_cases e : x.2.1 = b.2.1
      · exact .inr fun e2 => this ⟨e, e2⟩
      · exact .inl e
    rw [List.foldl_cons, show putS b (o, false) x = (o ++ [x], false) from by simp only [putS, hx, hk]; simp, fold_lt b l _ fun y hy => h y (List.mem_cons_of_mem _ hy)]
    simp
theorem fold_done (b : Bal) : ∀ (l o : List Bal), (∀ x ∈ l, ¬ keyB x b) → l.foldl (putS b) (o, true) = (o ++ l, true)
  | [], o, _ => by simp
  | x :: l, o, h => by
    have hk : (decide (x.2.1 ≠ b.2.1) || decide (x.1 ≠ b.1)) = true := by
      have := h x (List.mem_cons_self ..)
      simp only [Bool.or_eq_true, decide_eq_true_eq, keyB] at this ⊢
      by_cases e : x.2.1 = b.2.1
      · exact .inr fun e2 => this ⟨e, e2⟩
      · exact .inl e
    rw [List.foldl_cons, show putS b (o, true) x = (o ++ [x], true) from by simp only [putS, hk]; simp, fold_done b l _ fun y hy => h y (List.mem_cons_of_mem _ hy)]
    simp

theorem put_eq {S : List ByteArray} {V V1 : List Bal} {b : Bal} (hs : Pw ltB V) (hst : ∀ x ∈ V, standsL S x = true) (hb : standsL S b = true) (hp : PutIn V b V1) : V1 = putL V b := by
  obtain ⟨i, hc, hp⟩ := hp
  have e0 : V.foldl (putS b) ([], false) = (V.drop i).foldl (putS b) (V.take i, false) := by
    conv => lhs; rw [← List.take_append_drop i V, List.foldl_append, fold_lt b _ _ fun x hx => cut_mem_take hc hx]
    simp
  have h2 : Pw ltB (V.drop i) := hs.sublist (List.drop_sublist _ _)
  have hm : ∀ x ∈ V.drop i, ltB x b = false := fun x hx => cut_mem_drop hc hx
  have hV : V = V.take i ++ V.drop i := (List.take_append_drop i V).symm
  have hi0 : V[i]? = (V.drop i)[0]? := by simp
  unfold putL
  rw [e0]
  rcases hD : V.drop i with _ | ⟨x, r⟩
  · rw [hD] at hi0 hV
    rcases hp with ⟨⟨z, hz, _⟩, _⟩ | ⟨_, rfl⟩
    · rw [hi0] at hz; cases hz
    · rw [hD]; simp
  · rw [hD] at h2 hm hi0 hV
    have hx := hm x (List.mem_cons_self ..)
    obtain ⟨p1, _⟩ := List.pairwise_cons.1 h2
    have hr : ∀ y ∈ r, ¬ keyB y b := fun y hy k => by
      have := ltB_key (p1 y hy) k
      rw [hx] at this; cases this
    rcases hp with ⟨⟨z, hz, hk⟩, rfl⟩ | ⟨hn, rfl⟩
    · rw [hi0] at hz
      simp only [List.getElem?_cons_zero, Option.some.injEq] at hz
      subst hz
      have e : x = b := stands_add (hst x (by rw [hV]; simp)) hb hk
      subst e
      rw [List.foldl_cons, show putS x (V1.take i, false) x = (V1.take i ++ [x], true) from by simp [putS, ltB_irr], fold_done x r _ hr]
      conv => lhs; rw [hV]
      simp
    · have hk : ¬ keyB x b := fun k => hn ⟨x, by rw [hi0]; rfl, k⟩
      have hk' : (decide (x.2.1 ≠ b.2.1) || decide (x.1 ≠ b.1)) = true := by
        simp only [Bool.or_eq_true, decide_eq_true_eq, keyB] at hk ⊢
        by_cases e : x.2.1 = b.2.1
        · exact .inr fun e2 => hk ⟨e, e2⟩
        · exact .inl e
      rw [List.foldl_cons, show putS b (V.take i, false) x = (V.take i ++ [b] ++ [x], true) from by simp only [putS, hx, hk']; simp, fold_done b r _ hr, hD]
      simp

/-- The validators with one more, and without one. -/
theorem sfold_lt (a : ByteArray) : ∀ (l o : List ByteArray), (∀ x ∈ l, ltS x a = true) → l.foldl (setS a) (o, false) = (o ++ l, false)
  | [], o, _ => by simp
  | x :: l, o, h => by
    have hx := h x (List.mem_cons_self ..)
    rw [List.foldl_cons, show setS a (o, false) x = (o ++ [x], false) from by simp only [setS, ltS_asym hx]; simp [ltS_ne hx], sfold_lt a l _ fun y hy => h y (List.mem_cons_of_mem _ hy)]
    simp
theorem sfold_done (a : ByteArray) : ∀ (l o : List ByteArray), l.foldl (setS a) (o, true) = (o ++ l.filter (fun x => decide (x ≠ a)), true)
  | [], o => by simp
  | x :: l, o => by
    rw [List.foldl_cons, show setS a (o, true) x = (o ++ (if decide (x ≠ a) then [x] else []), true) from by simp only [setS]; simp, sfold_done a l _, List.filter_cons]
    split <;> simp

theorem set_add {S : List ByteArray} {a : ByteArray} {i : Nat} (hs : Pw ltS S) (hc : CutAt ltS S a i) (hn : a ∉ S) : S.take i ++ a :: S.drop i = setToL S a true := by
  have e0 : S.foldl (setS a) ([], false) = (S.drop i).foldl (setS a) (S.take i, false) := by
    conv => lhs; rw [← List.take_append_drop i S, List.foldl_append, sfold_lt a _ _ fun x hx => cut_mem_take hc hx]
    simp
  have hV : S = S.take i ++ S.drop i := (List.take_append_drop i S).symm
  have hm : ∀ x ∈ S.drop i, ltS x a = false := fun x hx => cut_mem_drop hc hx
  unfold setToL
  simp only [Bool.not_true]
  rw [e0]
  rcases hD : S.drop i with _ | ⟨x, r⟩
  · simp
  · rw [hD] at hm hV
    have hne : ∀ y ∈ x :: r, y ≠ a := fun y hy e => hn (by rw [hV, ← e]; exact List.mem_append.2 (.inr hy))
    have hx : ltS a x = true := by
      rcases ltS_tri a x with e | e | e
      · exact e
      · exact absurd e.symm (hne x (List.mem_cons_self ..))
      · rw [hm x (List.mem_cons_self ..)] at e; cases e
    rw [List.foldl_cons, show setS a (S.take i, false) x = (S.take i ++ [a] ++ [x], true) from by simp only [setS, hx]; simp [hne x (List.mem_cons_self ..)], sfold_done]
    have : r.filter (fun x => decide (x ≠ a)) = r := List.filter_eq_self.2 fun y hy => by simpa using hne y (List.mem_cons_of_mem _ hy)
    rw [this]
    simp

theorem set_cut {S : List ByteArray} {a : ByteArray} {i : Nat} (hs : Pw ltS S) (hc : CutAt ltS S a i) (hm : a ∈ S) : S[i]? = some a := by
  obtain ⟨j, hj⟩ := List.getElem?_of_mem hm
  have hlt := (List.getElem?_eq_some_iff.1 hj).1
  by_cases e1 : j < i
  · have := hc.2.1 j a hj e1; rw [ltS_irr] at this; cases this
  · by_cases e2 : j = i
    · subst e2; exact hj
    · have hz := List.getElem?_eq_getElem (show i < S.length by omega)
      have h1 := hc.2.2 i _ hz (Nat.le_refl _)
      obtain ⟨h2, rfl⟩ := List.getElem?_eq_some_iff.1 hj
      have := List.pairwise_iff_getElem.1 hs i j (by omega) h2 (by omega)
      rw [h1] at this; cases this
theorem set_del {S : List ByteArray} {a : ByteArray} {i : Nat} (hs : Pw ltS S) (hc : CutAt ltS S a i) (hm : a ∈ S) : S.take i ++ S.drop (i + 1) = S.filter (fun x => decide (x ≠ a)) := by
  have h1 := set_cut hs hc hm
  obtain ⟨hlt, h2⟩ := List.getElem?_eq_some_iff.1 h1
  have hV : S = S.take i ++ (a :: S.drop (i + 1)) := by
    conv => lhs; rw [← List.take_append_drop i S, List.drop_eq_getElem_cons hlt, h2]
  have hs2 := hs
  rw [hV] at hs2
  obtain ⟨q1, q2, q3⟩ := List.pairwise_append.1 hs2
  obtain ⟨q4, _⟩ := List.pairwise_cons.1 q2
  conv => rhs; rw [hV, List.filter_append, List.filter_cons]
  rw [List.filter_eq_self.2, List.filter_eq_self.2]
  · simp
  · intro x hx; simpa using (ltS_ne (q4 x hx)).symm
  · intro x hx; simpa using ltS_ne (cut_mem_take hc hx)
theorem set_rem {S : List ByteArray} {a : ByteArray} : setToL S a false = S.filter (fun x => decide (x ≠ a)) := by
  unfold setToL
  simp only [Bool.not_false, sfold_done]
  simp
end Go.Proofs.Ythipnbiilobjeaa

namespace Go.Proofs.Ythipnbiilobjeaa
open Go.RowKit

theorem RightOk.pw {S : List ByteArray} {V : List Bal} (h : RightOk S V) : Pw ltB V := (sorted_of_adj (@ltB_trans) h.2.2).pw
theorem RightOk.spw {S : List ByteArray} {V : List Bal} (h : RightOk S V) : Pw ltS S := (sorted_of_adj (@ltS_trans) h.1.2.1).pw
theorem RightOk.stands {S : List ByteArray} {V : List Bal} (h : RightOk S V) : ∀ x ∈ V, standsL S x = true := fun x hx => by
  obtain ⟨j, hj⟩ := List.getElem?_of_mem hx
  exact (h.2.1 j x hj).1
theorem RightOk.quiet {S : List ByteArray} {V : List Bal} (h : RightOk S V) : ∀ x ∈ V, wonL S V x = false := fun x hx => by
  obtain ⟨j, hj⟩ := List.getElem?_of_mem hx
  exact (h.2.1 j x hj).2
theorem RightOk.make {S : List ByteArray} {V : List Bal} (h1 : SetOk S) (h2 : ∀ x ∈ V, standsL S x = true) (h3 : ∀ x ∈ V, wonL S V x = false) (h4 : Pw ltB V) : RightOk S V :=
  ⟨h1, fun j x hx => ⟨h2 x (List.mem_of_getElem? hx), h3 x (List.mem_of_getElem? hx)⟩, pw_adj h4⟩
theorem stands_of {S : List ByteArray} {b : Bal} (h : ¬ Refused S b) : standsL S b = true := by
  cases e : standsL S b
  · exact absurd (.inl e) h
  · rfl
theorem stands_iff {S : List ByteArray} {b : Bal} : standsL S b = true ↔ b.1 ∈ S ∧ b.2.1.size = 20 ∧ (b.2.1 ∈ S ↔ b.2.2 = false) := by
  unfold standsL
  simp only [Bool.and_eq_true, beq_iff_eq, hasL_iff, and_assoc]
  have : hasL S b.2.1 = !b.2.2 ↔ (b.2.1 ∈ S ↔ b.2.2 = false) := by
    rw [← hasL_iff]
    cases hasL S b.2.1 <;> cases b.2.2 <;> simp
  rw [this]
theorem won_iff {S : List ByteArray} {V : List Bal} {b : Bal} : wonL S V b = false ↔ 2 * cntL V b ≤ S.length := by unfold wonL; simp

/-- Two votes for the same. -/
def kindB (x b : Bal) : Prop := x.2.1 = b.2.1 ∧ x.2.2 = b.2.2
theorem kind_cnt {V : List Bal} {x b : Bal} (h : kindB x b) : cntL V x = cntL V b := by unfold cntL; rw [h.1, h.2]
theorem put_cnt {S : List ByteArray} {V V1 : List Bal} {b : Bal} (hs : Pw ltB V) (hst : ∀ x ∈ V, standsL S x = true) (hb : standsL S b = true) (hp : PutIn V b V1) :
    (V1 = V ∧ b ∈ V) ∨ ((∀ y ∈ V, ¬ keyB y b) ∧ V1.length = V.length + 1 ∧ (∀ x, ¬ kindB x b → cntL V1 x = cntL V x) ∧ cntL V1 b = cntL V b + 1) := by
  obtain ⟨i, hc, ⟨⟨z, hz, hk⟩, rfl⟩ | ⟨hn, rfl⟩⟩ := hp
  · have e : z = b := stands_add (hst z (List.mem_of_getElem? hz)) hb hk
    subst e
    exact .inl ⟨rfl, List.mem_of_getElem? hz⟩
  · have hcnt : ∀ x, cntL (V.take i ++ b :: V.drop i) x = cntL V x + cntL [b] x := fun x => by
      unfold cntL
      conv => rhs; rw [← List.take_append_drop i V]
      simp only [List.countP_append, List.countP_cons, List.countP_nil]
      omega
    have h1 : ∀ x, ¬ kindB x b → cntL [b] x = 0 := fun x hx => by
      unfold cntL kindB at *
      simp only [List.countP_cons, List.countP_nil, Bool.and_eq_true, decide_eq_true_eq, beq_iff_eq]
      rw [if_neg fun h => hx ⟨h.1.symm, h.2.symm⟩]
    have h2 : cntL [b] b = 1 := by simp [cntL]
    refine .inr ⟨fun y hy => ?_, ?_, fun x hx => by rw [hcnt, h1 x hx]; rfl, by rw [hcnt, h2]⟩
    · rw [← List.take_append_drop i V] at hy
      rcases List.mem_append.1 hy with hy | hy
      · exact ltB_nkey (cut_mem_take hc hy)
      · exact fun k => ltB_nkey (drop_gt hc hs hn hy) k.symm
    · have := hc.1
      simp
      omega

theorem cnt_le_sub {V V' : List Bal} (h : V'.Sublist V) (x : Bal) : cntL V' x ≤ cntL V x := h.countP_le

/-- Where the vote has not won, all may be. -/
theorem put_right {S : List ByteArray} {V V1 : List Bal} {b : Bal} (hr : RightOk S V) (hb : standsL S b = true) (hp : PutIn V b V1) (hw : wonL S V1 b = false) : RightOk S V1 := by
  have hm := put_mem hr.stands hb hp
  refine RightOk.make hr.1 (fun x hx => ?_) (fun x hx => ?_) (put_pw hr.pw hp)
  · rcases (hm x).1 hx with e | e
    · subst e; exact hb
    · exact hr.stands x e
  · by_cases hk : kindB x b
    · rw [won_iff, kind_cnt hk, ← won_iff]; exact hw
    · rcases (hm x).1 hx with e | e
      · subst e; exact absurd ⟨rfl, rfl⟩ hk
      · have := hr.quiet x e
        rw [won_iff] at this ⊢
        rcases put_cnt hr.pw hr.stands hb hp with ⟨rfl, _⟩ | ⟨_, _, h, _⟩
        · exact this
        · rw [h x hk]; exact this

/-- The validators behind a vote that has won. -/
def SetBy (S : List ByteArray) (b : Bal) (S' : List ByteArray) : Prop :=
  Pw ltS S' ∧ (b.2.2 = true → (∀ x, x ∈ S' ↔ x = b.2.1 ∨ x ∈ S) ∧ S'.length = S.length + 1) ∧ (b.2.2 = false → (∀ x, x ∈ S' ↔ x ∈ S ∧ x ≠ b.2.1) ∧ S.length = S'.length + 1)

theorem set_by {S : List ByteArray} {b : Bal} (hs : Pw ltS S) (hb : standsL S b = true) {i : Nat} (hc : CutAt ltS S b.2.1 i) : (b.2.2 = true → SetBy S b (S.take i ++ b.2.1 :: S.drop i)) ∧ (b.2.2 = false → SetBy S b (S.take i ++ S.drop (i + 1))) := by
  obtain ⟨_, _, hm⟩ := stands_iff.1 hb
  have hT : ∀ x, x ∈ S ↔ x ∈ S.take i ∨ x ∈ S.drop i := fun x => by rw [← List.mem_append, List.take_append_drop]
  constructor
  · intro ha
    have hn : b.2.1 ∉ S := fun h => by have := hm.1 h; rw [ha] at this; cases this
    have hgt : ∀ y ∈ S.drop i, ltS b.2.1 y = true := fun y hy => by
      rcases ltS_tri b.2.1 y with e | e | e
      · exact e
      · exact absurd (by rw [e]; exact (List.drop_sublist _ _).mem hy) hn
      · rw [cut_mem_drop hc hy] at e; cases e
    refine ⟨?_, fun _ => ⟨fun x => ?_, ?_⟩, fun h => by rw [ha] at h; cases h⟩
    · refine List.pairwise_append.2 ⟨hs.sublist (List.take_sublist _ _), List.pairwise_cons.2 ⟨hgt, hs.sublist (List.drop_sublist _ _)⟩, fun x hx y hy => ?_⟩
      rcases List.mem_cons.1 hy with e | hy
      · subst e; exact cut_mem_take hc hx
      · exact ltS_trans (cut_mem_take hc hx) (hgt y hy)
    · rw [hT, List.mem_append, List.mem_cons]
      exact ⟨fun h => by rcases h with h | h | h <;> simp [h], fun h => by rcases h with h | h | h <;> simp [h]⟩
    · have := hc.1
      simp
      omega
  · intro ha
    have hin : b.2.1 ∈ S := hm.2 ha
    have h1 := set_cut hs hc hin
    have hlt := (List.getElem?_eq_some_iff.1 h1).1
    refine ⟨?_, fun h => (by rw [ha] at h; cases h), fun _ => ⟨fun x => ?_, ?_⟩⟩
    · rw [set_del hs hc hin]; exact hs.filter _
    · rw [set_del hs hc hin, List.mem_filter]; simp
    · simp; omega

theorem setBy_ok {S S' : List ByteArray} {b : Bal} (hs : SetOk S) (hb : standsL S b = true) (h : SetBy S b S') (h16 : b.2.2 = true → ¬ 16 ≤ S.length) (h1 : b.2.2 = false → ¬ S.length ≤ 1) : SetOk S' := by
  obtain ⟨_, hz, _⟩ := stands_iff.1 hb
  have hsz : ∀ x ∈ S, x.size = 20 := fun x hx => by
    obtain ⟨j, hj⟩ := List.getElem?_of_mem hx
    exact hs.1 j x hj
  obtain ⟨p, ht, hf⟩ := h
  cases hb3 : b.2.2
  · obtain ⟨hm, hn⟩ := hf hb3
    have := h1 hb3
    have := hs.2.2.2
    exact ⟨fun j x hx => hsz x ((hm x).1 (List.mem_of_getElem? hx)).1, pw_adj p, by omega, by omega⟩
  · obtain ⟨hm, hn⟩ := ht hb3
    have := h16 hb3
    refine ⟨fun j x hx => ?_, pw_adj p, by omega, by omega⟩
    rcases (hm x).1 (List.mem_of_getElem? hx) with e | e
    · subst e; exact hz
    · exact hsz x e

theorem leftL_sub (V : List Bal) (b : Bal) : (leftL V b).Sublist V := List.filter_sublist
theorem stayL_sub (S : List ByteArray) (l : List Bal) (b : Bal) : (stayL S l b).Sublist l := List.filter_sublist
theorem mem_leftL {V : List Bal} {b x : Bal} : x ∈ leftL V b ↔ x ∈ V ∧ x.2.1 ≠ b.2.1 ∧ (b.2.2 = false → x.1 ≠ b.2.1) := by
  unfold leftL goneL
  rw [List.mem_filter]
  cases b.2.2 <;> simp

theorem won_right {S S' : List ByteArray} {V V1 V' : List Bal} {b : Bal} (hr : RightOk S V) (hf : ¬ Refused S b) (hp : PutIn V b V1) (hS : SetBy S b S') (hV : V' = stayL S' (leftL V1 b) b) : RightOk S' V' := by
  have hb := stands_of hf
  have hm := put_mem hr.stands hb hp
  have hsub : V'.Sublist V1 := by rw [hV]; exact (stayL_sub _ _ _).trans (leftL_sub _ _)
  have hin : ∀ x ∈ V', x ∈ V ∧ x.2.1 ≠ b.2.1 ∧ (b.2.2 = false → x.1 ≠ b.2.1) := fun x hx => by
    have h1 : x ∈ leftL V1 b := by rw [hV] at hx; exact (stayL_sub _ _ _).mem hx
    obtain ⟨h2, h3, h4⟩ := mem_leftL.1 h1
    rcases (hm x).1 h2 with e | e
    · exact absurd (by rw [e]) h3
    · exact ⟨e, h3, h4⟩
  have hmS : ∀ x, x ≠ b.2.1 → (x ∈ S' ↔ x ∈ S) := fun x hx => by
    cases hb3 : b.2.2
    · rw [(hS.2.2 hb3).1]; simp [hx]
    · rw [(hS.2.1 hb3).1]; simp [hx]
  refine RightOk.make (setBy_ok hr.1 hb hS (fun h h2 => hf (.inr (.inl ⟨h, h2⟩))) (fun h h2 => hf (.inr (.inr ⟨h, h2⟩)))) (fun x hx => ?_) (fun x hx => ?_) ((put_pw hr.pw hp).sublist hsub)
  · obtain ⟨h1, h2, h3⟩ := hin x hx
    obtain ⟨g1, g2, g3⟩ := stands_iff.1 (hr.stands x h1)
    refine stands_iff.2 ⟨?_, g2, by rw [hmS _ h2]; exact g3⟩
    cases hb3 : b.2.2
    · exact ((hS.2.2 hb3).1 _).2 ⟨g1, h3 hb3⟩
    · exact ((hS.2.1 hb3).1 _).2 (.inr g1)
  · obtain ⟨h1, h2, h3⟩ := hin x hx
    rw [won_iff]
    cases hb3 : b.2.2
    · have hx2 : wonL S' (leftL V1 b) x = false := by
        rw [hV] at hx
        have := (List.mem_filter.1 hx).2
        rw [hb3] at this
        simpa using this
      rw [won_iff] at hx2
      have := cnt_le_sub (stayL_sub S' (leftL V1 b) b) x
      rw [hV]
      omega
    · have hk : ¬ kindB x b := fun h => h2 h.1
      have h4 := cnt_le_sub hsub x
      have h5 := won_iff.1 (hr.quiet x h1)
      have h6 := (hS.2.1 hb3).2
      have h7 : cntL V1 x = cntL V x := by
        rcases put_cnt hr.pw hr.stands hb hp with ⟨rfl, _⟩ | ⟨_, _, h, _⟩
        · rfl
        · exact h x hk
      omega

/-- What a cast that is taken is. -/
def Taken (S : List ByteArray) (V : List Bal) (b : Bal) (S' : List ByteArray) (V' : List Bal) : Prop :=
  RightOk S V ∧ ¬ Refused S b ∧ ∃ V1, PutIn V b V1 ∧ ((wonL S V1 b = false ∧ S' = S ∧ V' = V1) ∨ (wonL S V1 b = true ∧ SetBy S b S' ∧ S' = setToL S b.2.1 b.2.2 ∧ V' = stayL S' (leftL V1 b) b))
theorem CastRel.cases {S S' : List ByteArray} {V V' : List Bal} {b : Bal} {c : Int} (h : CastRel S V b S' V' c) : (¬ RightOk S V ∧ S' = [] ∧ V' = [] ∧ c = 1) ∨ (RightOk S V ∧ Refused S b ∧ S' = [] ∧ V' = [] ∧ c = 44) ∨ (c = 0 ∧ Taken S V b S' V') := by
  rcases h with h | h | ⟨h1, h2, h3, V1, hp, h4⟩
  · exact .inl h
  · exact .inr (.inl h)
  · refine .inr (.inr ⟨h3, h1, h2, V1, hp, ?_⟩)
    rcases h4 with h4 | ⟨hw, i, hc, h4⟩
    · exact .inl h4
    · have hb := stands_of h2
      have hsb := set_by h1.spw hb hc
      obtain ⟨_, _, hm⟩ := stands_iff.1 hb
      rcases h4 with ⟨hb3, rfl, rfl⟩ | ⟨hb3, rfl, rfl⟩
      · refine .inr ⟨hw, hsb.1 hb3, ?_, ?_⟩
        · rw [hb3]; exact set_add h1.spw hc fun h => by have := hm.1 h; rw [hb3] at this; cases this
        · unfold stayL leftL; rw [hb3]; simp
      · refine .inr ⟨hw, hsb.2 hb3, ?_, ?_⟩
        · rw [hb3, set_rem]; exact set_del h1.spw hc (hm.2 hb3)
        · unfold stayL leftL; rw [hb3]; simp
theorem Taken.right {S S' : List ByteArray} {V V' : List Bal} {b : Bal} (h : Taken S V b S' V') : RightOk S' V' := by
  obtain ⟨hr, hf, V1, hp, ⟨hw, rfl, rfl⟩ | ⟨hw, hS, _, hV⟩⟩ := h
  · exact put_right hr (stands_of hf) hp hw
  · exact won_right hr hf hp hS hV

theorem cast_same {S S1 S2 : List ByteArray} {V V1 V2 : List Bal} {b : Bal} {c1 c2 : Int} (h1 : CastRel S V b S1 V1 c1) (h2 : RCastRel S V b S2 V2 c2) : S1 = S2 ∧ V1 = V2 ∧ c1 = c2 := by
  rcases h1.cases with ⟨a1, rfl, rfl, rfl⟩ | ⟨a1, a2, rfl, rfl, rfl⟩ | ⟨rfl, a1, a2, W, hp, a3⟩
  · rcases h2 with ⟨_, rfl, rfl, rfl⟩ | ⟨b1, _⟩ | ⟨b1, _⟩
    · exact ⟨rfl, rfl, rfl⟩
    · exact absurd b1 a1
    · exact absurd b1 a1
  · rcases h2 with ⟨b1, _⟩ | ⟨_, _, rfl, rfl, rfl⟩ | ⟨_, b2, _⟩
    · exact absurd a1 b1
    · exact ⟨rfl, rfl, rfl⟩
    · exact absurd a2 b2
  · rcases h2 with ⟨b1, _⟩ | ⟨_, b2, _⟩ | ⟨_, _, rfl, b3⟩
    · exact absurd a1 b1
    · exact absurd b2 a2
    · have e := put_eq a1.pw a1.stands (stands_of a2) hp
      rw [← e] at b3
      rcases a3 with ⟨w1, rfl, rfl⟩ | ⟨w1, _, rfl, rfl⟩
      · rcases b3 with ⟨_, rfl, rfl⟩ | ⟨w2, _⟩
        · exact ⟨rfl, rfl, rfl⟩
        · rw [w1] at w2; cases w2
      · rcases b3 with ⟨w2, _⟩ | ⟨_, rfl, rfl⟩
        · rw [w1] at w2; cases w2
        · exact ⟨rfl, rfl, rfl⟩
end Go.Proofs.Ythipnbiilobjeaa

namespace Go.Proofs.Ythipnbiilobjeaa
open Go.RowKit

/-- How many others have voted so. -/
def hadL (V : List Bal) (b : Bal) : Nat := V.countP fun x => (decide (x.2.1 = b.2.1) && (x.2.2 == b.2.2)) && decide (x.1 ≠ b.1)
theorem had_none {b : Bal} : ∀ {l : List Bal}, (∀ y ∈ l, ¬ keyB y b) → hadL l b = cntL l b := fun {l} h => by
  unfold hadL cntL
  refine List.countP_congr fun y hy => ?_
  have := h y hy
  unfold keyB at this
  by_cases e : y.2.1 = b.2.1
  · have : y.1 ≠ b.1 := fun e2 => this ⟨e, e2⟩
    simp [e, this]
  · simp [e]
theorem had_put {S : List ByteArray} {V V1 : List Bal} {b : Bal} (hs : Pw ltB V) (hst : ∀ x ∈ V, standsL S x = true) (hb : standsL S b = true) (hp : PutIn V b V1) : cntL V1 b = hadL V b + 1 := by
  rcases put_cnt hs hst hb hp with ⟨rfl, hm⟩ | ⟨hn, _, _, h⟩
  · obtain ⟨l, m, rfl⟩ := List.append_of_mem hm
    obtain ⟨q1, q2, q3⟩ := List.pairwise_append.1 hs
    obtain ⟨q4, _⟩ := List.pairwise_cons.1 q2
    have h1 : hadL l b = cntL l b := had_none fun y hy => ltB_nkey (q3 y hy b (List.mem_cons_self ..))
    have h2 : hadL m b = cntL m b := had_none fun y hy k => ltB_nkey (q4 y hy) k.symm
    unfold hadL cntL at *
    simp only [List.countP_append, List.countP_cons, h1, h2]
    simp
    omega
  · rw [h, had_none hn]
theorem cnt_put {S : List ByteArray} {V V1 : List Bal} {b : Bal} (hs : Pw ltB V) (hst : ∀ x ∈ V, standsL S x = true) (hb : standsL S b = true) (hp : PutIn V b V1) : (b ∈ V → cntL V1 b = cntL V b ∧ V1 = V) ∧ (b ∉ V → cntL V1 b = cntL V b + 1) := by
  rcases put_cnt hs hst hb hp with ⟨rfl, hm⟩ | ⟨hn, _, _, h⟩
  · exact ⟨fun _ => ⟨rfl, rfl⟩, fun h => absurd hm h⟩
  · exact ⟨fun h => absurd ⟨rfl, rfl⟩ (hn b h), fun _ => h⟩

theorem setBy_len {S S' : List ByteArray} {b : Bal} (h : SetBy S b S') : (b.2.2 = true ∧ S'.length = S.length + 1) ∨ (b.2.2 = false ∧ S.length = S'.length + 1) := by
  cases hb : b.2.2
  · exact .inr ⟨rfl, (h.2.2 hb).2⟩
  · exact .inl ⟨rfl, (h.2.1 hb).2⟩
theorem setBy_has {S S' : List ByteArray} {b : Bal} (h : SetBy S b S') : hasL S' b.2.1 = b.2.2 := by
  cases hb : b.2.2
  · exact hasL_false fun e => ((((h.2.2 hb).1 _).1 e).2) rfl
  · exact hasL_true (((h.2.1 hb).1 _).2 (.inl rfl))

theorem taken_len {S S' : List ByteArray} {V V' : List Bal} {b : Bal} (h : Taken S V b S' V') : V'.length ≤ V.length + 1 := by
  obtain ⟨hr, hf, V1, hp, h⟩ := h
  have h1 : V1.length ≤ V.length + 1 := by
    rcases put_cnt hr.pw hr.stands (stands_of hf) hp with ⟨rfl, _⟩ | ⟨_, h, _⟩ <;> omega
  rcases h with ⟨_, _, rfl⟩ | ⟨_, _, _, rfl⟩
  · exact h1
  · exact Nat.le_trans (Nat.le_trans (stayL_sub _ _ _).length_le (leftL_sub _ _).length_le) h1

/-- VoteKeeps, of one cast. -/
theorem taken_keeps {S S' : List ByteArray} {V V' : List Bal} {b : Bal} (h : Taken S V b S' V') : 1 ≤ S'.length ∧ S'.length ≤ S.length + 1 ∧ S.length ≤ S'.length + 1 ∧ (S.length ≠ S'.length ↔ S.length < 2 * (hadL V b + 1)) ∧ (S.length ≠ S'.length → hasL S' b.2.1 = b.2.2) := by
  have hr' := h.right
  obtain ⟨hr, hf, V1, hp, h⟩ := h
  have hh := had_put hr.pw hr.stands (stands_of hf) hp
  have h1 := hr'.1.2.2.1
  rcases h with ⟨hw, rfl, _⟩ | ⟨hw, hS, _, _⟩
  · rw [won_iff, hh] at hw
    exact ⟨h1, by omega, by omega, by omega, fun h => absurd rfl h⟩
  · have hw' : S.length < 2 * cntL V1 b := by unfold wonL at hw; simpa using hw
    rw [hh] at hw'
    have := setBy_len hS
    exact ⟨h1, by omega, by omega, by omega, fun _ => setBy_has hS⟩

/-- VoteAgain. -/
theorem taken_again {S S' S2 : List ByteArray} {V V' V2 : List Bal} {b : Bal} {c : Int} (h : Taken S V b S' V') (h2 : CastRel S' V' b S2 V2 c) :
    (S'.length ≠ S.length ∧ c = 44 ∧ S2 = [] ∧ V2 = []) ∨ (S'.length = S.length ∧ c = 0 ∧ S2 = S' ∧ V2 = V' ∧ S' = S ∧ 1 ≤ cntL V' b) := by
  have hr' := h.right
  obtain ⟨hr, hf, V1, hp, h⟩ := h
  have hb := stands_of hf
  rcases h with ⟨hw, rfl, rfl⟩ | ⟨hw, hS, _, _⟩
  · refine .inr ⟨rfl, ?_⟩
    have hin : b ∈ V' := (put_mem hr.stands hb hp b).2 (.inl rfl)
    rcases h2.cases with ⟨h, _⟩ | ⟨_, h, _⟩ | ⟨rfl, _, _, W, hp2, h⟩
    · exact absurd hr' h
    · exact absurd h hf
    · obtain rfl := ((cnt_put hr'.pw hr'.stands hb hp2).1 hin).2
      rcases h with ⟨_, rfl, rfl⟩ | ⟨h, _⟩
      · exact ⟨rfl, rfl, rfl, rfl, by rw [had_put hr.pw hr.stands hb hp]; omega⟩
      · rw [hw] at h; cases h
  · have hl := setBy_len hS
    refine .inl ⟨by omega, ?_⟩
    have hno : Refused S' b := .inl (by
      have := setBy_has hS
      cases e : standsL S' b
      · rfl
      · unfold standsL at e
        simp only [Bool.and_eq_true, beq_iff_eq] at e
        rw [this] at e
        cases hb3 : b.2.2 <;> rw [hb3] at e <;> simp at e)
    rcases h2.cases with ⟨h, _⟩ | ⟨_, _, rfl, rfl, rfl⟩ | ⟨rfl, _, h, _⟩
    · exact absurd hr' h
    · exact ⟨rfl, rfl, rfl⟩
    · exact absurd hno h

/-- VoteOrder. -/
theorem taken_step {S S2 : List ByteArray} {V Va Vb V2 : List Bal} {a b : Bal} {c : Int} (hr : RightOk S V) (hfa : ¬ Refused S a) (hfb : ¬ Refused S b) (hpa : PutIn V a Va) (hpb : PutIn V b Vb) (hwa : wonL S Va a = false) (hwb : wonL S Vb b = false)
    (hab : a.2.1 ≠ b.2.1) (h : CastRel S Va b S2 V2 c) : c = 0 ∧ S2 = S ∧ Pw ltB V2 ∧ ∀ x, x ∈ V2 ↔ x = b ∨ x = a ∨ x ∈ V := by
  have hsa := stands_of hfa
  have hsb := stands_of hfb
  have hra := put_right hr hsa hpa hwa
  rcases h.cases with ⟨h, _⟩ | ⟨_, h, _⟩ | ⟨rfl, _, _, W, hpw, h⟩
  · exact absurd hra h
  · exact absurd h hfb
  · have hk : ¬ kindB b a := fun h => hab h.1.symm
    have h1 : cntL Va b = cntL V b := by
      rcases put_cnt hr.pw hr.stands hsa hpa with ⟨rfl, _⟩ | ⟨_, _, h, _⟩
      · rfl
      · exact h b hk
    have hmem : b ∈ Va ↔ b ∈ V := by
      rw [put_mem hr.stands hsa hpa]
      exact ⟨fun h => by rcases h with e | h; exact absurd (by rw [e]) hab.symm; exact h, .inr⟩
    have hcW : cntL W b = cntL Vb b := by
      by_cases hm : b ∈ V
      · rw [((cnt_put hra.pw hra.stands hsb hpw).1 (hmem.2 hm)).1, ((cnt_put hr.pw hr.stands hsb hpb).1 hm).1, h1]
      · rw [(cnt_put hra.pw hra.stands hsb hpw).2 (fun h => hm (hmem.1 h)), (cnt_put hr.pw hr.stands hsb hpb).2 hm, h1]
    have hwW : wonL S W b = false := by rw [won_iff, hcW, ← won_iff]; exact hwb
    rcases h with ⟨_, rfl, rfl⟩ | ⟨h, _⟩
    · refine ⟨rfl, rfl, put_pw hra.pw hpw, fun x => ?_⟩
      rw [put_mem hra.stands hsb hpw, put_mem hr.stands hsa hpa]
    · rw [hwW] at h; cases h
theorem taken_order {S X Y Sxy Syx : List ByteArray} {V VX VY Vxy Vyx : List Bal} {a b : Bal} {g h : Int} (ha : Taken S V a X VX) (hb : Taken S V b Y VY) (hab : a.2.1 ≠ b.2.1) (hX : X.length = S.length) (hY : Y.length = S.length)
    (hg : CastRel X VX b Sxy Vxy g) (hh : CastRel Y VY a Syx Vyx h) : g = 0 ∧ h = 0 ∧ Sxy = Syx ∧ Vxy = Vyx := by
  obtain ⟨hr, hfa, Va, hpa, ha⟩ := ha
  obtain ⟨_, hfb, Vb, hpb, hb⟩ := hb
  rcases ha with ⟨hwa, rfl, rfl⟩ | ⟨_, hS, _⟩
  · rcases hb with ⟨hwb, rfl, rfl⟩ | ⟨_, hS, _⟩
    · obtain ⟨e1, e2, e3, e4⟩ := taken_step hr hfa hfb hpa hpb hwa hwb hab hg
      obtain ⟨f1, f2, f3, f4⟩ := taken_step hr hfb hfa hpb hpa hwb hwa (Ne.symm hab) hh
      refine ⟨e1, f1, by rw [e2, f2], pw_ext (@ltB_asym) (@ltB_irr) e3 f3 fun x => ?_⟩
      rw [e4, f4]
      exact ⟨fun h => by rcases h with h | h | h <;> simp [h], fun h => by rcases h with h | h | h <;> simp [h]⟩
    · have := setBy_len hS; omega
  · have := setBy_len hS; omega

/-- One validator lets another one in. -/
theorem alive_cast {A B : ByteArray} (hA : A.size = 20) (hB : B.size = 20) (hne : A ≠ B) {S2 : List ByteArray} {V2 : List Bal} {c : Int} (h : CastRel [A] [] (A, B, true) S2 V2 c) : c = 0 ∧ S2.length = 2 ∧ V2 = [] ∧ RightOk S2 V2 := by
  have hr : RightOk [A] [] := by
    refine RightOk.make ⟨fun j x hx => ?_, fun j x y hx hy => ?_, by simp, by simp⟩ (by simp) (by simp) List.Pairwise.nil
    · cases j with
      | zero => simp at hx; subst hx; exact hA
      | succ j => simp at hx
    · simp at hy
  have hs : standsL [A] (A, B, true) = true := stands_iff.2 ⟨by simp, hB, by simp [Ne.symm hne]⟩
  have hf : ¬ Refused [A] (A, B, true) := fun h => by
    rcases h with h | ⟨_, h⟩ | ⟨h, _⟩
    · rw [hs] at h; cases h
    · simp at h
    · cases h
  rcases h.cases with ⟨h, _⟩ | ⟨_, h, _⟩ | ⟨rfl, ht⟩
  · exact absurd hr h
  · exact absurd h hf
  · have hr2 := ht.right
    obtain ⟨_, _, V1, hp, h⟩ := ht
    have hc := (cnt_put hr.pw hr.stands hs hp).2 (by simp)
    have hw : wonL [A] V1 (A, B, true) = true := by unfold wonL; rw [hc]; simp [cntL]
    rcases h with ⟨h, _⟩ | ⟨_, hS, _, hV⟩
    · rw [hw] at h; cases h
    · refine ⟨rfl, (hS.2.1 rfl).2, ?_, hr2⟩
      have : ∀ x, x ∉ V2 := fun x hx => by
        rw [hV] at hx
        obtain ⟨h1, h2, _⟩ := mem_leftL.1 ((stayL_sub _ _ _).mem hx)
        rcases (put_mem hr.stands hs hp x).1 h1 with e | e
        · subst e; exact h2 rfl
        · cases e
      exact List.eq_nil_iff_forall_not_mem.2 this
end Go.Proofs.Ythipnbiilobjeaa
