/- Vote, the plain side: what a cast makes, and that the two Casts are one. -/
import Derived.Test.YtlljpnbajgcidaaVo22
namespace Go.Proofs.Ytlljpnbajgcidaa
open Go.RowKit

section
variable {α : Type} {lt : α → α → Bool}
abbrev Pw (lt : α → α → Bool) (V : List α) : Prop := V.Pairwise fun x y => lt x y = true
theorem SortedBy.pw {V : List α} (h : SortedBy lt V) : Pw lt V := List.pairwise_iff_getElem.2 fun i j hi hj hij => h i j _ _ hij (List.getElem?_eq_getElem hi) (List.getElem?_eq_getElem hj)
theorem pw_adj {V : List α} (h : Pw lt V) : ∀ (j : Nat) x y, V[j]? = some x → V[j + 1]? = some y → lt x y = true := fun j x y hx hy => by
  obtain ⟨h1, rfl⟩ := List.getElem?_eq_some_iff.1 hx
  obtain ⟨h2, rfl⟩ := List.getElem?_eq_some_iff.1 hy
  exact List.pairwise_iff_getElem.1 h j (j + 1) h1 h2 (by omega)
theorem pw_ext (ha : ∀ {a b : α}, lt a b = true → lt b a = false) (hi : ∀ a : α, lt a a = false) : ∀ {l m : List α}, Pw lt l → Pw lt m → (∀ x, x ∈ l ↔ x ∈ m) → l = m
  | [], [], _, _, _ => rfl
  | [], y :: m, _, _, h => absurd ((h y).2 (List.mem_cons_self ..)) (by simp)
  | x :: l, [], _, _, h => absurd ((h x).1 (List.mem_cons_self ..)) (by simp)
  | x :: l, y :: m, h1, h2, h => by
    obtain ⟨p1, p2⟩ := List.pairwise_cons.1 h1
    obtain ⟨q1, q2⟩ := List.pairwise_cons.1 h2
    have e : x = y := by
      rcases List.mem_cons.1 ((h x).1 (List.mem_cons_self ..)) with e | e
      · exact e
      · rcases List.mem_cons.1 ((h y).2 (List.mem_cons_self ..)) with f | f
        · exact f.symm
        · have := ha (q1 x e); rw [p1 y f] at this; cases this
    subst e
    congr 1
    refine pw_ext ha hi p2 q2 fun z => ⟨fun hz => ?_, fun hz => ?_⟩
    · rcases List.mem_cons.1 ((h z).1 (List.mem_cons_of_mem _ hz)) with e | e
      · subst e; have := p1 z hz; rw [hi] at this; cases this
      · exact e
    · rcases List.mem_cons.1 ((h z).2 (List.mem_cons_of_mem _ hz)) with e | e
      · subst e; have := q1 z hz; rw [hi] at this; cases this
      · exact e

theorem cut_mem_take {V : List α} {b : α} {i : Nat} (h : CutAt lt V b i) {x : α} (hx : x ∈ V.take i) : lt x b = true := by
  rw [cut_take h] at hx; exact (List.mem_filter.1 hx).2
theorem cut_mem_drop {V : List α} {b : α} {i : Nat} (h : CutAt lt V b i) {x : α} (hx : x ∈ V.drop i) : lt x b = false := by
  rw [cut_drop h] at hx; simpa using (List.mem_filter.1 hx).2
end

theorem stands_add {S : List ByteArray} {x b : Bal} (hx : standsL S x = true) (hb : standsL S b = true) (k : keyB x b) : x = b := by
  obtain ⟨x1, x2, x3⟩ := x
  obtain ⟨b1, b2, b3⟩ := b
  obtain ⟨k1, k2⟩ := k
  simp only at k1 k2
  subst k1 k2
  unfold standsL at hx hb
  simp only [Bool.and_eq_true, beq_iff_eq] at hx hb
  have := hx.2.symm.trans hb.2
  simp only [Bool.not_eq_eq_eq_not, Bool.not_not] at this
  rw [this]

/-- Behind the cut all stand behind the vote, where none stands at its place. -/
theorem drop_gt {V : List Bal} {b : Bal} {i : Nat} (h : CutAt ltB V b i) (hs : Pw ltB V) (hn : ¬ FoundB V b i) {y : Bal} (hy : y ∈ V.drop i) : ltB b y = true := by
  have hl := cut_mem_drop h hy
  rcases ltB_tri b y with e | e | e
  · exact e
  · obtain ⟨j, hj⟩ := List.getElem?_of_mem hy
    rw [List.getElem?_drop] at hj
    cases j with
    | zero => exact absurd ⟨y, hj, e.symm⟩ hn
    | succ j =>
      have hlt := (List.getElem?_eq_some_iff.1 hj).1
      have hz := List.getElem?_eq_getElem (show i < V.length by omega)
      have hzy : ltB V[i] y = true := by
        obtain ⟨h2, rfl⟩ := List.getElem?_eq_some_iff.1 hj
        exact List.pairwise_iff_getElem.1 hs i _ (by omega) h2 (by omega)
      have := h.2.2 i _ hz (Nat.le_refl _)
      rw [ltB_key hzy e.symm] at this
      cases this
  · rw [e] at hl; cases hl

theorem put_pw {V V1 : List Bal} {b : Bal} (hs : Pw ltB V) (hp : PutIn V b V1) : Pw ltB V1 := by
  obtain ⟨i, hc, ⟨_, rfl⟩ | ⟨hn, rfl⟩⟩ := hp
  · exact hs
  · have h1 : Pw ltB (V.take i) := hs.sublist (List.take_sublist _ _)
    have h2 : Pw ltB (V.drop i) := hs.sublist (List.drop_sublist _ _)
    refine List.pairwise_append.2 ⟨h1, List.pairwise_cons.2 ⟨fun y hy => drop_gt hc hs hn hy, h2⟩, fun x hx y hy => ?_⟩
    rcases List.mem_cons.1 hy with e | hy
    · subst e; exact cut_mem_take hc hx
    · exact ltB_trans (cut_mem_take hc hx) (drop_gt hc hs hn hy)

theorem put_mem {S : List ByteArray} {V V1 : List Bal} {b : Bal} (hst : ∀ x ∈ V, standsL S x = true) (hb : standsL S b = true) (hp : PutIn V b V1) (x : Bal) : x ∈ V1 ↔ x = b ∨ x ∈ V := by
  obtain ⟨i, hc, ⟨⟨z, hz, hk⟩, rfl⟩ | ⟨hn, rfl⟩⟩ := hp
  · have e : z = b := stands_add (hst z (List.mem_of_getElem? hz)) hb hk
    subst e
    exact ⟨.inr, fun h => by rcases h with rfl | h; exact List.mem_of_getElem? hz; exact h⟩
  · have : x ∈ V ↔ x ∈ V.take i ∨ x ∈ V.drop i := by rw [← List.mem_append, List.take_append_drop]
    rw [this, List.mem_append, List.mem_cons]
    exact ⟨fun h => by rcases h with h | h | h <;> simp [h], fun h => by rcases h with h | h | h <;> simp [h]⟩

theorem fold_lt (b : Bal) : ∀ (l o : List Bal), (∀ x ∈ l, ltB x b = true) → l.foldl (putS b) (o, false) = (o ++ l, false)
  | [], o, _ => by simp
  | x :: l, o, h => by
    have hx := h x (List.mem_cons_self ..)
    have hk : (decide (x.2.1 ≠ b.2.1) || decide (x.1 ≠ b.1)) = true := by
      have := ltB_nkey hx
      simp only [Bool.or_eq_true, decide_eq_true_eq, keyB] at this ⊢
      by_cases e : x.2.1 = b.2.1
      · exact .inr fun e2 => this ⟨e, e2⟩
      · exact .inl e
    rw [List.foldl_cons, show putS b (o, false) x = (o ++ [x], false) from by simp only [putS, hx, hk]; simp, fold_lt b l _ fun y hy => h y (List.mem_cons_of_mem _ hy)]
    simp
theorem fold_done (b : Bal) : ∀ (l o : List Bal), (∀ x ∈ l, ¬ keyB x b) → l.foldl (putS b) (o, true) = (o ++ l, true)
  | [], o, _ => by simp
  | x :: l, o, h => by
    have hk : (decide (x.2.1 ≠ b.2.1) || decide (x.1 ≠ b.1)) = true := by
      have := h x (List.mem_cons_self ..)
      simp only [Bool.or_eq_true, decide_eq_true_eq, keyB] at this ⊢
      by_cases e : x.2.1 = b.2.1
      · exact .inr fun e2 => this ⟨e, e2⟩
      · exact .inl e
    rw [List.foldl_cons, show putS b (o, true) x = (o ++ [x], true) from by simp only [putS, hk]; simp, fold_done b l _ fun y hy => h y (List.mem_cons_of_mem _ hy)]
    simp

theorem put_eq {S : List ByteArray} {V V1 : List Bal} {b : Bal} (hs : Pw ltB V) (hst : ∀ x ∈ V, standsL S x = true) (hb : standsL S b = true) (hp : PutIn V b V1) : V1 = putL V b := by
  obtain ⟨i, hc, hp⟩ := hp
  have e0 : V.foldl (putS b) ([], false) = (V.drop i).foldl (putS b) (V.take i, false) := by
    conv => lhs; rw [← List.take_append_drop i V, List.foldl_append, fold_lt b _ _ fun x hx => cut_mem_take hc hx]
    simp
  have h2 : Pw ltB (V.drop i) := hs.sublist (List.drop_sublist _ _)
  have hm : ∀ x ∈ V.drop i, ltB x b = false := fun x hx => cut_mem_drop hc hx
  have hV : V = V.take i ++ V.drop i := (List.take_append_drop i V).symm
  have hi0 : V[i]? = (V.drop i)[0]? := by simp
  unfold putL
  rw [e0]
  rcases hD : V.drop i with _ | ⟨x, r⟩
  · rw [hD] at hi0 hV
    rcases hp with ⟨⟨z, hz, _⟩, _⟩ | ⟨_, rfl⟩
    · rw [hi0] at hz; cases hz
    · rw [hD]; simp
  · rw [hD] at h2 hm hi0 hV
    have hx := hm x (List.mem_cons_self ..)
    obtain ⟨p1, _⟩ := List.pairwise_cons.1 h2
    have hr : ∀ y ∈ r, ¬ keyB y b := fun y hy k => by
      have := ltB_key (p1 y hy) k
      rw [hx] at this; cases this
    rcases hp with ⟨⟨z, hz, hk⟩, rfl⟩ | ⟨hn, rfl⟩
    · rw [hi0] at hz
      simp only [List.getElem?_cons_zero, Option.some.injEq] at hz
      subst hz
      have e : x = b := stands_add (hst x (by rw [hV]; simp)) hb hk
      subst e
      rw [List.foldl_cons, show putS x (V1.take i, false) x = (V1.take i ++ [x], true) from by simp [putS, ltB_irr], fold_done x r _ hr]
      conv => lhs; rw [hV]
      simp
    · have hk : ¬ keyB x b := fun k => hn ⟨x, by rw [hi0]; rfl, k⟩
      have hk' : (decide (x.2.1 ≠ b.2.1) || decide (x.1 ≠ b.1)) = true := by
        simp only [Bool.or_eq_true, decide_eq_true_eq, keyB] at hk ⊢
        by_cases e : x.2.1 = b.2.1
        · exact .inr fun e2 => hk ⟨e, e2⟩
        · exact .inl e
      rw [List.foldl_cons, show putS b (V.take i, false) x = (V.take i ++ [b] ++ [x], true) from by simp only [putS, hx, hk']; simp, fold_done b r _ hr, hD]
      simp

/-- The validators with one more, and without one. -/
theorem sfold_lt (a : ByteArray) : ∀ (l o : List ByteArray), (∀ x ∈ l, ltS x a = true) → l.foldl (setS a) (o, false) = (o ++ l, false)
  | [], o, _ => by simp
  | x :: l, o, h => by
    have hx := h x (List.mem_cons_self ..)
    rw [List.foldl_cons, show setS a (o, false) x = (o ++ [x], false) from by simp only [setS, ltS_asym hx]; simp [ltS_ne hx], sfold_lt a l _ fun y hy => h y (List.mem_cons_of_mem _ hy)]
    simp
theorem sfold_done (a : ByteArray) : ∀ (l o : List ByteArray), l.foldl (setS a) (o, true) = (o ++ l.filter (fun x => decide (x ≠ a)), true)
  | [], o => by simp
  | x :: l, o => by
    rw [List.foldl_cons, show setS a (o, true) x = (o ++ (if decide (x ≠ a) then [x] else []), true) from by simp only [setS]; simp, sfold_done a l _, List.filter_cons]
    split <;> simp

theorem set_add {S : List ByteArray} {a : ByteArray} {i : Nat} (hs : Pw ltS S) (hc : CutAt ltS S a i) (hn : a ∉ S) : S.take i ++ a :: S.drop i = setToL S a true := by
  have e0 : S.foldl (setS a) ([], false) = (S.drop i).foldl (setS a) (S.take i, false) := by
    conv => lhs; rw [← List.take_append_drop i S, List.foldl_append, sfold_lt a _ _ fun x hx => cut_mem_take hc hx]
    simp
  have hV : S = S.take i ++ S.drop i := (List.take_append_drop i S).symm
  have hm : ∀ x ∈ S.drop i, ltS x a = false := fun x hx => cut_mem_drop hc hx
  unfold setToL
  simp only [Bool.not_true]
  rw [e0]
  rcases hD : S.drop i with _ | ⟨x, r⟩
  · simp
  · rw [hD] at hm hV
    have hne : ∀ y ∈ x :: r, y ≠ a := fun y hy e => hn (by rw [hV, ← e]; exact List.mem_append.2 (.inr hy))
    have hx : ltS a x = true := by
      rcases ltS_tri a x with e | e | e
      · exact e
      · exact absurd e.symm (hne x (List.mem_cons_self ..))
      · rw [hm x (List.mem_cons_self ..)] at e; cases e
    rw [List.foldl_cons, show setS a (S.take i, false) x = (S.take i ++ [a] ++ [x], true) from by simp only [setS, hx]; simp [hne x (List.mem_cons_self ..)], sfold_done]
    have : r.filter (fun x => decide (x ≠ a)) = r := List.filter_eq_self.2 fun y hy => by simpa using hne y (List.mem_cons_of_mem _ hy)
    rw [this]
    simp

theorem set_cut {S : List ByteArray} {a : ByteArray} {i : Nat} (hs : Pw ltS S) (hc : CutAt ltS S a i) (hm : a ∈ S) : S[i]? = some a := by
  obtain ⟨j, hj⟩ := List.getElem?_of_mem hm
  have hlt := (List.getElem?_eq_some_iff.1 hj).1
  by_cases e1 : j < i
  · have := hc.2.1 j a hj e1; rw [ltS_irr] at this; cases this
  · by_cases e2 : j = i
    · subst e2; exact hj
    · have hz := List.getElem?_eq_getElem (show i < S.length by omega)
      have h1 := hc.2.2 i _ hz (Nat.le_refl _)
      obtain ⟨h2, rfl⟩ := List.getElem?_eq_some_iff.1 hj
      have := List.pairwise_iff_getElem.1 hs i j (by omega) h2 (by omega)
      rw [h1] at this; cases this
theorem set_del {S : List ByteArray} {a : ByteArray} {i : Nat} (hs : Pw ltS S) (hc : CutAt ltS S a i) (hm : a ∈ S) : S.take i ++ S.drop (i + 1) = S.filter (fun x => decide (x ≠ a)) := by
  have h1 := set_cut hs hc hm
  obtain ⟨hlt, h2⟩ := List.getElem?_eq_some_iff.1 h1
  have hV : S = S.take i ++ (a :: S.drop (i + 1)) := by
    conv => lhs; rw [← List.take_append_drop i S, List.drop_eq_getElem_cons hlt, h2]
  have hs2 := hs
  rw [hV] at hs2
  obtain ⟨q1, q2, q3⟩ := List.pairwise_append.1 hs2
  obtain ⟨q4, _⟩ := List.pairwise_cons.1 q2
  conv => rhs; rw [hV, List.filter_append, List.filter_cons]
  rw [List.filter_eq_self.2, List.filter_eq_self.2]
  · simp
  · intro x hx; simpa using (ltS_ne (q4 x hx)).symm
  · intro x hx; simpa using ltS_ne (cut_mem_take hc hx)
theorem set_rem {S : List ByteArray} {a : ByteArray} : setToL S a false = S.filter (fun x => decide (x ≠ a)) := by
  unfold setToL
  simp only [Bool.not_false, sfold_done]
  simp
end Go.Proofs.Ytlljpnbajgcidaa
