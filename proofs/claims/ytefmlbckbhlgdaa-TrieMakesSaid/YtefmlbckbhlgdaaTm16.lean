/- The trie's root sum, in plain words: each node may be written; the items of the nodes that pairs are laid as. -/
import Derived.Test.YtefmlbckbhlgdaaTm15
namespace Go.Proofs.Ytefmlbckbhlgdaa
set_option maxRecDepth 100000
theorem share_drop : ∀ (k : Nat) (a b : List UInt8), k ≤ shareL a b → shareL (a.drop k) (b.drop k) = shareL a b - k
  | 0, a, b, _ => rfl
  | k + 1, [], b, h => by simp [shareL] at h
  | k + 1, x :: a, [], h => by simp [shareL] at h
  | k + 1, x :: a, y :: b, h => by
    have hs : shareL (x :: a) (y :: b) = if x = y then shareL a b + 1 else 0 := rfl
    rw [hs] at h ⊢
    by_cases e : x = y
    · rw [if_pos e] at h
      rw [if_pos e, List.drop_succ_cons, List.drop_succ_cons, share_drop k a b (by omega)]
      omega
    · rw [if_neg e] at h; omega
/-- Without what all have in common, nothing is in common. -/
theorem common_zero (p q : Pr) (r : List Pr) : commonL (cutK (commonL (p :: q :: r)) (p :: q :: r)) = 0 := by
  have h3 := (foldl_min (fun x : Pr => shareL x.1 p.1) (q :: r) p.1.length).2.2
  have e0 : commonL (p :: q :: r) = (q :: r).foldl (fun n x => min n (shareL x.1 p.1)) p.1.length := rfl
  rw [← e0] at h3
  have hle := commonL_le (p := p) (r := q :: r)
  generalize commonL (p :: q :: r) = k at *
  have hc := commonL_le (p := (p.1.drop k, p.2)) (r := cutK k (q :: r))
  have e1 : cutK k (p :: q :: r) = (p.1.drop k, p.2) :: cutK k (q :: r) := rfl
  rw [e1]
  rcases h3 with h3 | ⟨x, hx, h3⟩
  · have := hc.1
    rw [List.length_drop] at this
    omega
  · have h4 := hc.2 (x.1.drop k, x.2) (List.mem_map.2 ⟨x, hx, rfl⟩)
    have h5 := share_drop k x.1 p.1 (hle.2 x hx)
    have h6 : commonL ((p.1.drop k, p.2) :: cutK k (q :: r)) ≤ shareL (x.1.drop k) (p.1.drop k) := h4
    omega

theorem cutC_lt {f c : Nat} {l : List Pr} (hl : ∀ p ∈ l, p.1.length < f + 1) : ∀ p ∈ cutC c l, p.1.length < f := cutC_small hl
theorem cutK_lt {f k : Nat} {l : List Pr} (hk : 0 < k) (hl : ∀ p ∈ l, p.1.length < f + 1) (hle : ∀ p ∈ l, k ≤ p.1.length) : ∀ p ∈ cutK k l, p.1.length < f := fun p hp => by
  obtain ⟨q, hq, rfl⟩ := List.mem_map.1 hp
  have h1 := hl q hq
  have h2 := hle q hq
  show (q.1.drop k).length < f
  rw [List.length_drop]; omega
theorem POk.common {p q : Pr} {r : List Pr} (h : POk (p :: q :: r)) : POk (cutK (commonL (p :: q :: r)) (p :: q :: r)) := by
  have ht := common_take (p := p) (r := q :: r)
  exact h.bare (fun a ha b hb => by rw [(ht a ha).1, (ht b hb).1]) (fun a ha => (ht a ha).2)

theorem told_good : ∀ (f : Nat) (l : List Pr), POk l → (∀ p ∈ l, p.1.length < f) →
    Tl (toldW (itemR f) l) ∧ (2 ≤ l.length → commonL l = 0 → (toldW (itemR f) l).depth ≤ 2 ∧ 18 ≤ (toldW (itemR f) l).write.length) ∧ (l ≠ [] → Good (itemR f l))
  | f, [], _, _ => ⟨tl_str [] (.inl (by simp)), fun h => by simp at h, fun h => absurd rfl h⟩
  | 0, p :: l, _, hf => absurd (hf p List.mem_cons_self) (Nat.not_lt_zero _)
  | f + 1, [p], h, _ => by
    have hp := packL_len p.1 true (h.part p List.mem_cons_self)
    have hv := h.val p List.mem_cons_self
    have e : toldW (itemR (f + 1)) [p] = referI (itemR (f + 1) [p]) := rfl
    rw [e, itemR_one]
    have w1 := strI_write (packL p.1 true) (by omega)
    have w2 := strI_write p.2 (by omega)
    have hw : (writes [strI (packL p.1 true), strI p.2]).length ≤ 539 := by simp only [writes, List.length_append, List.length_nil]; omega
    have hpu : (It.mk true [] [strI (packL p.1 true), strI p.2]).pure := list_pure.2 fun k hk => by
      simp only [List.mem_cons, List.mem_nil_iff, or_false] at hk
      rcases hk with rfl | rfl <;> exact strI_pure _
    have hd : (It.mk true [] [strI (packL p.1 true), strI p.2]).depth = 1 := by rw [list_depth]; simp [depths, strI_depth]
    have hl := list_write (ks := [strI (packL p.1 true), strI p.2]) (by omega)
    exact ⟨tl_refer hpu fun _ => ⟨by omega, fun _ => by omega⟩, fun h2 => by simp at h2, fun _ => ⟨hpu, by omega, by omega⟩⟩
  | f + 1, p :: q :: r, h, hf => by
    have e : toldW (itemR (f + 1)) (p :: q :: r) = referI (itemR (f + 1) (p :: q :: r)) := rfl
    rw [e]
    by_cases hc : 0 < commonL (p :: q :: r)
    · rw [itemR_joint hc]
      have ht := common_take (p := p) (r := q :: r)
      obtain ⟨i1, i2, _⟩ := told_good f (cutK (commonL (p :: q :: r)) (p :: q :: r)) h.common (cutK_lt hc hf fun a ha => (ht a ha).2)
      have i3 := i2 (by simp [cutK]) (common_zero p q r)
      generalize toldW (itemR f) (cutK (commonL (p :: q :: r)) (p :: q :: r)) = T at *
      have hp := packL_len (p.1.take (commonL (p :: q :: r))) false (by have := h.part p List.mem_cons_self; rw [List.length_take]; omega)
      have w1 := strI_write (packL (p.1.take (commonL (p :: q :: r))) false) (by omega)
      have w0 := write_pos _ (strI_pure (packL (p.1.take (commonL (p :: q :: r))) false))
      have hd0 := strI_depth (packL (p.1.take (commonL (p :: q :: r))) false)
      have hp0 := strI_pure (packL (p.1.take (commonL (p :: q :: r))) false)
      generalize strI (packL (p.1.take (commonL (p :: q :: r))) false) = S at *
      obtain ⟨t1, t2, t3, _⟩ := i1
      have hw : (writes [S, T]).length = S.write.length + T.write.length := by simp [writes]
      have hpu : (It.mk true [] [S, T]).pure := list_pure.2 fun k hk => by
        simp only [List.mem_cons, List.mem_nil_iff, or_false] at hk
        rcases hk with rfl | rfl <;> assumption
      have hd : (It.mk true [] [S, T]).depth ≤ 3 := by
        rw [list_depth]
        have : depths [S, T] ≤ 2 := depths_all.2 fun k hk => by
          simp only [List.mem_cons, List.mem_nil_iff, or_false] at hk
          rcases hk with rfl | rfl
          · omega
          · exact i3.1
        omega
      have hl := list_write (ks := [S, T]) (by omega)
      exact ⟨tl_refer hpu fun _ => ⟨hd, fun _ => by omega⟩, fun _ h0 => by omega, fun _ => ⟨hpu, by omega, by omega⟩⟩
    · rw [itemR_branch hc]
      have hk : ∀ c, Tl (toldW (itemR f) (cutC c (p :: q :: r))) := fun c => (told_good f (cutC c (p :: q :: r)) h.first (cutC_lt hf)).1
      have hv := valE_len h.val
      have wv := strI_write (valE (p :: q :: r)) (by omega)
      generalize valE (p :: q :: r) = v at *
      generalize hks : (List.range 16).map (fun c => toldW (itemR f) (cutC c (p :: q :: r))) = ks at *
      have hkl : ks.length = 16 := by rw [← hks]; simp
      have hkt : ∀ k ∈ ks, Tl k := fun k hk' => by
        rw [← hks] at hk'
        obtain ⟨c, _, rfl⟩ := List.mem_map.1 hk'
        exact hk c
      have hpa : ∀ k ∈ ks ++ [strI v], k.pure := fun k hk' => by
        rcases List.mem_append.1 hk' with hk' | hk'
        · exact (hkt k hk').1
        · rw [List.mem_singleton.1 hk']; exact strI_pure _
      have hpu : (It.mk true [] (ks ++ [strI v])).pure := list_pure.2 hpa
      have hwk := writes_bound (d := 33) fun k hk' => (hkt k hk').2.1
      have hw : (writes (ks ++ [strI v])).length = (writes ks).length + (strI v).write.length := by rw [writes_append]; simp [writes]
      have hll : (ks ++ [strI v]).length = 17 := by simp [hkl]
      have hwp := writes_pos hpa
      have hl := list_write (ks := ks ++ [strI v]) (by omega)
      have hd : (It.mk true [] (ks ++ [strI v])).depth ≤ 4 := by
        rw [list_depth]
        have : depths (ks ++ [strI v]) ≤ 3 := depths_all.2 fun k hk' => by
          rcases List.mem_append.1 hk' with hk' | hk'
          · exact (hkt k hk').2.2.1
          · rw [List.mem_singleton.1 hk', strI_depth]; omega
        omega
      have hd2 : (It.mk true [] (ks ++ [strI v])).write.length < 32 → (It.mk true [] (ks ++ [strI v])).depth ≤ 2 := fun h32 => by
        rw [list_depth]
        have : depths (ks ++ [strI v]) ≤ 1 := depths_all.2 fun k hk' => by
          have h1 := writes_one hpa hk'
          rcases List.mem_append.1 hk' with hk' | hk'
          · exact (hkt k hk').2.2.2 (by omega)
          · rw [List.mem_singleton.1 hk', strI_depth]; omega
        omega
      refine ⟨tl_refer hpu fun h32 => ⟨by have := hd2 h32; omega, fun _ => by omega⟩, fun _ _ => ?_, fun _ => ⟨hpu, by omega, by omega⟩⟩
      unfold referI
      split
      · rename_i h32
        exact ⟨hd2 h32, by omega⟩
      · rw [strI_depth, strI_32 (sumL_length _)]; omega

/-- A node at a place, as a trie of pairs has it. -/
structure NdG (i : Nat) (n : Nd) (its : List It) : Prop where
  kids : n.kids.length = 16
  half : n.part.all (· < 16) = true
  part : n.part.length ≤ 64
  val : n.value.length ≤ 500
  low : ∀ k ∈ n.kids, k = -1 ∨ (0 ≤ k ∧ k < i)
  good : Good (itN its n)
  kind : n.kind = 1 ∨ n.kind = 2 ∨ n.kind = 3
def NdsG (a : Nat) (ns : List Nd) : Prop := ∀ i n, a ≤ i → ns[i]? = some n → NdG i n (itemsF (ns.take i))
def InN (ns : List Nd) (i : Int) : Prop := i = -1 ∨ (0 ≤ i ∧ i < ns.length)
theorem InN.more {ns : List Nd} {i : Int} (h : InN ns i) (more : List Nd) : InN (ns ++ more) i := by
  rcases h with h | h
  · exact .inl h
  · exact .inr ⟨h.1, by rw [List.length_append]; omega⟩
theorem NdsG.snoc {a : Nat} {ns : List Nd} {n : Nd} (h : NdsG a ns) (hn : NdG ns.length n (itemsF ns)) : NdsG a (ns ++ [n]) := fun i x ha hx => by
  by_cases hi : i < ns.length
  · rw [List.getElem?_append_left hi] at hx
    rw [List.take_append_of_le_length (by omega)]
    exact h i x ha hx
  · have hlt := (List.getElem?_eq_some_iff.1 hx).1
    rw [List.length_append] at hlt
    simp only [List.length_cons, List.length_nil] at hlt
    obtain rfl : i = ns.length := by omega
    rw [List.getElem?_append_right (Nat.le_refl _)] at hx
    simp at hx
    subst hx
    rw [List.take_left]
    exact hn
theorem NdsG.le {a b : Nat} {ns : List Nd} (h : NdsG a ns) (hab : a ≤ b) : NdsG b ns := fun i n hi hx => h i n (by omega) hx
theorem NdsG.join {a b : Nat} {ns more : List Nd} (h : NdsG a ns) (hl : b ≤ ns.length) (h2 : NdsG b (ns ++ more)) : NdsG a (ns ++ more) := fun i n hi hx => by
  by_cases hib : i < ns.length
  · rw [List.getElem?_append_left hib] at hx
    rw [List.take_append_of_le_length (by omega)]
    exact h i n hi hx
  · exact h2 i n (by omega) hx

/-- What the nodes that pairs are laid as are told by. -/
structure LayS (f : Nat) (l : List Pr) (ns : List Nd) (r : List Nd × Int) : Prop where
  ext : ∃ new, r.1 = ns ++ new
  at_ : InN r.1 r.2
  told : toldI (itemsF r.1) r.2 = toldW (itemR f) l
  top : l ≠ [] → ∃ m n, r.1 = m ++ [n] ∧ itN (itemsF m) n = itemR f l
  good : NdsG ns.length r.1
theorem toldI_top {m : List Nd} {n : Nd} {x : It} (h : itN (itemsF m) n = x) : toldI (itemsF (m ++ [n])) (m.length : Int) = referI x := by
  unfold toldI
  rw [if_neg (by omega), itemsF_snoc, h]
  unfold List.getD
  rw [List.getElem?_append_right (by rw [itemsF_len]; simp)]
  simp [itemsF_len]
theorem noKids_low {i : Nat} : ∀ k ∈ noKids, k = -1 ∨ (0 ≤ k ∧ k < (i : Int)) := fun _ hk => .inl (List.eq_of_mem_replicate hk)

theorem kids_sums {f : Nat} {l : List Pr} (ih : ∀ c ns, LayS f (cutC c l) ns (layF f (cutC c l) ns)) (ns : List Nd) : ∀ m : Nat,
    (∃ new, (kidsF f l (List.range m) (ns, [])).1 = ns ++ new) ∧ (∀ k ∈ (kidsF f l (List.range m) (ns, [])).2, InN (kidsF f l (List.range m) (ns, [])).1 k) ∧
      (kidsF f l (List.range m) (ns, [])).2.map (toldI (itemsF (kidsF f l (List.range m) (ns, [])).1)) = (List.range m).map (fun c => toldW (itemR f) (cutC c l)) ∧ NdsG ns.length (kidsF f l (List.range m) (ns, [])).1
  | 0 => by
    refine ⟨⟨[], by simp [kidsF]⟩, fun k hk => by simp [kidsF] at hk, rfl, fun i n hi hx => ?_⟩
    have := (List.getElem?_eq_some_iff.1 hx).1
    simp [kidsF] at this
    omega
  | m + 1 => by
    obtain ⟨⟨n1, e1⟩, h2, h3, h4⟩ := kids_sums ih ns m
    rw [kidsF_range]
    generalize kidsF f l (List.range m) (ns, []) = S at *
    obtain ⟨ms, ks⟩ := S
    simp only at e1 h2 h3 h4 ⊢
    have hi := ih m ms
    generalize layF f (cutC m l) ms = r at *
    obtain ⟨n2, e2⟩ := hi.ext
    refine ⟨⟨n1 ++ n2, by rw [e2, e1, List.append_assoc]⟩, fun k hk => ?_, ?_, ?_⟩
    · rcases List.mem_append.1 hk with hk | hk
      · rw [e2]; exact (h2 k hk).more n2
      · rw [List.mem_singleton.1 hk]; exact hi.at_
    · rw [List.map_append, List.range_succ, List.map_append, List.map_singleton, List.map_singleton, hi.told]
      congr 1
      rw [← h3]
      refine List.map_congr_left fun k hk => ?_
      rw [e2]
      exact toldI_pre (h2 k hk)
    · have := hi.good
      rw [e2] at this ⊢
      exact h4.join (Nat.le_refl _) this

theorem lay_sums : ∀ (f : Nat) (l : List Pr) (ns : List Nd), POk l → (∀ p ∈ l, p.1.length < f) → LayS f l ns (layF f l ns)
  | f, [], ns, _, _ => by
    rw [layF_nil]
    refine ⟨⟨[], by simp⟩, .inl rfl, rfl, fun h => absurd rfl h, fun i n hi hx => ?_⟩
    have : i < ns.length := (List.getElem?_eq_some_iff.1 hx).1
    omega
  | 0, p :: l, _, _, hf => absurd (hf p List.mem_cons_self) (Nat.not_lt_zero _)
  | f + 1, [p], ns, h, hf => by
    have hg := (told_good (f + 1) [p] h hf).2.2 (by simp)
    rw [layF_one]
    have e : itN (itemsF ns) (leafN p) = itemR (f + 1) [p] := rfl
    refine ⟨⟨_, rfl⟩, .inr ⟨by simp, by simp; omega⟩, toldI_top e, fun _ => ⟨ns, leafN p, rfl, e⟩, ?_⟩
    refine NdsG.snoc (fun i n hi hx => ?_) ⟨rfl, h.half p List.mem_cons_self, h.part p List.mem_cons_self, h.val p List.mem_cons_self, noKids_low, by rw [e]; exact hg, .inl rfl⟩
    have := (List.getElem?_eq_some_iff.1 hx).1
    omega
  | f + 1, p :: q :: r, ns, h, hf => by
    have hg := (told_good (f + 1) (p :: q :: r) h hf).2.2 (by simp)
    by_cases hc : 0 < commonL (p :: q :: r)
    · have ht := common_take (p := p) (r := q :: r)
      have ih := lay_sums f (cutK (commonL (p :: q :: r)) (p :: q :: r)) ns h.common (cutK_lt hc hf fun a ha => (ht a ha).2)
      rw [layF_joint hc]
      rw [itemR_joint hc] at hg
      generalize layF f (cutK (commonL (p :: q :: r)) (p :: q :: r)) ns = y at *
      have e : itN (itemsF y.1) (jointN (p.1.take (commonL (p :: q :: r))) y.2) = itemR (f + 1) (p :: q :: r) := by
        rw [itemR_joint hc, ← ih.told]
        rfl
      obtain ⟨new, en⟩ := ih.ext
      refine ⟨⟨new ++ [jointN (p.1.take (commonL (p :: q :: r))) y.2], by rw [en, List.append_assoc]⟩, .inr ⟨by simp, by simp; omega⟩, toldI_top e, fun _ => ⟨y.1, _, rfl, e⟩, ?_⟩
      refine NdsG.snoc ih.good ⟨by simp [jointN, noKids], ?_, ?_, Nat.zero_le _, fun k hk => ?_, by rw [e, itemR_joint hc]; exact hg, .inr (.inl rfl)⟩
      · have := h.half p List.mem_cons_self
        rw [List.all_eq_true] at *
        exact fun x hx => this x (List.mem_of_mem_take hx)
      · have := h.part p List.mem_cons_self
        show (p.1.take _).length ≤ 64
        rw [List.length_take]; omega
      · have hk' : k ∈ noKids.set 0 y.2 := hk
        rcases List.mem_or_eq_of_mem_set hk' with hk' | rfl
        · exact noKids_low k hk'
        · exact ih.at_
    · have ih := fun c ns => lay_sums f (cutC c (p :: q :: r)) ns h.first (cutC_lt hf)
      obtain ⟨⟨new, en⟩, h2, h3, h4⟩ := kids_sums ih ns 16
      have hkl : (kidsF f (p :: q :: r) (List.range 16) (ns, [])).2.length = 16 := by rw [kidsF_map]; simp
      rw [layF_branch hc]
      rw [itemR_branch hc] at hg
      generalize kidsF f (p :: q :: r) (List.range 16) (ns, []) = y at *
      have e : itN (itemsF y.1) (branchN (valE (p :: q :: r)) y.2) = itemR (f + 1) (p :: q :: r) := by
        rw [itemR_branch hc, ← h3]
        rfl
      refine ⟨⟨new ++ [branchN (valE (p :: q :: r)) y.2], by rw [en, List.append_assoc]⟩, .inr ⟨by simp, by simp; omega⟩, toldI_top e, fun _ => ⟨y.1, _, rfl, e⟩, ?_⟩
      exact NdsG.snoc h4 ⟨hkl, rfl, Nat.zero_le _, valE_len h.val, h2, by rw [e, itemR_branch hc]; exact hg, .inr (.inr rfl)⟩
end Go.Proofs.Ytefmlbckbhlgdaa
