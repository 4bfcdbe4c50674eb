/- Vote, the plain side: what a cast leaves may be. -/
import Derived.Test.YtlljpnbajgcidaaVoQ
namespace Go.Proofs.Ytlljpnbajgcidaa
open Go.RowKit

theorem RightOk.pw {S : List ByteArray} {V : List Bal} (h : RightOk S V) : Pw ltB V := (sorted_of_adj (@ltB_trans) h.2.2).pw
theorem RightOk.spw {S : List ByteArray} {V : List Bal} (h : RightOk S V) : Pw ltS S := (sorted_of_adj (@ltS_trans) h.1.2.1).pw
theorem RightOk.stands {S : List ByteArray} {V : List Bal} (h : RightOk S V) : ∀ x ∈ V, standsL S x = true := fun x hx => by
  obtain ⟨j, hj⟩ := List.getElem?_of_mem hx
  exact (h.2.1 j x hj).1
theorem RightOk.quiet {S : List ByteArray} {V : List Bal} (h : RightOk S V) : ∀ x ∈ V, wonL S V x = false := fun x hx => by
  obtain ⟨j, hj⟩ := List.getElem?_of_mem hx
  exact (h.2.1 j x hj).2
theorem RightOk.make {S : List ByteArray} {V : List Bal} (h1 : SetOk S) (h2 : ∀ x ∈ V, standsL S x = true) (h3 : ∀ x ∈ V, wonL S V x = false) (h4 : Pw ltB V) : RightOk S V :=
  ⟨h1, fun j x hx => ⟨h2 x (List.mem_of_getElem? hx), h3 x (List.mem_of_getElem? hx)⟩, pw_adj h4⟩
theorem stands_of {S : List ByteArray} {b : Bal} (h : ¬ Refused S b) : standsL S b = true := by
  cases e : standsL S b
  · exact absurd (.inl e) h
  · rfl
theorem stands_iff {S : List ByteArray} {b : Bal} : standsL S b = true ↔ b.1 ∈ S ∧ b.2.1.size = 20 ∧ (b.2.1 ∈ S ↔ b.2.2 = false) := by
  unfold standsL
  simp only [Bool.and_eq_true, beq_iff_eq, hasL_iff, and_assoc]
  have : hasL S b.2.1 = !b.2.2 ↔ (b.2.1 ∈ S ↔ b.2.2 = false) := by
    rw [← hasL_iff]
    cases hasL S b.2.1 <;> cases b.2.2 <;> simp
  rw [this]
theorem won_iff {S : List ByteArray} {V : List Bal} {b : Bal} : wonL S V b = false ↔ 2 * cntL V b ≤ S.length := by unfold wonL; simp

/-- Two votes for the same. -/
def kindB (x b : Bal) : Prop := x.2.1 = b.2.1 ∧ x.2.2 = b.2.2
theorem kind_cnt {V : List Bal} {x b : Bal} (h : kindB x b) : cntL V x = cntL V b := by unfold cntL; rw [h.1, h.2]
theorem put_cnt {S : List ByteArray} {V V1 : List Bal} {b : Bal} (hs : Pw ltB V) (hst : ∀ x ∈ V, standsL S x = true) (hb : standsL S b = true) (hp : PutIn V b V1) :
    (V1 = V ∧ b ∈ V) ∨ ((∀ y ∈ V, ¬ keyB y b) ∧ V1.length = V.length + 1 ∧ (∀ x, ¬ kindB x b → cntL V1 x = cntL V x) ∧ cntL V1 b = cntL V b + 1) := by
  obtain ⟨i, hc, ⟨⟨z, hz, hk⟩, rfl⟩ | ⟨hn, rfl⟩⟩ := hp
  · have e : z = b := stands_add (hst z (List.mem_of_getElem? hz)) hb hk
    subst e
    exact .inl ⟨rfl, List.mem_of_getElem? hz⟩
  · have hcnt : ∀ x, cntL (V.take i ++ b :: V.drop i) x = cntL V x + cntL [b] x := fun x => by
      unfold cntL
      conv => rhs; rw [← List.take_append_drop i V]
      simp only [List.countP_append, List.countP_cons, List.countP_nil]
      omega
    have h1 : ∀ x, ¬ kindB x b → cntL [b] x = 0 := fun x hx => by
      unfold cntL kindB at *
      simp only [List.countP_cons, List.countP_nil, Bool.and_eq_true, decide_eq_true_eq, beq_iff_eq]
      rw [if_neg fun h => hx ⟨h.1.symm, h.2.symm⟩]
    have h2 : cntL [b] b = 1 := by simp [cntL]
    refine .inr ⟨fun y hy => ?_, ?_, fun x hx => by rw [hcnt, h1 x hx]; rfl, by rw [hcnt, h2]⟩
    · rw [← List.take_append_drop i V] at hy
      rcases List.mem_append.1 hy with hy | hy
      · exact ltB_nkey (cut_mem_take hc hy)
      · exact fun k => ltB_nkey (drop_gt hc hs hn hy) k.symm
    · have := hc.1
      simp
      omega

theorem cnt_le_sub {V V' : List Bal} (h : V'.Sublist V) (x : Bal) : cntL V' x ≤ cntL V x := h.countP_le

/-- Where the vote has not won, all may be. -/
theorem put_right {S : List ByteArray} {V V1 : List Bal} {b : Bal} (hr : RightOk S V) (hb : standsL S b = true) (hp : PutIn V b V1) (hw : wonL S V1 b = false) : RightOk S V1 := by
  have hm := put_mem hr.stands hb hp
  refine RightOk.make hr.1 (fun x hx => ?_) (fun x hx => ?_) (put_pw hr.pw hp)
  · rcases (hm x).1 hx with e | e
    · subst e; exact hb
    · exact hr.stands x e
  · by_cases hk : kindB x b
    · rw [won_iff, kind_cnt hk, ← won_iff]; exact hw
    · rcases (hm x).1 hx with e | e
      · subst e; exact absurd ⟨rfl, rfl⟩ hk
      · have := hr.quiet x e
        rw [won_iff] at this ⊢
        rcases put_cnt hr.pw hr.stands hb hp with ⟨rfl, _⟩ | ⟨_, _, h, _⟩
        · exact this
        · rw [h x hk]; exact this

/-- The validators behind a vote that has won. -/
def SetBy (S : List ByteArray) (b : Bal) (S' : List ByteArray) : Prop :=
  Pw ltS S' ∧ (b.2.2 = true → (∀ x, x ∈ S' ↔ x = b.2.1 ∨ x ∈ S) ∧ S'.length = S.length + 1) ∧ (b.2.2 = false → (∀ x, x ∈ S' ↔ x ∈ S ∧ x ≠ b.2.1) ∧ S.length = S'.length + 1)

theorem set_by {S : List ByteArray} {b : Bal} (hs : Pw ltS S) (hb : standsL S b = true) {i : Nat} (hc : CutAt ltS S b.2.1 i) : (b.2.2 = true → SetBy S b (S.take i ++ b.2.1 :: S.drop i)) ∧ (b.2.2 = false → SetBy S b (S.take i ++ S.drop (i + 1))) := by
  obtain ⟨_, _, hm⟩ := stands_iff.1 hb
  have hT : ∀ x, x ∈ S ↔ x ∈ S.take i ∨ x ∈ S.drop i := fun x => by rw [← List.mem_append, List.take_append_drop]
  constructor
  · intro ha
    have hn : b.2.1 ∉ S := fun h => by have := hm.1 h; rw [ha] at this; cases this
    have hgt : ∀ y ∈ S.drop i, ltS b.2.1 y = true := fun y hy => by
      rcases ltS_tri b.2.1 y with e | e | e
      · exact e
      · exact absurd (by rw [e]; exact (List.drop_sublist _ _).mem hy) hn
      · rw [cut_mem_drop hc hy] at e; cases e
    refine ⟨?_, fun _ => ⟨fun x => ?_, ?_⟩, fun h => by rw [ha] at h; cases h⟩
    · refine List.pairwise_append.2 ⟨hs.sublist (List.take_sublist _ _), List.pairwise_cons.2 ⟨hgt, hs.sublist (List.drop_sublist _ _)⟩, fun x hx y hy => ?_⟩
      rcases List.mem_cons.1 hy with e | hy
      · subst e; exact cut_mem_take hc hx
      · exact ltS_trans (cut_mem_take hc hx) (hgt y hy)
    · rw [hT, List.mem_append, List.mem_cons]
      exact ⟨fun h => by rcases h with h | h | h <;> simp [h], fun h => by rcases h with h | h | h <;> simp [h]⟩
    · have := hc.1
      simp
      omega
  · intro ha
    have hin : b.2.1 ∈ S := hm.2 ha
    have h1 := set_cut hs hc hin
    have hlt := (List.getElem?_eq_some_iff.1 h1).1
    refine ⟨?_, fun h => (by rw [ha] at h; cases h), fun _ => ⟨fun x => ?_, ?_⟩⟩
    · rw [set_del hs hc hin]; exact hs.filter _
    · rw [set_del hs hc hin, List.mem_filter]; simp
    · simp; omega

theorem setBy_ok {S S' : List ByteArray} {b : Bal} (hs : SetOk S) (hb : standsL S b = true) (h : SetBy S b S') (h16 : b.2.2 = true → ¬ 16 ≤ S.length) (h1 : b.2.2 = false → ¬ S.length ≤ 1) : SetOk S' := by
  obtain ⟨_, hz, _⟩ := stands_iff.1 hb
  have hsz : ∀ x ∈ S, x.size = 20 := fun x hx => by
    obtain ⟨j, hj⟩ := List.getElem?_of_mem hx
    exact hs.1 j x hj
  obtain ⟨p, ht, hf⟩ := h
  cases hb3 : b.2.2
  · obtain ⟨hm, hn⟩ := hf hb3
    have := h1 hb3
    have := hs.2.2.2
    exact ⟨fun j x hx => hsz x ((hm x).1 (List.mem_of_getElem? hx)).1, pw_adj p, by omega, by omega⟩
  · obtain ⟨hm, hn⟩ := ht hb3
    have := h16 hb3
    refine ⟨fun j x hx => ?_, pw_adj p, by omega, by omega⟩
    rcases (hm x).1 (List.mem_of_getElem? hx) with e | e
    · subst e; exact hz
    · exact hsz x e

theorem leftL_sub (V : List Bal) (b : Bal) : (leftL V b).Sublist V := List.filter_sublist
theorem stayL_sub (S : List ByteArray) (l : List Bal) (b : Bal) : (stayL S l b).Sublist l := List.filter_sublist
theorem mem_leftL {V : List Bal} {b x : Bal} : x ∈ leftL V b ↔ x ∈ V ∧ x.2.1 ≠ b.2.1 ∧ (b.2.2 = false → x.1 ≠ b.2.1) := by
  unfold leftL goneL
  rw [List.mem_filter]
  cases b.2.2 <;> simp

theorem won_right {S S' : List ByteArray} {V V1 V' : List Bal} {b : Bal} (hr : RightOk S V) (hf : ¬ Refused S b) (hp : PutIn V b V1) (hS : SetBy S b S') (hV : V' = stayL S' (leftL V1 b) b) : RightOk S' V' := by
  have hb := stands_of hf
  have hm := put_mem hr.stands hb hp
  have hsub : V'.Sublist V1 := by rw [hV]; exact (stayL_sub _ _ _).trans (leftL_sub _ _)
  have hin : ∀ x ∈ V', x ∈ V ∧ x.2.1 ≠ b.2.1 ∧ (b.2.2 = false → x.1 ≠ b.2.1) := fun x hx => by
    have h1 : x ∈ leftL V1 b := by rw [hV] at hx; exact (stayL_sub _ _ _).mem hx
    obtain ⟨h2, h3, h4⟩ := mem_leftL.1 h1
    rcases (hm x).1 h2 with e | e
    · exact absurd (by rw [e]) h3
    · exact ⟨e, h3, h4⟩
  have hmS : ∀ x, x ≠ b.2.1 → (x ∈ S' ↔ x ∈ S) := fun x hx => by
    cases hb3 : b.2.2
    · rw [(hS.2.2 hb3).1]; simp [hx]
    · rw [(hS.2.1 hb3).1]; simp [hx]
  refine RightOk.make (setBy_ok hr.1 hb hS (fun h h2 => hf (.inr (.inl ⟨h, h2⟩))) (fun h h2 => hf (.inr (.inr ⟨h, h2⟩)))) (fun x hx => ?_) (fun x hx => ?_) ((put_pw hr.pw hp).sublist hsub)
  · obtain ⟨h1, h2, h3⟩ := hin x hx
    obtain ⟨g1, g2, g3⟩ := stands_iff.1 (hr.stands x h1)
    refine stands_iff.2 ⟨?_, g2, by rw [hmS _ h2]; exact g3⟩
    cases hb3 : b.2.2
    · exact ((hS.2.2 hb3).1 _).2 ⟨g1, h3 hb3⟩
    · exact ((hS.2.1 hb3).1 _).2 (.inr g1)
  · obtain ⟨h1, h2, h3⟩ := hin x hx
    rw [won_iff]
    cases hb3 : b.2.2
    · have hx2 : wonL S' (leftL V1 b) x = false := by
        rw [hV] at hx
        have := (List.mem_filter.1 hx).2
        rw [hb3] at this
        simpa using this
      rw [won_iff] at hx2
      have := cnt_le_sub (stayL_sub S' (leftL V1 b) b) x
      rw [hV]
      omega
    · have hk : ¬ kindB x b := fun h => h2 h.1
      have h4 := cnt_le_sub hsub x
      have h5 := won_iff.1 (hr.quiet x h1)
      have h6 := (hS.2.1 hb3).2
      have h7 : cntL V1 x = cntL V x := by
        rcases put_cnt hr.pw hr.stands hb hp with ⟨rfl, _⟩ | ⟨_, _, h, _⟩
        · rfl
        · exact h x hk
      omega

/-- What a cast that is taken is. -/
def Taken (S : List ByteArray) (V : List Bal) (b : Bal) (S' : List ByteArray) (V' : List Bal) : Prop :=
  RightOk S V ∧ ¬ Refused S b ∧ ∃ V1, PutIn V b V1 ∧ ((wonL S V1 b = false ∧ S' = S ∧ V' = V1) ∨ (wonL S V1 b = true ∧ SetBy S b S' ∧ S' = setToL S b.2.1 b.2.2 ∧ V' = stayL S' (leftL V1 b) b))
theorem CastRel.cases {S S' : List ByteArray} {V V' : List Bal} {b : Bal} {c : Int} (h : CastRel S V b S' V' c) : (¬ RightOk S V ∧ S' = [] ∧ V' = [] ∧ c = 1) ∨ (RightOk S V ∧ Refused S b ∧ S' = [] ∧ V' = [] ∧ c = 44) ∨ (c = 0 ∧ Taken S V b S' V') := by
  rcases h with h | h | ⟨h1, h2, h3, V1, hp, h4⟩
  · exact .inl h
  · exact .inr (.inl h)
  · refine .inr (.inr ⟨h3, h1, h2, V1, hp, ?_⟩)
    rcases h4 with h4 | ⟨hw, i, hc, h4⟩
    · exact .inl h4
    · have hb := stands_of h2
      have hsb := set_by h1.spw hb hc
      obtain ⟨_, _, hm⟩ := stands_iff.1 hb
      rcases h4 with ⟨hb3, rfl, rfl⟩ | ⟨hb3, rfl, rfl⟩
      · refine .inr ⟨hw, hsb.1 hb3, ?_, ?_⟩
        · rw [hb3]; exact set_add h1.spw hc fun h => by have := hm.1 h; rw [hb3] at this; cases this
        · unfold stayL leftL; rw [hb3]; simp
      · refine .inr ⟨hw, hsb.2 hb3, ?_, ?_⟩
        · rw [hb3, set_rem]; exact set_del h1.spw hc (hm.2 hb3)
        · unfold stayL leftL; rw [hb3]; simp
theorem Taken.right {S S' : List ByteArray} {V V' : List Bal} {b : Bal} (h : Taken S V b S' V') : RightOk S' V' := by
  obtain ⟨hr, hf, V1, hp, ⟨hw, rfl, rfl⟩ | ⟨hw, hS, _, hV⟩⟩ := h
  · exact put_right hr (stands_of hf) hp hw
  · exact won_right hr hf hp hS hV

theorem cast_same {S S1 S2 : List ByteArray} {V V1 V2 : List Bal} {b : Bal} {c1 c2 : Int} (h1 : CastRel S V b S1 V1 c1) (h2 : RCastRel S V b S2 V2 c2) : S1 = S2 ∧ V1 = V2 ∧ c1 = c2 := by
  rcases h1.cases with ⟨a1, rfl, rfl, rfl⟩ | ⟨a1, a2, rfl, rfl, rfl⟩ | ⟨rfl, a1, a2, W, hp, a3⟩
  · rcases h2 with ⟨_, rfl, rfl, rfl⟩ | ⟨b1, _⟩ | ⟨b1, _⟩
    · exact ⟨rfl, rfl, rfl⟩
    · exact absurd b1 a1
    · exact absurd b1 a1
  · rcases h2 with ⟨b1, _⟩ | ⟨_, _, rfl, rfl, rfl⟩ | ⟨_, b2, _⟩
    · exact absurd a1 b1
    · exact ⟨rfl, rfl, rfl⟩
    · exact absurd a2 b2
  · rcases h2 with ⟨b1, _⟩ | ⟨_, b2, _⟩ | ⟨_, _, rfl, b3⟩
    · exact absurd a1 b1
    · exact absurd b2 a2
    · have e := put_eq a1.pw a1.stands (stands_of a2) hp
      rw [← e] at b3
      rcases a3 with ⟨w1, rfl, rfl⟩ | ⟨w1, _, rfl, rfl⟩
      · rcases b3 with ⟨_, rfl, rfl⟩ | ⟨w2, _⟩
        · exact ⟨rfl, rfl, rfl⟩
        · rw [w1] at w2; cases w2
      · rcases b3 with ⟨w2, _⟩ | ⟨_, rfl, rfl⟩
        · rw [w1] at w2; cases w2
        · exact ⟨rfl, rfl, rfl⟩
end Go.Proofs.Ytlljpnbajgcidaa
