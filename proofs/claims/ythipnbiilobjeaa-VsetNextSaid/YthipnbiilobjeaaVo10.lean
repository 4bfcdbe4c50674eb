/- Vote: the place of a vote among votes. -/
import Derived.Test.YthipnbiilobjeaaVo9
namespace Go.Proofs.Ythipnbiilobjeaa
open Go.RowKit

def SortedBy {α : Type} (lt : α → α → Bool) (V : List α) : Prop := ∀ (j k : Nat) x y, j < k → V[j]? = some x → V[k]? = some y → lt x y = true
def CutAt {α : Type} (lt : α → α → Bool) (V : List α) (b : α) (i : Nat) : Prop := i ≤ V.length ∧ (∀ (j : Nat) x, V[j]? = some x → j < i → lt x b = true) ∧ (∀ (j : Nat) x, V[j]? = some x → i ≤ j → lt x b = false)
def CutIn {α : Type} (lt : α → α → Bool) (V : List α) (b : α) (i j : Nat) : Prop := i ≤ j ∧ j ≤ V.length ∧ (∀ (q : Nat) x, V[q]? = some x → q < i → lt x b = true) ∧ (∀ (q : Nat) x, V[q]? = some x → j ≤ q → lt x b = false)

theorem sorted_of_adj {α : Type} {lt : α → α → Bool} (ht : ∀ {a b c : α}, lt a b = true → lt b c = true → lt a c = true) {V : List α} (h : ∀ (j : Nat) x y, V[j]? = some x → V[j + 1]? = some y → lt x y = true) : SortedBy lt V := by
  intro j k x y hjk hx hy
  obtain ⟨d, rfl⟩ : ∃ d, k = j + 1 + d := ⟨k - j - 1, by omega⟩
  clear hjk
  induction d generalizing y with
  | zero => exact h j x y hx hy
  | succ d ih =>
    have hlt := (List.getElem?_eq_some_iff.1 hy).1
    have hz := List.getElem?_eq_getElem (show j + 1 + d < V.length by omega)
    exact ht (ih _ hz) (h (j + 1 + d) _ y hz hy)

theorem CutIn.start {α : Type} (lt : α → α → Bool) (V : List α) (b : α) : CutIn lt V b 0 V.length :=
  ⟨Nat.zero_le _, Nat.le_refl _, fun _ _ _ h => by omega, fun q x hx h => by have := (List.getElem?_eq_some_iff.1 hx).1; omega⟩
theorem CutIn.right {α : Type} {lt : α → α → Bool} (ht : ∀ {a b c : α}, lt a b = true → lt b c = true → lt a c = true) {V : List α} {b : α} {i j m : Nat} (hs : SortedBy lt V) (h : CutIn lt V b i j) (h1 : i ≤ m) (h2 : m < j) {x : α} (hx : V[m]? = some x) (hl : lt x b = true) : CutIn lt V b (m + 1) j := by
  refine ⟨by omega, h.2.1, fun q y hy hq => ?_, h.2.2.2⟩
  by_cases e : q = m
  · subst e; rw [hx] at hy; injection hy with e; subst e; exact hl
  · exact ht (hs q m y x (by omega) hy hx) hl
theorem CutIn.left {α : Type} {lt : α → α → Bool} (ht : ∀ {a b c : α}, lt a b = true → lt b c = true → lt a c = true) {V : List α} {b : α} {i j m : Nat} (hs : SortedBy lt V) (h : CutIn lt V b i j) (h1 : i ≤ m) (h2 : m < j) {x : α} (hx : V[m]? = some x) (hl : lt x b = false) : CutIn lt V b i m := by
  refine ⟨h1, by have := h.2.1; omega, h.2.2.1, fun q y hy hq => ?_⟩
  by_cases e : q = m
  · subst e; rw [hx] at hy; injection hy with e; subst e; exact hl
  · cases e2 : lt y b with
    | false => rfl
    | true => have := ht (hs m q x y (by omega) hx hy) e2; rw [hl] at this; cases this
theorem CutIn.done {α : Type} {lt : α → α → Bool} {V : List α} {b : α} {i : Nat} (h : CutIn lt V b i i) : CutAt lt V b i := ⟨h.2.1, h.2.2.1, h.2.2.2⟩

/-- A vote at the same place stands behind the cut. -/
def FoundB (V : List Bal) (b : Bal) (i : Nat) : Prop := ∃ x, V[i]? = some x ∧ keyB x b

set_option maxRecDepth 100000 in
set_option maxHeartbeats 4000000 in
theorem search_any (v : Value) (l : List Bal) (b : Bal) (w : World) (h : RowE encB w v l) (hl : l.length ≤ 1000000) (hs : SortedBy ltB l) :
    Calls Try.prog 100 #[v, balV b, .func (.func 97) #[] #[]] w fun e w' =>
      (∃ (i : Nat) (r : Bool), e = .returned (.tuple #[.int .i64 i, .bool r]) ∧ CutAt ltB l b i ∧ (r = true ↔ FoundB l b i)) ∧ Below w.heap.size w w' := by
  obtain ⟨p, cap, rfl, h1, h2⟩ := h.shape
  have HL := Lib.hid h
  have HSo := Lib.hid hs
  clear h hs
  obtain ⟨b1, b2, b3⟩ := b
  go_enter Try.func100, Try.ntmps100
  go_wp2
  go_loopw [9, 10] (fun c d wr => ∃ i j : Nat, c = .int .i64 i ∧ d = .int .i64 j ∧ Hid (CutIn ltB l (b1, b2, b3) i j) ∧ Hid (RowAt wr w.heap.size #[.string b1, .string b2, .bool b3] 92) ∧ Hid (Below w.heap.size w wr)) (fun c d _ => (intOf d).toNat - (intOf c).toNat)
  case atStart => exact ⟨0, l.length, rfl, rfl, Lib.hid (CutIn.start _ _ _), Lib.hid (RowAt.new _ _ _), Lib.hid (belowA w _)⟩
  case round =>
    obtain ⟨i, j, rfl, rfl, hcut, hr, hb⟩ := hrel
    have hij := hcut.out.1
    have hjl := hcut.out.2.1
    have HR := Lib.hid hr.out
    have HB := Lib.hid hb.out
    clear hr hb
    by_cases hlt : i < j
    · obtain ⟨m, hm⟩ : ∃ m, (i + j) / 2 = m := ⟨_, rfl⟩
      have hm1 : i ≤ m := by omega
      have hm2 : m < j := by omega
      have hg := List.getElem?_eq_getElem (show m < l.length by omega)
      obtain ⟨x0, x1, x2⟩ := HR.out.l3
      obtain ⟨ad, rfl, c0, c1, c2⟩ := (RowE.below encB HL.out HB.out (Nat.le_refl _)).later hg
      generalize l[m] = y at *
      obtain ⟨y1, y2, y3⟩ := y
      have K1 := Lib.hid (fun u : Later wr => order_any (y1, y2, y3) (b1, b2, b3) u.w)
      have ho := (ordB_lt (y1, y2, y3) (b1, b2, b3)).1
      have hmi : ((i : Int) + (j : Int)) / 2 = (m : Int) := by omega
      have hml : (m : Int) < l.length := by omega
      cases e1 : ltB (y1, y2, y3) (b1, b2, b3)
      · have hnx := Lib.hid (hcut.out.left (@ltB_trans) HSo.out hm1 hm2 hg e1)
        have hoo : 0 ≤ ordB (y1, y2, y3) (b1, b2, b3) := by
          rcases Int.lt_or_le (ordB (y1, y2, y3) (b1, b2, b3)) 0 with h | h
          · rw [ho.1 h] at e1; cases e1
          · exact h
        generalize ordB (y1, y2, y3) (b1, b2, b3) = o at *
        clear ho hg
        go_wp2_with fail
        (refine region_later mix ?hB ?_; case hB => kernel_rfl); (repeat (first | go_big_quiet_step ((go_at_call 97; with_reducible exact Later.call (K1.out _))) | quiet_step ((go_at_call 97; with_reducible exact Later.call (K1.out _))))); (refine wpQuiet_nil ?_; rintro _ ⟨u, rfl⟩)
        go_wp2_with fail
        exact ⟨⟨i, m, rfl, rfl, hnx, Lib.hid (HR.out.later u), Lib.hid (HB.out.trans (u.below.mono HB.out.size))⟩, by simp [intOf]; omega⟩
      · have hnx := Lib.hid (hcut.out.right (@ltB_trans) HSo.out hm1 hm2 hg e1)
        have hoo : ordB (y1, y2, y3) (b1, b2, b3) < 0 := ho.2 e1
        generalize ordB (y1, y2, y3) (b1, b2, b3) = o at *
        clear ho hg
        go_wp2_with fail
        (refine region_later mix ?hB ?_; case hB => kernel_rfl); (repeat (first | go_big_quiet_step ((go_at_call 97; with_reducible exact Later.call (K1.out _))) | quiet_step ((go_at_call 97; with_reducible exact Later.call (K1.out _))))); (refine wpQuiet_nil ?_; rintro _ ⟨u, rfl⟩)
        go_wp2_with fail
        exact ⟨⟨m + 1, j, by simp, rfl, hnx, Lib.hid (HR.out.later u), Lib.hid (HB.out.trans (u.below.mono HB.out.size))⟩, by simp [intOf]; omega⟩
    · obtain rfl : i = j := by omega
      have HD := Lib.hid hcut.out.done
      clear hcut
      obtain ⟨x0, x1, x2⟩ := HR.out.l3
      by_cases hn : i < l.length
      · have hg := List.getElem?_eq_getElem hn
        obtain ⟨ad, rfl, c0, c1, c2⟩ := (RowE.below encB HL.out HB.out (Nat.le_refl _)).later hg
        generalize l[i] = y at *
        obtain ⟨y1, y2, y3⟩ := y
        have K1 := Lib.hid (fun u : Later wr => order_any (y1, y2, y3) (b1, b2, b3) u.w)
        have ho := (ordB_lt (y1, y2, y3) (b1, b2, b3)).2
        have HF : Hid (ordB (y1, y2, y3) (b1, b2, b3) = 0 ↔ FoundB l (b1, b2, b3) i) := Lib.hid (ho.trans ⟨fun h => ⟨_, hg, h⟩, fun ⟨x, hx, h⟩ => by rw [hg] at hx; injection hx with e; subst e; exact h⟩)
        have hni : (i : Int) < l.length := by omega
        generalize ordB (y1, y2, y3) (b1, b2, b3) = o at *
        clear ho hg
        go_wp2_with fail
        (refine region_later mix ?hB ?_; case hB => kernel_rfl); (repeat (first | go_big_quiet_step ((go_at_call 97; with_reducible exact Later.call (K1.out _))) | quiet_step ((go_at_call 97; with_reducible exact Later.call (K1.out _))))); (refine wpQuiet_nil ?_; rintro _ ⟨u, rfl⟩)
        go_wp2_with fail
        go_ret2
        refine ⟨⟨i, o == 0, rfl, HD.out, ?_⟩, HB.out.trans (u.below.mono HB.out.size)⟩
        rw [← HF.out]
        simp
      · have HF : Hid (¬ FoundB l (b1, b2, b3) i) := Lib.hid (fun ⟨x, hx, _⟩ => hn (List.getElem?_eq_some_iff.1 hx).1)
        obtain rfl : i = l.length := by omega
        go_wp2_with fail
        (refine region_later mix ?hB ?_; case hB => kernel_rfl); (repeat (first | go_big_quiet_step ((go_at_call 97; with_reducible exact Later.call (K1.out _))) | quiet_step ((go_at_call 97; with_reducible exact Later.call (K1.out _))))); (refine wpQuiet_nil ?_; rintro _ ⟨u, rfl⟩)
        go_wp2_with fail
        go_ret2
        exact ⟨⟨l.length, false, rfl, HD.out, ⟨fun h => (by cases h), fun h => absurd h HF.out⟩⟩, HB.out.trans (u.below.mono HB.out.size)⟩
end Go.Proofs.Ythipnbiilobjeaa
