/- Vote: the place of an address among addresses. -/
import Derived.Test.YthipnbiilobjeaaVo10
namespace Go.Proofs.Ythipnbiilobjeaa
open Go.RowKit

set_option maxRecDepth 100000 in
set_option maxHeartbeats 1000000 in
theorem nan1_any (s : ByteArray) (w : World) : Calls Try.prog 177 #[.string s] w fun e w' => e = .returned (.bool false) ∧ w = w' := by
  have h := seq_true (rfl : s = s)
  go_enter Try.func177, Try.ntmps177
  go_wp2
  go_ret
  exact ⟨rfl, rfl⟩
set_option maxRecDepth 100000 in
set_option maxHeartbeats 1000000 in
theorem nan2_any (s : ByteArray) (w : World) : Calls Try.prog 153 #[.string s] w fun e w' => e = .returned (.bool false) ∧ w = w' := by
  have h := seq_true (rfl : s = s)
  go_enter Try.func153, Try.ntmps153
  go_wp2
  go_ret
  exact ⟨rfl, rfl⟩
set_option maxRecDepth 100000 in
set_option maxHeartbeats 1000000 in
theorem less_any (s t : ByteArray) (w : World) : Calls Try.prog 152 #[.string s, .string t] w fun e w' => e = .returned (.bool (ltS s t)) ∧ w = w' := by
  go_enter Try.func152, Try.ntmps152
  go_wp2_with (go_at_call 177; refine (nan1_any _ _).mono ?_; rintro e w' ⟨rfl, rfl⟩)
  go_ret
  exact ⟨rfl, rfl⟩

set_option maxRecDepth 100000 in
set_option maxHeartbeats 4000000 in
theorem searchS_any (v : Value) (l : List ByteArray) (b : ByteArray) (w : World) (h : RowE encS w v l) (hl : l.length ≤ 1000000) (hs : SortedBy ltS l) :
    Calls Try.prog 105 #[v, .string b] w fun e w' =>
      (∃ (i : Nat) (r : Value), e = .returned (.tuple #[.int .i64 i, r]) ∧ CutAt ltS l b i) ∧ Below w.heap.size w w' := by
  obtain ⟨p, cap, rfl, h1, h2⟩ := h.shape
  have H := Lib.hid h.atS.2.2.2
  have HSo := Lib.hid hs
  clear h hs
  go_enter Try.func105, Try.ntmps105
  go_wp2
  go_loop [7, 8] (fun c d => ∃ i j : Nat, c = .int .i64 i ∧ d = .int .i64 j ∧ Hid (CutIn ltS l b i j)) (fun c d => (intOf d).toNat - (intOf c).toNat)
  case atStart => exact ⟨0, l.length, rfl, rfl, Lib.hid (CutIn.start _ _ _)⟩
  case round =>
    obtain ⟨i, j, rfl, rfl, hcut⟩ := hrel
    have hij := hcut.out.1
    have hjl := hcut.out.2.1
    by_cases hlt : i < j
    · obtain ⟨m, hm⟩ : ∃ m, (i + j) / 2 = m := ⟨_, rfl⟩
      have hm1 : i ≤ m := by omega
      have hm2 : m < j := by omega
      have hg := List.getElem?_eq_getElem (show m < l.length by omega)
      obtain ⟨ad, rfl, c0⟩ := H.out m l[m] hg
      generalize l[m] = y at *
      have K1 := less_any y b w
      have hmi : ((i : Int) + (j : Int)) / 2 = (m : Int) := by omega
      have hml : (m : Int) < l.length := by omega
      cases e1 : ltS y b
      · have hnx := Lib.hid (hcut.out.left (@ltS_trans) HSo.out hm1 hm2 hg e1)
        rw [e1] at K1
        have K1 := Lib.hid K1
        clear hg e1
        go_wp2_with (go_at_call 152; refine K1.out.mono ?_; rintro e w' ⟨rfl, rfl⟩)
        exact ⟨⟨i, m, rfl, rfl, hnx⟩, by simp [intOf]; omega⟩
      · have hnx := Lib.hid (hcut.out.right (@ltS_trans) HSo.out hm1 hm2 hg e1)
        rw [e1] at K1
        have K1 := Lib.hid K1
        clear hg e1
        go_wp2_with (go_at_call 152; refine K1.out.mono ?_; rintro e w' ⟨rfl, rfl⟩)
        exact ⟨⟨m + 1, j, by simp, rfl, hnx⟩, by simp [intOf]; omega⟩
    · obtain rfl : i = j := by omega
      have HD := Lib.hid hcut.out.done
      clear hcut
      by_cases hn : i < l.length
      · have hg := List.getElem?_eq_getElem hn
        obtain ⟨ad, rfl, c0⟩ := H.out i l[i] hg
        generalize l[i] = y at *
        have hni : (i : Int) < l.length := by omega
        go_wp2_with (go_at_call 153; refine (nan2_any _ _).mono ?_; rintro e w' ⟨rfl, rfl⟩)
        all_goals
          go_ret2
          first | exact ⟨⟨i, _, rfl, HD.out⟩, Below.refl _ _⟩ | exact ⟨⟨i, ⟨_, rfl⟩, HD.out⟩, Below.refl _ _⟩
      · obtain rfl : i = l.length := by omega
        go_wp2_with fail
        go_ret2
        first | exact ⟨⟨l.length, _, rfl, HD.out⟩, Below.refl _ _⟩ | exact ⟨⟨l.length, ⟨_, rfl⟩, HD.out⟩, Below.refl _ _⟩
end Go.Proofs.Ythipnbiilobjeaa
