/- Rlp: contracts of the reference: pure. -/
import Derived.Test.YtdeboidelgnffaaRlp4
namespace Go.Proofs.Ytdeboidelgnffaa
open Go.RowKit

mutual
def It.pureB : It → Bool
  | .mk l b ks => (if l = true then b.isEmpty else ks.isEmpty) && puresB ks
def puresB : List It → Bool
  | [] => true
  | k :: ks => k.pureB && puresB ks
end

mutual
theorem pureB_iff : ∀ x : It, x.pureB = true ↔ x.pure
  | .mk l b ks => by
    rw [It.pureB, It.pure, Bool.and_eq_true, puresB_iff ks]
    cases l <;> simp
theorem puresB_iff : ∀ ks : List It, puresB ks = true ↔ pures ks
  | [] => by simp [puresB, pures]
  | k :: ks => by rw [puresB, pures, Bool.and_eq_true, pureB_iff k, puresB_iff ks]
end

theorem puresB_take {ks : List It} {i : Nat} {k : It} (h : ks[i]? = some k) : puresB (ks.take (i + 1)) = (puresB (ks.take i) && k.pureB) := by
  have e : ∀ xs ys : List It, puresB (xs ++ ys) = (puresB xs && puresB ys) := by
    intro xs ys
    induction xs with
    | nil => simp [puresB]
    | cons x xs ih => rw [List.cons_append, puresB, puresB, ih, Bool.and_assoc]
  rw [List.take_add_one, h, e]
  simp [puresB]

theorem puresB_false {ks : List It} {i : Nat} {k : It} (h : ks[i]? = some k) (hk : k.pureB = false) : puresB ks = false := by
  cases hp : puresB ks with
  | false => rfl
  | true =>
    have := pures_get ((puresB_iff ks).1 hp) h
    rw [← pureB_iff, hk] at this
    cases this

set_option maxRecDepth 100000 in
set_option maxHeartbeats 1000000 in
theorem rpure_any : ∀ (n : Nat) (x : It), x.size ≤ n → ∀ (v : Value) (w : World), ItemIs w x v →
    Calls Try.prog 26 #[v] w fun e w' => e = .returned (.bool x.pureB) ∧ Below w.heap.size w w'
  | 0, x, h, _, _, _ => by have := x.size_pos; omega
  | n + 1, .mk l b ks, hsz, v, w, hv => by
    obtain ⟨kv, rfl, hbz, hk⟩ := itemIs_iff.1 hv
    have KI := Lib.hid (rpure_any n)
    clear hv
    obtain ⟨p, cap, rfl, h1, h2, hg⟩ := hk.parts
    rw [It.size] at hsz
    have HG := Lib.hid hg
    have HS := Lib.hid (fun i k (h : ks[i]? = some k) => (by have := sizes_get h; omega : It.size k ≤ n))
    have HD := Lib.hid (fun i k (h : ks[i]? = some k) => puresB_take h)
    have HF := Lib.hid (fun i k (h : ks[i]? = some k) (h' : k.pureB = false) => puresB_false h h')
    have L : Hid (RowAt (w.alloc (itemO l (mkS b) (.slice p ks.length cap))) w.heap.size #[.bool l, .string (mkS b), .slice p ks.length cap] 24) := Lib.hid (RowAt.new _ _ _)
    have B : Hid (Below w.heap.size w (w.alloc (itemO l (mkS b) (.slice p ks.length cap)))) := Lib.hid ((Below.refl _ _).alloc (Nat.le_refl _) _)
    have D0 : Hid (puresB (ks.take 0) = true) := Lib.hid (by simp [puresB])
    have DM : Hid (puresB (ks.take ks.length) = puresB ks) := Lib.hid (by rw [List.take_length])
    have hcase : (l = false ∧ 0 < ks.length ∧ (It.mk l b ks).pureB = false) ∨ (l = true ∧ b ≠ [] ∧ (It.mk l b ks).pureB = false) ∨ (l = false ∧ ks.length = 0 ∧ (It.mk l b ks).pureB = puresB ks) ∨ (l = true ∧ b = [] ∧ (It.mk l b ks).pureB = puresB ks) := by
      cases l
      · cases ks
        · right; right; left; simp [It.pureB]
        · left; simp [It.pureB]
      · cases b
        · right; right; right; simp [It.pureB]
        · right; left; simp [It.pureB]
    clear hk hsz hg hbz
    generalize hm : ks.length = m at *
    have HM := Lib.hid hm
    clear hm
    rcases hcase with ⟨rfl, hc, hr⟩ | ⟨rfl, hc, hr⟩ | ⟨rfl, hc, hr⟩ | ⟨rfl, hc, hr⟩
    · have HR := Lib.hid hr
      clear hr
      obtain ⟨a0, a1, a2, af0, af1, af2⟩ := L.out.c3
      go_enter Try.func26, Try.ntmps26
      go_wp2
      go_ret
      rw [HR.out]
      exact ⟨rfl, B.out⟩
    · have HR := Lib.hid hr
      have hs : ¬ (mkS b).toList = [] := by rw [toList_bl, bl_mk]; exact hc
      have hs2 : (mkS b).toList.isEmpty = false := by rw [toList_bl, bl_mk]; simpa using hc
      clear hr hc
      obtain ⟨a0, a1, a2, af0, af1, af2⟩ := L.out.c3
      go_enter Try.func26, Try.ntmps26
      go_wp2
      go_ret
      rw [HR.out]
      exact ⟨rfl, B.out⟩
    · subst hc
      have R := Lib.hid (hr.trans (DM.out.symm.trans D0.out))
      clear hr
      obtain ⟨a0, a1, a2, af0, af1, af2⟩ := L.out.c3
      go_enter Try.func26, Try.ntmps26
      go_wp2
      go_loopw [26] (fun i wr => i = .int .i64 0 ∧ Below w.heap.size w wr) (fun _ _ => 0)
      case atStart => exact ⟨rfl, B.out⟩
      case round =>
        obtain ⟨rfl, hbl⟩ := hrel
        have HB := Lib.hid hbl
        clear hbl
        go_wp2
        go_ret
        rw [R.out]
        exact ⟨rfl, HB.out⟩
    · have HR := Lib.hid hr
      subst hc
      have hs : (mkS []).toList = [] := by rw [toList_bl, bl_mk]
      clear hr
      obtain ⟨a0, a1, a2, af0, af1, af2⟩ := L.out.c3
      go_enter Try.func26, Try.ntmps26
      go_wp2
      go_loopw [26] (fun i wr => ∃ k : Nat, k ≤ m ∧ i = .int .i64 k ∧ puresB (ks.take k) = true ∧ Below w.heap.size w wr) (fun i _ => m - (intOf i).toNat)
      case atStart => exact ⟨0, Nat.zero_le _, rfl, D0.out, B.out⟩
      case round =>
        obtain ⟨k, hk, rfl, hp, hbl⟩ := hrel
        have HB := Lib.hid hbl
        have HP := Lib.hid hp
        clear hbl hp L B D0
        by_cases hlt : k < m
        · obtain ⟨x, hx⟩ : ∃ x, ks[k]? = some x := ⟨_, List.getElem?_eq_getElem (by rw [HM.out]; exact hlt)⟩
          obtain ⟨a, l', b', p', n', c', rfl, c0, c1, c2, hi⟩ := HG.out k x hx
          have g1 := HS.out k x hx
          have HX := Lib.hid (ItemIs.below HB.out (Nat.le_refl _) _ _ hi)
          have q0 : wr.cell? (a.add (k * 3)) = some (.bool l') := by rw [HB.out.cell (block_lt_of_cell c0)]; exact c0
          have q1 : wr.cell? ⟨(a.add (k * 3)).block, (a.add (k * 3)).off + 1, none⟩ = some (.string b') := by
            have e : (⟨(a.add (k * 3)).block, (a.add (k * 3)).off + 1, none⟩ : Addr) = a.add (k * 3 + 1) := by rw [← Go.Deep.add_add]; rfl
            rw [e, HB.out.cell (block_lt_of_cell c1)]
            exact c1
          have q2 : wr.cell? ⟨(a.add (k * 3)).block, (a.add (k * 3)).off + 2, none⟩ = some (.slice p' n' c') := by
            have e : (⟨(a.add (k * 3)).block, (a.add (k * 3)).off + 2, none⟩ : Addr) = a.add (k * 3 + 2) := by rw [← Go.Deep.add_add]; rfl
            rw [e, HB.out.cell (block_lt_of_cell c2)]
            exact c2
          clear hi c0 c1 c2
          have L : Hid (RowAt (wr.alloc (itemO l' b' (.slice p' n' c'))) wr.heap.size #[.bool l', .string b', .slice p' n' c'] 24) := Lib.hid (RowAt.new _ _ _)
          replace HB := Lib.hid (HB.out.alloc HB.out.size (itemO l' b' (.slice p' n' c')))
          replace HX := Lib.hid (ItemIs.below ((Below.refl wr.heap.size wr).alloc (Nat.le_refl _) (itemO l' b' (.slice p' n' c'))) (Nat.le_refl _) _ _ HX.out)
          have HD1 := Lib.hid (HD.out k x hx)
          have HF1 := Lib.hid (HF.out k x hx)
          obtain ⟨a0, a1, a2, af0, af1, af2⟩ := L.out.c3
          go_wp2_with fail
          refine (KI.out x g1 _ _ HX.out).mono ?_
          rintro e w2 ⟨rfl, hb⟩
          (replace HB := Lib.hid (HB.out.trans (hb.mono HB.out.size)); clear hb)
          generalize hxp : x.pureB = xp at *
          cases xp with
          | false =>
            go_wp2_with fail
            go_ret
            rw [HR.out, HF1.out trivial]
            exact ⟨rfl, HB.out⟩
          | true =>
            go_wp2_with fail
            go_roundw
            case rel => exact ⟨k + 1, by omega, by go_num, by rw [HD1.out, HP.out]; rfl, HB.out⟩
            case measure => simp [intOf]; omega
        · obtain rfl : k = m := by omega
          have R := Lib.hid (HR.out.trans (DM.out.symm.trans HP.out))
          go_wp2
          go_ret
          rw [R.out]
          exact ⟨rfl, HB.out⟩
end Go.Proofs.Ytdeboidelgnffaa
