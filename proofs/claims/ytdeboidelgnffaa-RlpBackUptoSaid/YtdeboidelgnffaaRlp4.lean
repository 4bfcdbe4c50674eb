/- Rlp: contracts of the reference: Depth. -/
import Derived.Test.YtdeboidelgnffaaRlp3
namespace Go.Proofs.Ytdeboidelgnffaa
open Go.RowKit

set_option maxHeartbeats 1000000 in
theorem rdepth_any : ∀ (n : Nat) (x : It), x.size ≤ n → x.size ≤ 1000000 → ∀ (v : Value) (w : World), ItemIs w x v →
    Calls Try.prog 27 #[v] w fun e w' => e = .returned (.int .i64 x.depth) ∧ Below w.heap.size w w'
  | 0, x, h, _, _, _, _ => by have := x.size_pos; omega
  | n + 1, .mk l b ks, hsz, hs, v, w, hv => by
    obtain ⟨kv, rfl, hbz, hk⟩ := itemIs_iff.1 hv
    have KI := Lib.hid (rdepth_any n)
    clear hv
    obtain ⟨p, cap, rfl, h1, h2, hg⟩ := hk.parts
    rw [It.size] at hsz hs
    have hdl := depths_le ks
    have HG := Lib.hid hg
    have HS := Lib.hid (fun i k (h : ks[i]? = some k) => (⟨by have := sizes_get h; omega, by have := sizes_get h; omega⟩ : It.size k ≤ n ∧ It.size k ≤ 1000000))
    have HD := Lib.hid (fun i k (h : ks[i]? = some k) => depths_take h)
    have E : Hid ((It.mk l b ks).depth = depths (ks.take ks.length) + (if l = true then 1 else 0)) := Lib.hid (by simp [It.depth])
    have HL := Lib.hid (fun i => (by have := depths_le (ks.take i); have h := congrArg sizes (List.take_append_drop i ks); rw [sizes_append] at h; omega : depths (ks.take i) ≤ 1000000))
    have L : Hid (RowAt (w.alloc (itemO l (mkS b) (.slice p ks.length cap))) w.heap.size #[.bool l, .string (mkS b), .slice p ks.length cap] 24) := Lib.hid (RowAt.new _ _ _)
    have B : Hid (Below w.heap.size w (w.alloc (itemO l (mkS b) (.slice p ks.length cap)))) := Lib.hid ((Below.refl _ _).alloc (Nat.le_refl _) _)
    have D0 : Hid (depths (ks.take 0) = 0) := Lib.hid (by simp [depths])
    clear hk hsz hs hg hdl hbz
    generalize hm : ks.length = m at *
    have HM := Lib.hid hm
    clear hm
    obtain ⟨a0, a1, a2, af0, af1, af2⟩ := L.out.c3
    go_enter Try.func27, Try.ntmps27
    go_wp2
    go_loopw [3, 10] (fun d i wr => ∃ k : Nat, k ≤ m ∧ i = .int .i64 k ∧ d = .int .i64 (depths (ks.take k)) ∧ Below w.heap.size w wr ∧ RowAt wr w.heap.size #[.bool l, .string (mkS b), .slice p m cap] 24) (fun _ i _ => m - (intOf i).toNat)
    case atStart => exact ⟨0, Nat.zero_le _, rfl, by rw [D0.out]; rfl, B.out, L.out⟩
    case round =>
      obtain ⟨k, hk, rfl, rfl, hbl, hrow⟩ := hrel
      have HB := Lib.hid hbl
      have R := Lib.hid hrow
      clear hbl hrow L B
      by_cases hlt : k < m
      · obtain ⟨x, hx⟩ : ∃ x, ks[k]? = some x := ⟨_, List.getElem?_eq_getElem (by rw [HM.out]; exact hlt)⟩
        obtain ⟨a, l', b', p', n', c', rfl, c0, c1, c2, hi⟩ := HG.out k x hx
        obtain ⟨g1, g3⟩ := HS.out k x hx
        have HX := Lib.hid (ItemIs.below HB.out (Nat.le_refl _) _ _ hi)
        have q0 : wr.cell? (a.add (k * 3)) = some (.bool l') := by rw [HB.out.cell (block_lt_of_cell c0)]; exact c0
        have q1 : wr.cell? ⟨(a.add (k * 3)).block, (a.add (k * 3)).off + 1, none⟩ = some (.string b') := by
          have e : (⟨(a.add (k * 3)).block, (a.add (k * 3)).off + 1, none⟩ : Addr) = a.add (k * 3 + 1) := by rw [← Go.Deep.add_add]; rfl
          rw [e, HB.out.cell (block_lt_of_cell c1)]
          exact c1
        have q2 : wr.cell? ⟨(a.add (k * 3)).block, (a.add (k * 3)).off + 2, none⟩ = some (.slice p' n' c') := by
          have e : (⟨(a.add (k * 3)).block, (a.add (k * 3)).off + 2, none⟩ : Addr) = a.add (k * 3 + 2) := by rw [← Go.Deep.add_add]; rfl
          rw [e, HB.out.cell (block_lt_of_cell c2)]
          exact c2
        clear hi c0 c1 c2
        have L : Hid (RowAt (wr.alloc (itemO l' b' (.slice p' n' c'))) wr.heap.size #[.bool l', .string b', (.slice p' n' c')] 24) := Lib.hid (RowAt.new _ _ _)
        replace R := Lib.hid (R.out.alloc (itemO l' b' (.slice p' n' c')))
        replace HB := Lib.hid (HB.out.alloc HB.out.size (itemO l' b' (.slice p' n' c')))
        replace HX := Lib.hid (ItemIs.below ((Below.refl wr.heap.size wr).alloc (Nat.le_refl _) (itemO l' b' (.slice p' n' c'))) (Nat.le_refl _) _ _ HX.out)
        have HD1 := Lib.hid (HD.out k x hx)
        have hd1 := HL.out k
        have hd2 := HL.out (k + 1)
        obtain ⟨a0, a1, a2, af0, af1, af2⟩ := L.out.c3
        go_wp2_with fail
        refine (KI.out x g1 g3 _ _ HX.out).mono ?_
        rintro e w2 ⟨rfl, hb⟩
        (replace R := Lib.hid (R.out.belowS hb); replace HB := Lib.hid (HB.out.trans (hb.mono HB.out.size)); clear hb)
        rw [HD1.out] at hd2
        generalize depths (ks.take k) = d at *
        generalize x.depth = dx at *
        by_cases hdx : d < dx
        · go_wp2_with fail
          go_roundw
          case rel => exact ⟨k + 1, by omega, by go_num, by rw [HD1.out]; go_num, HB.out, R.out⟩
          case measure => simp [intOf]; omega
        · go_wp2_with fail
          go_roundw
          case rel => exact ⟨k + 1, by omega, by go_num, by rw [HD1.out]; go_num, HB.out, R.out⟩
          case measure => simp [intOf]; omega
      · obtain rfl : k = m := by omega
        have hd := HL.out k
        have E1 := Lib.hid E.out
        generalize depths (ks.take k) = d at *
        cases l with
        | false =>
          obtain ⟨r0, r1, r2, rf0, rf1, rf2⟩ := R.out.c3
          go_wp2
          go_ret
          rw [E1.out]
          exact ⟨by simp, HB.out⟩
        | true =>
          obtain ⟨r0, r1, r2, rf0, rf1, rf2⟩ := R.out.c3
          go_wp2
          go_ret
          rw [E1.out, if_pos trivial]
          exact ⟨by go_num, HB.out⟩
end Go.Proofs.Ytdeboidelgnffaa
