/- Rlp: the contract of the reference's Like. -/
import Derived.Test.YtdeboidelgnffaaRlp13
namespace Go.Proofs.Ytdeboidelgnffaa
open Go.RowKit

set_option maxRecDepth 100000 in
set_option maxHeartbeats 2000000 in
theorem like_any : ∀ (n : Nat) (x y : It), x.size ≤ n → ∀ (v v' : Value) (w : World), ItemIs w x v → ItemIs w y v' →
    Calls Try.prog 15 #[v, v'] w fun e w' => e = .returned (.bool (x.like y)) ∧ Below w.heap.size w w'
  | 0, x, _, h, _, _, _, _, _ => by have := x.size_pos; omega
  | n + 1, .mk l b ks, .mk l' b' ks', hsz, v, v', w, hv, hv' => by
    obtain ⟨kv, rfl, hbz, hk⟩ := itemIs_iff.1 hv
    obtain ⟨kv', rfl, hbz', hk'⟩ := itemIs_iff.1 hv'
    have KI := Lib.hid (like_any n)
    clear hv hv'
    obtain ⟨p, cap, rfl, h1, h2, hg⟩ := hk.parts
    obtain ⟨p', cap', rfl, h1', h2', hg'⟩ := hk'.parts
    rw [It.size] at hsz
    have HG := Lib.hid hg
    have HG' := Lib.hid hg'
    have HS := Lib.hid (fun i k (h : ks[i]? = some k) => (by have := sizes_get h; omega : It.size k ≤ n))
    have HD := Lib.hid (fun i k k' (h : ks[i]? = some k) (h' : ks'[i]? = some k') => likes_take h h')
    have HF := Lib.hid (fun i k k' (h : ks[i]? = some k) (h' : ks'[i]? = some k') (hf : k.like k' = false) => likes_stop h h' hf)
    have L1 : Hid (RowAt ((w.alloc (itemO l (mkS b) (.slice p ks.length cap))).alloc (itemO l' (mkS b') (.slice p' ks'.length cap'))) w.heap.size #[.bool l, .string (mkS b), .slice p ks.length cap] 24) := Lib.hid ((RowAt.new _ _ _).alloc _)
    have L2 : Hid (RowAt ((w.alloc (itemO l (mkS b) (.slice p ks.length cap))).alloc (itemO l' (mkS b') (.slice p' ks'.length cap'))) (w.heap.size + 1) #[.bool l', .string (mkS b'), .slice p' ks'.length cap'] 24) := Lib.hid (RowAt.new' _ _ _ (by simp))
    have B : Hid (Below w.heap.size w ((w.alloc (itemO l (mkS b) (.slice p ks.length cap))).alloc (itemO l' (mkS b') (.slice p' ks'.length cap')))) := Lib.hid (((Below.refl _ _).alloc (Nat.le_refl _) _).alloc (by simp) _)
    clear hk hk' hsz hg hg' hbz hbz'
    by_cases e1 : l = l'
    · subst e1
      by_cases e2 : b = b'
      · subst e2
        by_cases e3 : ks.length = ks'.length
        · have HR : Hid ((It.mk l b ks).like (.mk l b ks') = likes ks ks') := Lib.hid (by rw [It.like]; simp)
          have D0 : Hid (likes (ks.take 0) (ks'.take 0) = true) := Lib.hid (by simp [likes])
          have DM : Hid (likes (ks.take ks.length) (ks'.take ks.length) = likes ks ks') := Lib.hid (by rw [List.take_length, e3, List.take_length])
          rw [← e3] at L1 L2 B h1'
          rw [← e3]
          generalize hm : ks.length = m at *
          have HM := Lib.hid hm
          have HM' := Lib.hid e3
          clear hm e3
          obtain ⟨a0, a1, a2, af0, af1, af2⟩ := L1.out.c3
          obtain ⟨b0, b1, b2, bf0, bf1, bf2⟩ := L2.out.c3
          go_enter Try.func15, Try.ntmps15
          go_wp2
          clear a0 a1 a2 af0 af1 af2
          clear b0 b1 b2 bf0 bf1 bf2
          generalize (w.alloc (itemO l (mkS b) (.slice p m cap))).alloc (itemO l (mkS b) (.slice p' m cap')) = W at *
          go_loopw [30] (fun i wr => ∃ k : Nat, k ≤ m ∧ i = .int .i64 k ∧ likes (ks.take k) (ks'.take k) = true ∧ RowAt wr w.heap.size #[.bool l, .string (mkS b), .slice p m cap] 24 ∧ RowAt wr (w.heap.size + 1) #[.bool l, .string (mkS b), .slice p' m cap'] 24 ∧ Below w.heap.size w wr) (fun i _ => m - (intOf i).toNat)
          case atStart => exact ⟨0, Nat.zero_le _, rfl, D0.out, L1.out, L2.out, B.out⟩
          case round =>
            clear L1 L2 B D0
            obtain ⟨k, hk, rfl, hp, l1, l2, hbl⟩ := hrel
            have HB := Lib.hid hbl
            have HP := Lib.hid hp
            have L1 := Lib.hid l1
            have L2 := Lib.hid l2
            clear hbl hp l1 l2
            by_cases hlt : k < m
            · obtain ⟨x, hx⟩ : ∃ x, ks[k]? = some x := ⟨_, List.getElem?_eq_getElem (by rw [HM.out]; exact hlt)⟩
              obtain ⟨y, hy⟩ : ∃ y, ks'[k]? = some y := ⟨_, List.getElem?_eq_getElem (by rw [← HM'.out]; exact hlt)⟩
              obtain ⟨a, l', b', q', n', c', rfl, c0, c1, c2, hi⟩ := HG.out k x hx
              obtain ⟨a2, l2, b2, q2, n2, c2', rfl, d0, d1, d2, hi'⟩ := HG'.out k y hy
              have g1 := HS.out k x hx
              have HX : Hid (∀ u : Later wr, ItemIs u.w x (.agg #[.bool l', .string b', .slice q' n' c'])) := Lib.hid fun u => ItemIs.below (HB.out.trans (u.below.mono HB.out.size)) (Nat.le_refl _) _ _ hi
              have HY : Hid (∀ u : Later wr, ItemIs u.w y (.agg #[.bool l2, .string b2, .slice q2 n2 c2'])) := Lib.hid fun u => ItemIs.below (HB.out.trans (u.below.mono HB.out.size)) (Nat.le_refl _) _ _ hi'
              have key : ∀ {q : Addr} {v : Value}, w.cell? q = some v → ∀ u : Later wr, u.w.cell? q = some v := fun h u => by
                rw [(HB.out.trans (u.below.mono HB.out.size)).cell (block_lt_of_cell h)]; exact h
              have r0 := key c0
              have r1 : ∀ u : Later wr, u.w.cell? ⟨(a.add (k * 3)).block, (a.add (k * 3)).off + 1, none⟩ = some (.string b') := by
                have e : (⟨(a.add (k * 3)).block, (a.add (k * 3)).off + 1, none⟩ : Addr) = a.add (k * 3 + 1) := by rw [← Go.Deep.add_add]; rfl
                rw [e]
                exact key c1
              have r2 : ∀ u : Later wr, u.w.cell? ⟨(a.add (k * 3)).block, (a.add (k * 3)).off + 2, none⟩ = some (.slice q' n' c') := by
                have e : (⟨(a.add (k * 3)).block, (a.add (k * 3)).off + 2, none⟩ : Addr) = a.add (k * 3 + 2) := by rw [← Go.Deep.add_add]; rfl
                rw [e]
                exact key c2
              have s0 := key d0
              have s1 : ∀ u : Later wr, u.w.cell? ⟨(a2.add (k * 3)).block, (a2.add (k * 3)).off + 1, none⟩ = some (.string b2) := by
                have e : (⟨(a2.add (k * 3)).block, (a2.add (k * 3)).off + 1, none⟩ : Addr) = a2.add (k * 3 + 1) := by rw [← Go.Deep.add_add]; rfl
                rw [e]
                exact key d1
              have s2 : ∀ u : Later wr, u.w.cell? ⟨(a2.add (k * 3)).block, (a2.add (k * 3)).off + 2, none⟩ = some (.slice q2 n2 c2') := by
                have e : (⟨(a2.add (k * 3)).block, (a2.add (k * 3)).off + 2, none⟩ : Addr) = a2.add (k * 3 + 2) := by rw [← Go.Deep.add_add]; rfl
                rw [e]
                exact key d2
              clear key c0 c1 c2 d0 d1 d2 hi hi'
              have HD1 := Lib.hid (HD.out k x y hx hy)
              have HF1 := Lib.hid (HF.out k x y hx hy)
              have KC : Hid (∀ u : Later wr, Calls Try.prog 15 #[.agg #[.bool l', .string b', .slice q' n' c'], .agg #[.bool l2, .string b2, .slice q2 n2 c2']] u.w fun e w' => e = .returned (.bool (x.like y)) ∧ Below u.w.heap.size u.w w') := Lib.hid fun u => KI.out x y g1 _ _ _ (HX.out u) (HY.out u)
              obtain ⟨p0, p1, p2⟩ := L1.out.l3
              obtain ⟨t0, t1, t2⟩ := L2.out.l3
              clear HX HY hx hy
              generalize hxy : x.like y = xy at *
              clear hxy
              go_wp2
              (refine region_later mix ?hB ?_; case hB => kernel_rfl); (repeat (first | go_big_quiet_step ((go_at_call 15; with_reducible exact Later.call (KC.out _))) | quiet_step ((go_at_call 15; with_reducible exact Later.call (KC.out _))))); (refine wpQuiet_nil ?_; rintro _ ⟨u, rfl⟩)
              clear r0 r1 r2 s0 s1 s2 p0 p1 p2 t0 t1 t2
              have HB2 := Lib.hid (HB.out.trans (u.below.mono HB.out.size))
              cases xy with
              | false =>
                go_wp2
                go_ret
                rw [HR.out, HF1.out trivial]
                exact ⟨rfl, HB2.out⟩
              | true =>
                have M1 := Lib.hid (L1.out.later u)
                have M2 := Lib.hid (L2.out.later u)
                clear L1 L2 HB
                go_wp2
                go_roundw
                case rel => exact ⟨k + 1, by omega, by go_num, by rw [HD1.out, HP.out]; rfl, M1.out, M2.out, HB2.out⟩
                case measure => simp [intOf]; omega
            · obtain rfl : k = m := by omega
              have R := Lib.hid (HR.out.trans (DM.out.symm.trans HP.out))
              go_wp2
              go_ret
              rw [R.out]
              exact ⟨rfl, HB.out⟩
        · have HR : Hid ((It.mk l b ks).like (.mk l b ks') = false) := Lib.hid (by
            rw [It.like]
            cases hl : likes ks ks' with
            | false => simp
            | true => exact absurd (likes_length hl) e3)
          generalize ks.length = m1 at *
          generalize ks'.length = m2 at *
          have hne : ((m1 : Int) == (m2 : Int)) = false := by simp; omega
          clear e3
          obtain ⟨a0, a1, a2, af0, af1, af2⟩ := L1.out.c3
          obtain ⟨b0, b1, b2, bf0, bf1, bf2⟩ := L2.out.c3
          go_enter Try.func15, Try.ntmps15
          go_wp2
          go_ret
          rw [HR.out]
          exact ⟨rfl, B.out⟩
      · have HR : Hid ((It.mk l b ks).like (.mk l b' ks') = false) := Lib.hid (by rw [It.like]; simp [e2])
        have hs := seq_false (show mkS b ≠ mkS b' from fun e => e2 (mk_inj e))
        clear e2
        obtain ⟨a0, a1, a2, af0, af1, af2⟩ := L1.out.c3
        obtain ⟨b0, b1, b2, bf0, bf1, bf2⟩ := L2.out.c3
        go_enter Try.func15, Try.ntmps15
        go_wp2
        go_ret
        rw [HR.out]
        exact ⟨rfl, B.out⟩
    · have HR : Hid ((It.mk l b ks).like (.mk l' b' ks') = false) := Lib.hid (by rw [It.like]; simp [e1])
      cases l <;> cases l' <;> first | exact absurd rfl e1 | skip
      all_goals
        clear e1
        obtain ⟨a0, a1, a2, af0, af1, af2⟩ := L1.out.c3
        obtain ⟨b0, b1, b2, bf0, bf1, bf2⟩ := L2.out.c3
        go_enter Try.func15, Try.ntmps15
        go_wp2
        go_ret
        rw [HR.out]
        exact ⟨rfl, B.out⟩
end Go.Proofs.Ytdeboidelgnffaa
