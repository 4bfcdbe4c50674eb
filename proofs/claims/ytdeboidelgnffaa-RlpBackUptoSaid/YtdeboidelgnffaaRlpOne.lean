/- Rlp: RlpOne walked. -/
import Derived.Test.YtdeboidelgnffaaRlp14
import Derived.Test.YtdeboidelgnffaaRlpRep
namespace Go.Proofs.Ytdeboidelgnffaa
open Go.RowKit

theorem enc_ok {x : It} (h : x.enc.2 = 0) : x.pure ∧ x.write.length ≤ 4000 ∧ x.enc.1 = x.write ∧ x.size ≤ 4000 ∧ x.depth ≤ 8 := by
  by_cases hp : (x.pureB && decide (x.size ≤ 4000)) = false
  · rw [It.enc, if_pos hp] at h; simp at h
  by_cases h2 : 8 < x.depth
  · rw [It.enc, if_neg hp, if_pos h2] at h; simp at h
  by_cases h3 : 4000 < x.write.length
  · rw [It.enc, if_neg hp, if_neg h2, if_pos h3] at h; simp at h
  have e : x.enc = (x.write, 0) := by rw [It.enc, if_neg hp, if_neg h2, if_neg h3]
  simp only [Bool.not_eq_false, Bool.and_eq_true, decide_eq_true_eq] at hp
  exact ⟨(pureB_iff x).1 hp.1, by omega, by rw [e], hp.2, by omega⟩

/-- No item's bytes are the beginning of another one's. -/
theorem write_prefix {x y : It} {t : List UInt8} (hx : x.pure) (hy : y.pure) (h : y.write.length ≤ 4000) (e : x.write ++ t = y.write) : x = y ∧ t = [] := by
  have hl : x.write.length ≤ y.write.length := by rw [← e, List.length_append]; omega
  have h1 := (read_write 9000).1 x t hx (by omega) (by omega)
  have h2 := (read_write 9000).1 y [] hy (by omega) (by omega)
  rw [List.append_nil, ← e, h1] at h2
  simp at h2
  exact h2

theorem writes_apart {x y : It} (hx : x.pure) (hy : y.pure) (h : x.write.length ≤ 4000) (h' : y.write.length ≤ 4000) (n : Nat) (hn : n = min x.write.length y.write.length) (he : x.write.take n = y.write.take n) : x = y := by
  rcases Nat.le_total x.write.length y.write.length with hl | hl
  · rw [Nat.min_eq_left hl] at hn
    subst hn
    rw [List.take_length] at he
    have e := List.take_append_drop x.write.length y.write
    rw [← he] at e
    exact (write_prefix hx hy h' e).1
  · rw [Nat.min_eq_right hl] at hn
    subst hn
    rw [List.take_length] at he
    have e := List.take_append_drop y.write.length x.write
    rw [he] at e
    exact (write_prefix hy hx h e).1.symm

set_option maxRecDepth 100000 in
set_option maxHeartbeats 2000000 in
theorem rlpOne_walk (w : World) (v : Value) (x : It) (hx : ItemIs w x v) (hwx : x.write.length ≤ 1000000000) (v' : Value) (y : It) (hy : ItemIs w y v') (hwy : y.write.length ≤ 1000000000) :
    Calls Try.prog 4 #[v, v'] w fun e w' => e = .returned (.bool true) ∧ Below w.heap.size w w' := by
  obtain ⟨⟨l, b, p, n, c⟩, rfl⟩ := itemIs_val hx
  obtain ⟨⟨l', b', p', n', c'⟩, rfl⟩ := itemIs_val hy
  have HX : ∀ W, Below w.heap.size w W → ItemIs W x (.agg #[.bool l, .string b, .slice p n c]) := fun W h => ItemIs.below h (Nat.le_refl _) _ _ hx
  have HY : ∀ W, Below w.heap.size w W → ItemIs W y (.agg #[.bool l', .string b', .slice p' n' c']) := fun W h => ItemIs.below h (Nat.le_refl _) _ _ hy
  have L1 : Hid (RowAt ((w.alloc (ivO (l, b, p, n, c))).alloc (ivO (l', b', p', n', c'))) w.heap.size #[.bool l, .string b, .slice p n c] 24) := Lib.hid ((RowAt.new _ _ _).alloc _)
  have L2 : Hid (RowAt ((w.alloc (ivO (l, b, p, n, c))).alloc (ivO (l', b', p', n', c'))) (w.heap.size + 1) #[.bool l', .string b', .slice p' n' c'] 24) := Lib.hid (RowAt.new' _ _ _ (by simp))
  have B : Hid (Below w.heap.size w ((w.alloc (ivO (l, b, p, n, c))).alloc (ivO (l', b', p', n', c')))) := Lib.hid (((Below.refl _ _).alloc (Nat.le_refl _) _).alloc (by simp) _)
  show Calls Try.prog 4 #[.agg #[.bool l, .string b, .slice p n c], .agg #[.bool l', .string b', .slice p' n' c']] w _
  have K1 := Lib.hid (fun W h => few_any x (.agg #[.bool l, .string b, .slice p n c]) W (HX W h))
  have K2 := Lib.hid (fun W h => few_any y (.agg #[.bool l', .string b', .slice p' n' c']) W (HY W h))
  have E1 := Lib.hid (fun W h => encode_any x (.agg #[.bool l, .string b, .slice p n c]) W (HX W h) (fun _ _ => hwx))
  have E2 := Lib.hid (fun W h => encode_any y (.agg #[.bool l', .string b', .slice p' n' c']) W (HY W h) (fun _ _ => hwy))
  have KL := Lib.hid (fun W h => like_any x.size x y (Nat.le_refl _) _ _ W (HX W h) (HY W h))
  have KA := Lib.hid (fun W => alive_any W)
  clear hx hy HX HY hwx hwy
  by_cases f1 : x.size ≤ 400
  rotate_left
  · rw [decide_eq_false f1] at K1
    clear f1 K2 E1 E2 KL
    obtain ⟨a0, a1, a2, af0, af1, af2⟩ := L1.out.c3
    obtain ⟨b0, b1, b2, bf0, bf1, bf2⟩ := L2.out.c3
    go_enter Try.func4, Try.ntmps4
    go_wp2_with fail
    refine (K1.out _ B.out).mono ?_
    rintro e w1 ⟨rfl, hb⟩
    clear a0 a1 a2 af0 af1 af2
    clear b0 b1 b2 bf0 bf1 bf2
    (replace L1 := Lib.hid (L1.out.belowS hb); replace L2 := Lib.hid (L2.out.belowS hb); replace B := Lib.hid (B.out.trans (hb.mono B.out.size)); clear hb)
    obtain ⟨a0, a1, a2, af0, af1, af2⟩ := L1.out.c3
    obtain ⟨b0, b1, b2, bf0, bf1, bf2⟩ := L2.out.c3
    go_wp2_with fail
    refine (KA.out _).mono ?_
    rintro e wz ⟨rfl, hb⟩
    clear a0 a1 a2 af0 af1 af2
    clear b0 b1 b2 bf0 bf1 bf2
    (replace B := Lib.hid (B.out.trans (hb.mono B.out.size)); clear hb)
    go_wp2
    go_ret
    exact ⟨rfl, B.out⟩
  rw [decide_eq_true f1] at K1
  clear f1
  by_cases f2 : y.size ≤ 400
  rotate_left
  · rw [decide_eq_false f2] at K2
    clear f2 E1 E2 KL
    obtain ⟨a0, a1, a2, af0, af1, af2⟩ := L1.out.c3
    obtain ⟨b0, b1, b2, bf0, bf1, bf2⟩ := L2.out.c3
    go_enter Try.func4, Try.ntmps4
    go_wp2_with fail
    refine (K1.out _ B.out).mono ?_
    rintro e w1 ⟨rfl, hb⟩
    clear a0 a1 a2 af0 af1 af2
    clear b0 b1 b2 bf0 bf1 bf2
    (replace L1 := Lib.hid (L1.out.belowS hb); replace L2 := Lib.hid (L2.out.belowS hb); replace B := Lib.hid (B.out.trans (hb.mono B.out.size)); clear hb)
    obtain ⟨a0, a1, a2, af0, af1, af2⟩ := L1.out.c3
    obtain ⟨b0, b1, b2, bf0, bf1, bf2⟩ := L2.out.c3
    go_wp2_with fail
    refine (K2.out _ B.out).mono ?_
    rintro e w2 ⟨rfl, hb⟩
    clear a0 a1 a2 af0 af1 af2
    clear b0 b1 b2 bf0 bf1 bf2
    (replace L1 := Lib.hid (L1.out.belowS hb); replace L2 := Lib.hid (L2.out.belowS hb); replace B := Lib.hid (B.out.trans (hb.mono B.out.size)); clear hb)
    obtain ⟨a0, a1, a2, af0, af1, af2⟩ := L1.out.c3
    obtain ⟨b0, b1, b2, bf0, bf1, bf2⟩ := L2.out.c3
    go_wp2_with fail
    refine (KA.out _).mono ?_
    rintro e wz ⟨rfl, hb⟩
    clear a0 a1 a2 af0 af1 af2
    clear b0 b1 b2 bf0 bf1 bf2
    (replace B := Lib.hid (B.out.trans (hb.mono B.out.size)); clear hb)
    go_wp2
    go_ret
    exact ⟨rfl, B.out⟩
  rw [decide_eq_true f2] at K2
  clear f2
  by_cases g1 : x.enc.2 = 0
  rotate_left
  · obtain ⟨c1, hc1⟩ : ∃ c1, x.enc.2 = c1 := ⟨_, rfl⟩
    rw [hc1] at E1 g1
    generalize mkS x.enc.1 = A at *
    generalize mkS y.enc.1 = A' at *
    generalize y.enc.2 = c2 at *
    clear hc1 KL
    obtain ⟨a0, a1, a2, af0, af1, af2⟩ := L1.out.c3
    obtain ⟨b0, b1, b2, bf0, bf1, bf2⟩ := L2.out.c3
    go_enter Try.func4, Try.ntmps4
    go_wp2_with fail
    refine (K1.out _ B.out).mono ?_
    rintro e w1 ⟨rfl, hb⟩
    clear a0 a1 a2 af0 af1 af2
    clear b0 b1 b2 bf0 bf1 bf2
    (replace L1 := Lib.hid (L1.out.belowS hb); replace L2 := Lib.hid (L2.out.belowS hb); replace B := Lib.hid (B.out.trans (hb.mono B.out.size)); clear hb)
    obtain ⟨a0, a1, a2, af0, af1, af2⟩ := L1.out.c3
    obtain ⟨b0, b1, b2, bf0, bf1, bf2⟩ := L2.out.c3
    go_wp2_with fail
    refine (K2.out _ B.out).mono ?_
    rintro e w2 ⟨rfl, hb⟩
    clear a0 a1 a2 af0 af1 af2
    clear b0 b1 b2 bf0 bf1 bf2
    (replace L1 := Lib.hid (L1.out.belowS hb); replace L2 := Lib.hid (L2.out.belowS hb); replace B := Lib.hid (B.out.trans (hb.mono B.out.size)); clear hb)
    obtain ⟨a0, a1, a2, af0, af1, af2⟩ := L1.out.c3
    obtain ⟨b0, b1, b2, bf0, bf1, bf2⟩ := L2.out.c3
    go_wp2_with fail
    refine (E1.out _ B.out).mono ?_
    rintro e w3 ⟨rfl, hb⟩
    clear a0 a1 a2 af0 af1 af2
    clear b0 b1 b2 bf0 bf1 bf2
    (replace L1 := Lib.hid (L1.out.belowS hb); replace L2 := Lib.hid (L2.out.belowS hb); replace B := Lib.hid (B.out.trans (hb.mono B.out.size)); clear hb)
    obtain ⟨a0, a1, a2, af0, af1, af2⟩ := L1.out.c3
    obtain ⟨b0, b1, b2, bf0, bf1, bf2⟩ := L2.out.c3
    go_wp2_with fail
    refine (E2.out _ B.out).mono ?_
    rintro e w4 ⟨rfl, hb⟩
    clear a0 a1 a2 af0 af1 af2
    clear b0 b1 b2 bf0 bf1 bf2
    (replace L1 := Lib.hid (L1.out.belowS hb); replace L2 := Lib.hid (L2.out.belowS hb); replace B := Lib.hid (B.out.trans (hb.mono B.out.size)); clear hb)
    obtain ⟨a0, a1, a2, af0, af1, af2⟩ := L1.out.c3
    obtain ⟨b0, b1, b2, bf0, bf1, bf2⟩ := L2.out.c3
    go_wp2_with fail
    refine (KA.out _).mono ?_
    rintro e wz ⟨rfl, hb⟩
    clear a0 a1 a2 af0 af1 af2
    clear b0 b1 b2 bf0 bf1 bf2
    (replace B := Lib.hid (B.out.trans (hb.mono B.out.size)); clear hb)
    go_wp2
    go_ret
    exact ⟨rfl, B.out⟩
  by_cases g2 : y.enc.2 = 0
  rotate_left
  · obtain ⟨c2, hc2⟩ : ∃ c2, y.enc.2 = c2 := ⟨_, rfl⟩
    rw [hc2] at E2 g2
    rw [g1] at E1
    generalize mkS x.enc.1 = A at *
    generalize mkS y.enc.1 = A' at *
    clear hc2 KL g1
    obtain ⟨a0, a1, a2, af0, af1, af2⟩ := L1.out.c3
    obtain ⟨b0, b1, b2, bf0, bf1, bf2⟩ := L2.out.c3
    go_enter Try.func4, Try.ntmps4
    go_wp2_with fail
    refine (K1.out _ B.out).mono ?_
    rintro e w1 ⟨rfl, hb⟩
    clear a0 a1 a2 af0 af1 af2
    clear b0 b1 b2 bf0 bf1 bf2
    (replace L1 := Lib.hid (L1.out.belowS hb); replace L2 := Lib.hid (L2.out.belowS hb); replace B := Lib.hid (B.out.trans (hb.mono B.out.size)); clear hb)
    obtain ⟨a0, a1, a2, af0, af1, af2⟩ := L1.out.c3
    obtain ⟨b0, b1, b2, bf0, bf1, bf2⟩ := L2.out.c3
    go_wp2_with fail
    refine (K2.out _ B.out).mono ?_
    rintro e w2 ⟨rfl, hb⟩
    clear a0 a1 a2 af0 af1 af2
    clear b0 b1 b2 bf0 bf1 bf2
    (replace L1 := Lib.hid (L1.out.belowS hb); replace L2 := Lib.hid (L2.out.belowS hb); replace B := Lib.hid (B.out.trans (hb.mono B.out.size)); clear hb)
    obtain ⟨a0, a1, a2, af0, af1, af2⟩ := L1.out.c3
    obtain ⟨b0, b1, b2, bf0, bf1, bf2⟩ := L2.out.c3
    go_wp2_with fail
    refine (E1.out _ B.out).mono ?_
    rintro e w3 ⟨rfl, hb⟩
    clear a0 a1 a2 af0 af1 af2
    clear b0 b1 b2 bf0 bf1 bf2
    (replace L1 := Lib.hid (L1.out.belowS hb); replace L2 := Lib.hid (L2.out.belowS hb); replace B := Lib.hid (B.out.trans (hb.mono B.out.size)); clear hb)
    obtain ⟨a0, a1, a2, af0, af1, af2⟩ := L1.out.c3
    obtain ⟨b0, b1, b2, bf0, bf1, bf2⟩ := L2.out.c3
    go_wp2_with fail
    refine (E2.out _ B.out).mono ?_
    rintro e w4 ⟨rfl, hb⟩
    clear a0 a1 a2 af0 af1 af2
    clear b0 b1 b2 bf0 bf1 bf2
    (replace L1 := Lib.hid (L1.out.belowS hb); replace L2 := Lib.hid (L2.out.belowS hb); replace B := Lib.hid (B.out.trans (hb.mono B.out.size)); clear hb)
    obtain ⟨a0, a1, a2, af0, af1, af2⟩ := L1.out.c3
    obtain ⟨b0, b1, b2, bf0, bf1, bf2⟩ := L2.out.c3
    go_wp2_with fail
    refine (KA.out _).mono ?_
    rintro e wz ⟨rfl, hb⟩
    clear a0 a1 a2 af0 af1 af2
    clear b0 b1 b2 bf0 bf1 bf2
    (replace B := Lib.hid (B.out.trans (hb.mono B.out.size)); clear hb)
    go_wp2
    go_ret
    exact ⟨rfl, B.out⟩
  obtain ⟨hp1, hl1, he1, -, -⟩ := enc_ok g1
  obtain ⟨hp2, hl2, he2, -, -⟩ := enc_ok g2
  rw [g1, he1] at E1
  rw [g2, he2] at E2
  have q1 := write_pos x hp1
  have q2 := write_pos y hp2
  obtain ⟨m, hm⟩ : ∃ m, m = min x.write.length y.write.length := ⟨_, rfl⟩
  have hap := writes_apart hp1 hp2 hl1 hl2 m hm
  have hmin : min ((mkS x.write).size : Int) ((mkS y.write).size : Int) = (m : Int) := by rw [mk_size, mk_size, hm]; omega
  have hm1 : m ≤ (mkS x.write).size := by rw [mk_size]; omega
  have hm2 : m ≤ (mkS y.write).size := by rw [mk_size]; omega
  have hm0 : 0 < m := by omega
  have hz1 : (mkS x.write).size ≤ 4000 := by rw [mk_size]; omega
  have hz2 : (mkS y.write).size ≤ 4000 := by rw [mk_size]; omega
  by_cases hxy : x = y
  · subst hxy
    rw [(like_iff x x).2 rfl] at KL
    have KL2 : Hid (∀ W, Below w.heap.size w W → Calls Try.prog 15 #[.agg #[.bool l, .string b, .slice p n c], .agg #[.bool l', .string b', .slice p' n' c']] W fun e w' => e = .returned (.bool true) ∧ Below W.heap.size W w') := KL
    clear KL hap hp1 hl1 he1 hp2 hl2 he2 q1 q2 g1 g2 hm
    generalize mkS x.write = A at *
    obtain ⟨a0, a1, a2, af0, af1, af2⟩ := L1.out.c3
    obtain ⟨b0, b1, b2, bf0, bf1, bf2⟩ := L2.out.c3
    go_enter Try.func4, Try.ntmps4
    go_wp2_with fail
    refine (K1.out _ B.out).mono ?_
    rintro e w1 ⟨rfl, hb⟩
    clear a0 a1 a2 af0 af1 af2
    clear b0 b1 b2 bf0 bf1 bf2
    (replace L1 := Lib.hid (L1.out.belowS hb); replace L2 := Lib.hid (L2.out.belowS hb); replace B := Lib.hid (B.out.trans (hb.mono B.out.size)); clear hb)
    obtain ⟨a0, a1, a2, af0, af1, af2⟩ := L1.out.c3
    obtain ⟨b0, b1, b2, bf0, bf1, bf2⟩ := L2.out.c3
    go_wp2_with fail
    refine (K2.out _ B.out).mono ?_
    rintro e w2 ⟨rfl, hb⟩
    clear a0 a1 a2 af0 af1 af2
    clear b0 b1 b2 bf0 bf1 bf2
    (replace L1 := Lib.hid (L1.out.belowS hb); replace L2 := Lib.hid (L2.out.belowS hb); replace B := Lib.hid (B.out.trans (hb.mono B.out.size)); clear hb)
    obtain ⟨a0, a1, a2, af0, af1, af2⟩ := L1.out.c3
    obtain ⟨b0, b1, b2, bf0, bf1, bf2⟩ := L2.out.c3
    go_wp2_with fail
    refine (E1.out _ B.out).mono ?_
    rintro e w3 ⟨rfl, hb⟩
    clear a0 a1 a2 af0 af1 af2
    clear b0 b1 b2 bf0 bf1 bf2
    (replace L1 := Lib.hid (L1.out.belowS hb); replace L2 := Lib.hid (L2.out.belowS hb); replace B := Lib.hid (B.out.trans (hb.mono B.out.size)); clear hb)
    obtain ⟨a0, a1, a2, af0, af1, af2⟩ := L1.out.c3
    obtain ⟨b0, b1, b2, bf0, bf1, bf2⟩ := L2.out.c3
    go_wp2_with fail
    refine (E2.out _ B.out).mono ?_
    rintro e w4 ⟨rfl, hb⟩
    clear a0 a1 a2 af0 af1 af2
    clear b0 b1 b2 bf0 bf1 bf2
    (replace L1 := Lib.hid (L1.out.belowS hb); replace L2 := Lib.hid (L2.out.belowS hb); replace B := Lib.hid (B.out.trans (hb.mono B.out.size)); clear hb)
    obtain ⟨a0, a1, a2, af0, af1, af2⟩ := L1.out.c3
    obtain ⟨b0, b1, b2, bf0, bf1, bf2⟩ := L2.out.c3
    go_wp2
    clear a0 a1 a2 af0 af1 af2
    clear b0 b1 b2 bf0 bf1 bf2
    obtain ⟨p0, p1, p2⟩ := L1.out.l3
    obtain ⟨t0, t1, t2⟩ := L2.out.l3
    have KAu := Lib.hid (fun u : Later w4 => KA.out u.w)
    have KLu := Lib.hid (fun u : Later w4 => KL2.out u.w (B.out.trans (u.below.mono B.out.size)))
    (refine region_later mix ?hB ?_; case hB => kernel_rfl); (repeat (first | go_big_quiet_step ((first | (go_at_call 12; with_reducible exact Later.call (KAu.out _)) | (go_at_call 15; with_reducible exact Later.call (KLu.out _)))) | quiet_step ((first | (go_at_call 12; with_reducible exact Later.call (KAu.out _)) | (go_at_call 15; with_reducible exact Later.call (KLu.out _)))))); (refine wpQuiet_nil ?_; rintro _ ⟨u, rfl⟩)
    go_wp2
    go_ret
    exact ⟨rfl, B.out.trans (u.below.mono B.out.size)⟩
  · have KL1 : x.like y = false := by
      cases h : x.like y with
      | false => rfl
      | true => exact absurd ((like_iff x y).1 h) hxy
    rw [KL1] at KL
    have KL2 : Hid (∀ W, Below w.heap.size w W → Calls Try.prog 15 #[.agg #[.bool l, .string b, .slice p n c], .agg #[.bool l', .string b', .slice p' n' c']] W fun e w' => e = .returned (.bool false) ∧ Below W.heap.size W w') := KL
    have hs1 := seq_false (show mkS x.write ≠ mkS y.write from fun e => hxy (hap (by rw [mk_inj e])))
    have hs2 := seq_false (show (mkS x.write).extract 0 m ≠ (mkS y.write).extract 0 m from fun e => hxy (hap (by rw [mk_extract, mk_extract] at e; simpa using mk_inj e)))
    clear KL hap hp1 hl1 he1 hp2 hl2 he2 q1 q2 g1 g2 hm hxy KL1
    generalize mkS x.write = A at *
    generalize mkS y.write = A' at *
    obtain ⟨a0, a1, a2, af0, af1, af2⟩ := L1.out.c3
    obtain ⟨b0, b1, b2, bf0, bf1, bf2⟩ := L2.out.c3
    go_enter Try.func4, Try.ntmps4
    go_wp2_with fail
    refine (K1.out _ B.out).mono ?_
    rintro e w1 ⟨rfl, hb⟩
    clear a0 a1 a2 af0 af1 af2
    clear b0 b1 b2 bf0 bf1 bf2
    (replace L1 := Lib.hid (L1.out.belowS hb); replace L2 := Lib.hid (L2.out.belowS hb); replace B := Lib.hid (B.out.trans (hb.mono B.out.size)); clear hb)
    obtain ⟨a0, a1, a2, af0, af1, af2⟩ := L1.out.c3
    obtain ⟨b0, b1, b2, bf0, bf1, bf2⟩ := L2.out.c3
    go_wp2_with fail
    refine (K2.out _ B.out).mono ?_
    rintro e w2 ⟨rfl, hb⟩
    clear a0 a1 a2 af0 af1 af2
    clear b0 b1 b2 bf0 bf1 bf2
    (replace L1 := Lib.hid (L1.out.belowS hb); replace L2 := Lib.hid (L2.out.belowS hb); replace B := Lib.hid (B.out.trans (hb.mono B.out.size)); clear hb)
    obtain ⟨a0, a1, a2, af0, af1, af2⟩ := L1.out.c3
    obtain ⟨b0, b1, b2, bf0, bf1, bf2⟩ := L2.out.c3
    go_wp2_with fail
    refine (E1.out _ B.out).mono ?_
    rintro e w3 ⟨rfl, hb⟩
    clear a0 a1 a2 af0 af1 af2
    clear b0 b1 b2 bf0 bf1 bf2
    (replace L1 := Lib.hid (L1.out.belowS hb); replace L2 := Lib.hid (L2.out.belowS hb); replace B := Lib.hid (B.out.trans (hb.mono B.out.size)); clear hb)
    obtain ⟨a0, a1, a2, af0, af1, af2⟩ := L1.out.c3
    obtain ⟨b0, b1, b2, bf0, bf1, bf2⟩ := L2.out.c3
    go_wp2_with fail
    refine (E2.out _ B.out).mono ?_
    rintro e w4 ⟨rfl, hb⟩
    clear a0 a1 a2 af0 af1 af2
    clear b0 b1 b2 bf0 bf1 bf2
    (replace L1 := Lib.hid (L1.out.belowS hb); replace L2 := Lib.hid (L2.out.belowS hb); replace B := Lib.hid (B.out.trans (hb.mono B.out.size)); clear hb)
    obtain ⟨a0, a1, a2, af0, af1, af2⟩ := L1.out.c3
    obtain ⟨b0, b1, b2, bf0, bf1, bf2⟩ := L2.out.c3
    go_wp2
    clear a0 a1 a2 af0 af1 af2
    clear b0 b1 b2 bf0 bf1 bf2
    obtain ⟨p0, p1, p2⟩ := L1.out.l3
    obtain ⟨t0, t1, t2⟩ := L2.out.l3
    have KAu := Lib.hid (fun u : Later w4 => KA.out u.w)
    have KLu := Lib.hid (fun u : Later w4 => KL2.out u.w (B.out.trans (u.below.mono B.out.size)))
    (refine region_later mix ?hB ?_; case hB => kernel_rfl); (repeat (first | go_big_quiet_step ((first | (go_at_call 12; with_reducible exact Later.call (KAu.out _)) | (go_at_call 15; with_reducible exact Later.call (KLu.out _)))) | quiet_step ((first | (go_at_call 12; with_reducible exact Later.call (KAu.out _)) | (go_at_call 15; with_reducible exact Later.call (KLu.out _)))))); (refine wpQuiet_nil ?_; rintro _ ⟨u, rfl⟩)
    go_wp2
    go_ret
    exact ⟨rfl, B.out.trans (u.below.mono B.out.size)⟩
end Go.Proofs.Ytdeboidelgnffaa
