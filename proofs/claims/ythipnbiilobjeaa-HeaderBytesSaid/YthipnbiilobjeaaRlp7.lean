/- Rlp: contracts of the reference: Digits, head; Number, List. Rlp: contracts of the reference: Write. -/
import Derived.Test.YthipnbiilobjeaaRlp5
import Derived.Test.YthipnbiilobjeaaLater
import Derived.Deep.DeepCutAuto
namespace Go.Proofs.Ythipnbiilobjeaa
open Go.RowKit
set_option maxRecDepth 100000

set_option maxHeartbeats 1000000 in
theorem digits_any (n : Nat) (w : World) (hn : n < 18446744073709551616) :
    Calls Try.prog 168 #[.int .u64 n] w fun e w' => e = .returned (.string (mkS (dig n))) ∧ Below w.heap.size w w' := by
  go_enter Try.func168, Try.ntmps168
  go_wp2
  go_loopw [0, 3] (fun s0 s3 wr => ∃ (k : Nat) (l : List UInt8), s0 = .int .u64 k ∧ s3 = .string (mkS l) ∧ dig n = dig k ++ l ∧ k * 256 ^ l.length ≤ n ∧ Below w.heap.size w wr) (fun s0 _ _ => (intOf s0).toNat)
  case atStart => exact ⟨n, [], rfl, rfl, by simp, by simp, Below.refl _ _⟩
  case round =>
    obtain ⟨k, l, rfl, rfl, hd, hle, hbl⟩ := hrel
    by_cases hk : 0 < k
    · have h8 : l.length ≤ 7 := by
        rcases Nat.lt_or_ge l.length 8 with h | h
        · omega
        · have h1 := Nat.pow_le_pow_right (n := 256) (by decide) h
          have h2 : 256 ^ l.length ≤ k * 256 ^ l.length := Nat.le_mul_of_pos_left _ hk
          omega
      have hkn : k < 18446744073709551616 := by
        have := Nat.le_mul_of_pos_right k (Nat.pow_pos (n := l.length) (show 0 < 256 by decide))
        omega
      have hz : (mkS l).size = l.length := mk_size _
      obtain ⟨c, hc, hx⟩ : ∃ c : UInt8, UInt8.ofNat k = c ∧ (k : Int) % 256 = (c.toNat : Int) := ⟨_, rfl, by simp⟩
      have D : Hid (dig n = dig (k / 256) ++ (c :: l)) := Lib.hid (by rw [hd, dig_pos hk, List.append_assoc, hc]; rfl)
      have E : Hid ((⟨[c].toArray⟩ : ByteArray) ++ mkS l = mkS (c :: l)) := Lib.hid (mk_append [c] l)
      have hcv := (OwnB.one (w := wr) (Nat.le_refl _) c hx).conv
      have HB := Lib.hid (hbl.alloc hbl.size (.cells #[.int .u8 ((k : Int) % 256)] 5))
      have h64 : Hid (k / 256 * 256 ^ (c :: l).length ≤ n) := Lib.hid (by
        rw [List.length_cons, Nat.pow_succ, Nat.mul_comm (256 ^ l.length), ← Nat.mul_assoc]
        exact Nat.le_trans (Nat.mul_le_mul_right _ (Nat.div_mul_le_self k 256)) hle)
      clear hd hc hx hbl hle
      generalize hF : mkS (c :: l) = F at *
      have HF := Lib.hid hF
      clear hF
      go_wp2
      go_roundw
      case rel => exact ⟨k / 256, c :: l, by go_num, by rw [HF.out]; exact congrArg _ E.out, D.out, h64.out, HB.out⟩
      case measure => simp [intOf]; omega
    · obtain rfl : k = 0 := by omega
      rw [dig_zero, List.nil_append] at hd
      have HD := Lib.hid hd
      have HB := Lib.hid hbl
      clear hd hle hbl hk
      go_wp2
      go_ret
      rw [HD.out]
      exact ⟨rfl, HB.out⟩

set_option maxHeartbeats 1000000 in
theorem rhead_any (fr n : Nat) (w : World) (hf : fr = 128 ∨ fr = 192) (hn : n < 4611686018427387904) :
    Calls Try.prog 169 #[.int .i64 fr, .int .i64 n] w fun e w' => e = .returned (.string (mkS (headL fr n))) ∧ Below w.heap.size w w' := by
  have hf2 : fr ≤ 192 := by omega
  by_cases h : n ≤ 55
  · obtain ⟨c, hc, hx⟩ : ∃ c : UInt8, UInt8.ofNat (fr + n) = c ∧ (fr : Int) + n = (c.toNat : Int) := ⟨_, rfl, by simp; omega⟩
    have hcv := (OwnB.one (w := w) (Nat.le_refl _) c hx).conv
    have B1 := Lib.hid ((Below.refl w.heap.size w).alloc (Nat.le_refl _) (.cells #[.int .u8 ((fr : Int) + n)] 5))
    rw [headL_short h, hc]
    have s2 : ((fr : Int) + n) % 256 = (fr : Int) + n := by omega
    clear hf hc hx
    go_enter Try.func169, Try.ntmps169
    go_wp2
    go_ret
    exact ⟨rfl, B1.out⟩
  · have hl := dig_len 8 n (by omega)
    have KP := Lib.hid (fun w => digits_any n w (by omega))
    rw [headL, if_neg h]
    have hl0 : 1 ≤ (dig n).length := by rw [dig_pos (by omega), List.length_append]; simp
    have hz : (mkS (dig n)).size = (dig n).length := mk_size _
    obtain ⟨c, hc, hx⟩ : ∃ c : UInt8, UInt8.ofNat (fr + 55 + (dig n).length) = c ∧ (fr : Int) + 55 + (dig n).length = (c.toNat : Int) := ⟨_, rfl, by simp; omega⟩
    rw [hc]
    have E : Hid ((⟨[c].toArray⟩ : ByteArray) ++ mkS (dig n) = mkS (c :: dig n)) := Lib.hid (mk_append [c] (dig n))
    generalize mkS (c :: dig n) = R at *
    generalize (dig n).length = m at *
    generalize mkS (dig n) = D at *
    have s1 : ((fr : Int) + 55 + m) % 256 = (fr : Int) + 55 + m := by omega
    have HX := Lib.hid hx
    clear hf hc hx
    go_enter Try.func169, Try.ntmps169
    go_wp2_with fail
    refine (KP.out _).mono ?_
    rintro e w1 ⟨rfl, hb⟩
    have hcv := (OwnB.one (w := w1) (Nat.le_refl _) c HX.out).conv
    have B1 := Lib.hid (hb.alloc hb.size (.cells #[.int .u8 ((fr : Int) + 55 + m)] 5))
    clear hb
    go_wp2
    go_ret
    exact ⟨by rw [← E.out]; rfl, B1.out⟩
end Go.Proofs.Ythipnbiilobjeaa

namespace Go.Proofs.Ythipnbiilobjeaa
open Go.RowKit
set_option maxRecDepth 100000

theorem writes_append : ∀ xs ys : List It, writes (xs ++ ys) = writes xs ++ writes ys
  | [], ys => by rw [List.nil_append, writes, List.nil_append]
  | x :: xs, ys => by rw [List.cons_append, writes, writes, writes_append xs ys, List.append_assoc]

theorem writes_take {ks : List It} {i : Nat} {k : It} (h : ks[i]? = some k) : writes (ks.take (i + 1)) = writes (ks.take i) ++ k.write := by
  rw [List.take_add_one, h, writes_append]
  simp [writes]

theorem writes_take_le (ks : List It) (i : Nat) : (writes (ks.take i)).length ≤ (writes ks).length := by
  have h := congrArg List.length (congrArg writes (List.take_append_drop i ks))
  rw [writes_append, List.length_append] at h
  omega

set_option maxRecDepth 100000 in
set_option maxHeartbeats 1000000 in
theorem rwrite_any : ∀ (n : Nat) (x : It), x.size ≤ n → x.write.length ≤ 1000000000 → ∀ (v : Value) (w : World), ItemIs w x v →
    Calls Try.prog 144 #[v] w fun e w' => e = .returned (.string (mkS x.write)) ∧ Below w.heap.size w w'
  | 0, x, h, _, _, _, _ => by have := x.size_pos; omega
  | n + 1, .mk l b ks, hsz, hw, v, w, hv => by
    obtain ⟨kv, rfl, hbz, hk⟩ := itemIs_iff.1 hv
    have KI := Lib.hid (rwrite_any n)
    clear hv
    obtain ⟨p, cap, rfl, h1, h2, hg⟩ := hk.parts
    rw [It.size] at hsz
    have B : Hid (Below w.heap.size w (w.alloc (itemO l (mkS b) (.slice p ks.length cap)))) := Lib.hid ((Below.refl _ _).alloc (Nat.le_refl _) _)
    have L : Hid (RowAt (w.alloc (itemO l (mkS b) (.slice p ks.length cap))) w.heap.size #[.bool l, .string (mkS b), .slice p ks.length cap] 65) := Lib.hid (RowAt.new _ _ _)
    cases l with
    | false =>
      rw [It.write, if_neg (by simp)] at hw ⊢
      have hz : (mkS b).size = b.length := mk_size _
      clear hk hsz hg KI
      by_cases hb : b.length ≠ 1
      · rw [if_neg (fun h => hb h.1)] at hw ⊢
        rw [List.length_append] at hw
        have KH := Lib.hid (fun w => rhead_any 128 b.length w (.inl rfl) (by omega))
        have HZ : (mkS (headL 128 b.length)).size + (mkS b).size ≤ 1000000000 := by rw [mk_size, mk_size]; omega
        have HE : Hid (mkS (headL 128 b.length) ++ mkS b = mkS (headL 128 b.length ++ b)) := Lib.hid (mk_append _ _)
        generalize mkS (headL 128 b.length ++ b) = RS at *
        generalize mkS (headL 128 b.length) = HS' at *
        clear hw
        generalize b.length = bn at *
        obtain ⟨a0, a1, a2, af0, af1, af2⟩ := L.out.c3
        go_enter Try.func144, Try.ntmps144
        go_wp2
        go_upto_region 11 with (fail)
        generalize w.alloc (itemO false (mkS b) (.slice p ks.length cap)) = W at *
        obtain ⟨l0, l1, l2⟩ := L.out.l3
        (refine region_later mix ?hB ?_; case hB => kernel_rfl); (repeat (first | go_big_quiet_step ((go_at_call 169; with_reducible exact Later.call (KH.out _))) | quiet_step ((go_at_call 169; with_reducible exact Later.call (KH.out _))))); (refine wpQuiet_nil ?_; rintro _ ⟨u, rfl⟩)
        go_wp2
        go_ret
        exact ⟨by rw [← HE.out]; rfl, B.out.trans (u.below.mono B.out.size)⟩
      · obtain ⟨c, rfl⟩ : ∃ c, b = [c] := by
          match b, (by omega : b.length = 1) with
          | [c], _ => exact ⟨c, rfl⟩
        have hz1 : (mkS [c]).size = 1 := rfl
        have hg : (mkS [c])[0]'(by rw [hz1]; decide) = c := rfl
        have hcl := c.toNat_lt
        clear hb hz
        by_cases hc : c.toNat < 128
        · rw [if_pos ⟨rfl, by simpa using hc⟩] at hw ⊢
          clear hw
          obtain ⟨a0, a1, a2, af0, af1, af2⟩ := L.out.c3
          go_enter Try.func144, Try.ntmps144
          go_wp2
          go_ret
          exact ⟨rfl, B.out⟩
        · rw [if_neg (fun h => hc (by simpa using h.2))] at hw ⊢
          rw [List.length_append] at hw
          have KH := Lib.hid (fun w => rhead_any 128 [c].length w (.inl rfl) (by simp))
          have HE : Hid (mkS (headL 128 [c].length) ++ mkS [c] = mkS (headL 128 [c].length ++ [c])) := Lib.hid (mk_append _ _)
          have HZ : (mkS (headL 128 [c].length)).size = 1 := by rw [headL_short (by simp)]; rfl
          generalize mkS (headL 128 [c].length ++ [c]) = RS at *
          generalize mkS (headL 128 [c].length) = HS' at *
          clear hw
          obtain ⟨a0, a1, a2, af0, af1, af2⟩ := L.out.c3
          go_enter Try.func144, Try.ntmps144
          go_wp2
          go_upto_region 11 with (fail)
          generalize w.alloc (itemO false (mkS [c]) (.slice p ks.length cap)) = W at *
          obtain ⟨l0, l1, l2⟩ := L.out.l3
          (refine region_later mix ?hB ?_; case hB => kernel_rfl); (repeat (first | go_big_quiet_step ((go_at_call 169; with_reducible exact Later.call (KH.out _))) | quiet_step ((go_at_call 169; with_reducible exact Later.call (KH.out _))))); (refine wpQuiet_nil ?_; rintro _ ⟨u, rfl⟩)
          go_wp2
          go_ret
          exact ⟨by rw [← HE.out]; rfl, B.out.trans (u.below.mono B.out.size)⟩
    | true =>
      rw [It.write, if_pos rfl] at hw ⊢
      rw [List.length_append] at hw
      have HG := Lib.hid hg
      have HS := Lib.hid (fun i k (h : ks[i]? = some k) => (by have := sizes_get h; omega : It.size k ≤ n))
      have HD := Lib.hid (fun i k (h : ks[i]? = some k) => writes_take h)
      have HL := Lib.hid (fun i => (by have := writes_take_le ks i; omega : (writes (ks.take i)).length ≤ 1000000000))
      have D0 : Hid (writes (ks.take 0) = []) := Lib.hid (by simp [writes])
      have DM : Hid (writes (ks.take ks.length) = writes ks) := Lib.hid (by rw [List.take_length])
      have KH := Lib.hid (fun w => rhead_any 192 (writes ks).length w (.inr rfl) (by omega))
      have HZ : (mkS (headL 192 (writes ks).length)).size + (mkS (writes ks)).size ≤ 1000000000 := by rw [mk_size, mk_size]; omega
      have HE : Hid (mkS (headL 192 (writes ks).length) ++ mkS (writes ks) = mkS (headL 192 (writes ks).length ++ writes ks)) := Lib.hid (mk_append _ _)
      have HZ2 : (mkS (writes ks)).size = (writes ks).length := mk_size _
      clear hk hsz hg hbz hw
      generalize mkS (headL 192 (writes ks).length ++ writes ks) = RS at *
      generalize hm : ks.length = m at *
      have HM := Lib.hid hm
      clear hm
      obtain ⟨a0, a1, a2, af0, af1, af2⟩ := L.out.c3
      go_enter Try.func144, Try.ntmps144
      go_wp2
      go_loopw [3, 11] (fun s i wr => ∃ k : Nat, k ≤ m ∧ i = .int .i64 k ∧ s = .string (mkS (writes (ks.take k))) ∧ Below w.heap.size w wr) (fun _ i _ => m - (intOf i).toNat)
      case atStart => exact ⟨0, Nat.zero_le _, rfl, by rw [D0.out]; rfl, B.out⟩
      case round =>
        obtain ⟨k, hk, rfl, rfl, hbl⟩ := hrel
        have HB := Lib.hid hbl
        clear hbl L B D0
        by_cases hlt : k < m
        · obtain ⟨x, hx⟩ : ∃ x, ks[k]? = some x := ⟨_, List.getElem?_eq_getElem (by rw [HM.out]; exact hlt)⟩
          obtain ⟨a, l', b', p', n', c', rfl, c0, c1, c2, hi⟩ := HG.out k x hx
          have g1 := HS.out k x hx
          have HX := Lib.hid (ItemIs.below HB.out (Nat.le_refl _) _ _ hi)
          have q0 : wr.cell? (a.add (k * 3)) = some (.bool l') := by rw [HB.out.cell (block_lt_of_cell c0)]; exact c0
          have q1 : wr.cell? ⟨(a.add (k * 3)).block, (a.add (k * 3)).off + 1, none⟩ = some (.string b') := by
            have e : (⟨(a.add (k * 3)).block, (a.add (k * 3)).off + 1, none⟩ : Addr) = a.add (k * 3 + 1) := by rw [← Go.Deep.add_add]; rfl
            rw [e, HB.out.cell (block_lt_of_cell c1)]
            exact c1
          have q2 : wr.cell? ⟨(a.add (k * 3)).block, (a.add (k * 3)).off + 2, none⟩ = some (.slice p' n' c') := by
            have e : (⟨(a.add (k * 3)).block, (a.add (k * 3)).off + 2, none⟩ : Addr) = a.add (k * 3 + 2) := by rw [← Go.Deep.add_add]; rfl
            rw [e, HB.out.cell (block_lt_of_cell c2)]
            exact c2
          clear hi c0 c1 c2
          have L : Hid (RowAt (wr.alloc (itemO l' b' (.slice p' n' c'))) wr.heap.size #[.bool l', .string b', .slice p' n' c'] 65) := Lib.hid (RowAt.new _ _ _)
          replace HB := Lib.hid (HB.out.alloc HB.out.size (itemO l' b' (.slice p' n' c')))
          replace HX := Lib.hid (ItemIs.below ((Below.refl wr.heap.size wr).alloc (Nat.le_refl _) (itemO l' b' (.slice p' n' c'))) (Nat.le_refl _) _ _ HX.out)
          have HD1 := Lib.hid (HD.out k x hx)
          have hz1 := HL.out (k + 1)
          rw [HD1.out, List.length_append] at hz1
          have hz2 : (mkS (writes (ks.take k))).size = (writes (ks.take k)).length := mk_size _
          have hz3 : (mkS x.write).size = x.write.length := mk_size _
          have HE1 : Hid (mkS (writes (ks.take k)) ++ mkS x.write = mkS (writes (ks.take k) ++ x.write)) := Lib.hid (mk_append _ _)
          have hxl : x.write.length ≤ 1000000000 := by omega
          obtain ⟨a0, a1, a2, af0, af1, af2⟩ := L.out.c3
          go_wp2_with fail
          refine (KI.out x g1 hxl _ _ HX.out).mono ?_
          rintro e w2 ⟨rfl, hb⟩
          (replace HB := Lib.hid (HB.out.trans (hb.mono HB.out.size)); clear hb)
          go_wp2_with fail
          go_roundw
          case rel => exact ⟨k + 1, by omega, by go_num, by rw [HD1.out, ← HE1.out], HB.out⟩
          case measure => simp [intOf]; omega
        · obtain rfl : k = m := by omega
          rw [DM.out]
          generalize writes ks = W at *
          generalize mkS W = WS at *
          generalize mkS (headL 192 W.length) = HS' at *
          go_wp2_with fail
          refine (KH.out _).mono ?_
          rintro e w2 ⟨rfl, hb⟩
          (replace HB := Lib.hid (HB.out.trans (hb.mono HB.out.size)); clear hb)
          go_wp2_with fail
          go_ret
          exact ⟨by rw [← HE.out]; rfl, HB.out⟩
end Go.Proofs.Ythipnbiilobjeaa
