/- Rlp: contracts of the reference: Digits, head; Number, List. Rlp: contracts of the reference: Write. strings.Builder at this program: contracts of copyCheck, Len, WriteString, String (Len's and String's laid out of the library's shelf by its own tool; the two others walked here). Rlp: the queue grows; the contract of well. Rlp: the contract of well. Rlp: the contract of the reference's Many. Rlp: contracts of the program: write. Rlp: contracts of both Encodes. Rlp: contracts of the reference's Encode, of alive and few; items compared. Rlp: numbers: plain laws; contracts of Value, the reference's Value, and both Numbers. -/
import Derived.Deep.DeepCutAuto
import Derived.Shelf.Strings.Builder1
import Derived.Deep.SlicePairs
import Derived.Laws.Bits64b
import Derived.Test.YtefmlbckbhlgdaaTm0
import Derived.Test.YtefmlbckbhlgdaaTm1
import Derived.Test.YtefmlbckbhlgdaaTm3
namespace Go.Proofs.Ytefmlbckbhlgdaa
open Go.RowKit
set_option maxRecDepth 100000
set_option maxHeartbeats 1000000 in
theorem digits_any (n : Nat) (w : World) (hn : n < 18446744073709551616) :
    Calls Try.prog 141 #[.int .u64 n] w fun e w' => e = .returned (.string (mkS (dig n))) ∧ Below w.heap.size w w' := by
  go_enter Try.func141, Try.ntmps141
  go_wp2
  go_loopw [0, 3] (fun s0 s3 wr => ∃ (k : Nat) (l : List UInt8), s0 = .int .u64 k ∧ s3 = .string (mkS l) ∧ dig n = dig k ++ l ∧ k * 256 ^ l.length ≤ n ∧ Below w.heap.size w wr) (fun s0 _ _ => (intOf s0).toNat)
  case atStart => exact ⟨n, [], rfl, rfl, by simp, by simp, Below.refl _ _⟩
  case round =>
    obtain ⟨k, l, rfl, rfl, hd, hle, hbl⟩ := hrel
    by_cases hk : 0 < k
    · have h8 : l.length ≤ 7 := by
        rcases Nat.lt_or_ge l.length 8 with h | h
        · omega
        · have h1 := Nat.pow_le_pow_right (n := 256) (by decide) h
          have h2 : 256 ^ l.length ≤ k * 256 ^ l.length := Nat.le_mul_of_pos_left _ hk
          omega
      have hkn : k < 18446744073709551616 := by
        have := Nat.le_mul_of_pos_right k (Nat.pow_pos (n := l.length) (show 0 < 256 by decide))
        omega
      have hz : (mkS l).size = l.length := mk_size _
      obtain ⟨c, hc, hx⟩ : ∃ c : UInt8, UInt8.ofNat k = c ∧ (k : Int) % 256 = (c.toNat : Int) := ⟨_, rfl, by simp⟩
      have D : Hid (dig n = dig (k / 256) ++ (c :: l)) := Lib.hid (by rw [hd, dig_pos hk, List.append_assoc, hc]; rfl)
      have E : Hid ((⟨[c].toArray⟩ : ByteArray) ++ mkS l = mkS (c :: l)) := Lib.hid (mk_append [c] l)
      have hcv := (OwnB.one (w := wr) (Nat.le_refl _) c hx).conv
      have HB := Lib.hid (hbl.alloc hbl.size (.cells #[.int .u8 ((k : Int) % 256)] 5))
      have h64 : Hid (k / 256 * 256 ^ (c :: l).length ≤ n) := Lib.hid (by
        rw [List.length_cons, Nat.pow_succ, Nat.mul_comm (256 ^ l.length), ← Nat.mul_assoc]
        exact Nat.le_trans (Nat.mul_le_mul_right _ (Nat.div_mul_le_self k 256)) hle)
      clear hd hc hx hbl hle
      generalize hF : mkS (c :: l) = F at *
      have HF := Lib.hid hF
      clear hF
      go_wp2
      go_roundw
      case rel => exact ⟨k / 256, c :: l, by go_num, by rw [HF.out]; exact congrArg _ E.out, D.out, h64.out, HB.out⟩
      case measure => simp [intOf]; omega
    · obtain rfl : k = 0 := by omega
      rw [dig_zero, List.nil_append] at hd
      have HD := Lib.hid hd
      have HB := Lib.hid hbl
      clear hd hle hbl hk
      go_wp2
      go_ret
      rw [HD.out]
      exact ⟨rfl, HB.out⟩

set_option maxHeartbeats 1000000 in
theorem rhead_any (fr n : Nat) (w : World) (hf : fr = 128 ∨ fr = 192) (hn : n < 4611686018427387904) :
    Calls Try.prog 92 #[.int .i64 fr, .int .i64 n] w fun e w' => e = .returned (.string (mkS (headL fr n))) ∧ Below w.heap.size w w' := by
  have hf2 : fr ≤ 192 := by omega
  by_cases h : n ≤ 55
  · obtain ⟨c, hc, hx⟩ : ∃ c : UInt8, UInt8.ofNat (fr + n) = c ∧ (fr : Int) + n = (c.toNat : Int) := ⟨_, rfl, by simp; omega⟩
    have hcv := (OwnB.one (w := w) (Nat.le_refl _) c hx).conv
    have B1 := Lib.hid ((Below.refl w.heap.size w).alloc (Nat.le_refl _) (.cells #[.int .u8 ((fr : Int) + n)] 5))
    rw [headL_short h, hc]
    have s2 : ((fr : Int) + n) % 256 = (fr : Int) + n := by omega
    clear hf hc hx
    go_enter Try.func92, Try.ntmps92
    go_wp2
    go_ret
    exact ⟨rfl, B1.out⟩
  · have hl := dig_len 8 n (by omega)
    have KP := Lib.hid (fun w => digits_any n w (by omega))
    rw [headL, if_neg h]
    have hl0 : 1 ≤ (dig n).length := by rw [dig_pos (by omega), List.length_append]; simp
    have hz : (mkS (dig n)).size = (dig n).length := mk_size _
    obtain ⟨c, hc, hx⟩ : ∃ c : UInt8, UInt8.ofNat (fr + 55 + (dig n).length) = c ∧ (fr : Int) + 55 + (dig n).length = (c.toNat : Int) := ⟨_, rfl, by simp; omega⟩
    rw [hc]
    have E : Hid ((⟨[c].toArray⟩ : ByteArray) ++ mkS (dig n) = mkS (c :: dig n)) := Lib.hid (mk_append [c] (dig n))
    generalize mkS (c :: dig n) = R at *
    generalize (dig n).length = m at *
    generalize mkS (dig n) = D at *
    have s1 : ((fr : Int) + 55 + m) % 256 = (fr : Int) + 55 + m := by omega
    have HX := Lib.hid hx
    clear hf hc hx
    go_enter Try.func92, Try.ntmps92
    go_wp2_with fail
    refine (KP.out _).mono ?_
    rintro e w1 ⟨rfl, hb⟩
    have hcv := (OwnB.one (w := w1) (Nat.le_refl _) c HX.out).conv
    have B1 := Lib.hid (hb.alloc hb.size (.cells #[.int .u8 ((fr : Int) + 55 + m)] 5))
    clear hb
    go_wp2
    go_ret
    exact ⟨by rw [← E.out]; rfl, B1.out⟩
end Go.Proofs.Ytefmlbckbhlgdaa
namespace Go.Proofs.Ytefmlbckbhlgdaa
open Go.RowKit
set_option maxRecDepth 100000
theorem writes_append : ∀ xs ys : List It, writes (xs ++ ys) = writes xs ++ writes ys
  | [], ys => by rw [List.nil_append, writes, List.nil_append]
  | x :: xs, ys => by rw [List.cons_append, writes, writes, writes_append xs ys, List.append_assoc]

theorem writes_take {ks : List It} {i : Nat} {k : It} (h : ks[i]? = some k) : writes (ks.take (i + 1)) = writes (ks.take i) ++ k.write := by
  rw [List.take_add_one, h, writes_append]
  simp [writes]

theorem writes_take_le (ks : List It) (i : Nat) : (writes (ks.take i)).length ≤ (writes ks).length := by
  have h := congrArg List.length (congrArg writes (List.take_append_drop i ks))
  rw [writes_append, List.length_append] at h
  omega

set_option maxRecDepth 100000 in
set_option maxHeartbeats 1000000 in
theorem rwrite_any : ∀ (n : Nat) (x : It), x.size ≤ n → x.write.length ≤ 1000000000 → ∀ (v : Value) (w : World), ItemIs w x v →
    Calls Try.prog 49 #[v] w fun e w' => e = .returned (.string (mkS x.write)) ∧ Below w.heap.size w w'
  | 0, x, h, _, _, _, _ => by have := x.size_pos; omega
  | n + 1, .mk l b ks, hsz, hw, v, w, hv => by
    obtain ⟨kv, rfl, hbz, hk⟩ := itemIs_iff.1 hv
    have KI := Lib.hid (rwrite_any n)
    clear hv
    obtain ⟨p, cap, rfl, h1, h2, hg⟩ := hk.parts
    rw [It.size] at hsz
    have B : Hid (Below w.heap.size w (w.alloc (itemO l (mkS b) (.slice p ks.length cap)))) := Lib.hid ((Below.refl _ _).alloc (Nat.le_refl _) _)
    have L : Hid (RowAt (w.alloc (itemO l (mkS b) (.slice p ks.length cap))) w.heap.size #[.bool l, .string (mkS b), .slice p ks.length cap] 98) := Lib.hid (RowAt.new _ _ _)
    cases l with
    | false =>
      rw [It.write, if_neg (by simp)] at hw ⊢
      have hz : (mkS b).size = b.length := mk_size _
      clear hk hsz hg KI
      by_cases hb : b.length ≠ 1
      · rw [if_neg (fun h => hb h.1)] at hw ⊢
        rw [List.length_append] at hw
        have KH := Lib.hid (fun w => rhead_any 128 b.length w (.inl rfl) (by omega))
        have HZ : (mkS (headL 128 b.length)).size + (mkS b).size ≤ 1000000000 := by rw [mk_size, mk_size]; omega
        have HE : Hid (mkS (headL 128 b.length) ++ mkS b = mkS (headL 128 b.length ++ b)) := Lib.hid (mk_append _ _)
        generalize mkS (headL 128 b.length ++ b) = RS at *
        generalize mkS (headL 128 b.length) = HS' at *
        clear hw
        generalize b.length = bn at *
        obtain ⟨a0, a1, a2, af0, af1, af2⟩ := L.out.c3
        go_enter Try.func49, Try.ntmps49
        go_wp2
        go_upto_region 11 with (fail)
        generalize w.alloc (itemO false (mkS b) (.slice p ks.length cap)) = W at *
        obtain ⟨l0, l1, l2⟩ := L.out.l3
        (refine region_later mix ?hB ?_; case hB => kernel_rfl); (repeat (first | go_big_quiet_step ((go_at_call 92; with_reducible exact Later.call (KH.out _))) | quiet_step ((go_at_call 92; with_reducible exact Later.call (KH.out _))))); (refine wpQuiet_nil ?_; rintro _ ⟨u, rfl⟩)
        go_wp2
        go_ret
        exact ⟨by rw [← HE.out]; rfl, B.out.trans (u.below.mono B.out.size)⟩
      · obtain ⟨c, rfl⟩ : ∃ c, b = [c] := by
          match b, (by omega : b.length = 1) with
          | [c], _ => exact ⟨c, rfl⟩
        have hz1 : (mkS [c]).size = 1 := rfl
        have hg : (mkS [c])[0]'(by rw [hz1]; decide) = c := rfl
        have hcl := c.toNat_lt
        clear hb hz
        by_cases hc : c.toNat < 128
        · rw [if_pos ⟨rfl, by simpa using hc⟩] at hw ⊢
          clear hw
          obtain ⟨a0, a1, a2, af0, af1, af2⟩ := L.out.c3
          go_enter Try.func49, Try.ntmps49
          go_wp2
          go_ret
          exact ⟨rfl, B.out⟩
        · rw [if_neg (fun h => hc (by simpa using h.2))] at hw ⊢
          rw [List.length_append] at hw
          have KH := Lib.hid (fun w => rhead_any 128 [c].length w (.inl rfl) (by simp))
          have HE : Hid (mkS (headL 128 [c].length) ++ mkS [c] = mkS (headL 128 [c].length ++ [c])) := Lib.hid (mk_append _ _)
          have HZ : (mkS (headL 128 [c].length)).size = 1 := by rw [headL_short (by simp)]; rfl
          generalize mkS (headL 128 [c].length ++ [c]) = RS at *
          generalize mkS (headL 128 [c].length) = HS' at *
          clear hw
          obtain ⟨a0, a1, a2, af0, af1, af2⟩ := L.out.c3
          go_enter Try.func49, Try.ntmps49
          go_wp2
          go_upto_region 11 with (fail)
          generalize w.alloc (itemO false (mkS [c]) (.slice p ks.length cap)) = W at *
          obtain ⟨l0, l1, l2⟩ := L.out.l3
          (refine region_later mix ?hB ?_; case hB => kernel_rfl); (repeat (first | go_big_quiet_step ((go_at_call 92; with_reducible exact Later.call (KH.out _))) | quiet_step ((go_at_call 92; with_reducible exact Later.call (KH.out _))))); (refine wpQuiet_nil ?_; rintro _ ⟨u, rfl⟩)
          go_wp2
          go_ret
          exact ⟨by rw [← HE.out]; rfl, B.out.trans (u.below.mono B.out.size)⟩
    | true =>
      rw [It.write, if_pos rfl] at hw ⊢
      rw [List.length_append] at hw
      have HG := Lib.hid hg
      have HS := Lib.hid (fun i k (h : ks[i]? = some k) => (by have := sizes_get h; omega : It.size k ≤ n))
      have HD := Lib.hid (fun i k (h : ks[i]? = some k) => writes_take h)
      have HL := Lib.hid (fun i => (by have := writes_take_le ks i; omega : (writes (ks.take i)).length ≤ 1000000000))
      have D0 : Hid (writes (ks.take 0) = []) := Lib.hid (by simp [writes])
      have DM : Hid (writes (ks.take ks.length) = writes ks) := Lib.hid (by rw [List.take_length])
      have KH := Lib.hid (fun w => rhead_any 192 (writes ks).length w (.inr rfl) (by omega))
      have HZ : (mkS (headL 192 (writes ks).length)).size + (mkS (writes ks)).size ≤ 1000000000 := by rw [mk_size, mk_size]; omega
      have HE : Hid (mkS (headL 192 (writes ks).length) ++ mkS (writes ks) = mkS (headL 192 (writes ks).length ++ writes ks)) := Lib.hid (mk_append _ _)
      have HZ2 : (mkS (writes ks)).size = (writes ks).length := mk_size _
      clear hk hsz hg hbz hw
      generalize mkS (headL 192 (writes ks).length ++ writes ks) = RS at *
      generalize hm : ks.length = m at *
      have HM := Lib.hid hm
      clear hm
      obtain ⟨a0, a1, a2, af0, af1, af2⟩ := L.out.c3
      go_enter Try.func49, Try.ntmps49
      go_wp2
      go_loopw [3, 11] (fun s i wr => ∃ k : Nat, k ≤ m ∧ i = .int .i64 k ∧ s = .string (mkS (writes (ks.take k))) ∧ Below w.heap.size w wr) (fun _ i _ => m - (intOf i).toNat)
      case atStart => exact ⟨0, Nat.zero_le _, rfl, by rw [D0.out]; rfl, B.out⟩
      case round =>
        obtain ⟨k, hk, rfl, rfl, hbl⟩ := hrel
        have HB := Lib.hid hbl
        clear hbl L B D0
        by_cases hlt : k < m
        · obtain ⟨x, hx⟩ : ∃ x, ks[k]? = some x := ⟨_, List.getElem?_eq_getElem (by rw [HM.out]; exact hlt)⟩
          obtain ⟨a, l', b', p', n', c', rfl, c0, c1, c2, hi⟩ := HG.out k x hx
          have g1 := HS.out k x hx
          have HX := Lib.hid (ItemIs.below HB.out (Nat.le_refl _) _ _ hi)
          have q0 : wr.cell? (a.add (k * 3)) = some (.bool l') := by rw [HB.out.cell (block_lt_of_cell c0)]; exact c0
          have q1 : wr.cell? ⟨(a.add (k * 3)).block, (a.add (k * 3)).off + 1, none⟩ = some (.string b') := by
            have e : (⟨(a.add (k * 3)).block, (a.add (k * 3)).off + 1, none⟩ : Addr) = a.add (k * 3 + 1) := by rw [← Go.Deep.add_add]; rfl
            rw [e, HB.out.cell (block_lt_of_cell c1)]
            exact c1
          have q2 : wr.cell? ⟨(a.add (k * 3)).block, (a.add (k * 3)).off + 2, none⟩ = some (.slice p' n' c') := by
            have e : (⟨(a.add (k * 3)).block, (a.add (k * 3)).off + 2, none⟩ : Addr) = a.add (k * 3 + 2) := by rw [← Go.Deep.add_add]; rfl
            rw [e, HB.out.cell (block_lt_of_cell c2)]
            exact c2
          clear hi c0 c1 c2
          have L : Hid (RowAt (wr.alloc (itemO l' b' (.slice p' n' c'))) wr.heap.size #[.bool l', .string b', .slice p' n' c'] 98) := Lib.hid (RowAt.new _ _ _)
          replace HB := Lib.hid (HB.out.alloc HB.out.size (itemO l' b' (.slice p' n' c')))
          replace HX := Lib.hid (ItemIs.below ((Below.refl wr.heap.size wr).alloc (Nat.le_refl _) (itemO l' b' (.slice p' n' c'))) (Nat.le_refl _) _ _ HX.out)
          have HD1 := Lib.hid (HD.out k x hx)
          have hz1 := HL.out (k + 1)
          rw [HD1.out, List.length_append] at hz1
          have hz2 : (mkS (writes (ks.take k))).size = (writes (ks.take k)).length := mk_size _
          have hz3 : (mkS x.write).size = x.write.length := mk_size _
          have HE1 : Hid (mkS (writes (ks.take k)) ++ mkS x.write = mkS (writes (ks.take k) ++ x.write)) := Lib.hid (mk_append _ _)
          have hxl : x.write.length ≤ 1000000000 := by omega
          obtain ⟨a0, a1, a2, af0, af1, af2⟩ := L.out.c3
          go_wp2_with fail
          refine (KI.out x g1 hxl _ _ HX.out).mono ?_
          rintro e w2 ⟨rfl, hb⟩
          (replace HB := Lib.hid (HB.out.trans (hb.mono HB.out.size)); clear hb)
          go_wp2_with fail
          go_roundw
          case rel => exact ⟨k + 1, by omega, by go_num, by rw [HD1.out, ← HE1.out], HB.out⟩
          case measure => simp [intOf]; omega
        · obtain rfl : k = m := by omega
          rw [DM.out]
          generalize writes ks = W at *
          generalize mkS W = WS at *
          generalize mkS (headL 192 W.length) = HS' at *
          go_wp2_with fail
          refine (KH.out _).mono ?_
          rintro e w2 ⟨rfl, hb⟩
          (replace HB := Lib.hid (HB.out.trans (hb.mono HB.out.size)); clear hb)
          go_wp2_with fail
          go_ret
          exact ⟨by rw [← HE.out]; rfl, HB.out⟩
end Go.Proofs.Ytefmlbckbhlgdaa
namespace Go.Proofs.Ytefmlbckbhlgdaa
open Go.RowKit Go.Shelf
set_option maxRecDepth 100000
def bldLenRen : Go.Shelf.Ren := ⟨fun | 170 => 135 | n => n, fun | 70 => 184 | 3 => 3 | 0 => 0 | 72 => 186 | 37 => 123 | 5 => 5 | n => n, fun | n => n⟩
theorem bldLenLays : Go.Proofs.Lays.n170 Try.prog bldLenRen := {
  mixed := by kernel_rfl
  f170 := Try.func135.trans (congrArg some (by kernel_rfl))
  t0 := Try.underlying0
  a0 := Try.isAgg0
  z0 := Try.sizeOf0
  v0 := Try.zeroValue0
  t3 := Try.underlying3
  a3 := Try.isAgg3
  z3 := Try.sizeOf3
  v3 := Try.zeroValue3
  t37 := Try.underlying123
  a37 := Try.isAgg123
  z37 := Try.sizeOf123
  v37 := Try.zeroValue123
  t70 := Try.underlying184
  a70 := Try.isAgg184
  z70 := Try.sizeOf184
  v70 := Try.zeroValue184
  t72 := Try.underlying186
  a72 := Try.isAgg186
  z72 := Try.sizeOf186
  v72 := Try.zeroValue186 }

theorem bld_len (B b : Nat) (bs : List Value) (w : World) (h : Lib.IsBuilder 186 5 B b bs w) :
    Calls Try.prog 135 #[.pointer (some ⟨b, 0, none⟩)] w fun e w' => e = .returned (.int .i64 bs.length) ∧ w' = w := Any.Builder_Len bldLenLays B b bs w h

def bldStrRen : Go.Shelf.Ren := ⟨fun | 169 => 136 | n => n, fun | 70 => 184 | 9 => 9 | 0 => 0 | 72 => 186 | 37 => 123 | 127 => 223 | 3 => 3 | 5 => 5 | n => n, fun | n => n⟩
theorem bldStrLays : Go.Proofs.Lays.n169 Try.prog bldStrRen := {
  mixed := by kernel_rfl
  f169 := Try.func136.trans (congrArg some (by kernel_rfl))
  t0 := Try.underlying0
  a0 := Try.isAgg0
  z0 := Try.sizeOf0
  v0 := Try.zeroValue0
  t3 := Try.underlying3
  a3 := Try.isAgg3
  z3 := Try.sizeOf3
  v3 := Try.zeroValue3
  t9 := Try.underlying9
  a9 := Try.isAgg9
  z9 := Try.sizeOf9
  v9 := Try.zeroValue9
  t37 := Try.underlying123
  a37 := Try.isAgg123
  z37 := Try.sizeOf123
  v37 := Try.zeroValue123
  t70 := Try.underlying184
  a70 := Try.isAgg184
  z70 := Try.sizeOf184
  v70 := Try.zeroValue184
  t72 := Try.underlying186
  a72 := Try.isAgg186
  z72 := Try.sizeOf186
  v72 := Try.zeroValue186
  t127 := Try.underlying223
  a127 := Try.isAgg223
  z127 := Try.sizeOf223
  v127 := Try.zeroValue223 }
theorem bldStrExtra : Builder.Extra Try.prog bldStrRen := {
  sizeBuilder := by kernel_rfl
  liesBuilder := by kernel_rfl
  t5 := Try.underlying5
  a5 := Try.isAgg5
  z5 := Try.sizeOf5
  v5 := Try.zeroValue5
  infoByte := by kernel_rfl
  cellsByte := by kernel_rfl
  sizeByte := by kernel_rfl
  neB5 := by decide }

theorem bld_string (B b : Nat) (l : List UInt8) (w : World) (h : Lib.IsBuilder 186 5 B b (Lib.byteCells l) w) (hBw : B ≤ w.heap.size) :
    Calls Try.prog 136 #[.pointer (some ⟨b, 0, none⟩)] w fun e w' => e = .returned (.string ⟨l.toArray⟩) ∧ Below B w w' := Any.Builder_String_any bldStrLays bldStrExtra B b l w h hBw

set_option maxHeartbeats 1000000 in
set_option maxRecDepth 100000 in
theorem bld_check_used (b : Nat) (w : World) (h0 : w.cell? ⟨b, 0, none⟩ = some (.pointer (some ⟨b, 0, none⟩))) :
    Calls Try.prog 162 #[.pointer (some ⟨b, 0, none⟩)] w fun e w' => e = .returned (.tuple #[]) ∧ w' = w := by
  obtain ⟨j, hj, _⟩ := Option.map_eq_some_iff.1 bldStrExtra.sizeBuilder
  go_enter Try.func162, Try.ntmps162
  go_wp2
  rw [Lib.run_neq_ptr_same w _ Try.underlying184 hj]
  go_wp2
  go_end0
  exact ⟨rfl, rfl⟩

set_option maxHeartbeats 1000000 in
set_option maxRecDepth 100000 in
theorem bld_check_fresh (b : Nat) (w : World) (h0 : w.cell? ⟨b, 0, none⟩ = some (.pointer none)) (hsh : w.shape? b = some (186, 2)) (hfz : w.frozen? ⟨b, 0, none⟩ = false) :
    Calls Try.prog 162 #[.pointer (some ⟨b, 0, none⟩)] w fun e w' => e = .returned (.tuple #[]) ∧ w' = w.setCell ⟨b, 0, none⟩ (.pointer (some ⟨b, 0, none⟩)) := by
  obtain ⟨j, hj, hjs⟩ := Option.map_eq_some_iff.1 bldStrExtra.sizeBuilder
  go_enter Try.func162, Try.ntmps162
  go_wp2
  rw [Lib.run_to_unsafe w ⟨b, 0, none⟩ Try.underlying184 Try.underlying233 hj (by rw [hjs]; decide) hsh (Nat.zero_lt_succ 1)]
  simp only [Result.andThen]
  rw [Oper.upon_value]
  go_wp2
  rw [run_callFunc_extern Try.func175 (by kernel_rfl) (by kernel_rfl) (by kernel_rfl) (e := Extern.AbiNoEscape.same) (by kernel_rfl)]
  rw [Lib.run_noEscape]
  simp only [Result.andThen]
  rw [Oper.upon_value]
  go_wp2
  rw [Lib.run_from_unsafe w ⟨b, 0, none⟩ Try.underlying233 Try.underlying184 hj hsh bldStrExtra.liesBuilder]
  simp only [Result.andThen]
  rw [Oper.upon_value]
  go_wp2
  go_end0
  exact ⟨rfl, rfl⟩

theorem bld_check (B b : Nat) (bs : List Value) (w : World) (h : Lib.IsBuilder 186 5 B b bs w) :
    Calls Try.prog 162 #[.pointer (some ⟨b, 0, none⟩)] w fun e w' => e = .returned (.tuple #[]) ∧ (Lib.BuilderAt 186 5 B b (.pointer (some ⟨b, 0, none⟩)) bs w' ∧ Below B w w') := by
  rcases h with h | h
  · refine (bld_check_fresh b w h.cell0 h.shape h.frozen0).mono ?_
    rintro e w' ⟨rfl, rfl⟩
    exact ⟨rfl, h.used _, (Below.refl B w).setCell (p := ⟨b, 0, none⟩) h.1 _⟩
  · refine (bld_check_used b w h.cell0).mono ?_
    rintro e w' ⟨rfl, rfl⟩
    exact ⟨rfl, h, Below.refl B _⟩

set_option maxHeartbeats 2000000 in
set_option maxRecDepth 100000 in
theorem bld_write (B b : Nat) (bs : List Value) (s : ByteArray) (w : World) (h : Lib.IsBuilder 186 5 B b bs w) (hlen : bs.length + s.size ≤ 140737488355328) (hBw : B ≤ w.heap.size) :
    Calls Try.prog 133 #[.pointer (some ⟨b, 0, none⟩), .string s] w fun e w' => e = .returned (.tuple #[.int .i64 s.size, .nilIface]) ∧ (Lib.BuilderAt 186 5 B b (.pointer (some ⟨b, 0, none⟩)) (bs ++ Lib.strCells s) w' ∧ Below B w w') := by
  obtain ⟨i0, hi, hz0, hz1, hz2⟩ := info_parts bldStrExtra.infoByte
  go_enter Try.func133, Try.ntmps133
  go_wp2_with (go_at_call 162; refine (bld_check B b bs _ h).mono ?_)
  rintro e w1 ⟨rfl, h1, hb1⟩
  obtain ⟨hB, v, hbk, hown, hne⟩ := h1
  have c0 : w1.cell? ⟨b, 0, none⟩ = some (.pointer (some ⟨b, 0, none⟩)) := by rw [Lib.cell_of_heap hbk]; rfl
  have c1 : w1.cell? ⟨b, 1, none⟩ = some v := by rw [Lib.cell_of_heap hbk]; rfl
  go_wp2_with (at_builtin; refine Lib.wpList_append_own_string _ rfl _ _ 123 9 rfl B 5 i0 Try.underlying123 Try.underlying9 hi hz0 hz1 hz2 _ _ _ rfl hown s rfl ?c3 ?c4 ?c5 ?_)
  case c3 => unfold maxLen; omega
  case c4 => omega
  case c5 => have := hb1.size; omega
  intro v' w2 hown' hgrow _
  have hlt : b < w1.heap.size := by
    rcases Nat.lt_or_ge b w1.heap.size with h' | h'
    · exact h'
    · simp [Array.getElem?_eq_none h'] at hbk
  have hb2 : w2.heap[b]? = some (.cells #[.pointer (some ⟨b, 0, none⟩), v] 186 (0, 0)) := by
    rw [hgrow.block b hlt (fun e => hne e.symm)]
    exact hbk
  have d0 : w2.cell? ⟨b, 0, none⟩ = some (.pointer (some ⟨b, 0, none⟩)) := by rw [Lib.cell_of_heap hb2]; rfl
  have d1 : w2.cell? ⟨b, 1, none⟩ = some v := by rw [Lib.cell_of_heap hb2]; rfl
  have f1 : w2.frozen? ⟨b, 1, none⟩ = false := Lib.frozen_of_heap hb2 1
  obtain ⟨ao, n', cap, rfl⟩ : ∃ ao n' cap, v' = .slice ao n' cap := by
    rcases hown'.2 with ⟨hv, _⟩ | ⟨g, cap, cur, hv, _⟩
    · exact ⟨_, _, _, hv⟩
    · exact ⟨_, _, _, hv⟩
  go_wp2
  go_ret2
  refine ⟨rfl, ?_, ?_⟩
  · exact Lib.BuilderAt.put (T := 186) (e := 5) hB hb2 (bs' := bs ++ Lib.strCells s) (by simpa [Lib.strCells_length] using hown') bldStrExtra.neB5
  · exact (hb1.grown hgrow (by have := hb1.size; omega) (fun k hk => (hown.lt k hk).1)).setCell (p := ⟨b, 1, none⟩) hB _
end Go.Proofs.Ytefmlbckbhlgdaa
namespace Go.Proofs.Ytefmlbckbhlgdaa
open Go.RowKit
set_option maxRecDepth 100000
/-- The call's own row of items. -/
def OwnQ (w : World) (base : Nat) (v : Value) (l : List IV) : Prop := w.ownsRow base 98 3 v l.length (flat3 l)

theorem info_item : ∃ i, Try.prog.info? 98 = some i ∧ i.zero = some (.agg #[.bool false, .string ⟨#[]⟩, .slice none 0 0]) ∧ i.size = 3 ∧ i.bytes = 48 := by
  refine ⟨_, rfl, ?_, ?_, ?_⟩ <;> kernel_rfl

theorem OwnQ.below {w w' : World} {base B : Nat} {v : Value} {l : List IV} (h : OwnQ w base v l) (hb : Below B w w') (hB : w.heap.size ≤ B) : OwnQ w' base v l := by
  refine ⟨h.1, ?_⟩
  rcases h.2 with h' | ⟨g, cap, cur, hv, hg, hc, r⟩
  · exact .inl h'
  · have hlt : g < w.heap.size := by
      rcases Nat.lt_or_ge g w.heap.size with h | h
      · exact h
      · rw [Array.getElem?_eq_none h] at hc; cases hc
    exact .inr ⟨g, cap, cur, hv, hg, by rw [hb.block g (by omega)]; exact hc, r⟩

theorem wpList_append_kids {ops : Array Oper} {rest : List Oper} {o : Oper} {a : Act} {Q : Exit → Act → World → Prop} {w : World} (hgd : o.guard = Option.none) (s x : Operand)
    (ho : o.op = .call { callee := .builtin .append, args := #[s, x], argTypes := #[93, 93] }) (base : Nat) (v : Value) (l : List IV) (hs : a.eval s = v) (hown : OwnQ w base v l)
    (w0 : World) (ks : List It) (kv : Value) (hx : a.eval x = kv) (hk : KidsIs w0 ks kv) (hbl : Below w0.heap.size w0 w)
    (hb : l.length + ks.length ≤ 100000) (hbase : base ≤ w.heap.size)
    (h : ∀ v' w' lk, OwnQ w' base v' (l ++ lk) → QIs w0 ks lk → (∀ w0, Below base w0 w → Below base w0 w') → w.heap.size ≤ w'.heap.size → wpList Try.prog ops Q rest (a.put o.dst v') w') : wpList Try.prog ops Q (o :: rest) a w := by
  obtain ⟨i0, hi, hz0, hz1, hz2⟩ := info_item
  rcases hk with ⟨rfl, rfl⟩ | ⟨ad, len, cap, rfl, g1, g2, rfl, g4⟩
  · refine wpList_append_own_none hgd s x 93 ho base 98 i0 3 Try.underlying93 hi v l.length (flat3 l) hs hown hx ?_
    exact h v w [] (by rw [List.append_nil]; exact hown) trivial (fun _ h => h) (Nat.le_refl _)
  · obtain ⟨lk, hq, hc⟩ := KidsAt.list ks 0 g4
    have hl := hq.length
    refine wpList_append_own w hgd s x 93 ho base 98 i0 _ 3 48 Try.underlying93 hi hz0 hz1 hz2 rfl (by decide) v l.length (flat3 l) hs hown ad ks.length cap (flat3 lk) hx (by rw [flat3_length, hl]) (fun j u hj => ?_) (flat3_one lk) (by unfold maxLen; omega) (by omega) hbase ?_
    · have := hc j u hj
      rw [Nat.zero_mul, Nat.zero_add] at this
      rw [hbl.cell (block_lt_of_cell this)]
      exact this
    · intro v' w' hown' hg _
      refine h v' w' lk ?_ hq (fun w0 h0 => h0.grown hg hbase fun k hk => ?_) hg.size
      · unfold OwnQ
        rw [List.length_append, flat3_append, ← hl]
        exact hown'
      · exact (World.ownsRow.lt hown k hk).1
end Go.Proofs.Ytefmlbckbhlgdaa
namespace Go.Proofs.Ytefmlbckbhlgdaa
open Go.RowKit
set_option maxRecDepth 100000
theorem sizes_length : ∀ ks : List It, ks.length ≤ sizes ks
  | [] => Nat.le_refl _
  | k :: ks => by
    rw [sizes, List.length_cons]
    have := k.size_pos
    have := sizes_length ks
    omega

theorem puresB_append (xs ys : List It) : puresB (xs ++ ys) = (puresB xs && puresB ys) := by
  induction xs with
  | nil => simp [puresB]
  | cons x xs ih => rw [List.cons_append, puresB, puresB, ih, Bool.and_assoc]

/-- One step of the queue. -/
theorem queue_size {q : List It} {i : Nat} {l : Bool} {b : List UInt8} {ks : List It} (h : q[i]? = some (.mk l b ks)) {N : Nat} (hs : i + sizes (q.drop i) = N) : i + 1 + sizes ((q ++ ks).drop (i + 1)) = N := by
  obtain ⟨hi, he⟩ := List.getElem?_eq_some_iff.1 h
  have e : q.drop i = .mk l b ks :: q.drop (i + 1) := by rw [List.drop_eq_getElem_cons hi, he]
  have e2 : (q ++ ks).drop (i + 1) = q.drop (i + 1) ++ ks := List.drop_append_of_le_length (by omega)
  rw [e, sizes, It.size] at hs
  rw [e2, sizes_append]
  omega

theorem queue_step {q : List It} {i : Nat} {l : Bool} {b : List UInt8} {ks : List It} (h : q[i]? = some (.mk l b ks)) {N : Nat} {p : Bool} (hs : i + sizes (q.drop i) = N) (hp : puresB (q.drop i) = p)
    (hl : (if l = true then b.isEmpty else ks.isEmpty) = true) : i + 1 + sizes ((q ++ ks).drop (i + 1)) = N ∧ puresB ((q ++ ks).drop (i + 1)) = p := by
  obtain ⟨hi, he⟩ := List.getElem?_eq_some_iff.1 h
  have e : q.drop i = .mk l b ks :: q.drop (i + 1) := by rw [List.drop_eq_getElem_cons hi, he]
  have e2 : (q ++ ks).drop (i + 1) = q.drop (i + 1) ++ ks := List.drop_append_of_le_length (by omega)
  rw [e, sizes, It.size] at hs
  rw [e, puresB, It.pureB, hl, Bool.true_and] at hp
  rw [e2, sizes_append, puresB_append, Bool.and_comm]
  exact ⟨by omega, hp⟩

theorem queue_stop {q : List It} {i : Nat} {k : It} (h : q[i]? = some k) {p : Bool} (hp : puresB (q.drop i) = p) (hk : k.pureB = false) : p = false := by
  obtain ⟨hi, he⟩ := List.getElem?_eq_some_iff.1 h
  rw [List.drop_eq_getElem_cons hi, he, puresB, hk, Bool.false_and] at hp
  exact hp.symm

theorem queue_long {q : List It} {i : Nat} {l : Bool} {b : List UInt8} {ks : List It} (h : q[i]? = some (.mk l b ks)) {N : Nat} (hs : i + sizes (q.drop i) = N) : q.length + ks.length ≤ N := by
  obtain ⟨hi, he⟩ := List.getElem?_eq_some_iff.1 h
  have e : q.drop i = .mk l b ks :: q.drop (i + 1) := by rw [List.drop_eq_getElem_cons hi, he]
  have h1 := sizes_length (q.drop (i + 1))
  have h2 := sizes_length ks
  rw [List.length_drop] at h1
  rw [e, sizes, It.size] at hs
  omega

abbrev ivO (x : IV) : Obj := .cells #[.bool x.1, .string x.2.1, .slice x.2.2.1 x.2.2.2.1 x.2.2.2.2] 98

/-- What the queue reads as. -/
theorem OwnQ.parts {w : World} {base : Nat} {v : Value} {l : List IV} (h : OwnQ w base v l) : ∃ (p : Option Addr) (c : Nat), v = .slice p l.length c ∧ l.length ≤ c ∧ c ≤ 9223372036854775807 ∧
    ∀ i y, l[i]? = some y → ∃ a : Addr, p = some a ∧ w.cell? (a.add (i * 3)) = some (.bool y.1) ∧ w.cell? ⟨(a.add (i * 3)).block, (a.add (i * 3)).off + 1, none⟩ = some (.string y.2.1) ∧ w.cell? ⟨(a.add (i * 3)).block, (a.add (i * 3)).off + 2, none⟩ = some y.kids := by
  rcases h.2 with ⟨hv, hn⟩ | ⟨g, cap, cur, hv, hg, hc, hn, hcap, hsz, hx⟩
  · obtain rfl : l = [] := List.eq_nil_of_length_eq_zero hn
    exact ⟨none, 0, hv, Nat.le_refl _, Nat.zero_le _, fun i y hy => by simp at hy⟩
  · refine ⟨some ⟨g, 0, none⟩, cap, hv, hn, hcap, fun i y hy => ?_⟩
    obtain ⟨h1, h2, h3⟩ := flat3_get l i y hy
    have e : ∀ j, (⟨((⟨g, 0, none⟩ : Addr).add (i * 3)).block, ((⟨g, 0, none⟩ : Addr).add (i * 3)).off + (j + 1), none⟩ : Addr) = (⟨g, 0, none⟩ : Addr).add (i * 3 + (j + 1)) := fun j => by rw [← Go.Deep.add_add]; rfl
    have hob : v.ownBlock = some g := by rw [hv]; rfl
    refine ⟨_, rfl, World.ownsRow.cells h hob _ _ h1, ?_, ?_⟩
    · rw [e 0]; exact World.ownsRow.cells h hob _ _ h2
    · rw [e 1]; exact World.ownsRow.cells h hob _ _ h3

set_option maxRecDepth 100000 in
set_option maxHeartbeats 2000000 in
theorem well_any (x : It) (v : Value) (w : World) (hx : ItemIs w x v) :
    Calls Try.prog 83 #[v] w fun e w' => e = .returned (.bool (x.pureB && decide (x.size ≤ 4000))) ∧ Below w.heap.size w w' := by
  obtain ⟨⟨l, b, p, n, c⟩, rfl⟩ := itemIs_val hx
  have H := Lib.hid hx
  have L : Hid (RowAt (w.alloc (ivO (l, b, p, n, c))) w.heap.size #[.bool l, .string b, .slice p n c] 98) := Lib.hid (RowAt.new _ _ _)
  have B : Hid (Below w.heap.size w (w.alloc (ivO (l, b, p, n, c)))) := Lib.hid ((Below.refl _ _).alloc (Nat.le_refl _) _)
  clear hx
  have hop : OwnQ ((w.alloc (ivO (l, b, p, n, c))).alloc (ivO (l, b, p, n, c))) (w.heap.size + 1) (.slice (some ⟨w.heap.size + 1, 0, none⟩) 1 1) [(l, b, p, n, c)] := by
    have := World.ownsRow_lit (base := w.heap.size + 1) (e := 98) (size := 3) (w.alloc (ivO (l, b, p, n, c))) #[.bool l, .string b, .slice p n c] 1 (by simp) (by decide) rfl
    simpa [OwnQ, flat3, cells3, IV.kids] using this
  have O := Lib.hid hop
  have B2 : Hid (Below w.heap.size w ((w.alloc (ivO (l, b, p, n, c))).alloc (ivO (l, b, p, n, c)))) := Lib.hid (B.out.alloc B.out.size _)
  clear hop
  show Calls Try.prog 83 #[.agg #[.bool l, .string b, .slice p n c]] w _
  obtain ⟨a0, a1, a2, af0, af1, af2⟩ := L.out.c3
  go_enter Try.func83, Try.ntmps83
  go_wp2
  have hsz := B2.out.size
  generalize hW : (w.alloc (ivO (l, b, p, n, c))).alloc (ivO (l, b, p, n, c)) = W at *
  have hb1 : w.heap.size + 1 ≤ W.heap.size := by rw [← hW]; simp
  have Q0 : Hid (QIs w [x] [(l, b, p, n, c)]) := Lib.hid ⟨H.out, trivial⟩
  have S0 : Hid (0 + sizes ([x].drop 0) = x.size ∧ puresB ([x].drop 0) = x.pureB) := Lib.hid (by simp [sizes, puresB])
  clear a0 a1 a2 af0 af1 af2 L B H hW
  go_loopw [3, 4] (fun s3 s4 wr => ∃ (q : List It) (lv : List IV) (i : Nat), s4 = .int .i64 i ∧ i ≤ q.length ∧ q.length ≤ 4000 ∧ OwnQ wr (w.heap.size + 1) s3 lv ∧ QIs w q lv ∧ (i + sizes (q.drop i) = x.size ∧ puresB (q.drop i) = x.pureB) ∧ Below w.heap.size w wr ∧ w.heap.size + 1 ≤ wr.heap.size)
    (fun _ s4 _ => x.size - (intOf s4).toNat)
  case atStart => exact ⟨[x], [(l, b, p, n, c)], 0, rfl, by simp, by simp, O.out, Q0.out, S0.out, B2.out, hb1⟩
  case round =>
    clear O Q0 S0 B2 hb1 hsz
    obtain ⟨q, lv, i, rfl, hi, hq, hown, hqs, hinv, hbl, hbs⟩ := hrel
    have hlen := hqs.length
    obtain ⟨p1, c1, ev, g1, g2, hg⟩ := hown.parts
    rw [← hlen] at g1 ev
    subst ev
    by_cases hlt : i < q.length
    · obtain ⟨⟨l', b', ks⟩, hk⟩ : ∃ k, q[i]? = some k := ⟨_, List.getElem?_eq_getElem hlt⟩
      obtain ⟨y, hy, hit⟩ := hqs.get hk
      obtain ⟨a, rfl, q0, q1, q2⟩ := hg i y hy
      obtain ⟨kv, ey, hbz, hks⟩ := itemIs_iff.1 hit
      obtain ⟨pk, ck, rfl, hk1, hk2, _⟩ := hks.parts
      obtain ⟨y1, y2, y3, y4, y5⟩ := y
      have ey' : y1 = l' ∧ y2 = mkS b' ∧ y3 = pk ∧ y4 = ks.length ∧ y5 = ck := by
        simp [IV.val, IV.kids, itemV] at ey
        exact ey
      obtain ⟨rfl, rfl, rfl, rfl, rfl⟩ := ey'
      clear ey hbz
      simp only [IV.kids] at q0 q1 q2
      have hlong := queue_long hk hinv.1
      have hcase : (y1 = false ∧ 0 < ks.length ∧ (It.mk y1 b' ks).pureB = false) ∨ (y1 = true ∧ b' ≠ [] ∧ (It.mk y1 b' ks).pureB = false) ∨ ((y1 = false ∧ ks.length = 0 ∨ y1 = true ∧ b' = []) ∧ (if y1 = true then b'.isEmpty else ks.isEmpty) = true) := by
        cases y1
        · cases ks
          · right; right; simp
          · left; simp [It.pureB]
        · cases b'
          · right; right; simp
          · right; left; simp [It.pureB]
      have HB := Lib.hid hbl
      have HO : Hid (OwnQ (wr.alloc (ivO (y1, mkS b', y3, ks.length, y5))) (w.heap.size + 1) (.slice (some a) q.length c1) lv) := Lib.hid (hown.below ((Below.refl wr.heap.size wr).alloc (Nat.le_refl _) _) (Nat.le_refl _))
      have HK : Hid (KidsIs w ks (.slice y3 ks.length y5)) := Lib.hid hks
      have HQ : Hid (QIs w q lv) := Lib.hid hqs
      have HB2 : Hid (Below w.heap.size w (wr.alloc (ivO (y1, mkS b', y3, ks.length, y5)))) := Lib.hid (hbl.alloc hbl.size _)
      have HI := Lib.hid hinv
      have HLen := Lib.hid hlen
      have KK := Lib.hid hk
      clear hbl hown hqs hks hit hinv hg hy hlen hk
      rcases hcase with ⟨rfl, hc, hr⟩ | ⟨rfl, hc, hr⟩ | ⟨hc, hr⟩
      · have HP := Lib.hid (queue_stop KK.out HI.out.2 hr)
        clear hr hlong
        go_wp2
        go_ret
        rw [HP.out]
        exact ⟨rfl, HB2.out⟩
      · have HP := Lib.hid (queue_stop KK.out HI.out.2 hr)
        have hs : ¬ (mkS b').toList = [] := by rw [toList_bl, bl_mk]; exact hc
        have hs2 : (mkS b').toList.isEmpty = false := by rw [toList_bl, bl_mk]; simpa using hc
        clear hr hlong hc
        go_wp2
        go_ret
        rw [HP.out]
        exact ⟨rfl, HB2.out⟩
      · by_cases hm : 4000 - q.length < ks.length
        · have HP : Hid (decide (x.size ≤ 4000) = false) := Lib.hid (by simp; omega)
          clear hlong
          rcases hc with ⟨rfl, hc⟩ | ⟨rfl, rfl⟩
          · omega
          · clear hr
            have hs : (mkS []).toList = [] := by rw [toList_bl, bl_mk]
            go_wp2
            go_ret
            rw [HP.out, Bool.and_false]
            exact ⟨rfl, HB2.out⟩
        · have HS := Lib.hid (queue_step KK.out HI.out.1 HI.out.2 hr)
          clear hlong
          have hks : (ks = [] ∨ y1 = true) := by
            rcases hc with ⟨_, hc⟩ | ⟨hc, _⟩
            · exact .inl (List.eq_nil_of_length_eq_zero hc)
            · exact .inr hc
          have hs : y1 = true → (mkS b').toList = [] := by
            rintro rfl
            rcases hc with ⟨h, _⟩ | ⟨_, rfl⟩
            · cases h
            · rw [toList_bl, bl_mk]
          clear hc hr
          have hx1 : i < x.size := by have := HS.out.1; omega
          cases y1 with
          | false =>
            obtain rfl : ks = [] := by simpa using hks
            clear hs hks
            simp only [List.length_nil] at hm hk1 HO HK HQ HB2 q2
            go_wp2_with (at_builtin; refine wpList_append_kids rfl _ _ rfl (w.heap.size + 1) _ lv rfl HO.out w [] _ rfl HK.out HB2.out (by have := HLen.out; (try simp only [List.length_nil]); omega) (by simp; omega) ?_; intro v' w' lk ho' hq' hb' hz')
            have hz2 : wr.heap.size + 1 ≤ w'.heap.size := by simpa using hz'
            refine ⟨⟨q ++ [], lv ++ lk, i + 1, by go_num, by rw [List.length_append]; omega, by rw [List.length_append]; (try simp only [List.length_nil]); omega, ho', hq'.append HQ.out, HS.out, HB2.out.trans ((hb' _ (Below.refl _ _)).mono (by omega)), by omega⟩, by simp [intOf]; omega⟩
          | true =>
            replace hs := hs rfl
            clear hks
            go_wp2_with (at_builtin; refine wpList_append_kids rfl _ _ rfl (w.heap.size + 1) _ lv rfl HO.out w ks _ rfl HK.out HB2.out (by have := HLen.out; (try simp only [List.length_nil]); omega) (by simp; omega) ?_; intro v' w' lk ho' hq' hb' hz')
            have hz2 : wr.heap.size + 1 ≤ w'.heap.size := by simpa using hz'
            refine ⟨⟨q ++ ks, lv ++ lk, i + 1, by go_num, by rw [List.length_append]; omega, by rw [List.length_append]; (try simp only [List.length_nil]); omega, ho', hq'.append HQ.out, HS.out, HB2.out.trans ((hb' _ (Below.refl _ _)).mono (by omega)), by omega⟩, by simp [intOf]; omega⟩
    · have e : q.drop i = [] := List.drop_of_length_le (by omega)
      rw [e] at hinv
      have HP : Hid (x.pureB = true ∧ x.size ≤ 4000) := Lib.hid ⟨by rw [← hinv.2]; rfl, by rw [← hinv.1]; simp [sizes]; omega⟩
      have HB := Lib.hid hbl
      clear hbl hinv hg hqs hown
      go_wp2
      go_ret
      rw [HP.out.1, decide_eq_true HP.out.2]
      exact ⟨rfl, HB.out⟩
end Go.Proofs.Ytefmlbckbhlgdaa
namespace Go.Proofs.Ytefmlbckbhlgdaa
open Go.RowKit
set_option maxRecDepth 100000
/-- The queue behind some kids, cut. -/
def qcut (lim : Nat) (q ks : List It) (j : Nat) : List It := (q ++ ks.take j).take (lim + 1)

theorem qcut_length (lim : Nat) (q ks : List It) (j : Nat) (h : j ≤ ks.length) : (qcut lim q ks j).length = min (lim + 1) (q.length + j) := by
  simp [qcut]; omega
theorem qcut_all {lim : Nat} {q ks : List It} (h : (q ++ ks).length ≤ lim) : qcut lim q ks ks.length = q ++ ks := by
  unfold qcut
  rw [List.take_length, List.take_of_length_le (by omega)]

/-- What the queue says of the item. -/
def QInv (lim : Nat) (x : It) (q : List It) (i : Nat) : Prop := (q.length ≤ lim ∧ i + sizes (q.drop i) = x.size) ∨ (q.length = lim + 1 ∧ lim + 1 ≤ x.size)

theorem QInv.step {lim : Nat} {x : It} {q : List It} {i : Nat} {l : Bool} {b : List UInt8} {ks : List It} (hk : q[i]? = some (.mk l b ks)) (_ : q.length ≤ lim) (hs : i + sizes (q.drop i) = x.size) : QInv lim x (qcut lim q ks ks.length) (i + 1) := by
  by_cases h : (q ++ ks).length ≤ lim
  · rw [qcut_all h]
    exact .inl ⟨h, queue_size hk hs⟩
  · have := queue_long hk hs
    rw [List.length_append] at h
    exact .inr ⟨by rw [qcut_length _ _ _ _ (Nat.le_refl _)]; omega, by omega⟩

end Go.Proofs.Ytefmlbckbhlgdaa
namespace Go.Proofs.Ytefmlbckbhlgdaa
open Go.RowKit
set_option maxRecDepth 100000
theorem bld_below {T e : TypeId} {B b N : Nat} {bs : List Value} {w w' : World} (h : Lib.IsBuilder T e B b bs w) (hb : Below N w w') (hN : w.heap.size ≤ N) : Lib.IsBuilder T e B b bs w' := by
  have key : ∀ p, Lib.BuilderAt T e B b p bs w → Lib.BuilderAt T e B b p bs w' := by
    intro p h
    have hlt := h.lt
    obtain ⟨hB, v, hbk, hown, hne⟩ := h
    refine ⟨hB, v, by rw [hb.block b (by omega)]; exact hbk, ⟨hown.1, ?_⟩, hne⟩
    rcases hown.2 with h' | ⟨g, cap, cur, hv, hg, hc, r⟩
    · exact .inl h'
    · have hlt : g < w.heap.size := by
        rcases Nat.lt_or_ge g w.heap.size with h | h
        · exact h
        · rw [Array.getElem?_eq_none h] at hc; cases hc
      exact .inr ⟨g, cap, cur, hv, hg, by rw [hb.block g (by omega)]; exact hc, r⟩
  rcases h with h | h
  · exact .inl (key _ h)
  · exact .inr (key _ h)

set_option maxRecDepth 100000 in
set_option maxHeartbeats 1000000 in
theorem write_any : ∀ (n : Nat) (x : It), x.size ≤ n → x.write.length ≤ 1000000000 → ∀ (v : Value) (w : World), ItemIs w x v →
    Calls Try.prog 85 #[v] w fun e w' => e = .returned (.string (mkS x.write)) ∧ Below w.heap.size w w'
  | 0, x, h, _, _, _, _ => by have := x.size_pos; omega
  | n + 1, .mk l b ks, hsz, hw, v, w, hv => by
    obtain ⟨kv, rfl, hbz, hk⟩ := itemIs_iff.1 hv
    have KI := Lib.hid (write_any n)
    clear hv
    obtain ⟨p, cap, rfl, h1, h2, hg⟩ := hk.parts
    rw [It.size] at hsz
    have B : Hid (Below w.heap.size w (w.alloc (itemO l (mkS b) (.slice p ks.length cap)))) := Lib.hid ((Below.refl _ _).alloc (Nat.le_refl _) _)
    have L : Hid (RowAt (w.alloc (itemO l (mkS b) (.slice p ks.length cap))) w.heap.size #[.bool l, .string (mkS b), .slice p ks.length cap] 98) := Lib.hid (RowAt.new _ _ _)
    cases l with
    | false =>
      rw [It.write, if_neg (by simp)] at hw ⊢
      have hz : (mkS b).size = b.length := mk_size _
      clear hk hsz hg KI
      by_cases hb : b.length ≠ 1
      · rw [if_neg (fun h => hb h.1)] at hw ⊢
        rw [List.length_append] at hw
        have KH := Lib.hid (fun w => head_any 128 b.length w (.inl rfl) (by omega))
        have HZ : (mkS (headL 128 b.length)).size + (mkS b).size ≤ 1000000000 := by rw [mk_size, mk_size]; omega
        have HE : Hid (mkS (headL 128 b.length) ++ mkS b = mkS (headL 128 b.length ++ b)) := Lib.hid (mk_append _ _)
        generalize mkS (headL 128 b.length ++ b) = RS at *
        generalize mkS (headL 128 b.length) = HS' at *
        clear hw
        generalize b.length = bn at *
        obtain ⟨a0, a1, a2, af0, af1, af2⟩ := L.out.c3
        go_enter Try.func85, Try.ntmps85
        go_wp2
        go_upto_region 11 with (fail)
        generalize w.alloc (itemO false (mkS b) (.slice p ks.length cap)) = W at *
        obtain ⟨l0, l1, l2⟩ := L.out.l3
        (refine region_later mix ?hB ?_; case hB => kernel_rfl); (repeat (first | go_big_quiet_step ((go_at_call 134; with_reducible exact Later.call (KH.out _))) | quiet_step ((go_at_call 134; with_reducible exact Later.call (KH.out _))))); (refine wpQuiet_nil ?_; rintro _ ⟨u, rfl⟩)
        go_wp2
        go_ret
        exact ⟨by rw [← HE.out]; rfl, B.out.trans (u.below.mono B.out.size)⟩
      · obtain ⟨c, rfl⟩ : ∃ c, b = [c] := by
          match b, (by omega : b.length = 1) with
          | [c], _ => exact ⟨c, rfl⟩
        have hz1 : (mkS [c]).size = 1 := rfl
        have hg : (mkS [c])[0]'(by rw [hz1]; decide) = c := rfl
        have hcl := c.toNat_lt
        clear hb hz
        by_cases hc : c.toNat < 128
        · rw [if_pos ⟨rfl, by simpa using hc⟩] at hw ⊢
          clear hw
          obtain ⟨a0, a1, a2, af0, af1, af2⟩ := L.out.c3
          go_enter Try.func85, Try.ntmps85
          go_wp2
          go_ret
          exact ⟨rfl, B.out⟩
        · rw [if_neg (fun h => hc (by simpa using h.2))] at hw ⊢
          rw [List.length_append] at hw
          have KH := Lib.hid (fun w => head_any 128 [c].length w (.inl rfl) (by simp))
          have HE : Hid (mkS (headL 128 [c].length) ++ mkS [c] = mkS (headL 128 [c].length ++ [c])) := Lib.hid (mk_append _ _)
          have HZ : (mkS (headL 128 [c].length)).size = 1 := by rw [headL_short (by simp)]; rfl
          generalize mkS (headL 128 [c].length ++ [c]) = RS at *
          generalize mkS (headL 128 [c].length) = HS' at *
          clear hw
          obtain ⟨a0, a1, a2, af0, af1, af2⟩ := L.out.c3
          go_enter Try.func85, Try.ntmps85
          go_wp2
          go_upto_region 11 with (fail)
          generalize w.alloc (itemO false (mkS [c]) (.slice p ks.length cap)) = W at *
          obtain ⟨l0, l1, l2⟩ := L.out.l3
          (refine region_later mix ?hB ?_; case hB => kernel_rfl); (repeat (first | go_big_quiet_step ((go_at_call 134; with_reducible exact Later.call (KH.out _))) | quiet_step ((go_at_call 134; with_reducible exact Later.call (KH.out _))))); (refine wpQuiet_nil ?_; rintro _ ⟨u, rfl⟩)
          go_wp2
          go_ret
          exact ⟨by rw [← HE.out]; rfl, B.out.trans (u.below.mono B.out.size)⟩
    | true =>
      rw [It.write, if_pos rfl] at hw ⊢
      rw [List.length_append] at hw
      have HG := Lib.hid hg
      have HS := Lib.hid (fun i k (h : ks[i]? = some k) => (by have := sizes_get h; omega : It.size k ≤ n))
      have HD := Lib.hid (fun i k (h : ks[i]? = some k) => writes_take h)
      have HL := Lib.hid (fun i => (by have := writes_take_le ks i; omega : (writes (ks.take i)).length ≤ 1000000000))
      have D0 : Hid (writes (ks.take 0) = []) := Lib.hid (by simp [writes])
      have DM : Hid (writes (ks.take ks.length) = writes ks) := Lib.hid (by rw [List.take_length])
      have KH := Lib.hid (fun w => head_any 192 (writes ks).length w (.inr rfl) (by omega))
      have HZ : (mkS (headL 192 (writes ks).length)).size + (mkS (writes ks)).size ≤ 1000000000 := by rw [mk_size, mk_size]; omega
      have HE : Hid (mkS (headL 192 (writes ks).length) ++ mkS (writes ks) = mkS (headL 192 (writes ks).length ++ writes ks)) := Lib.hid (mk_append _ _)
      have HZ2 : (mkS (writes ks)).size = (writes ks).length := mk_size _
      clear hk hsz hg hbz hw
      generalize mkS (headL 192 (writes ks).length ++ writes ks) = RS at *
      generalize hm : ks.length = m at *
      have HM := Lib.hid hm
      clear hm
      have hop := Lib.fresh_isBuilder 186 5 (w.alloc (itemO true (mkS b) (.slice p m cap)))
      rw [show (w.alloc (itemO true (mkS b) (.slice p m cap))).heap.size = w.heap.size + 1 by simp] at hop
      have B2 : Hid (Below w.heap.size w ((w.alloc (itemO true (mkS b) (.slice p m cap))).alloc (.cells #[.pointer none, .slice none 0 0] 186))) := Lib.hid (B.out.alloc B.out.size _)
      have OB := Lib.hid hop
      clear hop
      obtain ⟨a0, a1, a2, af0, af1, af2⟩ := L.out.c3
      go_enter Try.func85, Try.ntmps85
      go_wp2
      go_loopw [11] (fun i wr => ∃ k : Nat, k ≤ m ∧ i = .int .i64 k ∧ Lib.IsBuilder 186 5 (w.heap.size + 1) (w.heap.size + 1) (Lib.byteCells (writes (ks.take k))) wr ∧ Below w.heap.size w wr ∧ w.heap.size + 1 ≤ wr.heap.size) (fun i _ => m - (intOf i).toNat)
      case atStart => exact ⟨0, Nat.zero_le _, rfl, by rw [D0.out]; exact OB.out, B2.out, by simp⟩
      case round =>
        obtain ⟨k, hk, rfl, hob, hbl, hbs⟩ := hrel
        have HB := Lib.hid hbl
        have HO := Lib.hid hob
        clear hbl hob L B D0 B2 OB
        by_cases hlt : k < m
        · obtain ⟨x, hx⟩ : ∃ x, ks[k]? = some x := ⟨_, List.getElem?_eq_getElem (by rw [HM.out]; exact hlt)⟩
          obtain ⟨a, l', b', p', n', c', rfl, c0, c1, c2, hi⟩ := HG.out k x hx
          have g1 := HS.out k x hx
          have HX := Lib.hid (ItemIs.below HB.out (Nat.le_refl _) _ _ hi)
          have q0 : wr.cell? (a.add (k * 3)) = some (.bool l') := by rw [HB.out.cell (block_lt_of_cell c0)]; exact c0
          have q1 : wr.cell? ⟨(a.add (k * 3)).block, (a.add (k * 3)).off + 1, none⟩ = some (.string b') := by
            have e : (⟨(a.add (k * 3)).block, (a.add (k * 3)).off + 1, none⟩ : Addr) = a.add (k * 3 + 1) := by rw [← Go.Deep.add_add]; rfl
            rw [e, HB.out.cell (block_lt_of_cell c1)]
            exact c1
          have q2 : wr.cell? ⟨(a.add (k * 3)).block, (a.add (k * 3)).off + 2, none⟩ = some (.slice p' n' c') := by
            have e : (⟨(a.add (k * 3)).block, (a.add (k * 3)).off + 2, none⟩ : Addr) = a.add (k * 3 + 2) := by rw [← Go.Deep.add_add]; rfl
            rw [e, HB.out.cell (block_lt_of_cell c2)]
            exact c2
          clear hi c0 c1 c2
          have L : Hid (RowAt (wr.alloc (itemO l' b' (.slice p' n' c'))) wr.heap.size #[.bool l', .string b', .slice p' n' c'] 98) := Lib.hid (RowAt.new _ _ _)
          replace HB := Lib.hid (HB.out.alloc HB.out.size (itemO l' b' (.slice p' n' c')))
          replace HX := Lib.hid (ItemIs.below ((Below.refl wr.heap.size wr).alloc (Nat.le_refl _) (itemO l' b' (.slice p' n' c'))) (Nat.le_refl _) _ _ HX.out)
          replace HO := Lib.hid (bld_below HO.out ((Below.refl wr.heap.size wr).alloc (Nat.le_refl _) (itemO l' b' (.slice p' n' c'))) (Nat.le_refl _))
          have HD1 := Lib.hid (HD.out k x hx)
          have hz1 := HL.out (k + 1)
          rw [HD1.out, List.length_append] at hz1
          have hz3 : (mkS x.write).size = x.write.length := mk_size _
          have hz4 : (Lib.byteCells (writes (ks.take k))).length = (writes (ks.take k)).length := Lib.byteCells_length _
          have HE1 : Hid (Lib.byteCells (writes (ks.take k)) ++ Lib.strCells (mkS x.write) = Lib.byteCells (writes (ks.take k) ++ x.write)) := Lib.hid (Lib.byteCells_append _ _).symm
          have hxl : x.write.length ≤ 1000000000 := by omega
          obtain ⟨a0, a1, a2, af0, af1, af2⟩ := L.out.c3
          go_wp2_with fail
          refine (KI.out x g1 hxl _ _ HX.out).mono ?_
          rintro e w2 ⟨rfl, hb⟩
          replace HO := Lib.hid (bld_below HO.out hb (Nat.le_refl _))
          have hz5 : wr.heap.size + 1 ≤ w2.heap.size := by have := hb.size; simpa using this
          (replace HB := Lib.hid (HB.out.trans (hb.mono HB.out.size)); clear hb)
          go_wp2_with fail
          refine (bld_write _ _ _ _ _ HO.out (by rw [hz4, hz3]; omega) (by omega)).mono ?_
          rintro e w3 ⟨rfl, hob, hb⟩
          have HO3 := Lib.hid hob
          have HB3 := Lib.hid (HB.out.trans (hb.mono (by omega)))
          have hz6 := hb.size
          clear hob hb HO HB
          go_wp2_with fail
          go_roundw
          case rel => exact ⟨k + 1, by omega, by go_num, by rw [HD1.out, ← HE1.out]; exact .inr HO3.out, HB3.out, by omega⟩
          case measure => simp [intOf]; omega
        · obtain rfl : k = m := by omega
          rw [DM.out] at HO
          have hz4 : (Lib.byteCells (writes ks)).length = (writes ks).length := Lib.byteCells_length _
          go_wp2_with fail
          refine (bld_len _ _ _ _ HO.out).mono ?_
          rintro e w2 ⟨rfl, rfl⟩
          rw [hz4]
          go_wp2_with fail
          refine (KH.out _).mono ?_
          rintro e w2 ⟨rfl, hb⟩
          replace HO := Lib.hid (bld_below HO.out hb (Nat.le_refl _))
          have hz5 := hb.size
          (replace HB := Lib.hid (HB.out.trans (hb.mono HB.out.size)); clear hb)
          go_wp2_with fail
          refine (bld_string _ _ _ _ HO.out (by omega)).mono ?_
          rintro e w3 ⟨rfl, hb⟩
          have HB3 := Lib.hid (HB.out.trans (hb.mono (by omega)))
          clear hb HO HB
          rw [show (⟨(writes ks).toArray⟩ : ByteArray) = mkS (writes ks) from rfl]
          generalize writes ks = W at *
          generalize mkS W = WS at *
          generalize mkS (headL 192 W.length) = HS' at *
          go_wp2_with fail
          go_ret
          exact ⟨by rw [← HE.out]; rfl, HB3.out⟩
end Go.Proofs.Ytefmlbckbhlgdaa
namespace Go.Proofs.Ytefmlbckbhlgdaa
open Go.RowKit
set_option maxRecDepth 100000
/-- What an item is encoded as: bytes, and the error's number. -/
def It.enc (x : It) : List UInt8 × Int :=
  if (x.pureB && decide (x.size ≤ 4000)) = false then ([], 1) else if 8 < x.depth then ([], 5) else if 4000 < x.write.length then ([], 2) else (x.write, 0)

set_option maxRecDepth 100000 in
set_option maxHeartbeats 1000000 in
theorem encode_any (x : It) (v : Value) (w : World) (hx : ItemIs w x v) (hw : x.pureB = true → x.size ≤ 4000 → x.write.length ≤ 1000000000) :
    Calls Try.prog 45 #[v] w fun e w' => e = .returned (.tuple #[.string (mkS x.enc.1), .int .i64 x.enc.2]) ∧ Below w.heap.size w w' := by
  obtain ⟨⟨l, b, p, n, c⟩, rfl⟩ := itemIs_val hx
  have HX : ∀ W, Below w.heap.size w W → ItemIs W x (.agg #[.bool l, .string b, .slice p n c]) := fun W h => ItemIs.below h (Nat.le_refl _) _ _ hx
  have HI := Lib.hid HX
  have L : Hid (RowAt (w.alloc (ivO (l, b, p, n, c))) w.heap.size #[.bool l, .string b, .slice p n c] 98) := Lib.hid (RowAt.new _ _ _)
  have B : Hid (Below w.heap.size w (w.alloc (ivO (l, b, p, n, c)))) := Lib.hid ((Below.refl _ _).alloc (Nat.le_refl _) _)
  show Calls Try.prog 45 #[.agg #[.bool l, .string b, .slice p n c]] w _
  have K1 := Lib.hid (fun W h => well_any x (.agg #[.bool l, .string b, .slice p n c]) W (HX W h))
  cases hwell : (x.pureB && decide (x.size ≤ 4000)) with
  | false =>
    have HE : Hid (x.enc = ([], 1)) := Lib.hid (by rw [It.enc, if_pos hwell])
    rw [hwell] at K1
    clear hx HX hw hwell
    obtain ⟨a0, a1, a2, af0, af1, af2⟩ := L.out.c3
    go_enter Try.func45, Try.ntmps45
    go_wp2_with fail
    refine (K1.out _ B.out).mono ?_
    rintro e w2 ⟨rfl, hb⟩
    (replace B := Lib.hid (B.out.trans (hb.mono B.out.size)); clear hb)
    go_wp2
    go_ret2
    rw [HE.out]
    exact ⟨rfl, B.out⟩
  | true =>
    rw [hwell] at K1
    have hwell' := hwell
    rw [Bool.and_eq_true, decide_eq_true_eq] at hwell'
    have K2 := Lib.hid (fun W h => deep_any x.size x (Nat.le_refl _) ((pureB_iff x).1 hwell'.1) (by omega) (.agg #[.bool l, .string b, .slice p n c]) W (HX W h))
    have K3 := Lib.hid (fun W h => write_any x.size x (Nat.le_refl _) (hw hwell'.1 hwell'.2) (.agg #[.bool l, .string b, .slice p n c]) W (HX W h))
    have hwl := hw hwell'.1 hwell'.2
    have HE0 : Hid (x.enc = if 8 < x.depth then ([], 5) else if 4000 < x.write.length then ([], 2) else (x.write, 0)) := Lib.hid (by rw [It.enc, if_neg (by rw [hwell]; simp)])
    have hz : (mkS x.write).size = x.write.length := mk_size _
    clear hx HX hw hwell hwell'
    generalize hd : x.depth = d at *
    generalize hxw : x.write = xw at *
    clear hd hxw
    generalize xw.length = n' at *
    by_cases hd : 8 < d
    · have HE : Hid (x.enc = ([], 5)) := Lib.hid (by rw [HE0.out, if_pos hd])
      obtain ⟨a0, a1, a2, af0, af1, af2⟩ := L.out.c3
      go_enter Try.func45, Try.ntmps45
      go_wp2_with fail
      refine (K1.out _ B.out).mono ?_
      rintro e w2 ⟨rfl, hb⟩
      clear a0 a1 a2 af0 af1 af2
      (replace L := Lib.hid (L.out.belowS hb); replace B := Lib.hid (B.out.trans (hb.mono B.out.size)); clear hb)
      obtain ⟨a0, a1, a2, af0, af1, af2⟩ := L.out.c3
      go_wp2_with fail
      refine (K2.out _ B.out).mono ?_
      rintro e w2 ⟨rfl, hb⟩
      (replace B := Lib.hid (B.out.trans (hb.mono B.out.size)); clear hb)
      go_wp2
      go_ret2
      rw [HE.out]
      exact ⟨rfl, B.out⟩
    · by_cases hn : 4000 < n'
      · have HE : Hid (x.enc = ([], 2)) := Lib.hid (by rw [HE0.out, if_neg hd, if_pos hn])
        obtain ⟨a0, a1, a2, af0, af1, af2⟩ := L.out.c3
        go_enter Try.func45, Try.ntmps45
        go_wp2_with fail
        refine (K1.out _ B.out).mono ?_
        rintro e w2 ⟨rfl, hb⟩
        clear a0 a1 a2 af0 af1 af2
        (replace L := Lib.hid (L.out.belowS hb); replace B := Lib.hid (B.out.trans (hb.mono B.out.size)); clear hb)
        obtain ⟨a0, a1, a2, af0, af1, af2⟩ := L.out.c3
        go_wp2_with fail
        refine (K2.out _ B.out).mono ?_
        rintro e w3 ⟨rfl, hb⟩
        clear a0 a1 a2 af0 af1 af2
        (replace L := Lib.hid (L.out.belowS hb); replace B := Lib.hid (B.out.trans (hb.mono B.out.size)); clear hb)
        obtain ⟨a0, a1, a2, af0, af1, af2⟩ := L.out.c3
        go_wp2_with fail
        refine (K3.out _ B.out).mono ?_
        rintro e w4 ⟨rfl, hb⟩
        (replace B := Lib.hid (B.out.trans (hb.mono B.out.size)); clear hb)
        go_wp2
        go_ret2
        rw [HE.out]
        exact ⟨rfl, B.out⟩
      · have HE : Hid (x.enc = (xw, 0)) := Lib.hid (by rw [HE0.out, if_neg hd, if_neg hn])
        obtain ⟨a0, a1, a2, af0, af1, af2⟩ := L.out.c3
        go_enter Try.func45, Try.ntmps45
        go_wp2_with fail
        refine (K1.out _ B.out).mono ?_
        rintro e w2 ⟨rfl, hb⟩
        clear a0 a1 a2 af0 af1 af2
        (replace L := Lib.hid (L.out.belowS hb); replace B := Lib.hid (B.out.trans (hb.mono B.out.size)); clear hb)
        obtain ⟨a0, a1, a2, af0, af1, af2⟩ := L.out.c3
        go_wp2_with fail
        refine (K2.out _ B.out).mono ?_
        rintro e w3 ⟨rfl, hb⟩
        clear a0 a1 a2 af0 af1 af2
        (replace L := Lib.hid (L.out.belowS hb); replace B := Lib.hid (B.out.trans (hb.mono B.out.size)); clear hb)
        obtain ⟨a0, a1, a2, af0, af1, af2⟩ := L.out.c3
        go_wp2_with fail
        refine (K3.out _ B.out).mono ?_
        rintro e w4 ⟨rfl, hb⟩
        (replace B := Lib.hid (B.out.trans (hb.mono B.out.size)); clear hb)
        go_wp2
        go_ret2
        rw [HE.out]
        exact ⟨rfl, B.out⟩
end Go.Proofs.Ytefmlbckbhlgdaa
namespace Go.Proofs.Ytefmlbckbhlgdaa
open Go.RowKit
set_option maxRecDepth 100000
end Go.Proofs.Ytefmlbckbhlgdaa
namespace Go.Proofs.Ytefmlbckbhlgdaa
open Go.RowKit
set_option maxRecDepth 100000
/-- No 0 stands ahead. -/
def canonB (l : List UInt8) : Bool := l.isEmpty || decide (l.getD 0 0 ≠ 0)

/-- An item's number, and the error's. -/
def It.value : It → Nat × Int
  | .mk l b ks => if (l || !ks.isEmpty || decide (8 < b.length) || !canonB b) = true then (0, 4) else (valL b, 0)

end Go.Proofs.Ytefmlbckbhlgdaa
