/- Rlp: numbers: plain laws; contracts of Value, the reference's Value, and both Numbers. Rlp: the contract of cut. -/
import Derived.Laws.Bits64b
import Derived.Test.YtefmlbckbhlgdaaRa3
namespace Go.Proofs.Ytefmlbckbhlgdaa
open Go.RowKit
set_option maxRecDepth 100000
theorem valL_snoc (l : List UInt8) (a : UInt8) : valL (l ++ [a]) = 256 * valL l + a.toNat := by simp [valL, List.foldl_append]
theorem valL_nil : valL [] = 0 := rfl
theorem valL_lt : ∀ (n : Nat) (l : List UInt8), l.length = n → valL l < 256 ^ n
  | 0, l, h => by obtain rfl := List.eq_nil_of_length_eq_zero h; simp [valL]
  | n + 1, l, h => by
    rcases List.eq_nil_or_concat l with rfl | ⟨t, a, rfl⟩
    · simp at h
    · rw [List.concat_eq_append] at h ⊢
      rw [valL_snoc, Nat.pow_succ]
      have := valL_lt n t (by simpa using h)
      have := a.toNat_lt
      omega
theorem valL_take {l : List UInt8} {k : Nat} {a : UInt8} (h : l[k]? = some a) : valL (l.take (k + 1)) = 256 * valL (l.take k) + a.toNat := by
  rw [List.take_add_one, h, ← valL_snoc]
  rfl

/-- No 0 stands ahead. -/
def canonB (l : List UInt8) : Bool := l.isEmpty || decide (l.getD 0 0 ≠ 0)

theorem canon_dig : ∀ n : Nat, canonB (dig n) = true := by
  intro n
  induction n using Nat.strongRecOn with
  | ind n ih =>
    rcases Nat.eq_zero_or_pos n with rfl | h0
    · rw [dig_zero]; rfl
    · rw [dig_pos h0]
      by_cases h : n / 256 = 0
      · rw [h, dig_zero]
        have : UInt8.ofNat n ≠ 0 := by
          intro e
          have := congrArg UInt8.toNat e
          simp at this
          omega
        simp [canonB, this]
      · have := ih (n / 256) (by omega)
        rw [dig_pos (by omega : 0 < n / 256)] at this ⊢
        unfold canonB at this ⊢
        cases hd : dig (n / 256 / 256) with
        | nil => rw [hd] at this; simpa using this
        | cons a t => rw [hd] at this; simpa using this

theorem val_dig : ∀ n : Nat, valL (dig n) = n := by
  intro n
  induction n using Nat.strongRecOn with
  | ind n ih =>
    rcases Nat.eq_zero_or_pos n with rfl | h0
    · rw [dig_zero]; rfl
    · rw [dig_pos h0, valL_snoc, ih (n / 256) (by omega)]
      simp
      omega

theorem canon_init {t : List UInt8} {a : UInt8} (h : canonB (t ++ [a]) = true) (ht : t ≠ []) : canonB t = true := by
  cases t with
  | nil => exact absurd rfl ht
  | cons b t => simpa [canonB] using h

theorem valL_pos : ∀ (n : Nat) (l : List UInt8), l.length = n → l ≠ [] → canonB l = true → 0 < valL l
  | 0, l, h, h', _ => absurd (List.eq_nil_of_length_eq_zero h) h'
  | n + 1, l, h, _, hc => by
    rcases List.eq_nil_or_concat l with rfl | ⟨t, a, rfl⟩
    · simp at h
    · rw [List.concat_eq_append] at h hc ⊢
      rw [valL_snoc]
      by_cases ht : t = []
      · subst ht
        have : a ≠ 0 := by simpa [canonB] using hc
        have : a.toNat ≠ 0 := fun e => this (UInt8.toNat.inj (by simpa using e))
        omega
      · have := valL_pos n t (by simpa using h) ht (canon_init hc ht)
        omega

theorem dig_val : ∀ (n : Nat) (l : List UInt8), l.length = n → canonB l = true → dig (valL l) = l
  | 0, l, h, _ => by obtain rfl := List.eq_nil_of_length_eq_zero h; exact dig_zero
  | n + 1, l, h, hc => by
    rcases List.eq_nil_or_concat l with rfl | ⟨t, a, rfl⟩
    · simp at h
    · rw [List.concat_eq_append] at h hc ⊢
      have hp := valL_pos (n + 1) _ h (by simp) hc
      have ha := a.toNat_lt
      rw [valL_snoc] at hp ⊢
      have e1 : (256 * valL t + a.toNat) / 256 = valL t := by omega
      have e2 : UInt8.ofNat (256 * valL t + a.toNat) = a := by apply UInt8.toNat.inj; simp
      rw [dig_pos hp, e1, e2]
      by_cases ht : t = []
      · subst ht
        rw [valL_nil, dig_zero]
      · rw [dig_val n t (by simpa using h) (canon_init hc ht)]

theorem dig_val_ne {l : List UInt8} (hc : canonB l = false) : dig (valL l) ≠ l := fun e => by
  have := canon_dig (valL l)
  rw [e, hc] at this
  cases this

/-- An item's number, and the error's. -/
def It.value : It → Nat × Int
  | .mk l b ks => if (l || !ks.isEmpty || decide (8 < b.length) || !canonB b) = true then (0, 4) else (valL b, 0)

theorem or_byte64 (n b : Nat) (hb : b < 256) (hn : n * 256 < 18446744073709551616) : Go.bits .or .u64 ((n : Int) * 256) (b : Int) = ((256 * n + b : Nat) : Int) := by
  have e : ((n : Int) * 256) = ((n * 256 : Nat) : Int) := by omega
  rw [e, bits_or_u64_nat _ _ hn (by omega)]
  have := Nat.shiftLeft_add_eq_or_of_lt (i := 8) (b := b) hb n
  rw [Nat.shiftLeft_eq] at this
  rw [show n * 256 = n * 2 ^ 8 from rfl, ← this]
  omega

set_option maxRecDepth 100000 in
set_option maxHeartbeats 1000000 in
theorem value_any (x : It) (v : Value) (w : World) (hx : ItemIs w x v) :
    Calls Try.prog 145 #[v] w fun e w' => e = .returned (.tuple #[.int .u64 x.value.1, .int .i64 x.value.2]) ∧ Below w.heap.size w w' := by
  obtain ⟨l, b, ks⟩ := x
  obtain ⟨kv, rfl, hbz, hk⟩ := itemIs_iff.1 hx
  obtain ⟨p, cap, rfl, h1, h2, -⟩ := hk.parts
  have L : Hid (RowAt (w.alloc (itemO l (mkS b) (.slice p ks.length cap))) w.heap.size #[.bool l, .string (mkS b), .slice p ks.length cap] 98) := Lib.hid (RowAt.new _ _ _)
  have B : Hid (Below w.heap.size w (w.alloc (itemO l (mkS b) (.slice p ks.length cap)))) := Lib.hid ((Below.refl _ _).alloc (Nat.le_refl _) _)
  have hz : (mkS b).size = b.length := mk_size _
  clear hx hk
  show Calls Try.prog 145 #[.agg #[.bool l, .string (mkS b), .slice p ks.length cap]] w _
  cases l with
  | true =>
    have HE : Hid ((It.mk true b ks).value = (0, 4)) := Lib.hid (by simp [It.value])
    obtain ⟨a0, a1, a2, af0, af1, af2⟩ := L.out.c3
    go_enter Try.func145, Try.ntmps145
    go_wp2
    go_ret2
    rw [HE.out]
    exact ⟨rfl, B.out⟩
  | false =>
    by_cases c1 : 0 < ks.length
    · have HE : Hid ((It.mk false b ks).value = (0, 4)) := Lib.hid (by cases ks <;> simp [It.value] at c1 ⊢)
      obtain ⟨a0, a1, a2, af0, af1, af2⟩ := L.out.c3
      go_enter Try.func145, Try.ntmps145
      go_wp2
      go_ret2
      rw [HE.out]
      exact ⟨rfl, B.out⟩
    · obtain rfl : ks = [] := List.eq_nil_of_length_eq_zero (by omega)
      clear c1
      simp only [List.length_nil] at L B h1
      by_cases c2 : 8 < b.length
      · have HE : Hid ((It.mk false b []).value = (0, 4)) := Lib.hid (by simp [It.value, c2])
        obtain ⟨a0, a1, a2, af0, af1, af2⟩ := L.out.c3
        go_enter Try.func145, Try.ntmps145
        go_wp2
        go_ret2
        rw [HE.out]
        exact ⟨rfl, B.out⟩
      · by_cases c3 : canonB b = true
        · have HE : Hid ((It.mk false b []).value = (valL b, 0)) := Lib.hid (by rw [It.value, if_neg]; simp [c3]; omega)
          generalize hm : b.length = m at *
          have HM := Lib.hid hm
          have hs : ∀ h : 0 < (mkS b).size, (mkS b).toList = [] → False := fun h e => by rw [toList_bl, bl_mk] at e; rw [e] at hm; rw [hz, ← hm] at h; simp at h
          have hc : ∀ h : 0 < (mkS b).size, ¬ (((mkS b)[0]'h).toNat : Int) = 0 := fun h e => by
            rw [mkget] at e
            unfold canonB at c3
            have hne : b ≠ [] := by rintro rfl; rw [hz, ← hm] at h; simp at h
            simp [hne] at c3
            exact c3 (UInt8.toNat.inj (by simpa using e))
          have HG := Lib.hid (fun k (h : k < (mkS b).size) => (by
            have h' : k < b.length := by rw [hz] at h; omega
            rw [mkget]
            exact valL_take (by rw [List.getD, List.getElem?_eq_getElem h']; rfl) : valL (b.take (k + 1)) = 256 * valL (b.take k) + ((mkS b)[k]'h).toNat))
          have HV := Lib.hid (fun k (h : k < m) => (by
            have h1 := valL_lt _ (b.take k) rfl
            have h2 : (b.take k).length ≤ 7 := by rw [List.length_take]; omega
            have := Nat.pow_le_pow_right (n := 256) (by decide) h2
            omega : valL (b.take k) < 72057594037927936))
          have HA : Hid (valL (b.take m) = valL b) := Lib.hid (by rw [← hm, List.take_length])
          clear c3 hm
          generalize hS : mkS b = S at *
          have HS := Lib.hid hS
          clear hS
          by_cases c0 : m = 0
          · have hst : S.toList = [] := by rw [toList_bl]; exact List.eq_nil_of_length_eq_zero (by rw [bl_length]; omega)
            clear hs hc
            obtain ⟨a0, a1, a2, af0, af1, af2⟩ := L.out.c3
            go_enter Try.func145, Try.ntmps145
            go_wp2
            show Code.wp _ _ _ _ _
            go_loop [5, 33] (fun n i => i = .int .i64 0 ∧ n = .int .u64 0) (fun _ _ => 0)
            case atStart => exact ⟨rfl, rfl⟩
            case round =>
              obtain ⟨rfl, rfl⟩ := hrel
              go_wp2
              go_ret2
              rw [HE.out, ← HA.out, c0]
              exact ⟨rfl, B.out⟩
          · have hz0 : 0 < S.size := by omega
            have hst : ¬ S.toList = [] := hs hz0
            have hc2 : (((S[0]'hz0).toNat : Int) == 0) = false := beq_eq_false_iff_ne.2 (hc hz0)
            clear hs hc
            have hst2 : S.toList.isEmpty = false := by simpa using hst
            obtain ⟨a0, a1, a2, af0, af1, af2⟩ := L.out.c3
            go_enter Try.func145, Try.ntmps145
            go_wp2
            go_loop [5, 33] (fun n i => ∃ k : Nat, k ≤ m ∧ i = .int .i64 k ∧ n = .int .u64 (valL (b.take k))) (fun _ i => m - (intOf i).toNat)
            case atStart => exact ⟨0, Nat.zero_le _, rfl, by simp [valL]⟩
            case round =>
              obtain ⟨k, hk, rfl, rfl⟩ := hrel
              by_cases hlt : k < m
              · have hkS : k < S.size := by omega
                have hv := HV.out k hlt
                have ho := or_byte64 (valL (b.take k)) S[k].toNat S[k].toNat_lt (by omega)
                have HO := Lib.hid (ho.trans (congrArg _ (HG.out k hkS).symm))
                clear ho
                generalize hNN : valL (b.take k) = N at *
                clear hNN
                have hw64 : IntKind.u64.wrap (S[k].toNat : Int) = (S[k].toNat : Int) := u64_wrap_lt (by omega) (by have := S[k].toNat_lt; omega)
                go_wp2
                refine ⟨⟨k + 1, by omega, by go_num, ?_⟩, by simp [intOf]; omega⟩
                first | rw [HO.out] | rw [hw64, HO.out]
              · obtain rfl : k = m := by omega
                go_wp2
                go_ret2
                rw [HE.out, ← HA.out]
                exact ⟨rfl, B.out⟩
        · have HE : Hid ((It.mk false b []).value = (0, 4)) := Lib.hid (by rw [It.value, if_pos]; simp at c3; simp [c3])
          have hb0 : b ≠ [] := by rintro rfl; exact c3 rfl
          have hb1 : 0 < b.length := List.length_pos_iff.2 hb0
          have hs : ¬ (mkS b).toList = [] := by rw [toList_bl, bl_mk]; exact hb0
          have hs2 : (mkS b).toList.isEmpty = false := by rw [toList_bl, bl_mk]; simpa using hb0
          have hc : ∀ h : 0 < (mkS b).size, (((mkS b)[0]'h).toNat : Int) = 0 := fun h => by
            rw [mkget]
            have : b.getD 0 0 = 0 := by
              rw [canonB] at c3
              simp [hb0] at c3
              simpa using c3
            rw [this]; rfl
          have hc2 := hc (by rw [mk_size]; exact hb1)
          clear c3 hb0 hc
          obtain ⟨a0, a1, a2, af0, af1, af2⟩ := L.out.c3
          go_enter Try.func145, Try.ntmps145
          go_wp2
          go_ret2
          rw [HE.out]
          exact ⟨rfl, B.out⟩

set_option maxRecDepth 100000 in
set_option maxHeartbeats 1000000 in
theorem rvalue_any (x : It) (v : Value) (w : World) (hx : ItemIs w x v) :
    Calls Try.prog 107 #[v] w fun e w' => e = .returned (.tuple #[.int .u64 x.value.1, .int .i64 x.value.2]) ∧ Below w.heap.size w w' := by
  obtain ⟨l, b, ks⟩ := x
  obtain ⟨kv, rfl, hbz, hk⟩ := itemIs_iff.1 hx
  obtain ⟨p, cap, rfl, h1, h2, -⟩ := hk.parts
  have L : Hid (RowAt (w.alloc (itemO l (mkS b) (.slice p ks.length cap))) w.heap.size #[.bool l, .string (mkS b), .slice p ks.length cap] 98) := Lib.hid (RowAt.new _ _ _)
  have B : Hid (Below w.heap.size w (w.alloc (itemO l (mkS b) (.slice p ks.length cap)))) := Lib.hid ((Below.refl _ _).alloc (Nat.le_refl _) _)
  have hz : (mkS b).size = b.length := mk_size _
  clear hx hk
  show Calls Try.prog 107 #[.agg #[.bool l, .string (mkS b), .slice p ks.length cap]] w _
  cases l with
  | true =>
    have HE : Hid ((It.mk true b ks).value = (0, 4)) := Lib.hid (by simp [It.value])
    obtain ⟨a0, a1, a2, af0, af1, af2⟩ := L.out.c3
    go_enter Try.func107, Try.ntmps107
    go_wp2
    go_ret2
    rw [HE.out]
    exact ⟨rfl, B.out⟩
  | false =>
    by_cases c1 : 0 < ks.length
    · have HE : Hid ((It.mk false b ks).value = (0, 4)) := Lib.hid (by cases ks <;> simp [It.value] at c1 ⊢)
      obtain ⟨a0, a1, a2, af0, af1, af2⟩ := L.out.c3
      go_enter Try.func107, Try.ntmps107
      go_wp2
      go_ret2
      rw [HE.out]
      exact ⟨rfl, B.out⟩
    · obtain rfl : ks = [] := List.eq_nil_of_length_eq_zero (by omega)
      clear c1
      simp only [List.length_nil] at L B h1
      by_cases c2 : 8 < b.length
      · have HE : Hid ((It.mk false b []).value = (0, 4)) := Lib.hid (by simp [It.value, c2])
        obtain ⟨a0, a1, a2, af0, af1, af2⟩ := L.out.c3
        go_enter Try.func107, Try.ntmps107
        go_wp2
        go_ret2
        rw [HE.out]
        exact ⟨rfl, B.out⟩
      · have hbz8 : b.length ≤ 8 := by omega
        have hval := valL_lt _ b rfl
        have hp := Nat.pow_le_pow_right (n := 256) (by decide) hbz8
        have KD := Lib.hid (fun w => digits_any (valL b) w (by omega))
        have HG := Lib.hid (fun k (h : k < (mkS b).size) => (by
          have h' : k < b.length := by rw [hz] at h; omega
          rw [mkget]
          exact valL_take (by rw [List.getD, List.getElem?_eq_getElem h']; rfl) : valL (b.take (k + 1)) = 256 * valL (b.take k) + ((mkS b)[k]'h).toNat))
        have HV := Lib.hid (fun k (h : k < b.length) => (by
          have h1 := valL_lt _ (b.take k) rfl
          have h2 : (b.take k).length ≤ 7 := by rw [List.length_take]; omega
          have := Nat.pow_le_pow_right (n := 256) (by decide) h2
          omega : valL (b.take k) < 72057594037927936))
        have HA : Hid (valL (b.take b.length) = valL b) := Lib.hid (by rw [List.take_length])
        have HT : Hid (canonB b = true → mkS (dig (valL b)) = mkS b) := Lib.hid (fun h => by rw [dig_val _ b rfl h])
        have HF : Hid (canonB b = false → ((mkS (dig (valL b))).toList == (mkS b).toList) = false) := Lib.hid (fun h => seq_false (fun e => dig_val_ne h (mk_inj e)))
        have HE1 : Hid (canonB b = true → (It.mk false b []).value = (valL b, 0)) := Lib.hid (fun h => by rw [It.value, if_neg]; simp [h]; omega)
        have HE2 : Hid (canonB b = false → (It.mk false b []).value = (0, 4)) := Lib.hid (fun h => by rw [It.value, if_pos]; simp [h])
        clear hval hp hbz8
        generalize hm : b.length = m at *
        clear hm
        generalize mkS b = S at *
        obtain ⟨a0, a1, a2, af0, af1, af2⟩ := L.out.c3
        go_enter Try.func107, Try.ntmps107
        go_wp2
        go_loop [4, 5] (fun n i => ∃ k : Nat, k ≤ m ∧ i = .int .i64 k ∧ n = .int .u64 (valL (b.take k))) (fun _ i => m - (intOf i).toNat)
        case atStart => exact ⟨0, Nat.zero_le _, rfl, by simp [valL]⟩
        case round =>
          obtain ⟨k, hk, rfl, rfl⟩ := hrel
          by_cases hlt : k < m
          · have hkS : k < S.size := by omega
            have hv := HV.out k hlt
            have ho := HG.out k hkS
            have hsb := S[k].toNat_lt
            have hw64 : IntKind.u64.wrap (S[k].toNat : Int) = (S[k].toNat : Int) := u64_wrap_lt (by omega) (by omega)
            have HO : Hid (256 * (valL (b.take k) : Int) + (S[k].toNat : Int) = (valL (b.take (k + 1)) : Int)) := Lib.hid (by rw [ho]; omega)
            clear ho
            generalize hNN : valL (b.take k) = N at *
            clear hNN
            go_wp2
            refine ⟨⟨k + 1, by omega, by go_num, by rw [HO.out]⟩, by simp [intOf]; omega⟩
          · obtain rfl : k = m := by omega
            rw [HA.out]
            cases hc : canonB b with
            | true =>
              have HE := Lib.hid (HE1.out hc)
              rw [HT.out hc] at KD
              clear HT HF HE1 HE2 hc HG HV HA
              generalize valL b = V at *
              go_wp2
              clear a0 a1 a2 af0 af1 af2
              generalize w.alloc (.cells #[.bool false, .string S, .slice p 0 cap] 98) = W at *
              obtain ⟨l0, l1, l2⟩ := L.out.l3
              (refine region_later mix ?hB ?_; case hB => kernel_rfl); (repeat (first | go_big_quiet_step ((go_at_call 141; with_reducible exact Later.call (KD.out _))) | quiet_step ((go_at_call 141; with_reducible exact Later.call (KD.out _))))); (refine wpQuiet_nil ?_; rintro _ ⟨u, rfl⟩)
              go_wp2
              go_ret2
              rw [HE.out]
              exact ⟨rfl, B.out.trans (u.below.mono B.out.size)⟩
            | false =>
              have HE := Lib.hid (HE2.out hc)
              have hs := HF.out hc
              clear HT HF HE1 HE2 hc HG HV HA
              generalize mkS (dig (valL b)) = D at *
              generalize valL b = V at *
              go_wp2
              clear a0 a1 a2 af0 af1 af2
              generalize w.alloc (.cells #[.bool false, .string S, .slice p 0 cap] 98) = W at *
              obtain ⟨l0, l1, l2⟩ := L.out.l3
              (refine region_later mix ?hB ?_; case hB => kernel_rfl); (repeat (first | go_big_quiet_step ((go_at_call 141; with_reducible exact Later.call (KD.out _))) | quiet_step ((go_at_call 141; with_reducible exact Later.call (KD.out _))))); (refine wpQuiet_nil ?_; rintro _ ⟨u, rfl⟩)
              go_wp2
              go_ret2
              rw [HE.out]
              exact ⟨rfl, B.out.trans (u.below.mono B.out.size)⟩

set_option maxHeartbeats 1000000 in
theorem number_any (n : Nat) (w : World) (hn : n < 18446744073709551616) :
    Calls Try.prog 169 #[.int .u64 n] w fun e w' => e = .returned (.agg #[.bool false, .string (mkS (dig n)), .slice none 0 0]) ∧ Below w.heap.size w w' := by
  have KP := Lib.hid (fun w => plain_any n w hn)
  generalize mkS (dig n) = D at *
  go_enter Try.func169, Try.ntmps169
  go_wp2_with fail
  refine (KP.out _).mono ?_
  rintro e w1 ⟨rfl, hb⟩
  have hs := hb.size
  have HL : RowAt w1 w.heap.size #[.bool false, .string ⟨#[]⟩, .slice none 0 0] 98 := (RowAt.new w _ _).belowS hb
  have B := Lib.hid (((Below.refl w.heap.size w).alloc (Nat.le_refl _) _).trans (hb.mono (by simp)))
  obtain ⟨c0, c1, c2, f0, f1, f2⟩ := HL.c3
  have R0 := HL.set 0 (.bool false) (cs' := #[.bool false, .string ⟨#[]⟩, .slice none 0 0]) rfl
  have R1 := R0.set 1 (.string D) (cs' := #[.bool false, .string D, .slice none 0 0]) rfl
  have R2 := R1.set 2 (.slice none 0 0) (cs' := #[.bool false, .string D, .slice none 0 0]) rfl
  have m0 := R0.c3.1
  have m1 := R1.c3.2.1
  have m2 := R2.c3.2.2.1
  clear HL hb hs R0 R1 R2
  go_wp2
  have HB := Lib.hid ((((B.out.setCell (p := ⟨w.heap.size, 0, none⟩) (Nat.le_refl _) (.bool false)).setCell (p := ⟨w.heap.size, 1, none⟩) (Nat.le_refl _) (.string D)).setCell (p := ⟨w.heap.size, 2, none⟩) (Nat.le_refl _) (.slice none 0 0)))
  refine bodyPost_ret (v := .agg #[.bool false, .string D, .slice none 0 0]) (by simp [results, Try.results169, go_sem, m0, m1, m2]) rfl ?_
  exact ⟨rfl, HB.out⟩

set_option maxHeartbeats 1000000 in
theorem rnumber_any (n : Nat) (w : World) (hn : n < 18446744073709551616) :
    Calls Try.prog 153 #[.int .u64 n] w fun e w' => e = .returned (.agg #[.bool false, .string (mkS (dig n)), .slice none 0 0]) ∧ Below w.heap.size w w' := by
  have KP := Lib.hid (fun w => digits_any n w hn)
  generalize mkS (dig n) = D at *
  go_enter Try.func153, Try.ntmps153
  go_wp2_with fail
  refine (KP.out _).mono ?_
  rintro e w1 ⟨rfl, hb⟩
  have hs := hb.size
  have HL : RowAt w1 w.heap.size #[.bool false, .string ⟨#[]⟩, .slice none 0 0] 98 := (RowAt.new w _ _).belowS hb
  have B := Lib.hid (((Below.refl w.heap.size w).alloc (Nat.le_refl _) _).trans (hb.mono (by simp)))
  obtain ⟨c0, c1, c2, f0, f1, f2⟩ := HL.c3
  have R0 := HL.set 0 (.bool false) (cs' := #[.bool false, .string ⟨#[]⟩, .slice none 0 0]) rfl
  have R1 := R0.set 1 (.string D) (cs' := #[.bool false, .string D, .slice none 0 0]) rfl
  have R2 := R1.set 2 (.slice none 0 0) (cs' := #[.bool false, .string D, .slice none 0 0]) rfl
  have m0 := R0.c3.1
  have m1 := R1.c3.2.1
  have m2 := R2.c3.2.2.1
  clear HL hb hs R0 R1 R2
  go_wp2
  have HB := Lib.hid ((((B.out.setCell (p := ⟨w.heap.size, 0, none⟩) (Nat.le_refl _) (.bool false)).setCell (p := ⟨w.heap.size, 1, none⟩) (Nat.le_refl _) (.string D)).setCell (p := ⟨w.heap.size, 2, none⟩) (Nat.le_refl _) (.slice none 0 0)))
  refine bodyPost_ret (v := .agg #[.bool false, .string D, .slice none 0 0]) (by simp [results, Try.results153, go_sem, m0, m1, m2]) rfl ?_
  exact ⟨rfl, HB.out⟩
end Go.Proofs.Ytefmlbckbhlgdaa
namespace Go.Proofs.Ytefmlbckbhlgdaa
open Go.RowKit
set_option maxRecDepth 100000
theorem cut_alt (c : UInt8) (t : List UInt8) (F : Nat) (is : Bool) (hF : F = if 192 ≤ c.toNat then 192 else 128) (his : is = decide (192 ≤ c.toNat)) : cutL (c :: t) =
    if c.toNat < 128 then some (false, 0, 1)
    else if c.toNat - F ≤ 55 then some (is, 1, 1 + (c.toNat - F))
    else if 2 < c.toNat - F - 55 ∨ t.length < c.toNat - F - 55 ∨ (t.getD 0 0).toNat = 0 then none
    else if valL (t.take (c.toNat - F - 55)) ≤ 55 then none
    else some (is, 1 + (c.toNat - F - 55), 1 + (c.toNat - F - 55) + valL (t.take (c.toNat - F - 55))) := by
  subst hF his
  simp only [cutL]
  generalize (if 192 ≤ c.toNat then 192 else 128) = F
  by_cases h1 : c.toNat < 128
  · rw [if_pos h1, if_pos h1]
  · rw [if_neg h1, if_neg h1]
    by_cases h2 : c.toNat - F ≤ 55
    · rw [if_pos h2, if_pos h2]
    · rw [if_neg h2, if_neg h2]
      by_cases h3 : c.toNat - F = 56
      · rw [if_pos h3, h3]
        match t with
        | [] => simp
        | a :: t =>
          have e : 56 - 55 = 1 := rfl
          simp only [e, List.take_succ_cons, List.take_zero, valL, List.foldl_cons, List.foldl_nil, List.getD_cons_zero, List.length_cons]
          by_cases h4 : a.toNat ≤ 55
          · rw [if_pos h4]
            split <;> (try rfl)
            rw [if_pos (by omega)]
          · rw [if_neg h4, if_neg (by omega), if_neg (by omega)]
            simp
      · rw [if_neg h3]
        by_cases h4 : c.toNat - F = 57
        · rw [if_pos h4, h4]
          match t with
          | [] => simp
          | [a] => simp
          | a :: b :: t =>
            have e : 57 - 55 = 2 := rfl
            have hb := b.toNat_lt
            simp only [e, List.take_succ_cons, List.take_zero, valL, List.foldl_cons, List.foldl_nil, List.getD_cons_zero, List.length_cons]
            by_cases h5 : a.toNat = 0
            · rw [if_pos h5, if_pos (by omega)]
            · rw [if_neg h5, if_neg (by omega), if_neg (by omega)]
              simp
        · rw [if_neg h4, if_pos (by omega)]

theorem or_byte63 (n b : Nat) (hb : b < 256) (hn : n < 256) : Go.bits .or .i64 ((n : Int) * 256) (b : Int) = ((256 * n + b : Nat) : Int) := by
  have e : ((n : Int) * 256) = ((n * 256 : Nat) : Int) := by omega
  have h1 : (BitVec.ofInt 64 ((n * 256 : Nat) : Int)).toNat = n * 256 := by
    rw [BitVec.ofInt_natCast, BitVec.toNat_ofNat]; exact Nat.mod_eq_of_lt (by omega)
  have h2 : (BitVec.ofInt 64 (b : Int)).toNat = b := by
    rw [BitVec.ofInt_natCast, BitVec.toNat_ofNat]; exact Nat.mod_eq_of_lt (by omega)
  have h3 := Nat.shiftLeft_add_eq_or_of_lt (i := 8) (b := b) hb n
  rw [Nat.shiftLeft_eq] at h3
  rw [e]
  show IntKind.i64.wrap ((BitVec.ofInt 64 ((n * 256 : Nat) : Int) ||| BitVec.ofInt 64 (b : Int)).toNat : Int) = _
  rw [BitVec.toNat_or, h1, h2, show n * 256 = n * 2 ^ 8 from rfl, ← h3]
  simp [IntKind.wrap, IntKind.bits, IntKind.signed]
  omega

/-- What 'bad' panics with. -/
def badE : PanicEntry := { v := .iface 149 (.agg #[]), recovered := false }

/-- How cut ends. -/
def cutE : Option (Bool × Nat × Nat) → Ending
  | none => .panicked [badE]
  | some (is, fr, en) => .returned (.tuple #[.bool is, .int .i64 fr, .int .i64 en])

set_option maxRecDepth 100000 in
set_option maxHeartbeats 4000000 in
theorem cut_any (s : ByteArray) (w : World) (hs : s.size ≤ 5000) : Calls Try.prog 144 #[.string s] w fun e w' => e = cutE (cutL (bl s)) ∧ w = w' := by
  by_cases h0 : s.size = 0
  · have hn : bl s = [] := List.eq_nil_of_length_eq_zero (by rw [bl_length]; exact h0)
    have hst : s.toList = [] := by rw [toList_bl]; exact hn
    rw [hn]
    go_enter Try.func144, Try.ntmps144
    go_wp2
    exact ⟨rfl, rfl, rfl⟩
  · obtain ⟨c, t, hct⟩ : ∃ c t, bl s = c :: t := by
      cases h : bl s with
      | nil => have := bl_length s; rw [h] at this; simp at this; omega
      | cons c t => exact ⟨c, t, rfl⟩
    have hz : s.size = t.length + 1 := by rw [← bl_length, hct]; rfl
    have hst : ¬ s.toList = [] := by rw [toList_bl, hct]; simp
    have hst2 : s.toList.isEmpty = false := by rw [toList_bl, hct]; rfl
    have hpos : 0 < s.size := by omega
    have hc0 : s[0] = c := by
      have := sgetD hpos
      rw [hct] at this
      simpa using this.symm
    have hget : ∀ k (h : k + 1 < s.size), s[k + 1] = t.getD k 0 := fun k h => by
      have := sgetD h
      rw [hct] at this
      simpa using this.symm
    obtain ⟨F, hF⟩ : ∃ F, F = if 192 ≤ c.toNat then 192 else 128 := ⟨_, rfl⟩
    obtain ⟨is, his⟩ : ∃ is, is = decide (192 ≤ c.toNat) := ⟨_, rfl⟩
    have hcut := cut_alt c t F is hF his
    rw [hct]
    have hcl := c.toNat_lt
    have hn0 : (s[0].toNat : Int) = (c.toNat : Int) := by rw [hc0]
    obtain ⟨C, hC⟩ : ∃ C, c.toNat = C := ⟨_, rfl⟩
    rw [hC] at hF his hcut hcl hn0
    have HGet := Lib.hid hget
    clear hct hc0 hC hget
    generalize cutL (c :: t) = R at *
    by_cases c1 : C < 128
    · rw [if_pos c1] at hcut
      have hF1 : F = 128 := by rw [hF, if_neg (by omega)]
      have c2 : ¬ 192 ≤ C := by omega
      clear hF his hF1
      subst hcut
      go_enter Try.func144, Try.ntmps144
      go_wp2
      refine bodyPost_ret (v := .tuple #[.bool false, .int .i64 0, .int .i64 1]) (by simp [results, Try.results144, go_sem]) rfl ?_
      exact ⟨rfl, rfl⟩
    · rw [if_neg c1] at hcut
      have hFC : F ≤ C := by rw [hF]; split <;> omega
      have hF2 : C ≤ F + 63 := by rw [hF]; split <;> omega
      obtain ⟨N, hN⟩ := Nat.le.dest hFC
      rw [show C - F = N by omega] at hcut
      by_cases c192 : 192 ≤ C
      · rw [if_pos c192] at hF
        subst hF
        have hisb : is = true := by rw [his]; exact decide_eq_true c192
        obtain rfl : C = 192 + N := by omega
        clear c192 hN
        have hn1 : (s[0].toNat : Int) = 192 + (N : Int) := by rw [hn0]; omega
        have he1 : (192 : Int) + (N : Int) - 192 = N := by omega
        have hge : (192 : Int) ≤ 192 + (N : Int) := by omega
        clear hn0 his c1 hFC
        subst hisb
        by_cases c2 : N ≤ 55
        · rw [if_pos c2] at hcut
          subst hcut
          go_enter Try.func144, Try.ntmps144
          go_wp2
          refine bodyPost_ret (v := .tuple #[.bool true, .int .i64 1, .int .i64 (1 + (N : Int))]) (by simp [results, Try.results144, go_sem]) rfl ?_
          exact ⟨by simp [cutE], rfl⟩
        · rw [if_neg c2] at hcut
          obtain ⟨z, rfl⟩ : ∃ z, N = 55 + z := ⟨N - 55, by omega⟩
          have hz1 : 1 ≤ z := by omega
          have hn2 : (s[0].toNat : Int) = 247 + (z : Int) := by rw [hn1]; omega
          have he2 : (247 : Int) + (z : Int) - 192 = 55 + (z : Int) := by omega
          have he3 : (55 : Int) + (z : Int) - 55 = z := by omega
          have hge2 : (192 : Int) ≤ 247 + (z : Int) := by omega
          clear he1 hge
          rw [show 55 + z - 55 = z by omega] at hcut
          clear hn1 c2
          by_cases c3 : 2 < z
          · rw [if_pos (.inl c3)] at hcut
            subst hcut
            clear hF2
            go_enter Try.func144, Try.ntmps144
            go_wp2
            exact ⟨rfl, rfl, rfl⟩
          · by_cases c4 : t.length < z
            · rw [if_pos (.inr (.inl c4))] at hcut
              subst hcut
              clear hF2
              go_enter Try.func144, Try.ntmps144
              go_wp2
              exact ⟨rfl, rfl, rfl⟩
            · have hl1 : 1 < s.size := by omega
              have h1 := HGet.out 0 hl1
              by_cases c5 : (t.getD 0 0).toNat = 0
              · rw [if_pos (.inr (.inr c5))] at hcut
                subst hcut
                have hb1 : ((s[1].toNat : Int) == 0) = true := by rw [h1, c5]; rfl
                clear hF2 h1 c5
                go_enter Try.func144, Try.ntmps144
                go_wp2
                exact ⟨rfl, rfl, rfl⟩
              · rw [if_neg (by omega)] at hcut
                have hb1 : ((s[1].toNat : Int) == 0) = false := by rw [beq_eq_false_iff_ne, h1]; omega
                have HV := Lib.hid (fun k (h : k + 1 < s.size) => (by rw [HGet.out k h]; exact valL_take (by rw [List.getD, List.getElem?_eq_getElem (by omega)]; rfl) : valL (t.take (k + 1)) = 256 * valL (t.take k) + (s[k + 1]'h).toNat))
                have HB := Lib.hid (fun k (h : k < 2) => (by have := valL_lt _ (t.take k) rfl; have h2 : (t.take k).length ≤ 1 := by rw [List.length_take]; omega
                                                             have := Nat.pow_le_pow_right (n := 256) (by decide) h2; omega : valL (t.take k) < 256))
                have HB2 := Lib.hid (by have := valL_lt _ (t.take z) rfl; have h2 : (t.take z).length ≤ 2 := by rw [List.length_take]; omega
                                        have := Nat.pow_le_pow_right (n := 256) (by decide) h2; omega : valL (t.take z) < 65536)
                have HR := Lib.hid hcut
                clear hF2 h1 c5 hcut
                go_enter Try.func144, Try.ntmps144
                go_wp2
                go_loop [8, 44] (fun n i => ∃ k : Nat, k ≤ z ∧ i = .int .i64 k ∧ n = .int .i64 (valL (t.take k))) (fun _ i => z - (intOf i).toNat)
                case atStart => exact ⟨0, Nat.zero_le _, rfl, by simp [valL]⟩
                case round =>
                  obtain ⟨k, hk, rfl, rfl⟩ := hrel
                  by_cases hlt : k < z
                  · have hk1 : k + 1 < s.size := by omega
                    have hv := HB.out k (by omega)
                    have ho := or_byte63 (valL (t.take k)) (s[k + 1]'hk1).toNat (s[k + 1]'hk1).toNat_lt (by omega)
                    have HO := Lib.hid (ho.trans (congrArg _ (HV.out k hk1).symm))
                    clear ho
                    generalize hNN : valL (t.take k) = V at *
                    clear hNN
                    have hbv := (s[k + 1]'hk1).toNat_lt
                    have hk2 : 1 + k < s.size := by omega
                    have e : (s[1 + k]'hk2) = (s[k + 1]'hk1) := by simp only [Nat.add_comm 1 k]
                    have hw : wrap64 ((s[1 + k]'hk2).toNat : Int) = ((s[k + 1]'hk1).toNat : Int) := by rw [e]; unfold wrap64; omega
                    go_wp2
                    refine ⟨⟨k + 1, by omega, by go_num, by rw [HO.out]⟩, by simp [intOf]; omega⟩
                  · obtain rfl : k = z := by omega
                    have hv := HB2.out
                    generalize hNN : valL (t.take k) = V at *
                    clear hNN
                    by_cases c6 : V ≤ 55
                    · have HR2 := Lib.hid (HR.out.trans (if_pos c6))
                      clear HR
                      go_wp2
                      exact ⟨rfl, by rw [HR2.out]; rfl, rfl⟩
                    · have HR2 := Lib.hid (HR.out.trans (if_neg c6))
                      clear HR
                      go_wp2
                      refine bodyPost_ret (v := .tuple #[.bool true, .int .i64 (1 + (k : Int)), .int .i64 (1 + (k : Int) + (V : Int))]) (by simp [results, Try.results144, go_sem]) rfl ?_
                      exact ⟨by rw [HR2.out]; simp [cutE], rfl⟩
      · rw [if_neg c192] at hF
        subst hF
        have hisb : is = false := by rw [his]; exact decide_eq_false c192
        obtain rfl : C = 128 + N := by omega
        have hN63 : N < 64 := by omega
        clear c192 hN
        have hn1 : (s[0].toNat : Int) = 128 + (N : Int) := by rw [hn0]; omega
        have he1 : (128 : Int) + (N : Int) - 128 = N := by omega
        have hge : (128 : Int) + (N : Int) < 192 := by omega
        clear hn0 his c1 hFC
        subst hisb
        by_cases c2 : N ≤ 55
        · rw [if_pos c2] at hcut
          subst hcut
          go_enter Try.func144, Try.ntmps144
          go_wp2
          refine bodyPost_ret (v := .tuple #[.bool false, .int .i64 1, .int .i64 (1 + (N : Int))]) (by simp [results, Try.results144, go_sem, hge]) rfl ?_
          exact ⟨by simp [cutE], rfl⟩
        · rw [if_neg c2] at hcut
          obtain ⟨z, rfl⟩ : ∃ z, N = 55 + z := ⟨N - 55, by omega⟩
          have hz1 : 1 ≤ z := by omega
          have hn2 : (s[0].toNat : Int) = 183 + (z : Int) := by rw [hn1]; omega
          have he2 : (183 : Int) + (z : Int) - 128 = 55 + (z : Int) := by omega
          have he3 : (55 : Int) + (z : Int) - 55 = z := by omega
          have hge2 : (183 : Int) + (z : Int) < 192 := by omega
          clear he1 hge
          rw [show 55 + z - 55 = z by omega] at hcut
          clear hn1 c2
          by_cases c3 : 2 < z
          · rw [if_pos (.inl c3)] at hcut
            subst hcut
            clear hF2
            go_enter Try.func144, Try.ntmps144
            go_wp2
            exact ⟨rfl, rfl, rfl⟩
          · by_cases c4 : t.length < z
            · rw [if_pos (.inr (.inl c4))] at hcut
              subst hcut
              clear hF2
              go_enter Try.func144, Try.ntmps144
              go_wp2
              exact ⟨rfl, rfl, rfl⟩
            · have hl1 : 1 < s.size := by omega
              have h1 := HGet.out 0 hl1
              by_cases c5 : (t.getD 0 0).toNat = 0
              · rw [if_pos (.inr (.inr c5))] at hcut
                subst hcut
                have hb1 : ((s[1].toNat : Int) == 0) = true := by rw [h1, c5]; rfl
                clear hF2 h1 c5
                go_enter Try.func144, Try.ntmps144
                go_wp2
                exact ⟨rfl, rfl, rfl⟩
              · rw [if_neg (by omega)] at hcut
                have hb1 : ((s[1].toNat : Int) == 0) = false := by rw [beq_eq_false_iff_ne, h1]; omega
                have HV := Lib.hid (fun k (h : k + 1 < s.size) => (by rw [HGet.out k h]; exact valL_take (by rw [List.getD, List.getElem?_eq_getElem (by omega)]; rfl) : valL (t.take (k + 1)) = 256 * valL (t.take k) + (s[k + 1]'h).toNat))
                have HB := Lib.hid (fun k (h : k < 2) => (by have := valL_lt _ (t.take k) rfl; have h2 : (t.take k).length ≤ 1 := by rw [List.length_take]; omega
                                                             have := Nat.pow_le_pow_right (n := 256) (by decide) h2; omega : valL (t.take k) < 256))
                have HB2 := Lib.hid (by have := valL_lt _ (t.take z) rfl; have h2 : (t.take z).length ≤ 2 := by rw [List.length_take]; omega
                                        have := Nat.pow_le_pow_right (n := 256) (by decide) h2; omega : valL (t.take z) < 65536)
                have HR := Lib.hid hcut
                clear hF2 h1 c5 hcut
                go_enter Try.func144, Try.ntmps144
                go_wp2
                go_loop [8, 44] (fun n i => ∃ k : Nat, k ≤ z ∧ i = .int .i64 k ∧ n = .int .i64 (valL (t.take k))) (fun _ i => z - (intOf i).toNat)
                case atStart => exact ⟨0, Nat.zero_le _, rfl, by simp [valL]⟩
                case round =>
                  obtain ⟨k, hk, rfl, rfl⟩ := hrel
                  by_cases hlt : k < z
                  · have hk1 : k + 1 < s.size := by omega
                    have hv := HB.out k (by omega)
                    have ho := or_byte63 (valL (t.take k)) (s[k + 1]'hk1).toNat (s[k + 1]'hk1).toNat_lt (by omega)
                    have HO := Lib.hid (ho.trans (congrArg _ (HV.out k hk1).symm))
                    clear ho
                    generalize hNN : valL (t.take k) = V at *
                    clear hNN
                    have hbv := (s[k + 1]'hk1).toNat_lt
                    have hk2 : 1 + k < s.size := by omega
                    have e : (s[1 + k]'hk2) = (s[k + 1]'hk1) := by simp only [Nat.add_comm 1 k]
                    have hw : wrap64 ((s[1 + k]'hk2).toNat : Int) = ((s[k + 1]'hk1).toNat : Int) := by rw [e]; unfold wrap64; omega
                    go_wp2
                    refine ⟨⟨k + 1, by omega, by go_num, by rw [HO.out]⟩, by simp [intOf]; omega⟩
                  · obtain rfl : k = z := by omega
                    have hv := HB2.out
                    generalize hNN : valL (t.take k) = V at *
                    clear hNN
                    by_cases c6 : V ≤ 55
                    · have HR2 := Lib.hid (HR.out.trans (if_pos c6))
                      clear HR
                      go_wp2
                      exact ⟨rfl, by rw [HR2.out]; rfl, rfl⟩
                    · have HR2 := Lib.hid (HR.out.trans (if_neg c6))
                      clear HR
                      go_wp2
                      refine bodyPost_ret (v := .tuple #[.bool false, .int .i64 (1 + (k : Int)), .int .i64 (1 + (k : Int) + (V : Int))]) (by simp [results, Try.results144, go_sem, hge2]) rfl ?_
                      exact ⟨by rw [HR2.out]; simp [cutE], rfl⟩
end Go.Proofs.Ytefmlbckbhlgdaa
