/- Rlp: the contract of cut. -/
import Derived.Test.YthipnbiilobjeaaRlp15
namespace Go.Proofs.Ythipnbiilobjeaa
open Go.RowKit
set_option maxRecDepth 100000

theorem cut_alt (c : UInt8) (t : List UInt8) (F : Nat) (is : Bool) (hF : F = if 192 ≤ c.toNat then 192 else 128) (his : is = decide (192 ≤ c.toNat)) : cutL (c :: t) =
    if c.toNat < 128 then some (false, 0, 1)
    else if c.toNat - F ≤ 55 then some (is, 1, 1 + (c.toNat - F))
    else if 2 < c.toNat - F - 55 ∨ t.length < c.toNat - F - 55 ∨ (t.getD 0 0).toNat = 0 then none
    else if valL (t.take (c.toNat - F - 55)) ≤ 55 then none
    else some (is, 1 + (c.toNat - F - 55), 1 + (c.toNat - F - 55) + valL (t.take (c.toNat - F - 55))) := by
  subst hF his
  simp only [cutL]
  generalize (if 192 ≤ c.toNat then 192 else 128) = F
  by_cases h1 : c.toNat < 128
  · rw [if_pos h1, if_pos h1]
  · rw [if_neg h1, if_neg h1]
    by_cases h2 : c.toNat - F ≤ 55
    · rw [if_pos h2, if_pos h2]
    · rw [if_neg h2, if_neg h2]
      by_cases h3 : c.toNat - F = 56
      · rw [if_pos h3, h3]
        match t with
        | [] => simp
        | a :: t =>
          have e : 56 - 55 = 1 := rfl
          simp only [e, List.take_succ_cons, List.take_zero, valL, List.foldl_cons, List.foldl_nil, List.getD_cons_zero, List.length_cons]
          by_cases h4 : a.toNat ≤ 55
          · rw [if_pos h4]
            split <;> (try rfl)
            rw [if_pos (by omega)]
          · rw [if_neg h4, if_neg (by omega), if_neg (by omega)]
            simp
      · rw [if_neg h3]
        by_cases h4 : c.toNat - F = 57
        · rw [if_pos h4, h4]
          match t with
          | [] => simp
          | [a] => simp
          | a :: b :: t =>
            have e : 57 - 55 = 2 := rfl
            have hb := b.toNat_lt
            simp only [e, List.take_succ_cons, List.take_zero, valL, List.foldl_cons, List.foldl_nil, List.getD_cons_zero, List.length_cons]
            by_cases h5 : a.toNat = 0
            · rw [if_pos h5, if_pos (by omega)]
            · rw [if_neg h5, if_neg (by omega), if_neg (by omega)]
              simp
        · rw [if_neg h4, if_pos (by omega)]

theorem or_byte63 (n b : Nat) (hb : b < 256) (hn : n < 256) : Go.bits .or .i64 ((n : Int) * 256) (b : Int) = ((256 * n + b : Nat) : Int) := by
  have e : ((n : Int) * 256) = ((n * 256 : Nat) : Int) := by omega
  have h1 : (BitVec.ofInt 64 ((n * 256 : Nat) : Int)).toNat = n * 256 := by
    rw [BitVec.ofInt_natCast, BitVec.toNat_ofNat]; exact Nat.mod_eq_of_lt (by omega)
  have h2 : (BitVec.ofInt 64 (b : Int)).toNat = b := by
    rw [BitVec.ofInt_natCast, BitVec.toNat_ofNat]; exact Nat.mod_eq_of_lt (by omega)
  have h3 := Nat.shiftLeft_add_eq_or_of_lt (i := 8) (b := b) hb n
  rw [Nat.shiftLeft_eq] at h3
  rw [e]
  show IntKind.i64.wrap ((BitVec.ofInt 64 ((n * 256 : Nat) : Int) ||| BitVec.ofInt 64 (b : Int)).toNat : Int) = _
  rw [BitVec.toNat_or, h1, h2, show n * 256 = n * 2 ^ 8 from rfl, ← h3]
  simp [IntKind.wrap, IntKind.bits, IntKind.signed]
  omega

/-- What 'bad' panics with. -/
def badE : PanicEntry := { v := .iface 105 (.agg #[]), recovered := false }

/-- How cut ends. -/
def cutE : Option (Bool × Nat × Nat) → Ending
  | none => .panicked [badE]
  | some (is, fr, en) => .returned (.tuple #[.bool is, .int .i64 fr, .int .i64 en])

set_option maxRecDepth 100000 in
set_option maxHeartbeats 4000000 in
theorem cut_any (s : ByteArray) (w : World) (hs : s.size ≤ 5000) : Calls Try.prog 126 #[.string s] w fun e w' => e = cutE (cutL (bl s)) ∧ w = w' := by
  by_cases h0 : s.size = 0
  · have hn : bl s = [] := List.eq_nil_of_length_eq_zero (by rw [bl_length]; exact h0)
    have hst : s.toList = [] := by rw [toList_bl]; exact hn
    rw [hn]
    go_enter Try.func126, Try.ntmps126
    go_wp2
    exact ⟨rfl, rfl, rfl⟩
  · obtain ⟨c, t, hct⟩ : ∃ c t, bl s = c :: t := by
      cases h : bl s with
      | nil => have := bl_length s; rw [h] at this; simp at this; omega
      | cons c t => exact ⟨c, t, rfl⟩
    have hz : s.size = t.length + 1 := by rw [← bl_length, hct]; rfl
    have hst : ¬ s.toList = [] := by rw [toList_bl, hct]; simp
    have hst2 : s.toList.isEmpty = false := by rw [toList_bl, hct]; rfl
    have hpos : 0 < s.size := by omega
    have hc0 : s[0] = c := by
      have := sgetD hpos
      rw [hct] at this
      simpa using this.symm
    have hget : ∀ k (h : k + 1 < s.size), s[k + 1] = t.getD k 0 := fun k h => by
      have := sgetD h
      rw [hct] at this
      simpa using this.symm
    obtain ⟨F, hF⟩ : ∃ F, F = if 192 ≤ c.toNat then 192 else 128 := ⟨_, rfl⟩
    obtain ⟨is, his⟩ : ∃ is, is = decide (192 ≤ c.toNat) := ⟨_, rfl⟩
    have hcut := cut_alt c t F is hF his
    rw [hct]
    have hcl := c.toNat_lt
    have hn0 : (s[0].toNat : Int) = (c.toNat : Int) := by rw [hc0]
    obtain ⟨C, hC⟩ : ∃ C, c.toNat = C := ⟨_, rfl⟩
    rw [hC] at hF his hcut hcl hn0
    have HGet := Lib.hid hget
    clear hct hc0 hC hget
    generalize cutL (c :: t) = R at *
    by_cases c1 : C < 128
    · rw [if_pos c1] at hcut
      have hF1 : F = 128 := by rw [hF, if_neg (by omega)]
      have c2 : ¬ 192 ≤ C := by omega
      clear hF his hF1
      subst hcut
      go_enter Try.func126, Try.ntmps126
      go_wp2
      refine bodyPost_ret (v := .tuple #[.bool false, .int .i64 0, .int .i64 1]) (by simp [results, Try.results126, go_sem]) rfl ?_
      exact ⟨rfl, rfl⟩
    · rw [if_neg c1] at hcut
      have hFC : F ≤ C := by rw [hF]; split <;> omega
      have hF2 : C ≤ F + 63 := by rw [hF]; split <;> omega
      obtain ⟨N, hN⟩ := Nat.le.dest hFC
      rw [show C - F = N by omega] at hcut
      by_cases c192 : 192 ≤ C
      · rw [if_pos c192] at hF
        subst hF
        have hisb : is = true := by rw [his]; exact decide_eq_true c192
        obtain rfl : C = 192 + N := by omega
        clear c192 hN
        have hn1 : (s[0].toNat : Int) = 192 + (N : Int) := by rw [hn0]; omega
        have he1 : (192 : Int) + (N : Int) - 192 = N := by omega
        have hge : (192 : Int) ≤ 192 + (N : Int) := by omega
        clear hn0 his c1 hFC
        subst hisb
        by_cases c2 : N ≤ 55
        · rw [if_pos c2] at hcut
          subst hcut
          go_enter Try.func126, Try.ntmps126
          go_wp2
          refine bodyPost_ret (v := .tuple #[.bool true, .int .i64 1, .int .i64 (1 + (N : Int))]) (by simp [results, Try.results126, go_sem]) rfl ?_
          exact ⟨by simp [cutE], rfl⟩
        · rw [if_neg c2] at hcut
          obtain ⟨z, rfl⟩ : ∃ z, N = 55 + z := ⟨N - 55, by omega⟩
          have hz1 : 1 ≤ z := by omega
          have hn2 : (s[0].toNat : Int) = 247 + (z : Int) := by rw [hn1]; omega
          have he2 : (247 : Int) + (z : Int) - 192 = 55 + (z : Int) := by omega
          have he3 : (55 : Int) + (z : Int) - 55 = z := by omega
          have hge2 : (192 : Int) ≤ 247 + (z : Int) := by omega
          clear he1 hge
          rw [show 55 + z - 55 = z by omega] at hcut
          clear hn1 c2
          by_cases c3 : 2 < z
          · rw [if_pos (.inl c3)] at hcut
            subst hcut
            clear hF2
            go_enter Try.func126, Try.ntmps126
            go_wp2
            exact ⟨rfl, rfl, rfl⟩
          · by_cases c4 : t.length < z
            · rw [if_pos (.inr (.inl c4))] at hcut
              subst hcut
              clear hF2
              go_enter Try.func126, Try.ntmps126
              go_wp2
              exact ⟨rfl, rfl, rfl⟩
            · have hl1 : 1 < s.size := by omega
              have h1 := HGet.out 0 hl1
              by_cases c5 : (t.getD 0 0).toNat = 0
              · rw [if_pos (.inr (.inr c5))] at hcut
                subst hcut
                have hb1 : ((s[1].toNat : Int) == 0) = true := by rw [h1, c5]; rfl
                clear hF2 h1 c5
                go_enter Try.func126, Try.ntmps126
                go_wp2
                exact ⟨rfl, rfl, rfl⟩
              · rw [if_neg (by omega)] at hcut
                have hb1 : ((s[1].toNat : Int) == 0) = false := by rw [beq_eq_false_iff_ne, h1]; omega
                have HV := Lib.hid (fun k (h : k + 1 < s.size) => (by rw [HGet.out k h]; exact valL_take (by rw [List.getD, List.getElem?_eq_getElem (by omega)]; rfl) : valL (t.take (k + 1)) = 256 * valL (t.take k) + (s[k + 1]'h).toNat))
                have HB := Lib.hid (fun k (h : k < 2) => (by have := valL_lt _ (t.take k) rfl; have h2 : (t.take k).length ≤ 1 := by rw [List.length_take]; omega
                                                             have := Nat.pow_le_pow_right (n := 256) (by decide) h2; omega : valL (t.take k) < 256))
                have HB2 := Lib.hid (by have := valL_lt _ (t.take z) rfl; have h2 : (t.take z).length ≤ 2 := by rw [List.length_take]; omega
                                        have := Nat.pow_le_pow_right (n := 256) (by decide) h2; omega : valL (t.take z) < 65536)
                have HR := Lib.hid hcut
                clear hF2 h1 c5 hcut
                go_enter Try.func126, Try.ntmps126
                go_wp2
                go_loop [8, 44] (fun n i => ∃ k : Nat, k ≤ z ∧ i = .int .i64 k ∧ n = .int .i64 (valL (t.take k))) (fun _ i => z - (intOf i).toNat)
                case atStart => exact ⟨0, Nat.zero_le _, rfl, by simp [valL]⟩
                case round =>
                  obtain ⟨k, hk, rfl, rfl⟩ := hrel
                  by_cases hlt : k < z
                  · have hk1 : k + 1 < s.size := by omega
                    have hv := HB.out k (by omega)
                    have ho := or_byte63 (valL (t.take k)) (s[k + 1]'hk1).toNat (s[k + 1]'hk1).toNat_lt (by omega)
                    have HO := Lib.hid (ho.trans (congrArg _ (HV.out k hk1).symm))
                    clear ho
                    generalize hNN : valL (t.take k) = V at *
                    clear hNN
                    have hbv := (s[k + 1]'hk1).toNat_lt
                    have hk2 : 1 + k < s.size := by omega
                    have e : (s[1 + k]'hk2) = (s[k + 1]'hk1) := by simp only [Nat.add_comm 1 k]
                    have hw : wrap64 ((s[1 + k]'hk2).toNat : Int) = ((s[k + 1]'hk1).toNat : Int) := by rw [e]; unfold wrap64; omega
                    go_wp2
                    refine ⟨⟨k + 1, by omega, by go_num, by rw [HO.out]⟩, by simp [intOf]; omega⟩
                  · obtain rfl : k = z := by omega
                    have hv := HB2.out
                    generalize hNN : valL (t.take k) = V at *
                    clear hNN
                    by_cases c6 : V ≤ 55
                    · have HR2 := Lib.hid (HR.out.trans (if_pos c6))
                      clear HR
                      go_wp2
                      exact ⟨rfl, by rw [HR2.out]; rfl, rfl⟩
                    · have HR2 := Lib.hid (HR.out.trans (if_neg c6))
                      clear HR
                      go_wp2
                      refine bodyPost_ret (v := .tuple #[.bool true, .int .i64 (1 + (k : Int)), .int .i64 (1 + (k : Int) + (V : Int))]) (by simp [results, Try.results126, go_sem]) rfl ?_
                      exact ⟨by rw [HR2.out]; simp [cutE], rfl⟩
      · rw [if_neg c192] at hF
        subst hF
        have hisb : is = false := by rw [his]; exact decide_eq_false c192
        obtain rfl : C = 128 + N := by omega
        have hN63 : N < 64 := by omega
        clear c192 hN
        have hn1 : (s[0].toNat : Int) = 128 + (N : Int) := by rw [hn0]; omega
        have he1 : (128 : Int) + (N : Int) - 128 = N := by omega
        have hge : (128 : Int) + (N : Int) < 192 := by omega
        clear hn0 his c1 hFC
        subst hisb
        by_cases c2 : N ≤ 55
        · rw [if_pos c2] at hcut
          subst hcut
          go_enter Try.func126, Try.ntmps126
          go_wp2
          refine bodyPost_ret (v := .tuple #[.bool false, .int .i64 1, .int .i64 (1 + (N : Int))]) (by simp [results, Try.results126, go_sem, hge]) rfl ?_
          exact ⟨by simp [cutE], rfl⟩
        · rw [if_neg c2] at hcut
          obtain ⟨z, rfl⟩ : ∃ z, N = 55 + z := ⟨N - 55, by omega⟩
          have hz1 : 1 ≤ z := by omega
          have hn2 : (s[0].toNat : Int) = 183 + (z : Int) := by rw [hn1]; omega
          have he2 : (183 : Int) + (z : Int) - 128 = 55 + (z : Int) := by omega
          have he3 : (55 : Int) + (z : Int) - 55 = z := by omega
          have hge2 : (183 : Int) + (z : Int) < 192 := by omega
          clear he1 hge
          rw [show 55 + z - 55 = z by omega] at hcut
          clear hn1 c2
          by_cases c3 : 2 < z
          · rw [if_pos (.inl c3)] at hcut
            subst hcut
            clear hF2
            go_enter Try.func126, Try.ntmps126
            go_wp2
            exact ⟨rfl, rfl, rfl⟩
          · by_cases c4 : t.length < z
            · rw [if_pos (.inr (.inl c4))] at hcut
              subst hcut
              clear hF2
              go_enter Try.func126, Try.ntmps126
              go_wp2
              exact ⟨rfl, rfl, rfl⟩
            · have hl1 : 1 < s.size := by omega
              have h1 := HGet.out 0 hl1
              by_cases c5 : (t.getD 0 0).toNat = 0
              · rw [if_pos (.inr (.inr c5))] at hcut
                subst hcut
                have hb1 : ((s[1].toNat : Int) == 0) = true := by rw [h1, c5]; rfl
                clear hF2 h1 c5
                go_enter Try.func126, Try.ntmps126
                go_wp2
                exact ⟨rfl, rfl, rfl⟩
              · rw [if_neg (by omega)] at hcut
                have hb1 : ((s[1].toNat : Int) == 0) = false := by rw [beq_eq_false_iff_ne, h1]; omega
                have HV := Lib.hid (fun k (h : k + 1 < s.size) => (by rw [HGet.out k h]; exact valL_take (by rw [List.getD, List.getElem?_eq_getElem (by omega)]; rfl) : valL (t.take (k + 1)) = 256 * valL (t.take k) + (s[k + 1]'h).toNat))
                have HB := Lib.hid (fun k (h : k < 2) => (by have := valL_lt _ (t.take k) rfl; have h2 : (t.take k).length ≤ 1 := by rw [List.length_take]; omega
                                                             have := Nat.pow_le_pow_right (n := 256) (by decide) h2; omega : valL (t.take k) < 256))
                have HB2 := Lib.hid (by have := valL_lt _ (t.take z) rfl; have h2 : (t.take z).length ≤ 2 := by rw [List.length_take]; omega
                                        have := Nat.pow_le_pow_right (n := 256) (by decide) h2; omega : valL (t.take z) < 65536)
                have HR := Lib.hid hcut
                clear hF2 h1 c5 hcut
                go_enter Try.func126, Try.ntmps126
                go_wp2
                go_loop [8, 44] (fun n i => ∃ k : Nat, k ≤ z ∧ i = .int .i64 k ∧ n = .int .i64 (valL (t.take k))) (fun _ i => z - (intOf i).toNat)
                case atStart => exact ⟨0, Nat.zero_le _, rfl, by simp [valL]⟩
                case round =>
                  obtain ⟨k, hk, rfl, rfl⟩ := hrel
                  by_cases hlt : k < z
                  · have hk1 : k + 1 < s.size := by omega
                    have hv := HB.out k (by omega)
                    have ho := or_byte63 (valL (t.take k)) (s[k + 1]'hk1).toNat (s[k + 1]'hk1).toNat_lt (by omega)
                    have HO := Lib.hid (ho.trans (congrArg _ (HV.out k hk1).symm))
                    clear ho
                    generalize hNN : valL (t.take k) = V at *
                    clear hNN
                    have hbv := (s[k + 1]'hk1).toNat_lt
                    have hk2 : 1 + k < s.size := by omega
                    have e : (s[1 + k]'hk2) = (s[k + 1]'hk1) := by simp only [Nat.add_comm 1 k]
                    have hw : wrap64 ((s[1 + k]'hk2).toNat : Int) = ((s[k + 1]'hk1).toNat : Int) := by rw [e]; unfold wrap64; omega
                    go_wp2
                    refine ⟨⟨k + 1, by omega, by go_num, by rw [HO.out]⟩, by simp [intOf]; omega⟩
                  · obtain rfl : k = z := by omega
                    have hv := HB2.out
                    generalize hNN : valL (t.take k) = V at *
                    clear hNN
                    by_cases c6 : V ≤ 55
                    · have HR2 := Lib.hid (HR.out.trans (if_pos c6))
                      clear HR
                      go_wp2
                      exact ⟨rfl, by rw [HR2.out]; rfl, rfl⟩
                    · have HR2 := Lib.hid (HR.out.trans (if_neg c6))
                      clear HR
                      go_wp2
                      refine bodyPost_ret (v := .tuple #[.bool false, .int .i64 (1 + (k : Int)), .int .i64 (1 + (k : Int) + (V : Int))]) (by simp [results, Try.results126, go_sem, hge2]) rfl ?_
                      exact ⟨by rw [HR2.out]; simp [cutE], rfl⟩
end Go.Proofs.Ythipnbiilobjeaa
