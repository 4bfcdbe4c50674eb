/- Rlp: the contract of the reference's size. -/
import Derived.Test.YtdeboidelgnffaaRlp18
namespace Go.Proofs.Ytdeboidelgnffaa
open Go.RowKit

/-- How size ends. -/
def rsizeE : Option (Nat × Nat) → Ending
  | none => .returned (.tuple #[.int .i64 (-1), .int .i64 0])
  | some (fr, n) => .returned (.tuple #[.int .i64 fr, .int .i64 n])

set_option maxRecDepth 100000 in
set_option maxHeartbeats 4000000 in
theorem rsize_any (s : ByteArray) (w : World) (hs : s.size ≤ 5000) (h0 : 0 < s.size) : Calls Try.prog 40 #[.string s] w fun e w' => e = rsizeE (rsizeL (bl s)) ∧ w = w' := by
  obtain ⟨c, t, hct⟩ : ∃ c t, bl s = c :: t := by
    cases h : bl s with
    | nil => have := bl_length s; rw [h] at this; simp at this; omega
    | cons c t => exact ⟨c, t, rfl⟩
  have hz : s.size = t.length + 1 := by rw [← bl_length, hct]; rfl
  have hc0 : s[0] = c := by
    have := sgetD h0
    rw [hct] at this
    simpa using this.symm
  have hget : ∀ k (h : k + 1 < s.size), s[k + 1] = t.getD k 0 := fun k h => by
    have := sgetD h
    rw [hct] at this
    simpa using this.symm
  have HGet := Lib.hid hget
  obtain ⟨C, hC⟩ : ∃ C, C = if 192 ≤ c.toNat then c.toNat - 64 else c.toNat := ⟨_, rfl⟩
  have hrz : rsizeL (c :: t) = if C < 128 then some (0, 1) else if C ≤ 183 then some (1, C - 128) else if 3 < C - 183 ∨ t.length < C - 183 then none else some (1 + (C - 183), valL (t.take (C - 183))) := by
    rw [hC]; rfl
  rw [hct]
  generalize rsizeL (c :: t) = R at *
  have hcl := c.toNat_lt
  have hn0 : (s[0].toNat : Int) = (c.toNat : Int) := by rw [hc0]
  clear hct hc0 hget
  generalize c.toNat = c0 at *
  by_cases h192 : 192 ≤ c0
  · rw [if_pos h192] at hC
    have hn1 : (s[0].toNat : Int) = (C : Int) + 64 := by rw [hn0]; omega
    have hb : C < 192 := by omega
    have hb2 : 128 ≤ C := by omega
    have hs64 : (C : Int) + 64 - 64 = C := by omega
    clear hn0 hC h192 hcl
    by_cases c1 : C < 128
    · omega
    · rw [if_neg c1] at hrz
      by_cases c2 : C ≤ 183
      · rw [if_pos c2] at hrz
        subst hrz
        have hsub : (C : Int) - 128 = ((C - 128 : Nat) : Int) := by omega
        go_enter Try.func40, Try.ntmps40
        go_wp2
        go_ret2
        exact ⟨by simp [rsizeE], rfl⟩
      · rw [if_neg c2] at hrz
        obtain ⟨k, rfl⟩ : ∃ k, C = 183 + k := ⟨C - 183, by omega⟩
        rw [show 183 + k - 183 = k by omega] at hrz
        have hk1 : 1 ≤ k := by omega
        have hsub : ((183 + k : Nat) : Int) - 183 = (k : Int) := by omega
        have hsub2 : (183 : Int) + (k : Int) - 183 = (k : Int) := by omega
        by_cases c3 : 3 < k
        · rw [if_pos (.inl c3)] at hrz
          subst hrz
          go_enter Try.func40, Try.ntmps40
          go_wp2
          go_ret2
          exact ⟨by simp [rsizeE], rfl⟩
        · by_cases c4 : t.length < k
          · rw [if_pos (.inr c4)] at hrz
            subst hrz
            go_enter Try.func40, Try.ntmps40
            go_wp2
            go_ret2
            exact ⟨by simp [rsizeE], rfl⟩
          · rw [if_neg (by omega)] at hrz
            have HV := Lib.hid (fun i (h : i + 1 < s.size) => (by rw [HGet.out i h]; exact valL_take (by rw [List.getD, List.getElem?_eq_getElem (by omega)]; rfl) : valL (t.take (i + 1)) = 256 * valL (t.take i) + (s[i + 1]'h).toNat))
            have HB := Lib.hid (fun i (h : i ≤ 3) => (by have := valL_lt _ (t.take i) rfl; have h2 : (t.take i).length ≤ 3 := by rw [List.length_take]; omega
                                                         have := Nat.pow_le_pow_right (n := 256) (by decide) h2; omega : valL (t.take i) < 16777216))
            have HR := Lib.hid hrz
            clear hrz
            go_enter Try.func40, Try.ntmps40
            go_wp2
            go_loop [5, 7] (fun n i => ∃ j : Nat, j ≤ k ∧ i = .int .i64 j ∧ n = .int .i64 (valL (t.take j))) (fun _ i => k - (intOf i).toNat)
            case atStart => exact ⟨0, Nat.zero_le _, rfl, by simp [valL]⟩
            case round =>
              obtain ⟨j, hj, rfl, rfl⟩ := hrel
              by_cases hlt : j < k
              · have hj1 : j + 1 < s.size := by omega
                have hv := HB.out j (by omega)
                have HO : Hid (256 * (valL (t.take j) : Int) + ((s[j + 1]'hj1).toNat : Int) = (valL (t.take (j + 1)) : Int)) := Lib.hid (by rw [HV.out j hj1]; omega)
                have hbv := (s[j + 1]'hj1).toNat_lt
                have hj2 : 1 + j < s.size := by omega
                have e : (s[1 + j]'hj2) = (s[j + 1]'hj1) := by simp only [Nat.add_comm 1 j]
                have hw : wrap64 ((s[1 + j]'hj2).toNat : Int) = ((s[j + 1]'hj1).toNat : Int) := by rw [e]; unfold wrap64; omega
                generalize hNN : valL (t.take j) = V at *
                clear hNN
                go_wp2
                refine ⟨⟨j + 1, by omega, by go_num, ?_⟩, by simp [intOf]; omega⟩
                rw [HO.out]
              · obtain rfl : j = k := by omega
                go_wp2
                go_ret2
                exact ⟨by rw [HR.out]; simp [rsizeE], rfl⟩
  · rw [if_neg h192] at hC
    subst hC
    have hb : C < 192 := by omega
    clear h192 hcl
    by_cases c1 : C < 128
    · rw [if_pos c1] at hrz
      subst hrz
      go_enter Try.func40, Try.ntmps40
      go_wp2
      go_ret2
      exact ⟨by simp [rsizeE], rfl⟩
    · rw [if_neg c1] at hrz
      by_cases c2 : C ≤ 183
      · rw [if_pos c2] at hrz
        subst hrz
        have hsub : (C : Int) - 128 = ((C - 128 : Nat) : Int) := by omega
        go_enter Try.func40, Try.ntmps40
        go_wp2
        go_ret2
        exact ⟨by simp [rsizeE], rfl⟩
      · rw [if_neg c2] at hrz
        obtain ⟨k, rfl⟩ : ∃ k, C = 183 + k := ⟨C - 183, by omega⟩
        rw [show 183 + k - 183 = k by omega] at hrz
        have hk1 : 1 ≤ k := by omega
        have hsub : ((183 + k : Nat) : Int) - 183 = (k : Int) := by omega
        have hsub2 : (183 : Int) + (k : Int) - 183 = (k : Int) := by omega
        by_cases c3 : 3 < k
        · rw [if_pos (.inl c3)] at hrz
          subst hrz
          go_enter Try.func40, Try.ntmps40
          go_wp2
          go_ret2
          exact ⟨by simp [rsizeE], rfl⟩
        · by_cases c4 : t.length < k
          · rw [if_pos (.inr c4)] at hrz
            subst hrz
            go_enter Try.func40, Try.ntmps40
            go_wp2
            go_ret2
            exact ⟨by simp [rsizeE], rfl⟩
          · rw [if_neg (by omega)] at hrz
            have HV := Lib.hid (fun i (h : i + 1 < s.size) => (by rw [HGet.out i h]; exact valL_take (by rw [List.getD, List.getElem?_eq_getElem (by omega)]; rfl) : valL (t.take (i + 1)) = 256 * valL (t.take i) + (s[i + 1]'h).toNat))
            have HB := Lib.hid (fun i (h : i ≤ 3) => (by have := valL_lt _ (t.take i) rfl; have h2 : (t.take i).length ≤ 3 := by rw [List.length_take]; omega
                                                         have := Nat.pow_le_pow_right (n := 256) (by decide) h2; omega : valL (t.take i) < 16777216))
            have HR := Lib.hid hrz
            clear hrz
            go_enter Try.func40, Try.ntmps40
            go_wp2
            go_loop [5, 7] (fun n i => ∃ j : Nat, j ≤ k ∧ i = .int .i64 j ∧ n = .int .i64 (valL (t.take j))) (fun _ i => k - (intOf i).toNat)
            case atStart => exact ⟨0, Nat.zero_le _, rfl, by simp [valL]⟩
            case round =>
              obtain ⟨j, hj, rfl, rfl⟩ := hrel
              by_cases hlt : j < k
              · have hj1 : j + 1 < s.size := by omega
                have hv := HB.out j (by omega)
                have HO : Hid (256 * (valL (t.take j) : Int) + ((s[j + 1]'hj1).toNat : Int) = (valL (t.take (j + 1)) : Int)) := Lib.hid (by rw [HV.out j hj1]; omega)
                have hbv := (s[j + 1]'hj1).toNat_lt
                have hj2 : 1 + j < s.size := by omega
                have e : (s[1 + j]'hj2) = (s[j + 1]'hj1) := by simp only [Nat.add_comm 1 j]
                have hw : wrap64 ((s[1 + j]'hj2).toNat : Int) = ((s[j + 1]'hj1).toNat : Int) := by rw [e]; unfold wrap64; omega
                generalize hNN : valL (t.take j) = V at *
                clear hNN
                go_wp2
                refine ⟨⟨j + 1, by omega, by go_num, ?_⟩, by simp [intOf]; omega⟩
                rw [HO.out]
              · obtain rfl : j = k := by omega
                go_wp2
                go_ret2
                exact ⟨by rw [HR.out]; simp [rsizeE], rfl⟩
end Go.Proofs.Ytdeboidelgnffaa
