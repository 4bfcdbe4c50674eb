/- The sums' words again: what the reference's steps make of them, in plain words. The reference's words: left, at, turn, word, row, last. The reference's round. The reference's Mix; bytes out of a string, grown; the reference's Sum. The reference's Sum. -/
import Derived.Deep.WholeRow
import Derived.Laws.IdiomStrings
import Derived.ArgAppend
import Derived.Test.YtefmlbckbhlgdaaTm2
import Derived.Test.YtefmlbckbhlgdaaTm14
namespace Go.Proofs.Ytefmlbckbhlgdaa
open Go.RowKit
theorem xr_in (a b : Int) : InW (xr a b) := u64_wrap_bd _
theorem rl_in (a : Int) (s : Nat) : InW (rl a s) := u64_wrap_bd _
theorem InW.nat {a : Int} (h : InW a) : ∃ n : Nat, a = n ∧ n < 18446744073709551616 := ⟨a.toNat, by have := h.1; omega, by have := h.1; have := h.2; omega⟩
theorem xr_zero {a : Int} (h : InW a) : xr 0 a = a := by
  obtain ⟨n, rfl, hn⟩ := h.nat
  have := bits_xor_u64_nat 0 n (by omega) hn
  unfold xr
  rw [show (0 : Int) = ((0 : Nat) : Int) from rfl, this, Nat.zero_xor]
theorem rl_zero {a : Int} (h : InW a) : rl a 0 = a := by
  obtain ⟨n, rfl, hn⟩ := h.nat
  unfold rl
  have h1 : IntKind.u64.wrap ((n : Int) * 2 ^ 0) = n := by rw [show (n : Int) * 2 ^ 0 = n by omega]; exact u64_wrap_lt (by omega) (by omega)
  have h2 : (n : Int) / 2 ^ (64 - 0) = ((0 : Nat) : Int) := by
    rw [show (2 : Int) ^ (64 - 0) = 18446744073709551616 by rfl]
    omega
  rw [h1, h2, bits_or_u64_nat n 0 hn (by omega), Nat.or_zero]
theorem nt_sub {a : Int} (h : InW a) : IntKind.u64.wrap (18446744073709551615 - a) = nt a := by
  obtain ⟨n, rfl, hn⟩ := h.nat
  have h1 : IntKind.u64.wrap (18446744073709551615 - (n : Int)) = 18446744073709551615 - (n : Int) := u64_wrap_lt (by omega) (by omega)
  rw [h1]
  show _ = IntKind.u64.wrap ((BitVec.ofInt 64 IntKind.u64.max ^^^ BitVec.ofInt 64 (n : Int)).toNat : Int)
  have h2 : BitVec.ofInt 64 IntKind.u64.max = BitVec.allOnes 64 := by decide
  rw [h2, BitVec.allOnes_xor, BitVec.toNat_not, ofInt_u64 n (by omega), u64_wrap_lt (by omega) (by omega)]
  omega

/-! ### Eight bytes as a word -/
def wordS (f : Nat → Nat) : Nat → Nat
  | 0 => 0
  | k + 1 => wordS f k + f k * 2 ^ (8 * k)
theorem wordS_lt (f : Nat → Nat) (hf : ∀ k, f k < 256) : ∀ k, wordS f k < 2 ^ (8 * k)
  | 0 => by simp [wordS]
  | k + 1 => by
    have ih := wordS_lt f hf k
    have := hf k
    rw [wordS, show 8 * (k + 1) = 8 + 8 * k by omega, Nat.pow_add]
    have h2 : f k * 2 ^ (8 * k) ≤ 255 * 2 ^ (8 * k) := Nat.mul_le_mul_right _ (by omega)
    omega
theorem xor_add {a b i : Nat} (h : a < 2 ^ i) : a ^^^ (b * 2 ^ i) = a + b * 2 ^ i := by
  apply Nat.eq_of_testBit_eq
  intro j
  rw [Nat.testBit_xor, show a + b * 2 ^ i = 2 ^ i * b + a by rw [Nat.mul_comm, Nat.add_comm], Nat.testBit_two_pow_mul_add _ h, Nat.testBit_mul_two_pow]
  by_cases hj : j < i
  · rw [if_pos hj]
    have : ¬ i ≤ j := by omega
    simp [this]
  · rw [if_neg hj]
    have h1 : a.testBit j = false := Nat.testBit_lt_two_pow (Nat.lt_of_lt_of_le h (Nat.pow_le_pow_right (by omega) (by omega)))
    have h2 : i ≤ j := by omega
    rw [h1]
    simp [h2]
/-- A word with eight bytes mixed in is the word and the bytes' word, mixed. -/
theorem wordX_eq {a : Int} (ha : InW a) (f : Nat → Nat) (hf : ∀ k, f k < 256) : ∀ k, k ≤ 8 → wordX a (fun k => (f k : Int)) k = xr a (wordS f k : Nat)
  | 0, _ => by
    obtain ⟨n, rfl, hn⟩ := ha.nat
    rw [wordX, wordS, xr, bits_xor_u64_nat n 0 hn (by omega), Nat.xor_zero]
  | k + 1, h => by
    obtain ⟨n, rfl, hn⟩ := ha.nat
    have ih := wordX_eq ⟨by omega, by omega⟩ f hf k (by omega) (a := (n : Int))
    have hp : (2 : Nat) ^ (8 * (k + 1)) ≤ 2 ^ 64 := Nat.pow_le_pow_right (by omega) (by omega)
    have hl := wordS_lt f hf (k + 1)
    have hl0 := wordS_lt f hf k
    have hp0 : (2 : Nat) ^ (8 * k) ≤ 2 ^ 64 := Nat.pow_le_pow_right (by omega) (by omega)
    rw [wordS] at hl
    have hk : f k * 2 ^ (8 * k) < 18446744073709551616 := by omega
    rw [wordX, ih, wordS]
    have hw : IntKind.u64.wrap ((f k : Int) * 2 ^ (8 * k)) = ((f k * 2 ^ (8 * k) : Nat) : Int) := by
      rw [show (f k : Int) * 2 ^ (8 * k) = ((f k * 2 ^ (8 * k) : Nat) : Int) by push_cast; rfl]
      exact u64_wrap_lt (by omega) (by omega)
    have hx : n ^^^ wordS f k < 18446744073709551616 := Nat.xor_lt_two_pow (n := 64) (by omega) (by omega)
    rw [hw, xr, xr, xr, bits_xor_u64_nat n _ hn (by omega), bits_xor_u64_nat _ _ hx hk, bits_xor_u64_nat n _ hn (by omega), Nat.xor_assoc, xor_add hl0]
/-- The same word, the highest byte first. -/
def wordH (f : Nat → Nat) : Nat → Nat
  | 0 => 0
  | k + 1 => 256 * wordH f k + f (7 - k)
theorem wordH_eq (f : Nat → Nat) : wordH f 8 = wordS f 8 := by
  simp [wordH, wordS]
  omega
theorem wordH_lt (f : Nat → Nat) (hf : ∀ k, f k < 256) : ∀ k, wordH f k < 256 ^ k
  | 0 => by simp [wordH]
  | k + 1 => by
    have ih := wordH_lt f hf k
    have := hf (7 - k)
    rw [wordH, Nat.pow_succ]
    omega

/-! ### The register -/
def lfs : Nat → Nat
  | 0 => 1
  | i + 1 => if 2 * lfs i > 255 then 2 * lfs i ^^^ 369 else 2 * lfs i
theorem lfs_lt : ∀ i, lfs i < 256
  | 0 => by decide
  | i + 1 => by
    have ih := lfs_lt i
    have h : ∀ r, r < 256 → (if 2 * r > 255 then 2 * r ^^^ 369 else 2 * r) < 256 := by decide +kernel
    exact h _ ih
def rowL (n : Nat) : List Int := (List.range n).map fun i => ((lfs i % 2 : Nat) : Int)
/-- What a round's last step turns, bit by bit. -/
def lastN (i : Nat) : Nat → Int
  | 0 => 0
  | j + 1 => if lfs (j + 7 * i) % 2 = 1 then bits .or .u64 (lastN i j) (IntKind.u64.wrap (2 ^ (2 ^ j - 1))) else lastN i j
theorem lastN_eq : ∀ i, i < 24 → lastN i 7 = rcC i := by decide +kernel

/-! ### A round -/
def thP (A : NF) (x : Nat) : Nat → Int
  | 0 => 0
  | y + 1 => xr (thP A x y) (A (x + 5 * y))
theorem thP_eq {A : NF} {x : Nat} (h : InW (A x)) : thP A x 5 = thC A x := by
  show xr (xr (xr (xr (xr 0 (A (x + 5 * 0))) (A (x + 5 * 1))) (A (x + 5 * 2))) (A (x + 5 * 3))) (A (x + 5 * 4)) = _
  rw [show x + 5 * 0 = x from rfl, xr_zero h]
  rfl
def rhoR (A : NF) : Nat → NF
  | 0 => fun _ => 0
  | t + 1 => upd (rhoR A t) (t % 5 + 5 * ((2 * (t / 5) + 3 * (t % 5)) % 5)) (rl (xr (A (t / 5 + 5 * (t % 5))) (thD A (t / 5))) (byT 24 (t / 5 + 5 * (t % 5))))
def chiR (B : NF) : Nat → NF
  | 0 => fun _ => 0
  | t + 1 => upd (chiR B t) (t / 5 + 5 * (t % 5)) (xr (B (t / 5 + 5 * (t % 5))) (an (nt (B ((t / 5 + 1) % 5 + 5 * (t % 5)))) (B ((t / 5 + 2) % 5 + 5 * (t % 5)))))
/-- Values laid one behind the other. -/
def seqU (p : Nat → Nat) (v : Nat → Int) : Nat → NF
  | 0 => fun _ => 0
  | t + 1 => upd (seqU p v t) (p t) (v t)
theorem seqU_at {p : Nat → Nat} {v : Nat → Int} {i : Nat} : ∀ n, i < n → (∀ k, k < n → p k = p i → k = i) → seqU p v n (p i) = v i
  | 0, h, _ => absurd h (by omega)
  | n + 1, h, hp => by
    unfold seqU upd
    by_cases e : i = n
    · subst e; rw [if_pos rfl]
    · rw [if_neg (fun e' => e (hp n (by omega) e'.symm).symm)]
      exact seqU_at n (by omega) (fun k hk => hp k (by omega))
theorem rho_seq (A : NF) (b p : Nat → Nat) : ∀ n, rho A b p n = seqU p (fun i => rl (xr (A i) (thD A (i % 5))) (b i)) n
  | 0 => rfl
  | n + 1 => by rw [rho, rho_seq A b p n]; rfl
theorem rhoR_seq (A : NF) : ∀ n, rhoR A n = seqU (fun t => t % 5 + 5 * ((2 * (t / 5) + 3 * (t % 5)) % 5)) (fun t => rl (xr (A (t / 5 + 5 * (t % 5))) (thD A (t / 5))) (byT 24 (t / 5 + 5 * (t % 5)))) n
  | 0 => rfl
  | n + 1 => by rw [rhoR, rhoR_seq A n]; rfl
theorem chiR_seq (B : NF) : ∀ n, chiR B n = seqU (fun t => t / 5 + 5 * (t % 5)) (fun t => xr (B (t / 5 + 5 * (t % 5))) (an (nt (B ((t / 5 + 1) % 5 + 5 * (t % 5)))) (B ((t / 5 + 2) % 5 + 5 * (t % 5))))) n
  | 0 => rfl
  | n + 1 => by rw [chiR, chiR_seq B n]; rfl
theorem toT_onto : ∀ j, j < 25 → ∃ i, i < 25 ∧ toT i = j := by decide +kernel
theorem toT_inj : ∀ i, i < 25 → ∀ k, k < 25 → toT k = toT i → k = i := by decide +kernel
theorem rhoR_eq (A : NF) : ∀ j, j < 25 → rhoR A 25 j = rho A (byT 24) toT 25 j := by
  intro j hj
  obtain ⟨i, hi, rfl⟩ := toT_onto j hj
  have e1 : ∀ t, t < 25 → (fun t => t % 5 + 5 * ((2 * (t / 5) + 3 * (t % 5)) % 5)) t = toT (t / 5 + 5 * (t % 5)) := by decide +kernel
  have h1 : (i % 5 * 5 + i / 5) / 5 = i % 5 := by omega
  have h2 : (i % 5 * 5 + i / 5) % 5 = i / 5 := by omega
  have h3 : i % 5 + 5 * (i / 5) = i := by omega
  rw [rho_seq, rhoR_seq, seqU_at 25 hi (toT_inj i hi)]
  have e2 := e1 (i % 5 * 5 + i / 5) (by omega)
  rw [h1, h2, h3] at e2
  rw [← e2, seqU_at 25 (by omega) (fun k hk e => by
    have := toT_inj i hi (k / 5 + 5 * (k % 5)) (by omega) ((e1 k hk).symm.trans (e.trans e2))
    omega)]
  simp only [h1, h2, h3]
theorem chiR_eq (B : NF) : ∀ j, j < 25 → chiR B 25 j = chi B j := by
  intro j hj
  have h1 : (j % 5 * 5 + j / 5) / 5 = j % 5 := by omega
  have h2 : (j % 5 * 5 + j / 5) % 5 = j / 5 := by omega
  have h3 : j % 5 + 5 * (j / 5) = j := by omega
  have h4 := seqU_at (p := fun t => t / 5 + 5 * (t % 5)) (v := fun t => xr (B (t / 5 + 5 * (t % 5))) (an (nt (B ((t / 5 + 1) % 5 + 5 * (t % 5)))) (B ((t / 5 + 2) % 5 + 5 * (t % 5))))) (i := j % 5 * 5 + j / 5) 25 (by omega) (fun k hk e => by
    simp only [h1, h2] at e
    omega)
  simp only [h1, h2, h3] at h4
  rw [chiR_seq, h4]
  unfold chi
  rw [show (j % 5 + 1) % 5 + 5 * (j / 5) = j / 5 * 5 + (j + 1) % 5 by omega, show (j % 5 + 2) % 5 + 5 * (j / 5) = j / 5 * 5 + (j + 2) % 5 by omega]
theorem rhoR_succ (A : NF) (t : Nat) : rhoR A (t + 1) = upd (rhoR A t) (t % 5 + 5 * ((2 * (t / 5) + 3 * (t % 5)) % 5)) (rl (xr (A (t / 5 + 5 * (t % 5))) (thD A (t / 5))) (byT 24 (t / 5 + 5 * (t % 5)))) := rfl
theorem chiR_succ (B : NF) (t : Nat) : chiR B (t + 1) = upd (chiR B t) (t / 5 + 5 * (t % 5)) (xr (B (t / 5 + 5 * (t % 5))) (an (nt (B ((t / 5 + 1) % 5 + 5 * (t % 5)))) (B ((t / 5 + 2) % 5 + 5 * (t % 5))))) := rfl
theorem rho_in (A : NF) (b p : Nat → Nat) : ∀ t j, InW (rho A b p t j)
  | 0, j => ⟨Int.le_refl 0, (by decide : (0 : Int) < 18446744073709551616)⟩
  | t + 1, j => by
    unfold rho upd
    split
    · exact rl_in _ _
    · exact rho_in A b p t j
theorem chi_in (B : NF) (i : Nat) : InW (chi B i) := xr_in _ _
theorem rnd_in (A : NF) (b p : Nat → Nat) (l : Int) (j : Nat) : InW (rnd A b p l j) := by
  unfold rnd upd
  split
  · exact xr_in _ _
  · exact chi_in _ _
theorem mix_in {A : NF} (h : ∀ j, InW (A j)) : ∀ k j, InW (mixN A k j)
  | 0, j => h j
  | _ + 1, j => rnd_in _ _ _ _ j
end Go.Proofs.Ytefmlbckbhlgdaa
namespace Go.Proofs.Ytefmlbckbhlgdaa
open Go.RowKit
set_option maxRecDepth 100000
set_option maxHeartbeats 2000000 in
theorem left_any (x : Int) (hx : InW x) (s : Nat) (hs : s < 64) (si : Int) (hsi : si = s) (w : World) : Calls Try.prog 166 #[.int .u64 x, .int .i64 si] w fun e w' => e = .returned (.int .u64 (rl x s)) ∧ w' = w := by
  subst hsi
  rcases Nat.eq_zero_or_pos s with rfl | h0
  · have h := rl_zero hx
    go_enter Try.func166, Try.ntmps166
    go_wp2
    go_ret
    exact ⟨by rw [h]; rfl, rfl⟩
  · have q : ((s : Int) == 0) = false := by simp; omega
    have h64 : (64 : Int) - s = ((64 - s : Nat) : Int) := by omega
    go_enter Try.func166, Try.ntmps166
    go_wp2
    go_ret
    exact ⟨rfl, rfl⟩

set_option maxHeartbeats 2000000 in
theorem at_any (x y : Nat) (hx : x < 1000) (hy : y < 1000) (xi yi : Int) (hxi : xi = x) (hyi : yi = y) (w : World) : Calls Try.prog 165 #[.int .i64 xi, .int .i64 yi] w fun e w' => e = .returned (.int .i64 ((x % 5 + 5 * (y % 5) : Nat) : Int)) ∧ w' = w := by
  subst hxi hyi
  go_enter Try.func165, Try.ntmps165
  go_wp2
  go_ret
  exact ⟨by simp, rfl⟩

theorem turn_hit : ∀ t, t < 24 → byT 24 ((tXY t).1 + 5 * (tXY t).2) = (t + 1) * (t + 2) / 2 % 64 := by decide +kernel
theorem turn_miss : ∀ x, x < 5 → ∀ y, y < 5 → (∃ t, t < 24 ∧ tXY t = (x, y)) ∨ byT 24 (x + 5 * y) = 0 := by decide +kernel
theorem turn_val (t : Nat) (h : t < 24) : (wrap64 ((wrap64 (((t : Int) + 1) * (t + 2))).tdiv 2)).tmod 64 = (((t + 1) * (t + 2) / 2 % 64 : Nat) : Int) := turn_num t h

set_option maxHeartbeats 4000000 in
theorem turn_of (x y : Nat) (hx : x < 5) (hy : y < 5) (w : World) : Calls Try.prog 167 #[.int .i64 x, .int .i64 y] w fun e w' => e = .returned (.int .i64 (byT 24 (x + 5 * y) : Nat)) ∧ w' = w := by
  have HM := Lib.hid (turn_miss x hx y hy)
  have HH := Lib.hid turn_hit
  generalize hb : byT 24 (x + 5 * y) = b at *
  have HBY := Lib.hid hb
  clear hb
  go_enter Try.func167, Try.ntmps167
  go_upto_region 4 with (fail)
  go_loopw [5, 6, 7] (fun u v c wr => ∃ t : Nat, t ≤ 24 ∧ c = .int .i64 t ∧ u = .int .i64 ((tXY t).1 : Nat) ∧ v = .int .i64 ((tXY t).2 : Nat) ∧ Hid (∀ j, j < t → tXY j ≠ (x, y)) ∧ Hid (wr = w)) (fun _ _ c _ => 24 - (intOf c).toNat)
  case atStart => exact ⟨0, by omega, rfl, rfl, rfl, Lib.hid (fun _ h => by omega), Lib.hid rfl⟩
  case round =>
    obtain ⟨t, ht, rfl, rfl, rfl, hno, hw⟩ := hrel
    obtain rfl := hw.out
    have HNO := Lib.hid hno.out
    clear hno hw
    by_cases hlt : t < 24
    · have hxy := tXY_lt t
      have HN1 : Hid (tXY t ≠ (x, y) → ∀ j, j < t + 1 → tXY j ≠ (x, y)) := Lib.hid (fun h j hj => by
        by_cases e : j = t
        · subst e; exact h
        · exact HNO.out j (by omega))
      have HB2 : Hid (tXY t = (x, y) → b = (t + 1) * (t + 2) / 2 % 64) := Lib.hid (fun e => by
        have := HH.out t hlt
        rw [e] at this
        rw [← HBY.out]
        exact this)
      have es : tXY (t + 1) = ((tXY t).2, (2 * (tXY t).1 + 3 * (tXY t).2) % 5) := rfl
      have hv := turn_val t hlt
      have es1 : (tXY (t + 1)).1 = (tXY t).2 := rfl
      have es2 : (tXY (t + 1)).2 = (2 * (tXY t).1 + 3 * (tXY t).2) % 5 := rfl
      clear es
      generalize tXY t = pq at *
      obtain ⟨p, q⟩ := pq
      simp only at hxy es1 es2
      have ES1 := Lib.hid es1
      have ES2 := Lib.hid es2
      clear es1 es2
      by_cases e1 : p = x
      · by_cases e2 : q = y
        · subst e1 e2
          have hb := Lib.hid (HB2.out rfl)
          go_wp2
          go_ret
          exact ⟨by rw [hb.out]; push_cast; rfl, rfl⟩
        · subst e1
          have k2 : ((q : Int) == (y : Int)) = false := by simp; omega
          have hn := Lib.hid (HN1.out (fun h => e2 (by injection h)))
          clear e2
          go_wp2
          exact ⟨⟨t + 1, by omega, by simp, by rw [ES1.out], by rw [ES2.out]; simp, hn, Lib.hid trivial⟩, by simp [intOf]; omega⟩
      · have k1 : ((p : Int) == (x : Int)) = false := by simp; omega
        have hn := Lib.hid (HN1.out (fun h => e1 (by injection h)))
        clear e1
        go_wp2
        exact ⟨⟨t + 1, by omega, by simp, by rw [ES1.out], by rw [ES2.out]; simp, hn, Lib.hid trivial⟩, by simp [intOf]; omega⟩
    · obtain rfl : t = 24 := by omega
      have hb : Hid (b = 0) := Lib.hid (by
        rcases HM.out with ⟨t, h1, h2⟩ | h
        · exact absurd h2 (HNO.out t h1)
        · exact h)
      go_wp2
      go_ret
      exact ⟨by rw [hb.out]; rfl, rfl⟩

set_option maxHeartbeats 4000000 in
theorem word_any (s : ByteArray) (hs : s.size = 8) (w : World) : Calls Try.prog 90 #[.string s] w fun e w' => e = .returned (.int .u64 (wordS (fun k => ((bl s).getD k 0).toNat) 8 : Nat)) ∧ w' = w := by
  have HE := Lib.hid (wordH_eq (fun k => ((bl s).getD k 0).toNat))
  have HL := Lib.hid (wordH_lt (fun k => ((bl s).getD k 0).toNat) (fun k => UInt8.toNat_lt _))
  have HS := Lib.hid (show ∀ k, wordH (fun k => ((bl s).getD k 0).toNat) (k + 1) = 256 * wordH (fun k => ((bl s).getD k 0).toNat) k + ((bl s).getD (7 - k) 0).toNat from fun k => rfl)
  have HZ : Hid (wordH (fun k => ((bl s).getD k 0).toNat) 0 = 0) := Lib.hid rfl
  have HG : Hid (∀ k (h : k < s.size), (s[k]'h).toNat = ((bl s).getD k 0).toNat) := Lib.hid (fun k h => by rw [sgetD h])
  generalize wordS (fun k => ((bl s).getD k 0).toNat) 8 = W8 at *
  generalize wordH (fun k => ((bl s).getD k 0).toNat) = H at *
  go_enter Try.func90, Try.ntmps90
  go_upto_region 3 with (fail)
  go_loopw [3, 4] (fun v c wr => ∃ k j : Nat, k + j = 8 ∧ c = .int .i64 ((j : Int) - 1) ∧ v = .int .u64 (H k : Nat) ∧ Hid (wr = w)) (fun _ c _ => (intOf c + 1).toNat)
  case atStart => exact ⟨0, 8, rfl, rfl, by rw [HZ.out]; rfl, Lib.hid rfl⟩
  case round =>
    obtain ⟨k, j, hk, rfl, rfl, hw⟩ := hrel
    obtain rfl := hw.out
    clear hw
    rcases Nat.eq_zero_or_pos j with rfl | hj
    · obtain rfl : k = 8 := by omega
      go_wp2
      go_ret
      exact ⟨by rw [← HE.out]; rfl, rfl⟩
    · obtain ⟨i, rfl⟩ : ∃ i, j = i + 1 := ⟨j - 1, by omega⟩
      obtain rfl : k = 7 - i := by omega
      have hi : i < s.size := by omega
      have e0 : ((i + 1 : Nat) : Int) - 1 = i := by omega
      have g0 := HG.out i hi
      have hl1 := HL.out (7 - i + 1)
      have hp : (256 : Nat) ^ (7 - i + 1) ≤ 256 ^ 8 := Nat.pow_le_pow_right (by omega) (by omega)
      have hs1 := HS.out (7 - i)
      rw [show 7 - (7 - i) = i by omega] at hs1
      have hbl := UInt8.toNat_lt ((bl s).getD i 0)
      rw [e0]
      generalize hc : H (7 - i + 1) = c at *
      generalize H (7 - i) = a at *
      generalize ((bl s).getD i 0).toNat = bb at *
      have q1 : (256 : Int) * a < 18446744073709551616 := by omega
      have q2 : (256 : Int) * a + bb < 18446744073709551616 := by omega
      have HC := Lib.hid (show H (7 - i + 1) = 256 * a + bb by rw [hc, hs1])
      have HK := Lib.hid hk
      clear hs1 hl1 hp hc hk e0 hj
      go_wp2
      exact ⟨⟨7 - i + 1, i, by have := HK.out; omega, rfl, by (rw [HC.out]) <;> simp, Lib.hid trivial⟩, by (simp [intOf]) <;> omega⟩

def encJ : Enc Int := ⟨1, fun x => [.int .i64 x], fun _ => rfl, fun x u h => by rw [List.mem_singleton.1 h]; rfl, by decide⟩
theorem info_intJ : (Try.prog.info? 3).map (fun i => (i.zero, i.size, i.bytes)) = some (some (.int .i64 0), 1, 8) := by kernel_rfl
theorem lfs_xor : ∀ r : Nat, r < 256 → bits .xor .i64 (2 * (r : Int)) 369 = ((2 * r ^^^ 369 : Nat) : Int) := by decide +kernel
theorem rowL_snoc (n : Nat) : rowL (n + 1) = rowL n ++ [((lfs n % 2 : Nat) : Int)] := by unfold rowL; rw [List.range_succ, List.map_append]; rfl
theorem rowL_length (n : Nat) : (rowL n).length = n := by simp [rowL]

set_option maxHeartbeats 4000000 in
theorem row_any (w : World) : Calls Try.prog 176 #[.int .i64 168] w fun e w' => ∃ v, e = .returned v ∧ OwnE encJ 3 w' w.heap.size v (rowL 168) ∧ Below w.heap.size w w' := by
  have O0 := Lib.hid (OwnE.start encJ (T := 3) (w := w) (Nat.le_refl w.heap.size))
  have HB0 := Lib.hid ((Below.refl w.heap.size w).alloc (Nat.le_refl _) (.cells #[] 3))
  have HL := Lib.hid lfs_lt
  have HSN := Lib.hid rowL_snoc
  have HLE := Lib.hid rowL_length
  have HLS : Hid (∀ i, lfs (i + 1) = if 2 * lfs i > 255 then 2 * lfs i ^^^ 369 else 2 * lfs i) := Lib.hid (fun i => rfl)
  have HZ : Hid (lfs 0 = 1 ∧ rowL 0 = []) := Lib.hid ⟨rfl, rfl⟩
  generalize rowL = RL at *
  generalize lfs = LF at *
  go_enter Try.func176, Try.ntmps176
  go_upto_region 4 with (fail)
  generalize w.alloc (.cells #[] 3) = W at *
  go_loopw [3, 4, 5] (fun v r c wr => ∃ i : Nat, i ≤ 168 ∧ c = .int .i64 i ∧ r = .int .i64 (LF i : Nat) ∧ Hid (OwnE encJ 3 wr w.heap.size v (RL i)) ∧ Hid (Below w.heap.size w wr)) (fun _ _ c _ => 168 - (intOf c).toNat)
  case atStart => exact ⟨0, by omega, rfl, by rw [HZ.out.1]; rfl, Lib.hid (by rw [HZ.out.2]; exact O0.out), HB0⟩
  case round =>
    clear O0 HB0
    obtain ⟨i, hi, rfl, rfl, ho, hb⟩ := hrel
    have O := Lib.hid ho.out
    have HB := Lib.hid hb.out
    clear ho hb
    by_cases hlt : i < 168
    · have hl := HL.out i
      have HS1 := Lib.hid (HLS.out i)
      have HS2 := Lib.hid (HSN.out i)
      have HS3 := Lib.hid (HLE.out i)
      have HN := Lib.hid (show ∀ x, x = LF (i + 1) → LF (i + 1) = x from fun x h => h.symm)
      generalize hc : LF (i + 1) = c at *
      have HC := Lib.hid hc
      clear hc
      have HX := Lib.hid (lfs_xor (LF i) hl)
      generalize LF i = r at *
      have hm : (r : Int).tmod 2 = ((r % 2 : Nat) : Int) := by rw [Int.tmod_eq_emod_of_nonneg (by omega)]; simp
      have OA := Lib.hid (O.out.below encJ ((Below.refl wr.heap.size wr).alloc (Nat.le_refl _) (.cells #[.int .i64 ((r : Int) % 2)] 3)) (Nat.le_refl _))
      have LA := Lib.hid (RowE.lit encJ (heap_alloc_new wr (.cells #[.int .i64 ((r : Int) % 2)] 3)) ((r % 2 : Nat) : Int) (by simp [encJ]))
      have HBA := Lib.hid (HB.out.alloc HB.out.size (.cells #[.int .i64 ((r : Int) % 2)] 3))
      have hz := HBA.out.size
      have hlen := HS3.out
      go_upto_region 7 with (at_builtin; refine wpList_append_rowE encJ Try.underlying168 info_intJ rfl rfl _ _ rfl w.heap.size _ (RL i) rfl OA.out _ [((r % 2 : Nat) : Int)] rfl LA.out (by unfold maxLen; simp; omega) (by simp; omega) hz ?_; intro v' w5 hown5 hb5 hz5 _)
      have HO5 := Lib.hid (HS2.out ▸ hown5)
      have HB5 := Lib.hid (hb5 _ HBA.out)
      clear hown5 hb5 hz5 hz hlen OA LA HBA O HB
      by_cases hg : 2 * r > 255
      · have hx := HX.out
        have hc := Lib.hid (show c = 2 * r ^^^ 369 by rw [HS1.out, if_pos hg])
        have hg' : (2 : Int) * r > 255 := by omega
        generalize 2 * r ^^^ 369 = rx at *
        go_wp2
        exact ⟨⟨i + 1, by omega, by simp, by rw [HC.out, hc.out], HO5, HB5⟩, by simp [intOf]; omega⟩
      · have hc := Lib.hid (show c = 2 * r by rw [HS1.out, if_neg hg])
        have hg' : ¬ (2 : Int) * r > 255 := by omega
        go_wp2
        exact ⟨⟨i + 1, by omega, by simp, by rw [HC.out, hc.out]; simp, HO5, HB5⟩, by simp [intOf]; omega⟩
    · obtain rfl : i = 168 := by omega
      go_wp2
      go_ret
      exact ⟨_, rfl, O.out, HB.out⟩

theorem RowE.atI {w : World} {v : Value} {l : List Int} (h : RowE encJ w v l) (hn : l ≠ []) : ∃ a cap, v = .slice (some a) l.length cap ∧ l.length ≤ cap ∧ cap ≤ maxLen ∧ ∀ i x, l[i]? = some x → w.cell? (a.add i) = some (.int .i64 x) := by
  rcases h with ⟨_, rfl⟩ | ⟨a, cap, rfl, h1, h2, hc⟩
  · exact absurd rfl hn
  · refine ⟨a, cap, rfl, h1, h2, fun i x hx => ?_⟩
    have := flat_get encJ hx 0 (by decide)
    exact hc i _ (by simpa [encJ] using this)

set_option maxHeartbeats 8000000 in
theorem last_any (i : Nat) (hi : i < 24) (w : World) : Calls Try.prog 168 #[.int .i64 i] w fun e w' => e = .returned (.int .u64 (rcC i)) ∧ Below w.heap.size w w' := by
  have HR := Lib.hid (lastN_eq i hi)
  have HL : Hid (∀ j, j < 7 → (rowL 168)[j + 7 * i]? = some ((lfs (j + 7 * i) % 2 : Nat) : Int)) := Lib.hid (fun j hj => by
    unfold rowL
    rw [List.getElem?_map, List.getElem?_range (by omega)]
    rfl)
  have HS := Lib.hid (show ∀ j, lastN i (j + 1) = if lfs (j + 7 * i) % 2 = 1 then bits .or .u64 (lastN i j) (IntKind.u64.wrap (2 ^ (2 ^ j - 1))) else lastN i j from fun j => rfl)
  have HZ : Hid (lastN i 0 = 0) := Lib.hid rfl
  have HLN : Hid ((rowL 168).length = 168) := Lib.hid (rowL_length 168)
  generalize rcC i = rc at *
  generalize lastN i = LN at *
  go_enter Try.func168, Try.ntmps168
  go_upto_region 5 with (go_at_call 176; refine (row_any _).mono ?_; rintro e w1 ⟨v, rfl, ho, hb⟩; have HO := Lib.hid (OwnE.row encJ ho); have HB := Lib.hid hb; clear ho hb)
  obtain ⟨a, cap, rfl, hc1, hc2, hcell⟩ := RowE.atI HO.out (by intro h; have := HLN.out; rw [h] at this; cases this)
  rw [HLN.out] at hc1
  have HC := Lib.hid hcell
  clear hcell hc1 hc2 HO
  rw [HLN.out]
  go_loopw [4, 5, 6] (fun n p c wr => ∃ j : Nat, j ≤ 7 ∧ c = .int .i64 j ∧ p = .int .u64 ((2 ^ j : Nat) : Int) ∧ n = .int .u64 (LN j) ∧ Hid (wr = w1)) (fun _ _ c _ => 7 - (intOf c).toNat)
  case atStart => exact ⟨0, by omega, rfl, rfl, by rw [HZ.out], Lib.hid rfl⟩
  case round =>
    obtain ⟨j, hj, rfl, rfl, rfl, hw⟩ := hrel
    obtain rfl := hw.out
    clear hw
    by_cases hlt : j < 7
    · have hcx := HC.out _ _ (HL.out j hlt)
      have hs1 := HS.out j
      have hji : j + 7 * i < 168 := by omega
      have HS1 := Lib.hid hs1
      clear hs1
      have h7 : j = 0 ∨ j = 1 ∨ j = 2 ∨ j = 3 ∨ j = 4 ∨ j = 5 ∨ j = 6 := by omega
      have hb2 : lfs (j + 7 * i) % 2 = 0 ∨ lfs (j + 7 * i) % 2 = 1 := by omega
      rcases hb2 with hb | hb
      · have HN := Lib.hid (show LN (j + 1) = LN j by rw [HS1.out, if_neg (by omega)])
        rw [hb] at hcx
        replace hcx : wr.cell? (a.add (j + 7 * i)) = some (.int .i64 0) := hcx
        clear hb HS1
        rcases h7 with rfl | rfl | rfl | rfl | rfl | rfl | rfl
        · rw [Nat.zero_add] at hcx
          go_wp2
          exact ⟨⟨1, by omega, by simp, by simp, by rw [HN.out], Lib.hid trivial⟩, by simp [intOf]⟩
        · go_wp2
          exact ⟨⟨2, by omega, by simp, by simp, by rw [HN.out], Lib.hid trivial⟩, by simp [intOf]⟩
        · go_wp2
          exact ⟨⟨3, by omega, by simp, by simp, by rw [HN.out], Lib.hid trivial⟩, by simp [intOf]⟩
        · go_wp2
          exact ⟨⟨4, by omega, by simp, by simp, by rw [HN.out], Lib.hid trivial⟩, by simp [intOf]⟩
        · go_wp2
          exact ⟨⟨5, by omega, by simp, by simp, by rw [HN.out], Lib.hid trivial⟩, by simp [intOf]⟩
        · go_wp2
          exact ⟨⟨6, by omega, by simp, by simp, by rw [HN.out], Lib.hid trivial⟩, by simp [intOf]⟩
        · go_wp2
          exact ⟨⟨7, by omega, by simp, by simp, by rw [HN.out], Lib.hid trivial⟩, by simp [intOf]⟩
      · have HN := Lib.hid (show LN (j + 1) = bits .or .u64 (LN j) (IntKind.u64.wrap (2 ^ (2 ^ j - 1))) by rw [HS1.out, if_pos hb])
        rw [hb] at hcx
        replace hcx : wr.cell? (a.add (j + 7 * i)) = some (.int .i64 1) := hcx
        clear hb HS1
        rcases h7 with rfl | rfl | rfl | rfl | rfl | rfl | rfl
        · rw [Nat.zero_add] at hcx
          go_wp2
          exact ⟨⟨1, by omega, by simp, by simp, by rw [HN.out]; rfl, Lib.hid trivial⟩, by simp [intOf]⟩
        · go_wp2
          exact ⟨⟨2, by omega, by simp, by simp, by rw [HN.out]; rfl, Lib.hid trivial⟩, by simp [intOf]⟩
        · go_wp2
          exact ⟨⟨3, by omega, by simp, by simp, by rw [HN.out]; rfl, Lib.hid trivial⟩, by simp [intOf]⟩
        · go_wp2
          exact ⟨⟨4, by omega, by simp, by simp, by rw [HN.out]; rfl, Lib.hid trivial⟩, by simp [intOf]⟩
        · go_wp2
          exact ⟨⟨5, by omega, by simp, by simp, by rw [HN.out]; rfl, Lib.hid trivial⟩, by simp [intOf]⟩
        · go_wp2
          exact ⟨⟨6, by omega, by simp, by simp, by rw [HN.out]; rfl, Lib.hid trivial⟩, by simp [intOf]⟩
        · go_wp2
          exact ⟨⟨7, by omega, by simp, by simp, by rw [HN.out]; rfl, Lib.hid trivial⟩, by simp [intOf]⟩
    · obtain rfl : j = 7 := by omega
      go_wp2
      go_ret
      exact ⟨by rw [← HR.out]; rfl, HB.out⟩
end Go.Proofs.Ytefmlbckbhlgdaa
namespace Go.Proofs.Ytefmlbckbhlgdaa
open Go.RowKit
set_option maxRecDepth 100000
/-- The blocks of the reference's round: the state, the answer, the row of five. -/
def KQ (w : World) (A C : NF) (wr : World) : Prop :=
  RowAt wr w.heap.size (rV 25 .u64 A) 140 ∧ RowAt wr (w.heap.size + 1) (z25 .u64) 140 ∧ RowAt wr (w.heap.size + 1 + 1) (rV 5 .u64 C) 224 ∧ Below w.heap.size w wr ∧ w.heap.size + 1 + 1 + 1 ≤ wr.heap.size
theorem KQ.drew {w wr : World} {A C : NF} (h : KQ w A C wr) : KQ w A C wr.drew := ⟨h.1, h.2.1, h.2.2.1, h.2.2.2.1.drew, h.2.2.2.2⟩
theorem KQ.putC {w wr : World} {A C C' : NF} {k : Nat} {v : Int} (h : KQ w A C wr) (hc : ∀ j, j < 5 → upd C k v j = C' j) : KQ w A C' (wr.setCell ⟨w.heap.size + 1 + 1, k, none⟩ (.int .u64 v)) :=
  ⟨h.1.other _ _ (by dsimp only; omega), h.2.1.other _ _ (by dsimp only; omega), h.2.2.1.upd _ _ hc, h.2.2.2.1.setCell (by dsimp only; omega) _, by rw [World.size_setCell]; exact h.2.2.2.2⟩
theorem KQ.sameC {w wr : World} {A C C' : NF} (h : KQ w A C wr) (hc : ∀ j, j < 5 → C j = C' j) : KQ w A C' wr := ⟨h.1, h.2.1, h.2.2.1.same hc, h.2.2.2⟩
theorem KQ.put {w wr : World} {A C : NF} (h : KQ w A C wr) {g i : Nat} (hg : w.heap.size + 1 + 1 + 1 ≤ g) (v : Value) : KQ w A C (wr.setCell ⟨g, i, none⟩ v) :=
  ⟨h.1.other _ _ (by dsimp only; omega), h.2.1.other _ _ (by dsimp only; omega), h.2.2.1.other _ _ (by dsimp only; omega), h.2.2.2.1.setCell (by dsimp only; omega) _, by rw [World.size_setCell]; exact h.2.2.2.2⟩
theorem KQ.alloc {w wr : World} {A C : NF} (h : KQ w A C wr) (o : Obj) : KQ w A C (wr.alloc o) :=
  ⟨h.1.alloc o, h.2.1.alloc o, h.2.2.1.alloc o, h.2.2.2.1.alloc (by have := h.2.2.2.2; omega) o, by have := h.2.2.2.2; rw [World.size_alloc]; omega⟩
theorem at_of (x y : Nat) (i : Nat) (hx : x < 1000) (hy : y < 1000) (hi : x % 5 + 5 * (y % 5) = i) (xi yi : Int) (hxi : xi = x) (hyi : yi = y) (w : World) : Calls Try.prog 165 #[.int .i64 xi, .int .i64 yi] w fun e w' => e = .returned (.int .i64 (i : Int)) ∧ w' = w := by
  subst hi
  exact at_any x y hx hy xi yi hxi hyi w
theorem rows3 (w : World) (a b c : Array Value) (Ta Tb Tc : TypeId) : let W := ((w.alloc (.cells a Ta)).alloc (.cells b Tb)).alloc (.cells c Tc)
    RowAt W w.heap.size a Ta ∧ RowAt W (w.heap.size + 1) b Tb ∧ RowAt W (w.heap.size + 1 + 1) c Tc ∧ Below w.heap.size w W ∧ W.heap.size = w.heap.size + 1 + 1 + 1 :=
  ⟨((RowAt.new w a Ta).alloc _).alloc _, (RowAt.new' (w.alloc (.cells a Ta)) b Tb (by simp)).alloc _, RowAt.new' ((w.alloc (.cells a Ta)).alloc (.cells b Tb)) c Tc (by simp),
    (((Below.refl w.heap.size w).alloc (Nat.le_refl _) _).alloc (by simp) _).alloc (by simp; omega) _, by simp⟩

set_option maxHeartbeats 8000000 in
theorem rround_any (A : NF) (hA : ∀ j, InW (A j)) (n : Nat) (hn : n < 24) (w : World) :
    Calls Try.prog 140 #[.agg (rV 25 .u64 A), .int .i64 n] w fun e w' => e = .returned (.agg (rV 25 .u64 (rnd A (byT 24) toT (rcC n)))) ∧ Below w.heap.size w w' := by
  obtain ⟨r0, r1, r2, hb, hs⟩ := rows3 w (rV 25 .u64 A) (z25 .u64) (z5 .u64) 140 140 224
  have HK := Lib.hid (show KQ w A (upto 0 (thC A) (fun _ => 0)) _ from ⟨r0, r1, r2, hb, by omega⟩)
  have HA := Lib.hid hA
  have HN := Lib.hid hn
  have HRR := Lib.hid (show rnd A (byT 24) toT (rcC n) = upd (chi (rho A (byT 24) toT 25)) 0 (xr (chi (rho A (byT 24) toT 25) 0) (rcC n)) from rfl)
  generalize rnd A (byT 24) toT (rcC n) = RR at *
  clear r0 r1 r2 hb hs hA hn
  go_enter Try.func140, Try.ntmps140
  go_upto_region 3 with (fail)
  generalize ((w.alloc (.cells (rV 25 .u64 A) 140)).alloc (.cells (z25 .u64) 140)).alloc (.cells (z5 .u64) 224) = W at *
  go_loopw [6] (fun c wr => ∃ x : Nat, x ≤ 5 ∧ c = .int .i64 x ∧ Hid (KQ w A (upto x (thC A) (fun _ => 0)) wr)) (fun c _ => 5 - (intOf c).toNat)
  case atStart => exact ⟨0, by omega, rfl, HK⟩
  case round =>
    clear HK
    obtain ⟨x, hx, rfl, hh⟩ := hrel
    have HK := Lib.hid hh.out
    clear hh
    by_cases hlt : x < 5
    · have hx5 : decide ((x : Int) < 5) = true := by simp; omega
      have HK1 := Lib.hid (HK.out.sameC (C' := upd (upto x (thC A) (fun _ => 0)) x (thP A x 0)) (fun j _ => (upd_same (A := upto x (thC A) (fun _ => 0)) (v := thP A x 0) (show upto x (thC A) (fun _ => 0) x = thP A x 0 from upto_at (A := fun _ => 0) (Nat.le_refl x)).symm).symm))
      have HE : Hid (thP A x 5 = thC A x) := Lib.hid (thP_eq (HA.out x))
      have HS : Hid (∀ y, thP A x (y + 1) = xr (thP A x y) (A (x + 5 * y))) := Lib.hid (fun y => rfl)
      clear HK
      generalize thP A x = P at *
      go_upto_region 6 with (fail)
      go_loopw [7] (fun c wr => ∃ y : Nat, y ≤ 5 ∧ c = .int .i64 y ∧ Hid (KQ w A (upd (upto x (thC A) (fun _ => 0)) x (P y)) wr)) (fun c _ => 5 - (intOf c).toNat)
      case atStart => exact ⟨0, by omega, rfl, HK1⟩
      case round =>
        clear HK1
        obtain ⟨y, hy, rfl, hh⟩ := hrel
        have HK := Lib.hid hh.out
        clear hh
        by_cases hlt2 : y < 5
        · have a0 := HK.out.1.drew.num (i := x + 5 * y) (by omega)
          have c0 := HK.out.2.2.1.drew.num (i := x) hlt
          rw [show upd (upto x (thC A) (fun _ => 0)) x (P y) x = P y from if_pos rfl] at c0
          have f0 := HK.out.2.2.1.drew.frozen x
          have KAT := Lib.hid (fun W => at_of x y (x + 5 * y) (by omega) (by omega) (by omega) (x : Int) (y : Int) rfl rfl W)
          have hs1 := Lib.hid (HS.out y)
          have e0 : (x : Int) < 5 := by omega
          have e1 : ((x + 5 * y : Nat) : Int) < 25 := by omega
          have HKC := Lib.hid HK.out
          clear HK
          generalize hpn : P (y + 1) = pn at *
          have HPN := Lib.hid hpn
          generalize P y = po at *
          generalize A (x + 5 * y) = ax at *
          generalize x + 5 * y = i at *
          clear hpn
          go_upto_region 8 with (fail)
          (refine region_tail 11 mix ?hB ?_; case hB => kernel_rfl)
          (simp only [List.take_succ_cons, List.take_zero, List.drop_succ_cons, List.drop_zero])
          (iterate 6 (with_reducible refine wpStill_step ?_; intro K hK; go_simp; with_reducible refine hK _ ?_; clear hK K))
          (with_reducible refine wpStill_step ?_; intro K hK; go_simp; refine ⟨_, KAT.out _, hK _ ?_⟩; clear hK K)
          (iterate 4 (with_reducible refine wpStill_step ?_; intro K hK; go_simp; with_reducible refine hK _ ?_; clear hK K))
          with_reducible refine wpStill_nil ?_
          go_wp2
          exact ⟨⟨y + 1, by omega, by simp, Lib.hid ((HKC.out.putC (C' := upd (upto x (thC A) (fun _ => 0)) x (P (y + 1))) (v := xr po ax) (fun j _ => by rw [HPN.out, hs1.out]; unfold upd; split <;> rfl)).drew)⟩, by simp [intOf]; omega⟩
        · obtain rfl : y = 5 := by omega
          have HK2 := Lib.hid (HK.out.sameC (C' := upto (x + 1) (thC A) (fun _ => 0)) (fun j _ => by rw [HE.out, upto_step rfl]))
          go_wp2
          exact ⟨⟨x + 1, by omega, by simp, HK2⟩, by simp [intOf]; omega⟩
    · obtain rfl : x = 5 := by omega
      go_upto_region 9 with (fail)
      have HK2 := Lib.hid (HK.out.alloc (.cells (z25 .u64) 140))
      have R := Lib.hid (show RowAt (wr.alloc (.cells (z25 .u64) 140)) wr.heap.size (rV 25 .u64 (rhoR A 0)) 140 from RowAt.new wr (z25 .u64) 140)
      have hg := HK.out.2.2.2.2
      clear HK
      go_upto_region 10 with (first
        | (refine wpList_build_to rfl _ _ rfl (z25 .u64) ?hf ?_; case hf => kernel_rfl)
        | (refine wpList_store_row rfl 140 _ _ rfl wr.heap.size (z25 .u64) rfl rfl 140 (z25 .u64) ?hg ?hi ?ho ?h1 ?_; (case hg => exact RowAt.new wr (z25 .u64) 140); (case hi => kernel_rfl); (case ho => kernel_rfl); (case h1 => kernel_rfl)))
      rw [World.setRow_alloc_new]
      generalize wr.alloc (.cells (z25 .u64) 140) = W2 at *
      generalize wr.heap.size = g at *
      go_upto_region 11 with (fail)
      go_loopw [9] (fun c wr => ∃ x : Nat, x ≤ 5 ∧ c = .int .i64 x ∧ Hid (KQ w A (upto 5 (thC A) (fun _ => 0)) wr) ∧ Hid (RowAt wr g (rV 25 .u64 (rhoR A (5 * x))) 140)) (fun c _ => 5 - (intOf c).toNat)
      case atStart => exact ⟨0, by omega, rfl, HK2, R⟩
      case round =>
        clear HK2 R
        obtain ⟨x, hx, rfl, hh, hr⟩ := hrel
        have HK := Lib.hid hh.out
        have R := Lib.hid hr.out
        clear hh hr
        by_cases hlt : x < 5
        · have a0 := HK.out.2.2.1.drew.num (i := (x + 4) % 5) (by omega)
          have a1 := HK.out.2.2.1.drew.num (i := (x + 1) % 5) (by omega)
          rw [upto_full (by omega)] at a0 a1
          have q1 : IntKind.i64.wrap ((x : Int) + 4) = (x : Int) + 4 := wrapN (n := x + 4) (by omega)
          have q2 : IntKind.i64.wrap ((x : Int) + 1) = (x : Int) + 1 := wrapN (n := x + 1) (by omega)
          have m1 : ((x : Int) + 4).tmod 5 = (((x + 4) % 5 : Nat) : Int) := by rw [Int.tmod_eq_emod_of_nonneg (by omega)]; omega
          have m2 : ((x : Int) + 1).tmod 5 = (((x + 1) % 5 : Nat) : Int) := by rw [Int.tmod_eq_emod_of_nonneg (by omega)]; omega
          have e1 : (((x + 4) % 5 : Nat) : Int) < 5 := by omega
          have e2 : (((x + 1) % 5 : Nat) : Int) < 5 := by omega
          have KL := Lib.hid (fun W => left_any (thC A ((x + 1) % 5)) (xr_in _ _) 1 (by omega) 1 (by simp) W)
          have HD : Hid (thD A x = xr (thC A ((x + 4) % 5)) (rl (thC A ((x + 1) % 5)) 1)) := Lib.hid rfl
          have hx5 : decide ((x : Int) < 5) = true := by simp; omega
          have HKC := Lib.hid HK.out
          have RC := Lib.hid R.out
          clear HK R
          generalize thC A ((x + 4) % 5) = c4 at *
          generalize thC A ((x + 1) % 5) = c1 at *
          generalize (x + 4) % 5 = i4 at *
          generalize (x + 1) % 5 = i1 at *
          go_upto_region 13 with (fail)
          (refine region_tail 12 mix ?hB ?_; case hB => kernel_rfl)
          (simp only [List.take_succ_cons, List.take_zero, List.drop_succ_cons, List.drop_zero])
          (iterate 10 (with_reducible refine wpStill_step ?_; intro K hK; go_simp; with_reducible refine hK _ ?_; clear hK K))
          (with_reducible refine wpStill_step ?_; intro K hK; go_simp; refine ⟨_, KL.out _, hK _ ?_⟩; clear hK K)
          (iterate 1 (with_reducible refine wpStill_step ?_; intro K hK; go_simp; with_reducible refine hK _ ?_; clear hK K))
          with_reducible refine wpStill_nil ?_
          go_upto_region 15 with (fail)
          have HK2 := Lib.hid HKC.out.drew
          have R2 := Lib.hid (show RowAt wr.drew g (rV 25 .u64 (rhoR A (5 * x + 0))) 140 from RC.out.drew)
          have HDD := Lib.hid (show bits .xor .u64 c4 (rl c1 1) = thD A x from HD.out.symm)
          clear HKC RC a0 a1 q1 q2 m1 m2 e1 e2 KL HD
          generalize bits .xor .u64 c4 (rl c1 1) = d at *
          go_loopw [11] (fun c wr => ∃ y : Nat, y ≤ 5 ∧ c = .int .i64 y ∧ Hid (KQ w A (upto 5 (thC A) (fun _ => 0)) wr) ∧ Hid (RowAt wr g (rV 25 .u64 (rhoR A (5 * x + y))) 140)) (fun c _ => 5 - (intOf c).toNat)
          case atStart => exact ⟨0, by omega, rfl, HK2, R2⟩
          case round =>
            clear HK2 R2
            obtain ⟨y, hy, rfl, hh, hr⟩ := hrel
            have HK := Lib.hid hh.out
            have R := Lib.hid hr.out
            clear hh hr
            by_cases hlt2 : y < 5
            · have a0 := HK.out.1.drew.num (i := x + 5 * y) (by omega)
              have g0 := R.out.drew.num (i := y % 5 + 5 * ((2 * x + 3 * y) % 5)) (by omega)
              have f0 := R.out.drew.frozen (y % 5 + 5 * ((2 * x + 3 * y) % 5))
              have q1 : IntKind.i64.wrap (2 * (x : Int)) = 2 * (x : Int) := by have := wrapN (n := 2 * x) (by omega); push_cast at this; exact this
              have q2 : IntKind.i64.wrap (3 * (y : Int)) = 3 * (y : Int) := by have := wrapN (n := 3 * y) (by omega); push_cast at this; exact this
              have q3 : IntKind.i64.wrap (2 * (x : Int) + 3 * (y : Int)) = 2 * (x : Int) + 3 * (y : Int) := by have := wrapN (n := 2 * x + 3 * y) (by omega); push_cast at this; exact this
              have KP := Lib.hid (fun W => at_of y (2 * x + 3 * y) (y % 5 + 5 * ((2 * x + 3 * y) % 5)) (by omega) (by omega) rfl (y : Int) (2 * (x : Int) + 3 * (y : Int)) rfl (by push_cast; rfl) W)
              have KI := Lib.hid (fun W => at_of x y (x + 5 * y) (by omega) (by omega) (by omega) (x : Int) (y : Int) rfl rfl W)
              have KT := Lib.hid (fun W => turn_of x y hlt hlt2 W)
              have KL := Lib.hid (fun W => left_any (bits .xor .u64 (A (x + 5 * y)) d) (xr_in _ _) (byT 24 (x + 5 * y)) (byT24_lt _) _ rfl W)
              have HR : Hid (∀ j, j < 25 → upd (rhoR A (5 * x + y)) (y % 5 + 5 * ((2 * x + 3 * y) % 5)) (rl (xr (A (x + 5 * y)) d) (byT 24 (x + 5 * y))) j = rhoR A (5 * x + (y + 1)) j) := Lib.hid (fun j _ => by
                rw [HDD.out, show 5 * x + (y + 1) = (5 * x + y) + 1 by omega]
                rw [rhoR_succ, show (5 * x + y) % 5 = y by omega, show (5 * x + y) / 5 = x by omega, show y % 5 = y by omega])
              have e1 : ((x + 5 * y : Nat) : Int) < 25 := by omega
              have e2 : ((y % 5 + 5 * ((2 * x + 3 * y) % 5) : Nat) : Int) < 25 := by omega
              have HKC := Lib.hid HK.out
              have RC := Lib.hid R.out
              clear HK R
              go_upto_region 17 with (fail)
              generalize A (x + 5 * y) = ax at *
              generalize byT 24 (x + 5 * y) = bt at *
              generalize x + 5 * y = i at *
              generalize y % 5 + 5 * ((2 * x + 3 * y) % 5) = ps at *
              (refine region_tail 19 mix ?hB ?_; case hB => kernel_rfl)
              (simp only [List.take_succ_cons, List.take_zero, List.drop_succ_cons, List.drop_zero])
              (iterate 6 (with_reducible refine wpStill_step ?_; intro K hK; go_simp; with_reducible refine hK _ ?_; clear hK K))
              (with_reducible refine wpStill_step ?_; intro K hK; go_simp; refine ⟨_, KP.out _, hK _ ?_⟩; clear hK K)
              (iterate 2 (with_reducible refine wpStill_step ?_; intro K hK; go_simp; with_reducible refine hK _ ?_; clear hK K))
              (with_reducible refine wpStill_step ?_; intro K hK; go_simp; refine ⟨_, KI.out _, hK _ ?_⟩; clear hK K)
              (iterate 6 (with_reducible refine wpStill_step ?_; intro K hK; go_simp; with_reducible refine hK _ ?_; clear hK K))
              (with_reducible refine wpStill_step ?_; intro K hK; go_simp; refine ⟨_, KT.out _, hK _ ?_⟩; clear hK K)
              (with_reducible refine wpStill_step ?_; intro K hK; go_simp; refine ⟨_, KL.out _, hK _ ?_⟩; clear hK K)
              (iterate 1 (with_reducible refine wpStill_step ?_; intro K hK; go_simp; with_reducible refine hK _ ?_; clear hK K))
              with_reducible refine wpStill_nil ?_
              go_wp2
              exact ⟨⟨y + 1, by omega, by simp, Lib.hid (HKC.out.put hg _).drew, Lib.hid ((RC.out.upd ps _ HR.out).drew)⟩, by simp [intOf]; omega⟩
            · obtain rfl : y = 5 := by omega
              go_wp2
              exact ⟨⟨x + 1, by omega, by simp, HK, R⟩, by simp [intOf]; omega⟩
        · obtain rfl : x = 5 := by omega
          have R2 := Lib.hid (show RowAt wr g (rV 25 .u64 (rho A (byT 24) toT 25)) 140 from R.out.same (rhoR_eq A))
          clear R
          go_upto_region 18 with (fail)
          have HBI := Lib.hid (rho_in A (byT 24) toT 25)
          generalize rho A (byT 24) toT 25 = B at *
          have HK2 := Lib.hid (HK.out.alloc (.cells (z25 .u64) 140))
          have R3 := Lib.hid (R2.out.alloc (.cells (z25 .u64) 140))
          have R := Lib.hid (show RowAt (wr.alloc (.cells (z25 .u64) 140)) wr.heap.size (rV 25 .u64 (chiR B 0)) 140 from RowAt.new wr (z25 .u64) 140)
          have hgo := R2.out.lt
          clear HK R2
          go_upto_region 19 with (first
            | (refine wpList_build_to rfl _ _ rfl (z25 .u64) ?hf ?_; case hf => kernel_rfl)
            | (refine wpList_store_row rfl 140 _ _ rfl wr.heap.size (z25 .u64) rfl rfl 140 (z25 .u64) ?hg ?hi ?ho ?h1 ?_; (case hg => exact RowAt.new wr (z25 .u64) 140); (case hi => kernel_rfl); (case ho => kernel_rfl); (case h1 => kernel_rfl)))
          rw [World.setRow_alloc_new]
          generalize wr.alloc (.cells (z25 .u64) 140) = W3 at *
          generalize wr.heap.size = o at *
          go_upto_region 20 with (fail)
          go_loopw [13] (fun c wr => ∃ x : Nat, x ≤ 5 ∧ c = .int .i64 x ∧ Hid (KQ w A (upto 5 (thC A) (fun _ => 0)) wr) ∧ Hid (RowAt wr g (rV 25 .u64 B) 140) ∧ Hid (RowAt wr o (rV 25 .u64 (chiR B (5 * x))) 140)) (fun c _ => 5 - (intOf c).toNat)
          case atStart => exact ⟨0, by omega, rfl, HK2, R3, R⟩
          case round =>
            clear HK2 R3 R
            obtain ⟨x, hx, rfl, hh, hb, hr⟩ := hrel
            have HK := Lib.hid hh.out
            have RB := Lib.hid hb.out
            have R := Lib.hid hr.out
            clear hh hr hb
            by_cases hlt : x < 5
            · have hx5 : decide ((x : Int) < 5) = true := by simp; omega
              go_upto_region 23 with (fail)
              go_loopw [14] (fun c wr => ∃ y : Nat, y ≤ 5 ∧ c = .int .i64 y ∧ Hid (KQ w A (upto 5 (thC A) (fun _ => 0)) wr) ∧ Hid (RowAt wr g (rV 25 .u64 B) 140) ∧ Hid (RowAt wr o (rV 25 .u64 (chiR B (5 * x + y))) 140)) (fun c _ => 5 - (intOf c).toNat)
              case atStart => exact ⟨0, by omega, rfl, HK, RB, R⟩
              case round =>
                clear HK RB R
                obtain ⟨y, hy, rfl, hh, hb, hr⟩ := hrel
                have HK := Lib.hid hh.out
                have RB := Lib.hid hb.out
                have R := Lib.hid hr.out
                clear hh hr hb
                by_cases hlt2 : y < 5
                · have K1 := Lib.hid (fun W => at_of (x + 1) y ((x + 1) % 5 + 5 * y) (by omega) (by omega) (by omega) ((x : Int) + 1) (y : Int) (by push_cast; rfl) rfl W)
                  have K2 := Lib.hid (fun W => at_of (x + 2) y ((x + 2) % 5 + 5 * y) (by omega) (by omega) (by omega) ((x : Int) + 2) (y : Int) (by push_cast; rfl) rfl W)
                  have KI := Lib.hid (fun W => at_of x y (x + 5 * y) (by omega) (by omega) (by omega) (x : Int) (y : Int) rfl rfl W)
                  have b1 := RB.out.num (i := (x + 1) % 5 + 5 * y) (by omega)
                  have b2 := RB.out.drew.num (i := (x + 2) % 5 + 5 * y) (by omega)
                  have b0 := RB.out.drew.num (i := x + 5 * y) (by omega)
                  have o0 := R.out.drew.num (i := x + 5 * y) (by omega)
                  have f0 := R.out.drew.frozen (x + 5 * y)
                  have e1 : (((x + 1) % 5 + 5 * y : Nat) : Int) < 25 := by omega
                  have e2 : (((x + 2) % 5 + 5 * y : Nat) : Int) < 25 := by omega
                  have e0 : ((x + 5 * y : Nat) : Int) < 25 := by omega
                  have q1 : IntKind.i64.wrap ((x : Int) + 2) = (x : Int) + 2 := wrapN (n := x + 2) (by omega)
                  have hnt := nt_sub (HBI.out ((x + 1) % 5 + 5 * y))
                  have HR : Hid (∀ j, j < 25 → upd (chiR B (5 * x + y)) (x + 5 * y) (xr (B (x + 5 * y)) (an (nt (B ((x + 1) % 5 + 5 * y))) (B ((x + 2) % 5 + 5 * y)))) j = chiR B (5 * x + (y + 1)) j) := Lib.hid (fun j _ => by
                    rw [show 5 * x + (y + 1) = (5 * x + y) + 1 by omega, chiR_succ, show (5 * x + y) % 5 = y by omega, show (5 * x + y) / 5 = x by omega])
                  have HKC := Lib.hid HK.out
                  have RBC := Lib.hid RB.out
                  have RC := Lib.hid R.out
                  clear HK RB R
                  generalize nt (B ((x + 1) % 5 + 5 * y)) = nb at *
                  generalize B ((x + 1) % 5 + 5 * y) = v1 at *
                  generalize B ((x + 2) % 5 + 5 * y) = v2 at *
                  generalize B (x + 5 * y) = v0 at *
                  go_upto_region 26 with (go_at_call 165; refine (K1.out _).mono ?_; rintro e w' ⟨rfl, rfl⟩)
                  generalize (x + 1) % 5 + 5 * y = i1 at *
                  generalize (x + 2) % 5 + 5 * y = i2 at *
                  generalize x + 5 * y = i at *
                  (refine region_tail 18 mix ?hB ?_; case hB => kernel_rfl)
                  (simp only [List.take_succ_cons, List.take_zero, List.drop_succ_cons, List.drop_zero])
                  (iterate 2 (with_reducible refine wpStill_step ?_; intro K hK; go_simp; with_reducible refine hK _ ?_; clear hK K))
                  (with_reducible refine wpStill_step ?_; intro K hK; go_simp; refine ⟨_, KI.out _, hK _ ?_⟩; clear hK K)
                  (iterate 2 (with_reducible refine wpStill_step ?_; intro K hK; go_simp; with_reducible refine hK _ ?_; clear hK K))
                  (with_reducible refine wpStill_step ?_; intro K hK; go_simp; refine ⟨_, KI.out _, hK _ ?_⟩; clear hK K)
                  (iterate 6 (with_reducible refine wpStill_step ?_; intro K hK; go_simp; with_reducible refine hK _ ?_; clear hK K))
                  (with_reducible refine wpStill_step ?_; intro K hK; go_simp; refine ⟨_, K2.out _, hK _ ?_⟩; clear hK K)
                  (iterate 5 (with_reducible refine wpStill_step ?_; intro K hK; go_simp; with_reducible refine hK _ ?_; clear hK K))
                  with_reducible refine wpStill_nil ?_
                  go_wp2
                  exact ⟨⟨y + 1, by omega, by simp, Lib.hid (HKC.out.put (by omega) _).drew, Lib.hid ((RBC.out.other _ _ (by dsimp only; omega)).drew), Lib.hid ((RC.out.upd i _ HR.out).drew)⟩, by simp [intOf]; omega⟩
                · obtain rfl : y = 5 := by omega
                  go_wp2
                  exact ⟨⟨x + 1, by omega, by simp, HK, RB, R⟩, by simp [intOf]; omega⟩
            · obtain rfl : x = 5 := by omega
              have R2 := Lib.hid (show RowAt wr o (rV 25 .u64 (chi B)) 140 from R.out.same (chiR_eq B))
              clear R
              go_upto_region 27 with (fail)
              have hx0 : ∀ u : Later wr, u.w.cell? ⟨o, 0, none⟩ = some (.int .u64 (chi B 0)) := fun u => (R2.out.later u).num (by omega)
              have KL := Lib.hid (fun W => last_any n HN.out W)
              generalize hc0 : chi B 0 = c0 at *
              have HC0 := Lib.hid hc0
              clear hc0
              (refine region_later_tail 6 mix ?hB ?_; case hB => kernel_rfl); (simp only [List.take_succ_cons, List.take_zero, List.drop_succ_cons, List.drop_zero]); (iterate 6 (first | go_big_quiet_step ((go_at_call 168; with_reducible exact Later.call (KL.out _))) | quiet_step ((go_at_call 168; with_reducible exact Later.call (KL.out _))))); (refine wpQuiet_nil ?_; intro u)
              have f0 := (R2.out.later u).frozen 0
              have a0 := hx0 u
              have hz := HK.out.2.2.2.2
              have RA := Lib.hid ((R2.out.later u).upd 0 (bits .xor .u64 c0 (rcC n)) (B := RR) (fun j _ => by rw [HRR.out]; rfl))
              have R3 := Lib.hid (((HK.out.2.1.later u).other ⟨o, 0, none⟩ (.int .u64 (bits .xor .u64 c0 (rcC n)))) (by dsimp only; omega))
              have HB5 := Lib.hid ((HK.out.2.2.2.1.trans (u.below.mono (by omega))).setCell (p := ⟨o, 0, none⟩) (by dsimp only; omega) (.int .u64 (bits .xor .u64 c0 (rcC n))))
              clear HK RB R2 hx0 HRR HC0 KL
              generalize u.w = wu at *
              go_upto_region 28 with (fail)
              generalize wu.setCell ⟨o, 0, none⟩ (.int .u64 (bits .xor .u64 c0 (rcC n))) = W5 at *
              go_step
              refine wpList_load_row rfl 140 _ rfl o rfl 140 (rV 25 .u64 RR) (0, 0) _ RA.out Try.underlying140 rfl (by kernel_rfl) ?_
              refine wpList_store_row rfl 140 _ _ rfl (w.heap.size + 1) (rV 25 .u64 RR) rfl rfl 140 (z25 .u64) R3.out (by kernel_rfl) (by kernel_rfl) rV_one ?_
              have RF := Lib.hid (R3.out.row (rV 25 .u64 RR))
              have HB6 := Lib.hid (below_setRow HB5.out (g := w.heap.size + 1) (by omega) (rV 25 .u64 RR))
              generalize W5.setRow (w.heap.size + 1) (rV 25 .u64 RR) = W6 at *
              go_wp2
              refine bodyPost_ret (results_cell_row rfl _ _ _ 140 (rV 25 .u64 RR) (0, 0) _ rfl RF.out Try.underlying140 rfl (by kernel_rfl)) rfl ?_
              exact ⟨rfl, HB6.out⟩
end Go.Proofs.Ytefmlbckbhlgdaa
namespace Go.Proofs.Ytefmlbckbhlgdaa
open Go.RowKit
set_option maxRecDepth 100000
set_option maxHeartbeats 8000000 in
theorem rmix_any (A : NF) (hA : ∀ j, InW (A j)) (w : World) : Calls Try.prog 91 #[.agg (rV 25 .u64 A)] w fun e w' => e = .returned (.agg (rV 25 .u64 (mixF A))) ∧ Below w.heap.size w w' := by
  have R0 := Lib.hid ((RowAt.new w (rV 25 .u64 A) 140).alloc (.cells (z25 .u64) 140))
  have R1 := Lib.hid (RowAt.new' (w.alloc (.cells (rV 25 .u64 A) 140)) (z25 .u64) 140 (k := w.heap.size + 1) (by simp))
  have HB := Lib.hid (((Below.refl w.heap.size w).alloc (Nat.le_refl _) (.cells (rV 25 .u64 A) 140)).alloc (by simp) (.cells (z25 .u64) 140))
  have HI := Lib.hid (mix_in hA)
  clear hA
  go_enter Try.func91, Try.ntmps91
  go_upto_region 2 with (fail)
  generalize (w.alloc (.cells (rV 25 .u64 A) 140)).alloc (.cells (z25 .u64) 140) = W at *
  go_loopw [3] (fun c wr => ∃ k : Nat, k ≤ 24 ∧ c = .int .i64 k ∧ Hid (RowAt wr w.heap.size (rV 25 .u64 (mixN A k)) 140 ∧ RowAt wr (w.heap.size + 1) (z25 .u64) 140 ∧ Below w.heap.size w wr)) (fun c _ => 24 - (intOf c).toNat)
  case atStart => exact ⟨0, by omega, rfl, Lib.hid ⟨R0.out, R1.out, HB.out⟩⟩
  case round =>
    clear R0 R1 HB
    obtain ⟨k, hk, rfl, hh⟩ := hrel
    obtain ⟨r0, r1, hb⟩ := hh.out
    clear hh
    have R0 := Lib.hid r0
    have R1 := Lib.hid r1
    have HB := Lib.hid hb
    clear r0 r1 hb
    by_cases hlt : k < 24
    · have KR := Lib.hid (show ∀ W, Calls Try.prog 140 #[.agg (rV 25 .u64 (mixN A k)), .int .i64 k] W fun e w' => e = .returned (.agg (rV 25 .u64 (mixN A (k + 1)))) ∧ Below W.heap.size W w' from fun W => rround_any (mixN A k) (HI.out k) k hlt W)
      go_upto_region 4 with (fail)
      go_step
      refine wpList_load_row rfl 140 _ rfl w.heap.size rfl 140 (rV 25 .u64 (mixN A k)) (0, 0) _ R0.out Try.underlying140 rfl (by kernel_rfl) ?_
      go_wp2_with (first
        | (go_at_call 140; (refine (KR.out _).mono ?_); rintro e w2 ⟨rfl, hb⟩; replace R0 := Lib.hid (R0.out.belowS hb); replace R1 := Lib.hid (R1.out.belowS hb); replace HB := Lib.hid (HB.out.trans (hb.mono HB.out.size)); clear hb)
        | (refine wpList_store_row rfl 140 _ _ rfl w.heap.size (rV 25 .u64 (mixN A (k + 1))) rfl rfl 140 (rV 25 .u64 (mixN A k)) R0.out ?hi ?ho rV_one ?_; (case hi => kernel_rfl); (case ho => rw [rV_size, rV_size])))
      exact ⟨⟨k + 1, by omega, by simp, Lib.hid ⟨R0.out.row _, R1.out.otherRow (by omega) _, below_setRow HB.out (Nat.le_refl _) _⟩⟩, by simp [intOf]; omega⟩
    · obtain rfl : k = 24 := by omega
      have hmx : Hid (mixN A 24 = mixF A) := Lib.hid rfl
      rw [hmx.out] at R0
      clear hmx
      go_upto_region 5 with (fail)
      go_step
      refine wpList_load_row rfl 140 _ rfl w.heap.size rfl 140 (rV 25 .u64 (mixF A)) (0, 0) _ R0.out Try.underlying140 rfl (by kernel_rfl) ?_
      refine wpList_store_row rfl 140 _ _ rfl (w.heap.size + 1) (rV 25 .u64 (mixF A)) rfl rfl 140 (z25 .u64) R1.out (by kernel_rfl) (by kernel_rfl) rV_one ?_
      have RR := Lib.hid (R1.out.row (rV 25 .u64 (mixF A)))
      have HB2 := Lib.hid (below_setRow HB.out (g := w.heap.size + 1) (by omega) (rV 25 .u64 (mixF A)))
      generalize wr.setRow (w.heap.size + 1) (rV 25 .u64 (mixF A)) = W5 at *
      go_wp2
      refine bodyPost_ret (results_cell_row rfl _ _ _ 140 (rV 25 .u64 (mixF A)) (0, 0) _ rfl RR.out Try.underlying140 rfl (by kernel_rfl)) rfl ?_
      exact ⟨rfl, HB2.out⟩

/-! ### Bytes out of a string, grown -/
/-- The slice 'v' holds the bytes 'l' in a block from 'base' on; what is behind them, up to the capacity, may be written. -/
def BB (w : World) (base : Nat) (v : Value) (l : List UInt8) : Prop :=
  ∃ g cap, v = .slice (some ⟨g, 0, none⟩) l.length cap ∧ base ≤ g ∧ g < w.heap.size ∧ l.length ≤ cap ∧ cap ≤ maxLen ∧ (∀ j, j < l.length → w.cell? ⟨g, j, none⟩ = some (.int .u8 ((l.getD j 0).toNat : Int))) ∧
    (∀ j, j < cap → (w.cell? ⟨g, j, none⟩).isSome = true) ∧ (∀ j, j < cap → w.frozen? ⟨g, j, none⟩ = false)
theorem BB.below {w w' : World} {base B : Nat} {v : Value} {l : List UInt8} (h : BB w base v l) (hb : Below B w w') (hB : w.heap.size ≤ B) : BB w' base v l := by
  obtain ⟨g, cap, e, h1, h2, h3, h4, h5, h6, h7⟩ := h
  have hg := hb.block g (by omega)
  refine ⟨g, cap, e, h1, by have := hb.size; omega, h3, h4, fun j hj => ?_, fun j hj => ?_, fun j hj => ?_⟩
  · rw [World.cell?_of_block (w := w) (w' := w') (a := ⟨g, j, none⟩) hg]; exact h5 j hj
  · rw [World.cell?_of_block (w := w) (w' := w') (a := ⟨g, j, none⟩) hg]; exact h6 j hj
  · rw [World.frozen?_of_block (w := w) (w' := w') (a := ⟨g, j, none⟩) hg]; exact h7 j hj
theorem BB.of_string (w : World) (s : ByteArray) (c : Nat) (hc : s.size ≤ c) (hm : c ≤ maxLen) :
    BB (w.drew.alloc (.cells (bytesRow s c) 5 ((bytesRow s c).size, (bytesRow s c).size + 1))) w.heap.size (.slice (some ⟨w.heap.size, 0, none⟩) s.size c) (bl s) := by
  have hz : (bytesRow s c).size = c := by
    rw [bytesRow, Array.size_append, Array.size_map, Array.size_replicate]
    show s.size + (c - s.size) = c
    omega
  have hg : (w.drew.alloc (.cells (bytesRow s c) 5 ((bytesRow s c).size, (bytesRow s c).size + 1))).heap[w.heap.size]? = some (.cells (bytesRow s c) 5 ((bytesRow s c).size, (bytesRow s c).size + 1)) := heap_alloc_new w.drew _
  refine ⟨w.heap.size, c, by rw [bl_length], Nat.le_refl _, by show w.heap.size < _; rw [World.size_alloc]; exact Nat.lt_succ_self _, by rw [bl_length]; exact hc, hm, fun j hj => ?_, fun j hj => ?_, fun j hj => ?_⟩
  · rw [bl_length] at hj
    have hj' : j < s.data.size := hj
    rw [cell_of_row _ _ _ _ _ _ hg, bytesRow, Array.getElem?_append_left (by rw [Array.size_map]; exact hj'), Array.getElem?_map, Array.getElem?_eq_getElem hj', sgetD hj]
    rfl
  · rw [cell_of_row _ _ _ _ _ _ hg, Array.getElem?_eq_getElem (by omega)]
    rfl
  · simp only [World.frozen?, hg]
    simp
    omega
theorem BB.set {w : World} {base g cap : Nat} {l : List UInt8} (h : BB w base (.slice (some ⟨g, 0, none⟩) l.length cap) l) (i : Nat) (hi : i < l.length) (b : UInt8) {v : Int} (hv : v = (b.toNat : Int)) :
    BB (w.setCell ⟨g, i, none⟩ (.int .u8 v)) base (.slice (some ⟨g, 0, none⟩) l.length cap) (l.set i b) := by
  subst hv
  obtain ⟨g', cap', e, h1, h2, h3, h4, h5, h6, h7⟩ := h
  injection e with e1 e2 e3
  injection e1 with e1
  injection e1 with e1 _ _
  subst e1 e3
  refine ⟨g, cap, by rw [List.length_set], h1, by rw [World.size_setCell]; exact h2, by rw [List.length_set]; exact h3, h4, fun j hj => ?_, fun j hj => ?_, fun j hj => ?_⟩
  · rw [List.length_set] at hj
    by_cases e : i = j
    · subst e
      have := World.cell?_setCells_in g [.int .u8 (b.toNat : Int)] i w (fun k hk => by simp at hk; subst hk; exact h6 i (by omega)) 0 (by simp)
      simp only [World.setCells, Nat.add_zero] at this
      rw [this]
      simp [List.getD, hi]
    · have := World.cell?_setCells_out g [.int .u8 (b.toNat : Int)] i w ⟨g, j, none⟩ (fun _ _ => by simp; omega)
      simp only [World.setCells] at this
      rw [this, h5 j hj]
      simp [List.getD, e]
  · by_cases e : i = j
    · subst e
      have := World.cell?_setCells_in g [.int .u8 (b.toNat : Int)] i w (fun k hk => by simp at hk; subst hk; exact h6 i hj) 0 (by simp)
      simp only [World.setCells, Nat.add_zero] at this
      rw [this]
      rfl
    · have := World.cell?_setCells_out g [.int .u8 (b.toNat : Int)] i w ⟨g, j, none⟩ (fun _ _ => by simp; omega)
      simp only [World.setCells] at this
      rw [this]
      exact h6 j hj
  · rw [World.frozen?_setCell]
    exact h7 j hj
theorem BB.of_own {w : World} {base : Nat} {v : Value} {l : List UInt8} (h : OwnB w base v l) (hn : l ≠ []) : BB w base v l := by
  obtain ⟨_, h⟩ := h
  rcases h with ⟨_, h0⟩ | ⟨g, cap, cur, hv, hg, hc, h1, h2, h3, h4⟩
  · exact absurd (List.eq_nil_of_length_eq_zero h0) hn
  · have hlt : g < w.heap.size := by
      rcases Nat.lt_or_ge g w.heap.size with h | h
      · exact h
      · rw [Array.getElem?_eq_none h] at hc; cases hc
    refine ⟨g, cap, hv, hg, hlt, h1, h2, fun j hj => ?_, fun j hj => ?_, fun j hj => ?_⟩
    · rw [cell_of_row _ _ _ _ _ _ hc]
      have : cur.toList[j]? = (bvals l)[j]? := by rw [← h4, List.getElem?_take, if_pos (by omega)]
      rw [Array.getElem?_toList] at this
      rw [this]
      simp [bvals, List.getD, hj]
    · rw [cell_of_row _ _ _ _ _ _ hc, Array.getElem?_eq_getElem (by omega)]
      rfl
    · exact frozen_of_row w g j cur _ hc
theorem wpList_append_bb {ops : Array Oper} {rest : List Oper} {o : Oper} {a : Act} {Q : Exit → Act → World → Prop} {w : World} (hgd : o.guard = Option.none) (s x : Operand)
    (ho : o.op = .call { callee := .builtin .append, args := #[s, x], argTypes := #[123, 123] }) (base : Nat) (v : Value) (l : List UInt8) (hs : a.eval s = v) (hB : BB w base v l)
    (ad : Addr) (c : Nat) (b : UInt8) (hx : a.eval x = .slice (some ad) 1 c) (hc : w.cell? (ad.add 0) = some (.int .u8 (b.toNat : Int))) (hb : l.length + 1 ≤ 140737488355328) (hbase : base ≤ w.heap.size)
    (h : ∀ v' w', BB w' base v' (l ++ [b]) → (∀ w0, Below base w0 w → Below base w0 w') → w.heap.size ≤ w'.heap.size → wpList Try.prog ops Q rest (a.put o.dst v') w') : wpList Try.prog ops Q (o :: rest) a w := by
  obtain ⟨i0, hi, hz0, hz1, hz2⟩ := info_parts info_u8
  obtain ⟨g, cap, rfl, h1, h2, h3, h4, h5, h6, h7⟩ := hB
  refine wpList_append_arg w hgd s x 123 ho 5 i0 (.int .u8 0) 1 1 Try.underlying123 hi hz0 hz1 hz2 rfl (by decide) g 0 l.length cap (bvals l) hs (by simp [bvals]) (fun j u hj => ?_) ad 1 c [.int .u8 (b.toNat : Int)] hx rfl (fun j u hj => ?_) (fun u hu => by rw [List.mem_singleton.1 hu]; rfl)
    (fun hr j hj => ?_) (by unfold maxLen; omega) (by omega) (fun hr => ?_) (fun hr v' w' hown hgr => ?_)
  · have hjl : j < l.length := by have := (List.getElem?_eq_some_iff.1 hj).1; simpa [bvals] using this
    rw [Nat.zero_add, h5 j hjl, ← hj]
    simp [bvals, List.getD, hjl]
  · match j, hj with
    | 0, hj => simp at hj; subst hj; exact hc
  · simp at hj
    subst hj
    exact ⟨h6 _ (by omega), h7 _ (by omega)⟩
  · rw [show 0 + l.length * 1 = l.length by omega]
    refine h _ _ ⟨g, cap, by simp, h1, ?_, by simp; omega, h4, fun j hj => ?_, fun j hj => ?_, fun j hj => ?_⟩ (fun w0 hb0 => ?_) ?_
    · show g < (w.setCell _ _).heap.size
      rw [World.size_setCell]; exact h2
    · rw [List.length_append, List.length_singleton] at hj
      by_cases e : j = l.length
      · subst e
        have := World.cell?_setCells_in g [.int .u8 (b.toNat : Int)] l.length w (fun k hk => by simp at hk; subst hk; exact h6 _ (by omega)) 0 (by simp)
        rw [Nat.add_zero] at this
        rw [this]
        simp [List.getD]
      · rw [World.cell?_setCells_out g [.int .u8 (b.toNat : Int)] l.length w ⟨g, j, none⟩ (fun _ _ => by simp; omega), h5 j (by omega)]
        simp [List.getD, List.getElem?_append_left (show j < l.length by omega)]
    · by_cases e : j = l.length
      · subst e
        have := World.cell?_setCells_in g [.int .u8 (b.toNat : Int)] l.length w (fun k hk => by simp at hk; subst hk; exact h6 _ (by omega)) 0 (by simp)
        rw [Nat.add_zero] at this
        rw [this]
        rfl
      · rw [World.cell?_setCells_out g [.int .u8 (b.toNat : Int)] l.length w ⟨g, j, none⟩ (fun _ _ => by simp; omega)]
        exact h6 j hj
    · rw [World.frozen?_setCells]
      exact h7 j hj
    · exact hb0.setCell (p := ⟨g, l.length, none⟩) h1 _
    · show w.heap.size ≤ (w.setCell _ _).heap.size
      rw [World.size_setCell]; exact Nat.le_refl _
  · have hown' : OwnB w' w.heap.size v' (l ++ [b]) := by
      unfold OwnB bvals
      rw [List.length_append, List.map_append]
      exact hown
    obtain ⟨g', cap', e, k1, k⟩ := BB.of_own hown' (by simp)
    refine h v' w' ⟨g', cap', e, by omega, k⟩ (fun w0 hb0 => ?_) hgr.size
    exact hb0.grown hgr hbase (fun k hk => by cases hk)
theorem BB.conv {w : World} {base : Nat} {g cap : Nat} {l : List UInt8} (h : BB w base (.slice (some ⟨g, 0, none⟩) l.length cap) l) (lo n c : Nat) (hn : lo + n ≤ l.length) :
    (convert 123 9 (.slice (some ⟨g, lo, none⟩) n c)).run Try.prog w = .ok (.string (mkS ((l.drop lo).take n))) w := by
  obtain ⟨g', cap', e, h1, h2, h3, h4, h5, h6, h7⟩ := h
  injection e with e1 e2 e3
  injection e1 with e1
  injection e1 with e1 _ _
  subst e1 e3
  have hl : ((l.drop lo).take n).length = n := by simp; omega
  have := run_convert_bytes_back w 123 9 5 ⟨g, lo, none⟩ c ((l.drop lo).take n) Try.underlying123 Try.underlying5 Try.underlying9 (fun j hj => by
    have hjn : j < n := by omega
    rw [Addr.add_lit, h5 (lo + j) (by omega)]
    simp [List.getD, List.getElem?_eq_getElem (show lo + j < l.length by omega)])
  rw [hl] at this
  exact this
end Go.Proofs.Ytefmlbckbhlgdaa
namespace Go.Proofs.Ytefmlbckbhlgdaa
open Go.RowKit
set_option maxRecDepth 100000
theorem wordS_congr {f g : Nat → Nat} : ∀ {k : Nat}, (∀ j, j < k → f j = g j) → wordS f k = wordS g k
  | 0, _ => rfl
  | k + 1, h => by rw [wordS, wordS, wordS_congr (fun j hj => h j (by omega)), h k (by omega)]
theorem absW_eq {A : NF} {l : List UInt8} {i : Nat} (h : InW (A i)) : absW A l i = xr (A i) (wordS (fun k => (l.getD (8 * i + k) 0).toNat) 8 : Nat) :=
  wordX_eq h (fun k => (l.getD (8 * i + k) 0).toNat) (fun _ => UInt8.toNat_lt _) 8 (Nat.le_refl _)
theorem getD_drop (l : List UInt8) (a b : Nat) : (l.drop a).getD b 0 = l.getD (a + b) 0 := by simp [List.getD]
theorem getD_take (l : List UInt8) {a b : Nat} (h : b < a) : (l.take a).getD b 0 = l.getD b 0 := by simp [List.getD, h]
theorem word_sub (L : List UInt8) (j i : Nat) : wordS (fun k => ((bl (mkS ((L.drop (136 * j + 8 * i)).take 8))).getD k 0).toNat) 8 = wordS (fun k => ((L.drop (136 * j)).getD (8 * i + k) 0).toNat) 8 :=
  wordS_congr (fun k hk => by rw [bl_mk, getD_take _ hk, getD_drop, getD_drop, Nat.add_assoc])
/-- The ending of a text's blocks, byte by byte. -/
theorem tail_cons (k : Nat) : (List.replicate (k + 1) (0 : UInt8)).set 0 1 = 1 :: List.replicate k 0 := by simp [List.replicate_succ]
theorem pad_end (l : List UInt8) (k : Nat) (hk : k = 135 - l.length % 136) : (l ++ 1 :: List.replicate k 0).set (l.length + k) (((l ++ 1 :: List.replicate k (0 : UInt8)).getD (l.length + k) 0) ||| 128) = padL l := by
  have h1 : 136 - l.length % 136 = k + 1 := by have := Nat.mod_lt l.length (show 136 > 0 by omega); omega
  have h2 : (l ++ 1 :: List.replicate k (0 : UInt8)).getD (l.length + k) 0 = (1 :: List.replicate k (0 : UInt8)).getD k 0 := by
    simp [List.getD]
  rw [padL, h1, tailL, tail_cons, h2, Nat.add_sub_cancel, List.set_append_right _ _ (by omega), Nat.add_sub_cancel_left]
theorem pad_last (l : List UInt8) (k : Nat) : (l ++ 1 :: List.replicate k (0 : UInt8)).getD (l.length + k) 0 = 0 ∨ (l ++ 1 :: List.replicate k (0 : UInt8)).getD (l.length + k) 0 = 1 := by
  have h2 : (l ++ 1 :: List.replicate k (0 : UInt8)).getD (l.length + k) 0 = (1 :: List.replicate k (0 : UInt8)).getD k 0 := by
    simp [List.getD]
  rw [h2]
  cases k with
  | zero => exact .inr rfl
  | succ k => left; simp [List.getD]
theorem byte_or : ∀ b : UInt8, b = 0 ∨ b = 1 → IntKind.u8.wrap ((b.toNat : Int) + 128) = ((b ||| 128).toNat : Int) := by
  rintro b (rfl | rfl) <;> decide
/-- The bytes stay where another block is written. -/
theorem BB.setHigh {w : World} {base g n cap ga : Nat} {l : List UInt8} (h : BB w base (.slice (some ⟨g, 0, none⟩) n cap) l) (hne : g < ga) (i : Nat) (v : Value) : BB (w.setCell ⟨ga, i, none⟩ v) base (.slice (some ⟨g, 0, none⟩) n cap) l := by
  obtain ⟨g', cap', e, h1, h2, h3, h4, h5, h6, h7⟩ := h
  injection e with e1 e2 e3
  injection e1 with e1
  injection e1 with e1 _ _
  subst e1 e2 e3
  have hk := heap_setCell_other w ⟨ga, i, none⟩ g v (by dsimp only; omega)
  refine ⟨g, cap, rfl, h1, by rw [World.size_setCell]; exact h2, h3, h4, fun j hj => ?_, fun j hj => ?_, fun j hj => ?_⟩
  · rw [World.cell?_of_block (w := w) (a := ⟨g, j, none⟩) hk]; exact h5 j hj
  · rw [World.cell?_of_block (w := w) (a := ⟨g, j, none⟩) hk]; exact h6 j hj
  · rw [World.frozen?_of_block (w := w) (a := ⟨g, j, none⟩) hk]; exact h7 j hj
theorem BB.setRowHigh {w : World} {base g n cap ga : Nat} {l : List UInt8} (h : BB w base (.slice (some ⟨g, 0, none⟩) n cap) l) (hne : g < ga) (cs : Array Value) : BB (w.setRow ga cs) base (.slice (some ⟨g, 0, none⟩) n cap) l := by
  obtain ⟨g', cap', e, h1, h2, h3, h4, h5, h6, h7⟩ := h
  injection e with e1 e2 e3
  injection e1 with e1
  injection e1 with e1 _ _
  subst e1 e2 e3
  have hk := setRow_other w ga g cs (by omega)
  refine ⟨g, cap, rfl, h1, by rw [setRow_size]; exact h2, h3, h4, fun j hj => ?_, fun j hj => ?_, fun j hj => ?_⟩
  · rw [World.cell?_of_block (w := w) (a := ⟨g, j, none⟩) hk]; exact h5 j hj
  · rw [World.cell?_of_block (w := w) (a := ⟨g, j, none⟩) hk]; exact h6 j hj
  · rw [World.frozen?_of_block (w := w) (a := ⟨g, j, none⟩) hk]; exact h7 j hj
theorem outB_at2 {A : NF} {i : Nat} (h : InW (A (i / 8))) : IntKind.u8.wrap ((A (i / 8) / 2 ^ (8 * (i % 8))).tmod 256) = ((outB A i).toNat : Int) := by
  have h0 : 0 ≤ A (i / 8) / 2 ^ (8 * (i % 8)) := Int.ediv_nonneg h.1 (Int.le_of_lt (Int.pow_pos (by decide)))
  rw [Int.tmod_eq_emod_of_nonneg h0]
  unfold outB
  generalize A (i / 8) / 2 ^ (8 * (i % 8)) = z
  simp [IntKind.wrap, IntKind.bits, IntKind.signed]
  omega
def lenOfS : Value → Nat
  | .slice _ n _ => n
  | _ => 0

set_option maxHeartbeats 8000000 in
theorem rsum_any (s : ByteArray) (hs : s.size ≤ 1000000000) (w : World) : Calls Try.prog 48 #[.string s] w fun e w' => e = .returned (.string (mkS (sumL (bl s)))) ∧ Below w.heap.size w w' := by
  have hcv := run_bytes_of_string (P := Try.prog) w 9 123 5 s Try.underlying9 Try.underlying123 Try.underlying5
  have hge := grownCap_ge w s.size 0 5
  have hle := grownCap_le_maxLen w s.size 0 5 (by unfold maxLen; omega)
  have hbb := BB.of_string w s _ hge hle
  generalize grownCap w s.size 0 5 = C at *
  have HB := Lib.hid ((Below.refl w.heap.size w).drew.alloc (Nat.le_refl _) (.cells (bytesRow s C) 5 ((bytesRow s C).size, (bytesRow s C).size + 1)))
  generalize w.drew.alloc (.cells (bytesRow s C) 5 ((bytesRow s C).size, (bytesRow s C).size + 1)) = W1 at *
  have hbl := bl_length s
  have HCV := Lib.hid hcv
  have BF := Lib.hid hbb
  clear hcv hbb hge hle
  generalize hl : bl s = l at *
  have HL := Lib.hid hl
  clear hl
  go_enter Try.func48, Try.ntmps48
  go_upto_region 2 with (simp only [HCV.out, Result.andThen_ok])
  have hg1 : w.heap.size < W1.heap.size := by obtain ⟨g, cap, e, h1, h2, _⟩ := BF.out; omega
  have BFA := Lib.hid (BF.out.below ((Below.refl W1.heap.size W1).alloc (Nat.le_refl _) (.cells #[.int .u8 1] 5)) (Nat.le_refl _))
  have HBA := Lib.hid (HB.out.alloc (Nat.le_of_lt hg1) (.cells #[.int .u8 1] 5))
  have hll : l.length ≤ 1000000000 := by omega
  rw [← hbl] at BFA ⊢
  have HBL := Lib.hid hbl
  clear hbl hs
  go_upto_region 3 with (at_builtin; refine wpList_append_bb rfl _ _ rfl w.heap.size _ l rfl BFA.out ⟨W1.heap.size, 0, none⟩ 1 1 rfl (one_cell_new (b := 1) (by decide) 0 (by simp)) (by omega) (by rw [World.size_alloc]; omega) ?_; intro v' w5 hb5 hw5 hz5)
  have B0 := Lib.hid (show BB w5 w.heap.size v' (l ++ 1 :: List.replicate 0 0) from hb5)
  have HB0 := Lib.hid (hw5 _ HBA.out)
  clear hb5 hw5 hz5 HBA BFA BF HB HCV
  go_loopw [3] (fun v wr => ∃ k : Nat, k + l.length % 136 ≤ 135 ∧ Hid (BB wr w.heap.size v (l ++ 1 :: List.replicate k 0)) ∧ Hid (Below w.heap.size w wr)) (fun v _ => 2000000000 - lenOfS v)
  case atStart => exact ⟨0, by omega, B0, HB0⟩
  case round =>
    clear B0 HB0
    obtain ⟨k, hk, hb, hw⟩ := hrel
    have HB := Lib.hid hw.out
    have hbb := hb.out
    have hb2 := hb.out
    clear hw hb
    obtain ⟨g, cap, rfl, h1, h2, h3, h4, h5, h6, h7⟩ := hbb
    have BF := Lib.hid hb2
    have hlen : (l ++ 1 :: List.replicate k (0 : UInt8)).length = l.length + 1 + k := by simp; omega
    rw [hlen] at BF h3
    rw [hlen]
    clear h5 h6 h7 hb2
    clear h3
    generalize hn : l.length + 1 + k = n at *
    have HN := Lib.hid hn
    have HLEN := Lib.hid hlen
    clear hlen
    have hmm : (n : Int).tmod 136 = ((n % 136 : Nat) : Int) := by rw [Int.tmod_eq_emod_of_nonneg (by omega)]; omega
    by_cases hr : n % 136 = 0
    · have HK := Lib.hid (show k = 135 - l.length % 136 by omega)
      rw [hr] at hmm
      replace hmm : (n : Int).tmod 136 = 0 := hmm
      clear hk hn
      have HP := Lib.hid (pad_end l k HK.out)
      have HPL := Lib.hid (pad_last l k)
      have HN3 := Lib.hid (show l.length + k = n - 1 ∧ 0 < n by have := HN.out; omega)
      have HNN := Lib.hid (show n = 136 * (l.length / 136 + 1) by have := HN.out; have := HK.out; omega)
      have hc1 : wr.cell? ⟨g, n - 1, none⟩ = some (.int .u8 (((l ++ 1 :: List.replicate k (0 : UInt8)).getD (l.length + k) 0).toNat : Int)) := by
        obtain ⟨g', cap', e, _, _, _, _, k5, _⟩ := BF.out
        injection e with e1 _ _
        injection e1 with e1
        injection e1 with e1 _ _
        subst e1
        rw [HN3.out.1]
        exact k5 (n - 1) (by rw [HLEN.out]; have := HN3.out.2; omega)
      have hf1 : wr.frozen? ⟨g, n - 1, none⟩ = false := by
        obtain ⟨g', cap', e, _, _, k3, _, _, _, k7⟩ := BF.out
        injection e with e1 _ _
        injection e1 with e1
        injection e1 with e1 _ _
        subst e1
        exact k7 (n - 1) (by rw [HLEN.out] at k3; have := HN3.out.2; omega)
      have hor := byte_or _ HPL.out
      have BF2 : Hid (∀ v, v = ((((l ++ 1 :: List.replicate k (0 : UInt8)).getD (l.length + k) 0) ||| 128).toNat : Int) → BB (wr.setCell ⟨g, n - 1, none⟩ (.int .u8 v)) w.heap.size (.slice (some ⟨g, 0, none⟩) n cap) (padL l)) := Lib.hid (fun v hv => by
        have h0 := BF.out
        rw [← HLEN.out] at h0
        have := h0.set (l.length + k) (by rw [HLEN.out]; have := HN3.out; omega) _ hv
        rwa [HN3.out.1, ← HN3.out.1, HP.out, HLEN.out, HN3.out.1] at this)
      generalize (l ++ 1 :: List.replicate k (0 : UInt8)).getD (l.length + k) 0 = lb at *
      generalize (lb ||| 128).toNat = x2 at *
      generalize (lb.toNat : Int) = x1 at *
      have e0 : (0 : Int) ≤ (n : Int) - 1 := by have := HN3.out.2; omega
      have e1 : (n : Int) - 1 < n := by omega
      have e2 : ((n : Int) - 1).toNat = n - 1 := by have := HN3.out.2; omega
      have hnb : n ≤ 1000000200 := by have := HNN.out; omega
      clear hr
      go_upto_region 6 with (fail)
      have BF3 := Lib.hid (BF2.out _ rfl)
      have HB3 := Lib.hid (HB.out.setCell (p := ⟨g, n - 1, none⟩) h1 (.int .u8 (x2 : Int)))
      have HFA := Lib.hid (show ∃ FA, FA = sumA (l.length / 136 + 1) (fun _ => 0) (padL l) from ⟨_, rfl⟩)
      obtain ⟨FA, hfa⟩ := HFA.out
      have RS2 : Hid (sumL l = outL FA) := Lib.hid (by rw [hfa]; rfl)
      have HFA2 := Lib.hid hfa.symm
      have HPN := Lib.hid (show (padL l).length = n by rw [padL_length, HNN.out])
      clear BF BF2 HB HFA hfa hmm hor e0 e1 e2 hc1 hf1 HP HPL HN3 HK HN HLEN
      generalize padL l = L at *
      generalize wr.setCell ⟨g, n - 1, none⟩ (.int .u8 (x2 : Int)) = W6 at *
      have hz6 : g < W6.heap.size := by obtain ⟨g', cap', e, _, k2, _⟩ := BF3.out; injection e with e1 _ _; injection e1 with e1; injection e1 with e1 _ _; omega
      have BF4 := Lib.hid (BF3.out.below ((Below.refl W6.heap.size W6).alloc (Nat.le_refl _) (.cells (z25 .u64) 140)) (Nat.le_refl _))
      have HB4 := Lib.hid (HB3.out.alloc (show w.heap.size ≤ W6.heap.size by omega) (.cells (z25 .u64) 140))
      have R := Lib.hid (show RowAt (W6.alloc (.cells (z25 .u64) 140)) W6.heap.size (rV 25 .u64 (fun _ => 0)) 140 from RowAt.new W6 (z25 .u64) 140)
      clear BF3 HB3
      go_upto_region 7 with (first
        | (refine wpList_build_to rfl _ _ rfl (z25 .u64) ?hf ?_; case hf => kernel_rfl)
        | (refine wpList_store_row rfl 140 _ _ rfl W6.heap.size (z25 .u64) rfl rfl 140 (z25 .u64) ?hg ?hi ?ho ?h1 ?_; (case hg => exact RowAt.new W6 (z25 .u64) 140); (case hi => kernel_rfl); (case ho => kernel_rfl); (case h1 => kernel_rfl)))
      rw [World.setRow_alloc_new]
      generalize W6.alloc (.cells (z25 .u64) 140) = W7 at *
      generalize W6.heap.size = ga at *
      have HIN : Hid (∀ j, InW ((fun _ => 0 : NF) j)) := Lib.hid (fun j => ⟨Int.le_refl 0, (by decide : (0 : Int) < 18446744073709551616)⟩)
      generalize l.length / 136 + 1 = N at *
      go_upto_region 8 with (fail)
      go_loopw [5] (fun c wr => ∃ (j r : Nat) (A : NF), j + r = N ∧ c = .int .i64 ((136 * j : Nat) : Int) ∧ Hid (∀ i, InW (A i)) ∧ Hid (sumA r A (L.drop (136 * j)) = FA) ∧ Hid (BB wr w.heap.size (.slice (some ⟨g, 0, none⟩) n cap) L) ∧ Hid (RowAt wr ga (rV 25 .u64 A) 140) ∧ Hid (Below w.heap.size w wr)) (fun c _ => n - (intOf c).toNat)
      case atStart => exact ⟨0, N, _, by omega, rfl, HIN, HFA2, BF4, R, HB4⟩
      case round =>
        clear HIN HFA2 BF4 R HB4
        obtain ⟨j, r, A, hj, rfl, hin, hfa, hbf, hrow, hb⟩ := hrel
        have R := Lib.hid hrow.out
        have HB := Lib.hid hb.out
        have HFA := Lib.hid hfa.out
        have BF := Lib.hid hbf.out
        have HIN := Lib.hid hin.out
        clear hrow hb hfa hbf hin
        rcases Nat.eq_zero_or_pos r with rfl | hr
        · have hjn : 136 * j = n := by have := HNN.out; omega
          rw [hjn]
          have HFA2 := Lib.hid (show A = FA from HFA.out)
          have RF := Lib.hid (HFA2.out ▸ R.out)
          have HINF := Lib.hid (HFA2.out ▸ HIN.out)
          clear hj hjn HFA HIN R BF HFA2
          have hga := RF.out.lt
          go_upto_region 16 with (fail)
          have O0 := Lib.hid (OwnB.start (w := wr) (show ga + 1 ≤ wr.heap.size from hga) 0)
          have RF2 := Lib.hid (RF.out.alloc (.cells #[] 5))
          have HB2 := Lib.hid (HB.out.alloc HB.out.size (.cells #[] 5))
          clear RF HB
          generalize hob : wr.heap.size = ob at *
          generalize wr.alloc (.cells #[] 5) = W8 at *
          go_upto_region 17 with (fail)
          go_loopw [7, 8] (fun v c wr => ∃ i : Nat, i ≤ 32 ∧ c = .int .i64 i ∧ Hid (OwnB wr (ga + 1) v ((outL FA).take i)) ∧ Hid (RowAt wr ga (rV 25 .u64 FA) 140) ∧ Hid (Below w.heap.size w wr)) (fun _ c _ => 32 - (intOf c).toNat)
          case atStart => exact ⟨0, by omega, rfl, O0, RF2, HB2⟩
          case round =>
            clear RF2 HB2 O0
            obtain ⟨i, hi2, rfl, hown, hrow, hb⟩ := hrel
            have R := Lib.hid hrow.out
            have HB := Lib.hid hb.out
            have HO := Lib.hid hown.out
            clear hrow hb hown
            by_cases hlt : i < 32
            · have a0 := R.out.num (i := i / 8) (by omega)
              have hdv : (i : Int).tdiv 8 = ((i / 8 : Nat) : Int) := by rw [Int.tdiv_eq_ediv_of_nonneg (by omega)]; omega
              have hmd : (i : Int).tmod 8 = ((i % 8 : Nat) : Int) := by rw [Int.tmod_eq_emod_of_nonneg (by omega)]; omega
              have k8 : i % 8 < 8 := by omega
              have i4 : i / 8 < 25 := by omega
              have hob2 := Lib.hid (outB_at2 (A := FA) (i := i) (HINF.out _))
              have hst := Lib.hid (outL_step FA hlt)
              have hlen : ((outL FA).take i).length ≤ 32 := by rw [List.length_take, outL_length]; omega
              have HLL := Lib.hid hlen
              clear hlen
              have hob3 : (FA (i / 8) / 2 ^ (8 * (i % 8))).tmod 256 % 256 = ((outB FA i).toNat : Int) := by
                have := hob2.out
                rw [IntKind.wrap_u8'] at this
                exact this
              have HOX := Lib.hid hob3
              have OA := Lib.hid (HO.out.alloc (.cells #[.int .u8 ((FA (i / 8) / 2 ^ (8 * (i % 8))).tmod 256 % 256)] 5))
              have hg1 := R.out.lt
              clear hob2 hob3
              go_upto_region 18 with (at_builtin; refine wpList_append_bytes rfl _ _ rfl (ga + 1) _ ((outL FA).take i) rfl OA.out ⟨wr.heap.size, 0, none⟩ 1 1 [outB FA i] rfl rfl (one_cell_new HOX.out) (by have := HLL.out; omega) (by rw [World.size_alloc]; omega) ?_; intro v' w5 hown5 hb5 hz5)
              have HBa := Lib.hid (hb5 _ ((Below.refl (ga + 1) wr).alloc hg1 (.cells #[.int .u8 ((FA (i / 8) / 2 ^ (8 * (i % 8))).tmod 256 % 256)] 5)))
              rw [← hst.out] at hown5
              have HO5 := Lib.hid hown5
              clear hown5 hb5 hz5 OA HOX a0 hdv hmd k8 i4
              go_wp2
              exact ⟨⟨i + 1, by omega, by simp, HO5, Lib.hid (R.out.below HBa.out (Nat.lt_succ_self _)), Lib.hid (HB.out.trans (HBa.out.mono (by omega)))⟩, by simp [intOf]; omega⟩
            · obtain rfl : i = 32 := by omega
              have HO2 := Lib.hid (show OwnB wr (ga + 1) u7 (outL FA) from by have := HO.out; rwa [List.take_of_length_le (by rw [outL_length]; omega)] at this)
              have HCV := Lib.hid (show (convert 123 9 u7).run Try.prog wr = .ok (.string (mkS (outL FA))) wr from HO2.out.conv)
              go_wp2_with (simp only [HCV.out, Result.andThen_ok])
              go_ret
              exact ⟨by rw [RS2.out]; rfl, HB.out⟩
        · obtain ⟨r, rfl⟩ : ∃ i, r = i + 1 := ⟨r - 1, by omega⟩
          have hN := HNN.out
          have hjn : decide (((136 * j : Nat) : Int) < (n : Int)) = true := by simp; omega
          have HJ := Lib.hid (show 136 * j + 136 ≤ n by omega)
          have HJ2 := Lib.hid hj
          have hj136 : ((136 * j : Nat) : Int) = 136 * j := by omega
          clear hj
          have hjn3 : 136 * j < n := by have := HJ.out; omega
          clear hjn
          generalize hfr : 136 * j = fr at *
          have HFR := Lib.hid hfr
          clear hN hfr hj136
          go_upto_region 11 with (fail)
          go_loopw [6] (fun c wr => ∃ i : Nat, i ≤ 17 ∧ c = .int .i64 i ∧ Hid (BB wr w.heap.size (.slice (some ⟨g, 0, none⟩) n cap) L) ∧ Hid (RowAt wr ga (rV 25 .u64 (upto i (absW A (L.drop fr)) A)) 140) ∧ Hid (Below w.heap.size w wr)) (fun c _ => 17 - (intOf c).toNat)
          case atStart => exact ⟨0, by omega, rfl, BF, Lib.hid (by rw [upto_zero]; exact R.out), HB⟩
          case round =>
            clear R HB BF
            obtain ⟨i, hi2, rfl, hbf, hrow, hb⟩ := hrel
            have R := Lib.hid hrow.out
            have HB := Lib.hid hb.out
            have BF := Lib.hid hbf.out
            clear hrow hb hbf
            by_cases hlt : i < 17
            · have a0 := R.out.drew.num (i := i) (by omega)
              have f0 := R.out.drew.frozen i
              rw [upto_at (Nat.le_refl _)] at a0
              have HCV : Hid (∀ c, (convert 123 9 (.slice (some ⟨g, fr + 8 * i, none⟩) 8 c)).run Try.prog wr.drew = .ok (.string (mkS ((L.drop (fr + 8 * i)).take 8))) wr.drew) := Lib.hid (fun c => by
                have h0 := BF.out.below (Below.refl wr.heap.size wr).drew (Nat.le_refl _)
                rw [← HPN.out] at h0
                exact h0.conv (fr + 8 * i) 8 c (by rw [HPN.out]; have := HJ.out; omega))
              have hsz8 : (mkS ((L.drop (fr + 8 * i)).take 8)).size = 8 := by rw [mk_size, List.length_take, List.length_drop, HPN.out]; have := HJ.out; omega
              have KW := Lib.hid (fun W => word_any (mkS ((L.drop (fr + 8 * i)).take 8)) hsz8 W)
              have HAW : Hid (xr (A i) (wordS (fun k => ((bl (mkS ((L.drop (fr + 8 * i)).take 8))).getD k 0).toNat) 8 : Nat) = absW A (L.drop fr) i) := Lib.hid (by
                rw [absW_eq (HIN.out i), ← HFR.out, word_sub])
              have e0 : (i : Int) < 25 := by omega
              have hjo := HJ.out
              have hcap : n ≤ cap := by
                obtain ⟨g', cap', e, _, _, k3, _⟩ := BF.out
                injection e with _ _ e3
                rw [HPN.out] at k3
                omega
              have m1 : IntKind.i64.wrap (8 * (i : Int)) = ((8 * i : Nat) : Int) := by rw [← wrapN (n := 8 * i) (by omega)]; congr 1
              have m2 : IntKind.i64.wrap ((fr : Int) + ((8 * i : Nat) : Int)) = ((fr + 8 * i : Nat) : Int) := by rw [← wrapN (n := fr + 8 * i) (by omega)]; congr 1
              have m3 : IntKind.i64.wrap (((fr + 8 * i : Nat) : Int) + 8) = ((fr + 8 * i + 8 : Nat) : Int) := by rw [← wrapN (n := fr + 8 * i + 8) (by omega)]; congr 1
              have z1 : ((fr + 8 * i : Nat) : Int) ≤ ((fr + 8 * i + 8 : Nat) : Int) := by omega
              have z2 : ((fr + 8 * i + 8 : Nat) : Int) ≤ (cap : Int) := by omega
              have z3 : fr + 8 * i + 8 - (fr + 8 * i) = 8 := by omega
              have hcp : ¬ cap = fr + 8 * i := by omega
              have RC := Lib.hid R.out
              have BFC := Lib.hid BF.out
              clear R BF hjo hcap hsz8
              generalize wordS (fun k => ((bl (mkS ((L.drop (fr + 8 * i)).take 8))).getD k 0).toNat) 8 = wd at *
              generalize mkS ((L.drop (fr + 8 * i)).take 8) = sub at *
              generalize fr + 8 * i + 8 = q at *
              generalize fr + 8 * i = p at *
              generalize 8 * i = i8 at *
              generalize A i = ai at *
              go_upto_region 13 with (fail)
              (refine region_tail 19 mix ?hB ?_; case hB => kernel_rfl)
              (simp only [List.take_succ_cons, List.take_zero, List.drop_succ_cons, List.drop_zero])
              (iterate 15 (with_reducible refine wpStill_step ?_; intro K hK; go_simp; with_reducible refine hK _ ?_; clear hK K))
              (with_reducible refine wpStill_step ?_; intro K hK; go_simp; simp only [HCV.out, Result.andThen_ok]; refine ⟨trivial, hK _ ?_⟩; clear hK K)
              (with_reducible refine wpStill_step ?_; intro K hK; go_simp; refine ⟨_, KW.out _, hK _ ?_⟩; clear hK K)
              (iterate 2 (with_reducible refine wpStill_step ?_; intro K hK; go_simp; with_reducible refine hK _ ?_; clear hK K))
              with_reducible refine wpStill_nil ?_
              go_wp2
              have RN := Lib.hid ((RC.out.step (v := bits .xor .u64 ai (wd : Int)) (by rw [← HAW.out]; rfl)).drew)
              exact ⟨⟨i + 1, by omega, by simp, Lib.hid ((BFC.out.setHigh (ga := ga) hz6 i _).below (Below.refl _ _).drew (Nat.le_refl _)), RN, Lib.hid (HB.out.setCell (p := ⟨ga, i, none⟩) (by dsimp only; omega) _).drew⟩, by simp [intOf]; omega⟩
            · obtain rfl : i = 17 := by omega
              have R2 := Lib.hid (show RowAt wr ga (rV 25 .u64 (absb A (L.drop fr))) 140 from R.out)
              have HIA : Hid (∀ i, InW (absb A (L.drop fr) i)) := Lib.hid (fun i => by
                unfold absb upto
                split
                · rw [absW_eq (HIN.out i)]; exact xr_in _ _
                · exact HIN.out i)
              have hfa := HFA.out
              rw [sumA] at hfa
              clear R
              generalize absb A (L.drop fr) = A1 at *
              have KM := Lib.hid (fun W => rmix_any A1 HIA.out W)
              have HIM := Lib.hid (show ∀ i, InW (mixF A1 i) from fun i => mix_in HIA.out 24 i)
              have HFB := Lib.hid (show sumA r (mixF A1) (L.drop (136 * (j + 1))) = FA from by
                rw [List.drop_drop] at hfa
                rw [show 136 * (j + 1) = fr + 136 by have := HFR.out; omega]
                exact hfa)
              clear hfa HFA HIN
              go_upto_region 14 with (fail)
              go_step
              refine wpList_load_row rfl 140 _ rfl ga rfl 140 (rV 25 .u64 A1) (0, 0) _ R2.out Try.underlying140 rfl (by kernel_rfl) ?_
              go_upto_region 9 with (first
                | (go_at_call 91; (refine (KM.out _).mono ?_); rintro e w9 ⟨rfl, hb⟩; replace BF := Lib.hid (BF.out.below hb (Nat.le_refl _)); replace R2 := Lib.hid (R2.out.belowS hb); replace HB := Lib.hid (HB.out.trans (hb.mono HB.out.size)); clear hb)
                | (refine wpList_store_row rfl 140 _ _ rfl ga (rV 25 .u64 (mixF A1)) rfl rfl 140 (rV 25 .u64 A1) R2.out ?hi ?ho rV_one ?_; (case hi => kernel_rfl); (case ho => rw [rV_size, rV_size])))
              have R3 := Lib.hid (R2.out.row (rV 25 .u64 (mixF A1)))
              have HB3 := Lib.hid (below_setRow HB.out (g := ga) (by omega) (rV 25 .u64 (mixF A1)))
              have BF3 := Lib.hid (BF.out.setRowHigh (ga := ga) hz6 (rV 25 .u64 (mixF A1)))
              clear R2 HB BF KM
              generalize w9.setRow ga (rV 25 .u64 (mixF A1)) = W9 at *
              generalize mixF A1 = A2 at *
              have hf2 : IntKind.i64.wrap ((fr : Int) + 136) = ((fr + 136 : Nat) : Int) := by rw [← wrapN (n := fr + 136) (by have := HJ.out; omega)]; congr 1
              have hf3 := HJ.out
              go_wp2
              exact ⟨⟨j + 1, r, A2, by have := HJ2.out; omega, by have := HFR.out; rw [show 136 * (j + 1) = fr + 136 by omega]; simp, HIM, HFB, BF3, R3, HB3⟩, by simp [intOf]; omega⟩
    · have hr2 : ((n % 136 : Nat) : Int) > 0 := by omega
      have HK := Lib.hid (show (k + 1) + l.length % 136 ≤ 135 by omega)
      have HN2 := Lib.hid (show n ≤ 2000000000 - 1 by omega)
      generalize n % 136 = r at *
      have hg1 : w.heap.size < wr.heap.size := by omega
      have BFA := Lib.hid (BF.out.below ((Below.refl wr.heap.size wr).alloc (Nat.le_refl _) (.cells #[.int .u8 0] 5)) (Nat.le_refl _))
      have HBA := Lib.hid (HB.out.alloc (Nat.le_of_lt hg1) (.cells #[.int .u8 0] 5))
      have HLB := Lib.hid (show (l ++ 1 :: List.replicate k (0 : UInt8)).length + 1 ≤ 140737488355328 by rw [HLEN.out]; omega)
      clear hk hn
      go_wp2_with (at_builtin; refine wpList_append_bb rfl _ _ rfl w.heap.size _ (l ++ 1 :: List.replicate k 0) rfl BFA.out ⟨wr.heap.size, 0, none⟩ 1 0 rfl (one_cell_new (b := 0) (by decide) 0 (by simp)) HLB.out (by rw [World.size_alloc]; omega) ?_; intro v' w5 hb5 hw5 hz5)
      have hlen5 : lenOfS v' = n + 1 := by
        obtain ⟨g', cap', e, _⟩ := hb5
        rw [e]
        show ((l ++ 1 :: List.replicate k (0 : UInt8)) ++ [0]).length = _
        rw [List.length_append, HLEN.out]
        rfl
      refine ⟨⟨k + 1, HK.out, Lib.hid (by rw [List.replicate_succ']; simpa using hb5), Lib.hid (hw5 _ HBA.out)⟩, ?_⟩
      rw [hlen5]
      have := HN2.out
      show 2000000000 - (n + 1) < 2000000000 - n
      omega
end Go.Proofs.Ytefmlbckbhlgdaa
