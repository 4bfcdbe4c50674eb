/- Numbers read: u256.From over 32 bytes. -/
import Derived.Test.YthipnbiilobjeaaU7
import Derived.Laws.Bits64b
namespace Go.Proofs.Ythipnbiilobjeaa
open Go.RowKit Go.Shelf
set_option maxRecDepth 100000

/-- The words of a number of which the first 'i' bytes (the highest first) are in. -/
def pw (f : Nat → Nat) : Nat → Nat → Nat
  | 0, _ => 0
  | i + 1, q => if (31 - i) / 8 = q then pw f i q + f i * 2 ^ (8 * ((31 - i) % 8)) else pw f i q
def pU (f : Nat → Nat) (i : Nat) : U4 := ((pw f i 0 : Nat), (pw f i 1 : Nat), (pw f i 2 : Nat), (pw f i 3 : Nat))
def byF (s : ByteArray) (k : Nat) : Nat := ((bl s).getD k 0).toNat
/-- The number that 32 bytes are. -/
def fromU (s : ByteArray) : U4 := pU (byF s) 32

theorem byF_lt (s : ByteArray) (k : Nat) : byF s k < 256 := UInt8.toNat_lt _

theorem pw_dvd (f : Nat → Nat) : ∀ (i q : Nat), i + 8 * q ≤ 32 → 2 ^ (8 * (32 - 8 * q - i)) ∣ pw f i q
  | 0, _, _ => ⟨0, by simp [pw]⟩
  | i + 1, q, h => by
    have ih := pw_dvd f i q (by omega)
    have h2 : 2 ^ (8 * (32 - 8 * q - (i + 1))) ∣ pw f i q := Nat.dvd_trans (Nat.pow_dvd_pow 2 (by omega)) ih
    rw [pw]
    split
    · rename_i e
      refine Nat.dvd_add h2 (Nat.dvd_trans (Nat.pow_dvd_pow 2 (by omega)) (Nat.dvd_mul_left _ _))
    · exact h2
theorem pw_mono (f : Nat → Nat) (q : Nat) : ∀ {i j : Nat}, i ≤ j → pw f i q ≤ pw f j q := by
  intro i j h
  induction j with
  | zero => have : i = 0 := by omega
            subst this; exact Nat.le_refl _
  | succ j ih =>
    by_cases e : i = j + 1
    · subst e; exact Nat.le_refl _
    · refine Nat.le_trans (ih (by omega)) ?_
      rw [pw]
      split <;> omega
theorem pw_full (f : Nat → Nat) : pw f 32 0 = f 24 * 72057594037927936 + f 25 * 281474976710656 + f 26 * 1099511627776 + f 27 * 4294967296 + f 28 * 16777216 + f 29 * 65536 + f 30 * 256 + f 31 ∧
    pw f 32 1 = f 16 * 72057594037927936 + f 17 * 281474976710656 + f 18 * 1099511627776 + f 19 * 4294967296 + f 20 * 16777216 + f 21 * 65536 + f 22 * 256 + f 23 ∧
    pw f 32 2 = f 8 * 72057594037927936 + f 9 * 281474976710656 + f 10 * 1099511627776 + f 11 * 4294967296 + f 12 * 16777216 + f 13 * 65536 + f 14 * 256 + f 15 ∧
    pw f 32 3 = f 0 * 72057594037927936 + f 1 * 281474976710656 + f 2 * 1099511627776 + f 3 * 4294967296 + f 4 * 16777216 + f 5 * 65536 + f 6 * 256 + f 7 := by
  refine ⟨?_, ?_, ?_, ?_⟩ <;> simp [pw]
theorem pw_lt (f : Nat → Nat) (hf : ∀ k, f k < 256) {i q : Nat} (hi : i ≤ 32) (hq : q < 4) : pw f i q < 18446744073709551616 := by
  refine Nat.lt_of_le_of_lt (pw_mono f q hi) ?_
  obtain ⟨h0, h1, h2, h3⟩ := pw_full f
  have : q = 0 ∨ q = 1 ∨ q = 2 ∨ q = 3 := by omega
  rcases this with rfl | rfl | rfl | rfl
  · rw [h0]
    have := hf 24; have := hf 25; have := hf 26; have := hf 27; have := hf 28; have := hf 29; have := hf 30; have := hf 31
    omega
  · rw [h1]
    have := hf 16; have := hf 17; have := hf 18; have := hf 19; have := hf 20; have := hf 21; have := hf 22; have := hf 23
    omega
  · rw [h2]
    have := hf 8; have := hf 9; have := hf 10; have := hf 11; have := hf 12; have := hf 13; have := hf 14; have := hf 15
    omega
  · rw [h3]
    have := hf 0; have := hf 1; have := hf 2; have := hf 3; have := hf 4; have := hf 5; have := hf 6; have := hf 7
    omega
theorem pU_ok (f : Nat → Nat) (hf : ∀ k, f k < 256) {i : Nat} (hi : i ≤ 32) : (pU f i).ok := by
  have h0 := pw_lt f hf hi (show 0 < 4 by omega)
  have h1 := pw_lt f hf hi (show 1 < 4 by omega)
  have h2 := pw_lt f hf hi (show 2 < 4 by omega)
  have h3 := pw_lt f hf hi (show 3 < 4 by omega)
  refine ⟨⟨?_, ?_⟩, ⟨?_, ?_⟩, ⟨?_, ?_⟩, ⟨?_, ?_⟩⟩ <;> (simp only [pU]; omega)
theorem fromU_ok (s : ByteArray) : (fromU s).ok := pU_ok _ (byF_lt s) (Nat.le_refl _)
/-- A byte more is laid into its word. -/
theorem pw_or (f : Nat → Nat) (hf : ∀ k, f k < 256) {i : Nat} (hi : i < 32) : Go.bits .or .u64 (pw f i ((31 - i) / 8) : Int) ((f i * 2 ^ (8 * ((31 - i) % 8)) : Nat) : Int) = (pw f (i + 1) ((31 - i) / 8) : Int) := by
  obtain ⟨c, hc⟩ := pw_dvd f i ((31 - i) / 8) (by omega)
  have hlt := pw_lt f hf (i := i) (q := (31 - i) / 8) (by omega) (by omega)
  have hl2 := pw_lt f hf (i := i + 1) (q := (31 - i) / 8) (by omega) (by omega)
  have e2 : pw f (i + 1) ((31 - i) / 8) = pw f i ((31 - i) / 8) + f i * 2 ^ (8 * ((31 - i) % 8)) := by rw [pw, if_pos rfl]
  rw [bits_or_u64_nat _ _ hlt (by omega), e2, hc]
  have e3 : 8 * (32 - 8 * ((31 - i) / 8) - i) = 8 * ((31 - i) % 8) + 8 := by omega
  rw [e3]
  have hb : f i * 2 ^ (8 * ((31 - i) % 8)) < 2 ^ (8 * ((31 - i) % 8) + 8) := by
    rw [Nat.pow_add, Nat.mul_comm]
    exact Nat.mul_lt_mul_of_pos_left (hf i) (Nat.two_pow_pos _)
  have := Nat.shiftLeft_add_eq_or_of_lt hb c
  rw [Nat.shiftLeft_eq, Nat.mul_comm] at this
  rw [← this]
theorem pw_wrap (f : Nat → Nat) (hf : ∀ k, f k < 256) {i : Nat} (hi : i < 32) : Go.bits .or .u64 (pw f i ((31 - i) / 8) : Int) (IntKind.u64.wrap (IntKind.u64.wrap (f i : Int) * 2 ^ (8 * ((31 - i) % 8)))) = (pw f (i + 1) ((31 - i) / 8) : Int) := by
  have h1 : IntKind.u64.wrap (f i : Int) = (f i : Int) := by
    have := hf i
    rw [IntKind.wrap_u64]; omega
  have hl2 := pw_lt f hf (i := i + 1) (q := (31 - i) / 8) (by omega) (by omega)
  have e2 : pw f (i + 1) ((31 - i) / 8) = pw f i ((31 - i) / 8) + f i * 2 ^ (8 * ((31 - i) % 8)) := by rw [pw, if_pos rfl]
  have e3 : (f i : Int) * 2 ^ (8 * ((31 - i) % 8)) = ((f i * 2 ^ (8 * ((31 - i) % 8)) : Nat) : Int) := by push_cast; rfl
  have h2 : IntKind.u64.wrap ((f i * 2 ^ (8 * ((31 - i) % 8)) : Nat) : Int) = ((f i * 2 ^ (8 * ((31 - i) % 8)) : Nat) : Int) := by
    rw [e2] at hl2
    generalize f i * 2 ^ (8 * ((31 - i) % 8)) = z at *
    rw [IntKind.wrap_u64]; omega
  rw [h1, e3, h2]
  exact pw_or f hf hi
theorem pU_set (f : Nat → Nat) {i : Nat} (hi : i < 32) : (u4c (pU f i)).setIfInBounds ((31 - i) / 8) (.int .u64 (pw f (i + 1) ((31 - i) / 8))) = u4c (pU f (i + 1)) := by
  have hq : (31 - i) / 8 = 0 ∨ (31 - i) / 8 = 1 ∨ (31 - i) / 8 = 2 ∨ (31 - i) / 8 = 3 := by omega
  have hp : ∀ q, q ≠ (31 - i) / 8 → pw f (i + 1) q = pw f i q := fun q h => by rw [pw, if_neg (fun e => h e.symm)]
  rcases hq with e | e | e | e <;> rw [e] at hp ⊢
  · simp [pU, hp 1 (by decide), hp 2 (by decide), hp 3 (by decide)]
  · simp [pU, hp 0 (by decide), hp 2 (by decide), hp 3 (by decide)]
  · simp [pU, hp 0 (by decide), hp 1 (by decide), hp 3 (by decide)]
  · simp [pU, hp 0 (by decide), hp 1 (by decide), hp 2 (by decide)]

/-- The signature that 65 bytes are. -/
def sgFrom (s : ByteArray) : Sg := (fromU (s.extract 0 32), fromU (s.extract 32 64), (((bl s).getD 64 0).toNat : Int))
theorem sgFrom_ok (s : ByteArray) : (sgFrom s).ok := ⟨fromU_ok _, fromU_ok _⟩
theorem extract_size {s : ByteArray} {a b : Nat} (h : b ≤ s.size) : (s.extract a b).size = b - a := by
  rw [ByteArray.size_extract]; omega

set_option maxHeartbeats 2000000 in
theorem fromU_any (s : ByteArray) (w : World) (hs : s.size = 32) : Calls Try.prog 115 #[.string s] w fun e w' => e = .returned (.tuple #[u4V (fromU s), .int .i64 0]) ∧ Below w.heap.size w w' := by
  have R0 := Lib.hid ((RowAt.new w (u4c (0, 0, 0, 0)) 78).alloc (.cells (u4c (0, 0, 0, 0)) 78))
  have R1 := Lib.hid (RowAt.new' (w.alloc (.cells (u4c (0, 0, 0, 0)) 78)) (u4c (0, 0, 0, 0)) 78 (k := w.heap.size + 1) (by simp))
  have HB := Lib.hid (belowA2 w (.cells (u4c (0, 0, 0, 0)) 78) (.cells (u4c (0, 0, 0, 0)) 78))
  have hz : u4c (0, 0, 0, 0) = u4c (pU (byF s) 0) := rfl
  have hes : fromU s = pU (byF s) 32 := rfl
  rw [hes]
  clear hes
  have HF := Lib.hid (fun k => byF_lt s k)
  have HG : Hid (∀ k (h : k < s.size), s[k].toNat = byF s k) := Lib.hid (fun k h => by rw [byF, sgetD h])
  have HS := Lib.hid (fun i (hi : i < 32) => pU_set (byF s) hi)
  have HO := Lib.hid (fun i (hi : i < 32) => pw_wrap (byF s) (byF_lt s) hi)
  generalize byF s = f at *
  have HZ := Lib.hid hz
  clear hz
  go_enter Try.func115, Try.ntmps115
  go_wp2
  go_loopw [13] (fun s wr => ∃ k : Nat, k ≤ 32 ∧ s = .int .i64 k ∧ Hid (RowAt wr w.heap.size (u4c (0, 0, 0, 0)) 78) ∧ Hid (RowAt wr (w.heap.size + 1) (u4c (pU f k)) 78) ∧ Hid (Below w.heap.size w wr)) (fun s _ => (32 - intOf s).toNat)
  case atStart => exact ⟨0, by omega, rfl, R0, Lib.hid (HZ.out ▸ R1.out), HB⟩
  case round =>
    clear R0 R1 HB HZ
    obtain ⟨k, hk, rfl, r0, r1, hb⟩ := hrel
    have R0 := Lib.hid r0.out
    have R1 := Lib.hid r1.out
    have HB := Lib.hid hb.out
    clear r0 r1 hb
    by_cases hlt : k < 32
    · have hq : (31 - (k : Int)).tdiv 8 = (((31 - k) / 8 : Nat) : Int) := by rw [Int.tdiv_eq_ediv_of_nonneg (by omega)]; omega
      have hm : (31 - (k : Int)).tmod 8 = (((31 - k) % 8 : Nat) : Int) := by rw [Int.tmod_eq_emod_of_nonneg (by omega)]; omega
      have hx : wr.cell? ⟨w.heap.size + 1, (31 - k) / 8, none⟩ = some (.int .u64 (pw f k ((31 - k) / 8))) := by
        rw [R1.out.cell]
        have : (31 - k) / 8 = 0 ∨ (31 - k) / 8 = 1 ∨ (31 - k) / 8 = 2 ∨ (31 - k) / 8 = 3 := by omega
        rcases this with e | e | e | e <;> rw [e] <;> rfl
      have hxf := R1.out.frozen ((31 - k) / 8)
      have hg := HG.out k (by omega)
      have hq4 : (31 - k) / 8 < 4 := by omega
      go_upto_region 8 with (fail)
      go_region
      go_wp2
      exact ⟨⟨k + 1, by omega, by simp, Lib.hid ((R0.out.other _ _ (by simp)).drew), Lib.hid ((R1.out.set _ _ (by rw [HO.out k hlt]; exact HS.out k hlt)).drew), Lib.hid ((HB.out.setCell (p := ⟨w.heap.size + 1, (31 - k) / 8, none⟩) (Nat.le_succ _) _).drew)⟩, by simp [intOf]; omega⟩
    · obtain rfl : k = 32 := by omega
      generalize hp : pU f 32 = p at *
      obtain ⟨s0, s1, s2, s3⟩ := p
      have HP := Lib.hid hp
      clear hp
      obtain ⟨x0, x1, x2, x3, xf0, xf1, xf2, xf3⟩ := R1.out.c4
      obtain ⟨y0, y1, y2, y3, yf0, yf1, yf2, yf3⟩ := R0.out.c4
      simp only at x0 x1 x2 x3
      go_wp2
      have RZ := (((R0.out.set 0 (.int .u64 s0) rfl).set 1 (.int .u64 s1) rfl).set 2 (.int .u64 s2) rfl).set 3 (.int .u64 s3) rfl
      obtain ⟨k0, k1, k2, k3, _⟩ := RZ.c4
      refine bodyPost_ret (v := .tuple #[u4V (s0, s1, s2, s3), .int .i64 0]) (by simp [results, Try.results115, go_sem, k0, k1, k2, k3]) rfl ?_
      exact ⟨by rw [HP.out], (((HB.out.setCell (p := ⟨w.heap.size, 0, none⟩) (Nat.le_refl _) _).setCell (p := ⟨w.heap.size, 1, none⟩) (Nat.le_refl _) _).setCell (p := ⟨w.heap.size, 2, none⟩) (Nat.le_refl _) _).setCell (p := ⟨w.heap.size, 3, none⟩) (Nat.le_refl _) _⟩
end Go.Proofs.Ythipnbiilobjeaa
