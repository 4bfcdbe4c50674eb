/- Sums, in plain words: blocks, what a text's sum is. States mixed. A text's sum. -/
import Derived.Test.YthipnbiilobjeaaKeL
import Derived.Test.YthipnbiilobjeaaBuf
import Derived.Test.YthipnbiilobjeaaStrs
import Derived.Test.YthipnbiilobjeaaKe2
namespace Go.Proofs.Ythipnbiilobjeaa
open Go.RowKit

/-- What stands behind a text in its blocks. -/
def tailL (n : Nat) : List UInt8 := ((List.replicate n 0).set 0 1).set (n - 1) ((((List.replicate n 0).set 0 1).getD (n - 1) 0) ||| 128)
def padL (l : List UInt8) : List UInt8 := l ++ tailL (136 - l.length % 136)
theorem tailL_length (n : Nat) : (tailL n).length = n := by simp [tailL]
theorem padL_length (l : List UInt8) : (padL l).length = 136 * (l.length / 136 + 1) := by
  rw [padL, List.length_append, tailL_length]
  have := Nat.mod_lt l.length (show 136 > 0 by omega)
  omega
def bAt (l : List UInt8) (i : Nat) : Int := ((l.getD i 0).toNat : Int)
theorem bAt_lt (l : List UInt8) (i : Nat) : 0 ≤ bAt l i ∧ bAt l i < 256 := by
  have := UInt8.toNat_lt (l.getD i 0)
  unfold bAt; omega
/-- A word with 'k' bytes mixed in, the lowest first. -/
def wordX (a : Int) (f : NF) : Nat → Int
  | 0 => a
  | k + 1 => xr (wordX a f k) (IntKind.u64.wrap (f k * 2 ^ (8 * k)))
/-- A block mixed into a state. -/
def wordT (A : NF) (l : List UInt8) (i k : Nat) : Int := wordX (A i) (fun k => bAt l (8 * i + k)) k
def absW (A : NF) (l : List UInt8) (i : Nat) : Int := wordT A l i 8
theorem wordT_zero (A : NF) (l : List UInt8) (i : Nat) : wordT A l i 0 = A i := rfl
theorem wordT_succ (A : NF) (l : List UInt8) (i k : Nat) : wordT A l i (k + 1) = xr (wordT A l i k) (IntKind.u64.wrap (bAt l (8 * i + k) * 2 ^ (8 * k))) := rfl
def absb (A : NF) (l : List UInt8) : NF := upto 17 (absW A l) A
def sumA : Nat → NF → List UInt8 → NF
  | 0, A, _ => A
  | n + 1, A, l => sumA n (mixF (absb A l)) (l.drop 136)
def outB (A : NF) (i : Nat) : UInt8 := UInt8.ofNat (A (i / 8) / 2 ^ (8 * (i % 8)) % 256).toNat
def outL (A : NF) : List UInt8 := (List.range 32).map (outB A)
/-- A text's sum. -/
def sumL (l : List UInt8) : List UInt8 := outL (sumA (l.length / 136 + 1) (fun _ => 0) (padL l))
theorem outB_at (A : NF) {i k : Nat} (hk : k < 8) : IntKind.u8.wrap (A i / 2 ^ (8 * k)) = ((outB A (8 * i + k)).toNat : Int) := by
  unfold outB
  rw [show (8 * i + k) / 8 = i by omega, show (8 * i + k) % 8 = k by omega]
  generalize A i / 2 ^ (8 * k) = z
  simp [IntKind.wrap, IntKind.bits, IntKind.signed]
  omega
theorem outL_step (A : NF) {i : Nat} (hi : i < 32) : (outL A).take (i + 1) = (outL A).take i ++ [outB A i] := by
  rw [List.take_add_one]
  congr 1
  unfold outL
  simp [hi]
theorem outL_length (A : NF) : (outL A).length = 32 := by simp [outL]
theorem sumL_length (l : List UInt8) : (sumL l).length = 32 := outL_length _
end Go.Proofs.Ythipnbiilobjeaa

namespace Go.Proofs.Ythipnbiilobjeaa
open Go.RowKit
set_option maxRecDepth 100000

theorem byT24_lt (i : Nat) : byT 24 i < 64 := byT_lt 24 i

/-- Two rows made and filled. -/
theorem mixRows (w : World) (z c d : Array Value) (T : TypeId) : let W := ((((w.alloc (.cells z T)).alloc (.cells z T)).setRow w.heap.size c).setRow (w.heap.size + 1) d)
    Below w.heap.size w W ∧ RowAt W w.heap.size c T ∧ RowAt W (w.heap.size + 1) d T :=
  ⟨below_setRow (below_setRow (((Below.refl w.heap.size w).alloc (Nat.le_refl _) _).alloc (by simp) _) (Nat.le_refl _) _) (by omega) _,
    (((RowAt.new w z T).alloc _).row c).otherRow (by omega) d, ((RowAt.new' (w.alloc (.cells z T)) z T (by simp)).otherRow (by omega) c).row d⟩

set_option maxHeartbeats 8000000 in
theorem mix_any (A : NF) (w : World) : Calls Try.prog 83 #[.agg (rV 25 .u64 A)] w fun e w' => e = .returned (.agg (rV 25 .u64 (mixF A))) ∧ Below w.heap.size w w' := by
  have R0 := Lib.hid ((RowAt.new w (rV 25 .u64 A) 118).alloc (.cells (z25 .u64) 118))
  have R1 := Lib.hid (RowAt.new' (w.alloc (.cells (rV 25 .u64 A) 118)) (z25 .u64) 118 (k := w.heap.size + 1) (by simp))
  have HB := Lib.hid (((Below.refl w.heap.size w).alloc (Nat.le_refl _) (.cells (rV 25 .u64 A) 118)).alloc (by simp) (.cells (z25 .u64) 118))
  have HMS := Lib.hid (show ∀ k, mixN A (k + 1) = rnd (mixN A k) (byT 24) toT (rcC k) from fun _ => rfl)
  go_enter Try.func83, Try.ntmps83
  go_upto_region 1 with (fail)
  generalize (w.alloc (.cells (rV 25 .u64 A) 118)).alloc (.cells (z25 .u64) 118) = W at *
  go_wp2_with (first
    | (go_at_call 128; (refine (turns_any _).mono ?_); rintro e w1 ⟨rfl, hb⟩; replace R0 := Lib.hid (R0.out.belowS hb); replace R1 := Lib.hid (R1.out.belowS hb); have hs1 := R1.out.lt; replace HB := Lib.hid (HB.out.trans (hb.mono HB.out.size)); clear hb)
    | (refine wpList_store_row rfl 167 _ _ rfl w1.heap.size (rV 25 .i64 (asI (byT 24))) rfl rfl 167 (z25 .i64) ?hg ?hi ?ho rV_one ?_; (case hg => exact ((RowAt.new w1 (z25 .i64) 167).alloc (.cells (z25 .i64) 167))); (case hi => kernel_rfl); (case ho => kernel_rfl))
    | (refine wpList_store_row rfl 167 _ _ rfl (w1.heap.size + 1) (rV 25 .i64 (asI toT)) rfl rfl 167 (z25 .i64) ?hg ?hi ?ho rV_one ?_; (case hg => exact ((RowAt.new' (w1.alloc (.cells (z25 .i64) 167)) (z25 .i64) 167 (k := w1.heap.size + 1) (by simp)).otherRow (by omega) _)); (case hi => kernel_rfl); (case ho => kernel_rfl))
    | (go_at_call 129; (refine (consts_any _).mono ?_); rintro e w2 ⟨rfl, hb2⟩; have h3 := mixRows w1 (z25 .i64) (rV 25 .i64 (asI (byT 24))) (rV 25 .i64 (asI toT)) 167; replace R0 := Lib.hid ((R0.out.belowS h3.1).belowS hb2); replace R1 := Lib.hid ((R1.out.belowS h3.1).belowS hb2); have R2 := Lib.hid (h3.2.1.belowS hb2); have R3 := Lib.hid (h3.2.2.belowS hb2);
       replace HB := Lib.hid (HB.out.trans ((h3.1.trans (hb2.mono h3.1.size)).mono HB.out.size)); clear h3 hb2))
  go_loopw [12] (fun c wr => ∃ k : Nat, k ≤ 24 ∧ c = .int .i64 k ∧ Hid (RowAt wr w.heap.size (rV 25 .u64 (mixN A k)) 118 ∧ RowAt wr (w.heap.size + 1) (z25 .u64) 118 ∧ RowAt wr w1.heap.size (rV 25 .i64 (asI (byT 24))) 167 ∧ RowAt wr (w1.heap.size + 1) (rV 25 .i64 (asI toT)) 167 ∧ Below w.heap.size w wr)) (fun c _ => 24 - (intOf c).toNat)
  case atStart => exact ⟨0, by omega, rfl, Lib.hid ⟨R0.out, R1.out, R2.out, R3.out, HB.out⟩⟩
  case round =>
    clear R0 R1 R2 R3 HB
    obtain ⟨k, hk, rfl, hh⟩ := hrel
    obtain ⟨r0, r1, r2, r3, hb⟩ := hh.out
    clear hh
    have R0 := Lib.hid r0
    have R1 := Lib.hid r1
    have R2 := Lib.hid r2
    have R3 := Lib.hid r3
    have HB := Lib.hid hb
    clear r0 r1 r2 r3 hb
    by_cases hlt : k < 24
    · have hix : ∀ w, (Instr.index 170 (.agg (rV 24 .u64 rcC)) (.int .i64 k)).run Try.prog w = .ok (.int .u64 (rcC k)) w := index_row Try.underlying170 (by kernel_rfl) (fun _ => by kernel_rfl) hlt
      go_upto_region 5 with (fail)
      go_step
      refine wpList_load_row rfl 118 _ rfl w.heap.size rfl 118 (rV 25 .u64 (mixN A k)) (0, 0) _ R0.out Try.underlying118 rfl (by kernel_rfl) ?_
      refine wpList_load_row rfl 167 _ rfl w1.heap.size rfl 167 (rV 25 .i64 (asI (byT 24))) (0, 0) _ R2.out Try.underlying167 rfl (by kernel_rfl) ?_
      refine wpList_load_row rfl 167 _ rfl (w1.heap.size + 1) rfl 167 (rV 25 .i64 (asI toT)) (0, 0) _ R3.out Try.underlying167 rfl (by kernel_rfl) ?_
      have hr : rnd (mixN A k) (byT 24) toT (rcC k) = mixN A (k + 1) := rfl
      have KR := fun W => round_any (mixN A k) (byT 24) toT byT24_lt (fun i => toT_lt) (rcC k) W
      rw [hr] at KR
      have KR := Lib.hid KR
      clear hr
      go_wp2_with (first
        | (go_at_call 130; (refine (KR.out _).mono ?_); rintro e w2 ⟨rfl, hb⟩; replace R0 := Lib.hid (R0.out.belowS hb); replace R1 := Lib.hid (R1.out.belowS hb); replace R2 := Lib.hid (R2.out.belowS hb); replace R3 := Lib.hid (R3.out.belowS hb); replace HB := Lib.hid (HB.out.trans (hb.mono HB.out.size)); clear hb)
        | (refine wpList_store_row rfl 118 _ _ rfl w.heap.size (rV 25 .u64 (mixN A (k + 1))) rfl rfl 118 (rV 25 .u64 (mixN A k)) R0.out ?hi ?ho rV_one ?_; (case hi => kernel_rfl); (case ho => rw [rV_size, rV_size])))
      exact ⟨⟨k + 1, by omega, by simp, Lib.hid ⟨R0.out.row _, R1.out.otherRow (by omega) _, R2.out.otherRow (by omega) _, R3.out.otherRow (by omega) _, below_setRow HB.out (Nat.le_refl _) _⟩⟩, by simp [intOf]; omega⟩
    · obtain rfl : k = 24 := by omega
      have hmx : Hid (mixN A 24 = mixF A) := Lib.hid rfl
      rw [hmx.out] at R0
      clear hmx
      go_upto_region 7 with (fail)
      go_step
      refine wpList_load_row rfl 118 _ rfl w.heap.size rfl 118 (rV 25 .u64 (mixF A)) (0, 0) _ R0.out Try.underlying118 rfl (by kernel_rfl) ?_
      refine wpList_store_row rfl 118 _ _ rfl (w.heap.size + 1) (rV 25 .u64 (mixF A)) rfl rfl 118 (z25 .u64) R1.out (by kernel_rfl) (by kernel_rfl) rV_one ?_
      have RR := Lib.hid (R1.out.row (rV 25 .u64 (mixF A)))
      have HB2 := Lib.hid (below_setRow HB.out (g := w.heap.size + 1) (by omega) (rV 25 .u64 (mixF A)))
      generalize wr.setRow (w.heap.size + 1) (rV 25 .u64 (mixF A)) = W5 at *
      go_wp2
      refine bodyPost_ret (results_cell_row rfl _ _ _ 118 (rV 25 .u64 (mixF A)) (0, 0) _ rfl RR.out Try.underlying118 rfl (by kernel_rfl)) rfl ?_
      exact ⟨rfl, HB2.out⟩
end Go.Proofs.Ythipnbiilobjeaa

namespace Go.Proofs.Ythipnbiilobjeaa
open Go.RowKit
set_option maxRecDepth 100000

theorem upd_same {A : NF} {i j : Nat} {v : Int} (h : v = A i) : upd A i v j = A j := by
  subst h
  unfold upd
  split
  · rename_i e; rw [e]
  · rfl
def kstrLen : Value → Nat
  | .string s => s.size
  | _ => 0

set_option maxHeartbeats 8000000 in
theorem sum_any (s : ByteArray) (hs : s.size ≤ 1000000000) (w : World) : Calls Try.prog 47 #[.string s] w fun e w' => e = .returned (.string (mkS (sumL (bl s)))) ∧ Below w.heap.size w w' := by
  obtain ⟨i0, hi, hz0, hz1, hz2⟩ := info_parts info_u8
  obtain ⟨n, hn⟩ : ∃ n, n = 136 - s.size % 136 := ⟨_, rfl⟩
  have hn1 : (136 : Int) - (s.size : Int) % 136 = (n : Int) := by omega
  have hn0 : 0 < n := by omega
  have hn2 : n ≤ 136 := by omega
  have HN := Lib.hid hn
  clear hn
  have hmm : (s.size : Int).tmod 136 = (s.size : Int) % 136 := Int.tmod_eq_emod_of_nonneg (by omega)
  go_enter Try.func47, Try.ntmps47
  go_upto_region 2 with (at_make; (refine wpList_make_full _ rfl _ _ 117 rfl w.heap.size 5 i0 (.int .u8 0) 1 Try.underlying117 hi hz0 hz1 .i64 .i64 _ _ n rfl rfl rfl rfl (by rw [hz2]; omega) (by unfold maxLen; omega) (Nat.le_refl _) ?_); intro w1 hown hg)
  have hbuf := buf_made (fun _ => 0) hown
  have hz0' : fillL (fun _ => 0) n 0 = List.replicate n 0 := by unfold fillL; rw [List.eq_replicate_iff]; simp
  rw [hz0'] at hbuf
  have c0 := hbuf.cell (i := 0) (by simp; omega)
  have f0 := hbuf.frozen 0
  have HB := Lib.hid ((Below.refl w.heap.size w).grown hg (Nat.le_refl _) (fun k hk => by cases hk))
  have BF := Lib.hid hbuf
  clear hbuf hown hg hz0'
  have e1 : (0 : Int) < n := by omega
  go_upto_region 3 with (fail)
  have BF2 := Lib.hid (BF.out.set 0 1 (v := 1) (by decide))
  have hcx := BF2.out.cell (i := n - 1) (by simp; omega)
  have f1 := BF2.out.frozen (n - 1)
  have e2 : ((n : Int) - 1).toNat = n - 1 := by omega
  have e3 : (0 : Int) ≤ (n : Int) - 1 := by omega
  have e4 : (n : Int) - 1 < n := by omega
  have hor : bits .or .u8 ((((List.replicate n (0 : UInt8)).set 0 1).getD (n - 1) 0).toNat : Int) 128 = (((((List.replicate n (0 : UInt8)).set 0 1).getD (n - 1) 0) ||| 128).toNat : Int) := by
    have := u8_or_nat (((List.replicate n (0 : UInt8)).set 0 1).getD (n - 1) 0).toNat 128 (UInt8.toNat_lt _) (by omega)
    rw [UInt8.toNat_or]
    exact this
  have BF3 := Lib.hid (BF2.out.set (n - 1) (((((List.replicate n (0 : UInt8)).set 0 1).getD (n - 1) 0) ||| 128)) hor.symm.symm)
  have ht : (((List.replicate n (0 : UInt8)).set 0 1).set (n - 1) (((((List.replicate n (0 : UInt8)).set 0 1).getD (n - 1) 0) ||| 128))) = tailL n := rfl
  rw [ht] at BF3
  clear ht hor
  generalize ((((List.replicate n (0 : UInt8)).set 0 1).getD (n - 1) 0).toNat : Int) = x at *
  have HB3 := Lib.hid ((HB.out.setCell (p := ⟨w.heap.size, 0, none⟩) (Nat.le_refl _) (.int .u8 1)).setCell (p := ⟨w.heap.size, n - 1, none⟩) (Nat.le_refl _) (.int .u8 (bits .or .u8 x 128)))
  clear c0 f0 BF BF2 HB
  generalize w1.setCell ⟨w.heap.size, 0, none⟩ (.int .u8 1) = W2 at *
  go_upto_region 4 with (fail)
  generalize W2.setCell ⟨w.heap.size, n - 1, none⟩ (.int .u8 (bits .or .u8 x 128)) = W3 at *
  have hcv := BF3.out.conv n (by rw [tailL_length])
  clear hcx f1 e2 e3 e4
  have hsz : (mkS (tailL n)).size = n := by rw [mk_size, tailL_length]
  replace hcv : (convert 117 9 (.slice (some ⟨w.heap.size, 0, none⟩) n n)).run Try.prog W3 = .ok (.string (mkS (tailL n))) W3 := hcv
  have HCV := Lib.hid hcv
  clear hcv
  have hq : ¬ 9223372036854775807 < s.size + n := by omega
  go_upto_region 6 with (simp only [HCV.out, Result.andThen_ok])
  have hp : s ++ mkS (tailL n) = mkS (padL (bl s)) := bl_inj (by rw [bl_append, bl_mk, bl_mk, padL, bl_length, HN.out])
  rw [hp]
  have hpl : (padL (bl s)).length = 136 * ((bl s).length / 136 + 1) := padL_length _
  have RS := Lib.hid (show sumL (bl s) = outL (sumA ((bl s).length / 136 + 1) (fun _ => 0) (padL (bl s))) from rfl)
  have RZ := Lib.hid ((RowAt.new W3 (z25 .u64) 118).z25 (A := fun _ => 0) (fun _ => rfl))
  have HB4 := Lib.hid (HB3.out.alloc HB3.out.size (.cells (z25 .u64) 118))
  have hgs := BF3.out.lt
  have HS3 := Lib.hid (show w.heap.size ≤ W3.heap.size by omega)
  clear hp HCV BF3 HB3 hq hgs
  generalize hg : W3.heap.size = g at *
  generalize hW4 : W3.alloc (.cells (z25 .u64) 118) = W4 at *
  clear hg hW4 e1 hmm hn1 hn0 hn2 HN hsz
  have hbl : (bl s).length = s.size := bl_length s
  have HFA := Lib.hid (show ∃ FA, FA = sumA ((bl s).length / 136 + 1) (fun _ => 0) (padL (bl s)) from ⟨_, rfl⟩)
  obtain ⟨FA, hfa⟩ := HFA.out
  have RS2 : Hid (sumL (bl s) = outL FA) := Lib.hid (by rw [RS.out, hfa])
  have HFA2 := Lib.hid hfa.symm
  clear RS HFA hfa
  have hps : (mkS (padL (bl s))).size = 136 * ((bl s).length / 136 + 1) := by rw [mk_size, hpl]
  have hpb : bl (mkS (padL (bl s))) = padL (bl s) := bl_mk _
  rw [← hpb] at HFA2
  generalize mkS (padL (bl s)) = t at *
  generalize (bl s).length / 136 + 1 = m at *
  go_loopw [0] (fun v wr => ∃ (m : Nat) (A : NF) (t : ByteArray), t.size = 136 * m ∧ v = .string t ∧ Hid (sumA m A (bl t) = FA) ∧ Hid (RowAt wr g (rV 25 .u64 A) 118) ∧ Hid (Below w.heap.size w wr)) (fun v _ => kstrLen v)
  case atStart => exact ⟨m, _, t, hps, rfl, HFA2, RZ, HB4⟩
  case round =>
    clear HFA2 RZ HB4 hps hpl hpb hbl
    obtain ⟨m, A, t, hts, rfl, hfa, hrow, hb⟩ := hrel
    have R := Lib.hid hrow.out
    have HB := Lib.hid hb.out
    have HFA := Lib.hid hfa.out
    clear hrow hb hfa
    rcases Nat.eq_zero_or_pos m with rfl | hm
    · obtain rfl : t = ⟨#[]⟩ := bl_inj (List.eq_nil_of_length_eq_zero (by rw [bl_length]; omega))
      have R2 := Lib.hid (show RowAt wr g (rV 25 .u64 FA) 118 from by have := HFA.out; unfold sumA at this; rw [← this]; exact R.out)
      clear R HFA
      have HG1 := Lib.hid (show g + 1 ≤ wr.heap.size from R2.out.lt)
      go_upto_region 20 with (fail)
      go_loopw [7, 58] (fun v c wr => ∃ i : Nat, i ≤ 4 ∧ c = .int .i64 i ∧ Hid (OwnB wr (g + 1) v ((outL FA).take (8 * i))) ∧ Hid (RowAt wr g (rV 25 .u64 FA) 118) ∧ Hid (Below w.heap.size w wr)) (fun _ c _ => 4 - (intOf c).toNat)
      case atStart => exact ⟨0, by omega, rfl, Lib.hid (OwnB.nil _ _), R2, HB⟩
      case round =>
        clear R2 HB HG1
        obtain ⟨i, hi2, rfl, hown, hrow, hb⟩ := hrel
        have R := Lib.hid hrow.out
        have HB := Lib.hid hb.out
        have HO := Lib.hid hown.out
        clear hrow hb hown
        by_cases hlt : i < 4
        · have hi4 : decide ((i : Int) < 4) = true := by simp; omega
          go_upto_region 23 with (fail)
          go_loopw [7, 61] (fun v c wr => ∃ k : Nat, k ≤ 8 ∧ c = .int .i64 k ∧ Hid (OwnB wr (g + 1) v ((outL FA).take (8 * i + k))) ∧ Hid (RowAt wr g (rV 25 .u64 FA) 118) ∧ Hid (Below w.heap.size w wr)) (fun _ c _ => 8 - (intOf c).toNat)
          case atStart => exact ⟨0, by omega, rfl, HO, R, HB⟩
          case round =>
            clear R HB HO
            obtain ⟨k, hk, rfl, hown, hrow, hb⟩ := hrel
            have R := Lib.hid hrow.out
            have HB := Lib.hid hb.out
            have HO := Lib.hid hown.out
            clear hrow hb hown
            by_cases hlt2 : k < 8
            · have a0 := R.out.num (i := i) (by omega)
              have hob := outB_at FA (i := i) hlt2
              have hst := Lib.hid (outL_step FA (i := 8 * i + k) (by omega))
              have hlen : ((outL FA).take (8 * i + k)).length ≤ 32 := by rw [List.length_take, outL_length]; omega
              have hg1 := R.out.lt
              go_wp2_with (at_builtin; refine wpList_append_bytes rfl _ _ rfl (g + 1) _ ((outL FA).take (8 * i + k)) rfl (HO.out.alloc _) ⟨wr.heap.size, 0, none⟩ 1 1 [outB FA (8 * i + k)] rfl rfl (one_cell_new rfl) (by omega) (by rw [World.size_alloc]; omega) ?_; intro v' w5 hown5 hb5 hz5)
              have HBa := Lib.hid (hb5 _ ((Below.refl (g + 1) wr).alloc hg1 (.cells #[.int .u8 ((outB FA (8 * i + k)).toNat : Int)] 5)))
              rw [← hst.out] at hown5
              exact ⟨⟨k + 1, by omega, by simp, Lib.hid hown5, Lib.hid (R.out.below HBa.out (Nat.lt_succ_self _)), Lib.hid (HB.out.trans (HBa.out.mono (Nat.le_succ_of_le HS3.out)))⟩, by simp [intOf]; omega⟩
            · obtain rfl : k = 8 := by omega
              go_wp2
              exact ⟨⟨i + 1, by omega, by simp, HO, R, HB⟩, by simp [intOf]; omega⟩
        · obtain rfl : i = 4 := by omega
          have HO2 := Lib.hid (show OwnB wr (g + 1) u7 (outL FA) from by have := HO.out; rwa [List.take_of_length_le (by rw [outL_length]; omega)] at this)
          have HCV := Lib.hid (show (convert 117 9 u7).run Try.prog wr = .ok (.string (mkS (outL FA))) wr from HO2.out.conv)
          go_wp2_with (simp only [HCV.out, Result.andThen_ok])
          go_ret
          exact ⟨by rw [RS2.out]; rfl, HB.out⟩
    · obtain ⟨m, rfl⟩ : ∃ j, m = j + 1 := ⟨m - 1, by omega⟩
      have hq : t.toList.isEmpty = false := by rw [toList_bl, List.isEmpty_eq_false_iff]; intro h; have := bl_length t; rw [h] at this; simp at this; omega
      go_upto_region 9 with (fail)
      go_loopw [33] (fun c wr => ∃ i : Nat, i ≤ 17 ∧ c = .int .i64 i ∧ Hid (RowAt wr g (rV 25 .u64 (upto i (absW A (bl t)) A)) 118) ∧ Hid (Below w.heap.size w wr)) (fun c _ => 17 - (intOf c).toNat)
      case atStart => exact ⟨0, by omega, rfl, Lib.hid (by rw [upto_zero]; exact R.out), HB⟩
      case round =>
        clear R HB
        obtain ⟨i, hi2, rfl, hrow, hb⟩ := hrel
        have R := Lib.hid hrow.out
        have HB := Lib.hid hb.out
        clear hrow hb
        by_cases hlt : i < 17
        · have hi17 : decide ((i : Int) < 17) = true := by simp; omega
          go_upto_region 12 with (fail)
          go_loopw [36] (fun c wr => ∃ k : Nat, k ≤ 8 ∧ c = .int .i64 k ∧ Hid (RowAt wr g (rV 25 .u64 (upd (upto i (absW A (bl t)) A) i (wordT A (bl t) i k))) 118) ∧ Hid (Below w.heap.size w wr)) (fun c _ => 8 - (intOf c).toNat)
          case atStart => exact ⟨0, by omega, rfl, Lib.hid (R.out.same (fun j _ => (upd_same (A := upto i (absW A (bl t)) A) (i := i) (v := wordT A (bl t) i 0) ((wordT_zero _ _ _).trans (upto_at (Nat.le_refl _)).symm)).symm)), HB⟩
          case round =>
            clear R HB
            obtain ⟨k, hk, rfl, hrow, hb⟩ := hrel
            have R := Lib.hid hrow.out
            have HB := Lib.hid hb.out
            clear hrow hb
            by_cases hlt2 : k < 8
            · have a0 := R.out.drew.num (i := i) (by omega)
              have f0 := R.out.drew.frozen i
              rw [show upd (upto i (absW A (bl t)) A) i (wordT A (bl t) i k) i = wordT A (bl t) i k from if_pos rfl] at a0
              have RC := Lib.hid R.out
              clear R
              have e0 : (i : Int) < 25 := by omega
              have HTS := Lib.hid hts
              have hq8 : 8 * i + k < t.size := by omega
              clear hts
              have hq9 : ((8 * i + k : Nat) : Int) < (t.size : Int) := by omega
              have hgt : ((t[8 * i + k]'hq8).toNat : Int) = bAt (bl t) (8 * i + k) := by rw [bAt, sgetD hq8]
              have hbv := bAt_lt (bl t) (8 * i + k)
              have m1 : IntKind.i64.wrap (8 * (i : Int)) = ((8 * i : Nat) : Int) := by rw [← wrapN (n := 8 * i) (by omega)]; congr 1
              have m2 : IntKind.i64.wrap (((8 * i : Nat) : Int) + (k : Int)) = ((8 * i + k : Nat) : Int) := by rw [← wrapN (n := 8 * i + k) (by omega)]; congr 1
              have m3 : IntKind.i64.wrap (8 * (k : Int)) = ((8 * k : Nat) : Int) := by rw [← wrapN (n := 8 * k) (by omega)]; congr 1
              have u1 : IntKind.u64.wrap (bAt (bl t) (8 * i + k)) = bAt (bl t) (8 * i + k) := u64_wrap_lt hbv.1 (by omega)
              have k64 : 8 * k < 64 := by omega
              have hws : Hid (wordT A (bl t) i (k + 1) = xr (wordT A (bl t) i k) (IntKind.u64.wrap (bAt (bl t) (8 * i + k) * 2 ^ (8 * k)))) := Lib.hid (wordT_succ _ _ _ _)
              generalize hwn : wordT A (bl t) i (k + 1) = wn at *
              generalize wordT A (bl t) i k = wo at *
              have HWN := Lib.hid hwn
              clear hwn
              generalize bAt (bl t) (8 * i + k) = bv at *
              generalize 8 * i + k = q8 at *
              generalize 8 * i = p8 at *
              generalize 8 * k = k8 at *
              go_upto_region 14 with (fail)
              (refine region_tail 15 mix ?hB ?_; case hB => kernel_rfl)
              (simp only [List.take_succ_cons, List.take_zero, List.drop_succ_cons, List.drop_zero])
              (iterate 12 (with_reducible refine wpStill_step ?_; intro K hK; go_simp; with_reducible refine hK _ ?_; clear hK K))
              (iterate 3 (with_reducible refine wpStill_step ?_; intro K hK; go_simp; with_reducible refine hK _ ?_; clear hK K))
              with_reducible refine wpStill_nil ?_
              go_wp2
              have RN := Lib.hid ((RC.out.upd i (xr wo (IntKind.u64.wrap (bv * 2 ^ k8))) (B := upd (upto i (absW A (bl t)) A) i (wordT A (bl t) i (k + 1))) (fun j _ => by rw [HWN.out, hws.out]; unfold upd; split <;> rfl)).drew)
              exact ⟨⟨k + 1, by omega, by simp, RN, Lib.hid (HB.out.setCell (p := ⟨g, i, none⟩) HS3.out _).drew⟩, by simp [intOf]; omega⟩
            · obtain rfl : k = 8 := by omega
              go_wp2
              refine ⟨⟨i + 1, by omega, by simp, Lib.hid (R.out.same (fun j _ => congrFun (upto_step (A := A) (f := absW A (bl t)) rfl) j)), HB⟩, by simp [intOf]; omega⟩
        · obtain rfl : i = 17 := by omega
          have R2 := Lib.hid (show RowAt wr g (rV 25 .u64 (absb A (bl t))) 118 from R.out)
          clear R
          have KM := Lib.hid (fun W => mix_any (absb A (bl t)) W)
          go_upto_region 17 with (fail)
          go_step
          refine wpList_load_row rfl 118 _ rfl g rfl 118 (rV 25 .u64 (absb A (bl t))) (0, 0) _ R2.out Try.underlying118 rfl (by kernel_rfl) ?_
          go_upto_region 7 with (first
            | (go_at_call 83; (refine (KM.out _).mono ?_); rintro e w9 ⟨rfl, hb⟩; replace R2 := Lib.hid (R2.out.belowS hb); replace HB := Lib.hid (HB.out.trans (hb.mono HB.out.size)); clear hb)
            | (refine wpList_store_row rfl 118 _ _ rfl g (rV 25 .u64 (mixF (absb A (bl t)))) rfl rfl 118 (rV 25 .u64 (absb A (bl t))) R2.out ?hi ?ho rV_one ?_; (case hi => kernel_rfl); (case ho => rw [rV_size, rV_size])))
          have R3 := Lib.hid (R2.out.row (rV 25 .u64 (mixF (absb A (bl t)))))
          have HB3 := Lib.hid (below_setRow HB.out (g := g) HS3.out (rV 25 .u64 (mixF (absb A (bl t)))))
          clear R2 HB KM
          generalize w9.setRow g (rV 25 .u64 (mixF (absb A (bl t)))) = W9 at *
          have hfa : Hid (sumA m (mixF (absb A (bl t))) (bl (t.extract 136 t.size)) = FA) := Lib.hid (by
            rw [bl_extract, stake_all]; exact HFA.out)
          have hsz : (t.extract 136 t.size).size = 136 * m := by rw [ByteArray.size_extract]; omega
          generalize mixF (absb A (bl t)) = A2 at *
          have h136 : 136 ≤ t.size := by omega
          have HSZ := Lib.hid hsz
          have hlt2 : (t.extract 136 t.size).size < t.size := by omega
          have HL2 := Lib.hid hlt2
          clear hsz hlt2 HFA hts hlt
          go_wp2
          exact ⟨⟨m, A2, _, HSZ.out, rfl, hfa, R3, HB3⟩, HL2.out⟩
end Go.Proofs.Ythipnbiilobjeaa
