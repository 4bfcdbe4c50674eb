/- A number's bytes, and a signature's: only that there are some. A signature's bytes. -/
import Derived.Test.YthipnbiilobjeaaU5
import Derived.Test.YthipnbiilobjeaaBuf
import Derived.Deep.RegionHeld
namespace Go.Proofs.Ythipnbiilobjeaa
open Go.RowKit Go.Shelf

theorem conv_row {w : World} {k : Nat} {l : List UInt8} {T : TypeId} (h : RowAt w k (bvals l).toArray T) (n : Nat) (hn : n = l.length) : (convert 117 9 (.slice (some ⟨k, 0, none⟩) n n)).run Try.prog w = .ok (.string ⟨l.toArray⟩) w := by
  subst hn
  refine run_convert_bytes_back w 117 9 5 _ _ l Try.underlying117 Try.underlying5 Try.underlying9 fun j hj => ?_
  have := h.cell j
  rw [show (⟨k, 0, none⟩ : Addr).add j = ⟨k, j, none⟩ from by rw [Addr.add_lit, Nat.zero_add], this]
  simp [bvals, List.getElem?_eq_getElem hj]

def wordAt (a : U4) : Nat → Int
  | 0 => a.1
  | 1 => a.2.1
  | 2 => a.2.2.1
  | _ => a.2.2.2
/-- A number's byte at a place, the highest first; its bytes. -/
def byteAt (a : U4) (k : Nat) : UInt8 := UInt8.ofNat (wordAt a ((31 - k) / 8) / 2 ^ (8 * ((31 - k) % 8)) % 256).toNat
def bytesU (a : U4) : ByteArray := ⟨(fillL (byteAt a) 32 32).toArray⟩
theorem bytesU_size (a : U4) : (bytesU a).size = 32 := by
  show (fillL (byteAt a) 32 32).toArray.size = 32
  simp [fillL_length]
theorem byte_set (a : U4) (k : Nat) : (bvals (fillL (byteAt a) 32 k)).toArray.setIfInBounds k (.int .u8 (wordAt a ((31 - k) / 8) / 2 ^ (8 * ((31 - k) % 8)) % 256)) = (bvals (fillL (byteAt a) 32 (k + 1))).toArray := by
  rw [← fillL_set]
  unfold bvals
  rw [List.map_set]
  simp
  congr
  unfold byteAt
  have h0 := Int.emod_nonneg (wordAt a ((31 - k) / 8) / 2 ^ (8 * ((31 - k) % 8))) (show (256 : Int) ≠ 0 by decide)
  have h1 := Int.emod_lt_of_pos (wordAt a ((31 - k) / 8) / 2 ^ (8 * ((31 - k) % 8))) (show (0 : Int) < 256 by decide)
  generalize wordAt a ((31 - k) / 8) / 2 ^ (8 * ((31 - k) % 8)) % 256 = z at *
  simp
  omega

set_option maxRecDepth 100000 in
set_option maxHeartbeats 2000000 in
theorem bytesU_any (a : U4) (w : World) : Calls Try.prog 85 #[u4V a] w fun e w' => e = .returned (.string (bytesU a)) ∧ Below w.heap.size w w' := by
  have hrep : (bvals (List.replicate 32 0)).toArray = (bvals (fillL (byteAt a) 32 0)).toArray := by
    congr 2
  have R1 := Lib.hid ((RowAt.new w (u4c a) 78).alloc (.cells (bvals (List.replicate 32 0)).toArray 173))
  have R3 := Lib.hid (RowAt.new' (w.alloc (.cells (u4c a) 78)) (bvals (List.replicate 32 0)).toArray 173 (k := w.heap.size + 1) (by simp))
  have HB := Lib.hid (belowA2 w (.cells (u4c a) 78) (.cells (bvals (List.replicate 32 0)).toArray 173))
  have HW : Hid (∀ q, q < 4 → (u4c a)[q]? = some (.int .u64 (wordAt a q))) := Lib.hid (fun q hq => by
    have : q = 0 ∨ q = 1 ∨ q = 2 ∨ q = 3 := by omega
    rcases this with rfl | rfl | rfl | rfl <;> rfl)
  have HS : Hid (∀ k, (bvals (fillL (byteAt a) 32 k)).toArray.setIfInBounds k (.int .u8 (wordAt a ((31 - k) / 8) / 2 ^ (8 * ((31 - k) % 8)) % 256)) = (bvals (fillL (byteAt a) 32 (k + 1))).toArray) := Lib.hid (byte_set a)
  have HR := Lib.hid hrep
  clear hrep
  have hes : bytesU a = ⟨(fillL (byteAt a) 32 32).toArray⟩ := rfl
  rw [hes]
  clear hes
  generalize byteAt a = f at *
  generalize wordAt a = g at *
  obtain ⟨a0, a1, a2, a3⟩ := a
  go_enter Try.func85, Try.ntmps85
  go_wp2
  go_loopw [6] (fun s wr => ∃ k : Nat, k ≤ 32 ∧ s = .int .i64 k ∧ Hid (RowAt wr w.heap.size (u4c (a0, a1, a2, a3)) 78) ∧ Hid (RowAt wr (w.heap.size + 1) (bvals (fillL f 32 k)).toArray 173) ∧ Hid (Below w.heap.size w wr)) (fun s _ => (32 - intOf s).toNat)
  case atStart => exact ⟨0, by omega, rfl, R1, (by rw [← HR.out]; exact R3), HB⟩
  case round =>
    clear R1 R3 HB HR
    obtain ⟨k, hk, rfl, r1, r3, hb⟩ := hrel
    have R1 := Lib.hid r1.out
    have R3 := Lib.hid r3.out
    have HB := Lib.hid hb.out
    clear r1 r3 hb
    by_cases hlt : k < 32
    · have c0 : wr.cell? ⟨w.heap.size + 1, k, none⟩ = some (.int .u8 (((fillL f 32 k).getD k 0).toNat : Int)) := by
        rw [R3.out.cell k]; simp [bvals, List.getD, List.getElem?_eq_getElem (show k < (fillL f 32 k).length by rw [fillL_length]; omega)]
      have c1 := R3.out.frozen k
      have hq : (31 - (k : Int)).tdiv 8 = (((31 - k) / 8 : Nat) : Int) := by rw [Int.tdiv_eq_ediv_of_nonneg (by omega)]; omega
      have hx : wr.cell? ⟨w.heap.size, (31 - k) / 8, none⟩ = some (.int .u64 (g ((31 - k) / 8))) := by
        rw [R1.out.cell]; exact HW.out _ (by omega)
      have he := HS.out k
      have hq4 : (31 - k) / 8 < 4 := by omega
      generalize (31 - k) / 8 = q at *
      have HE := Lib.hid he
      clear he
      go_wp2
      exact ⟨⟨k + 1, by omega, by simp, Lib.hid (R1.out.other ⟨w.heap.size + 1, k, none⟩ _ (by simp)), Lib.hid (R3.out.set k _ HE.out), Lib.hid (HB.out.setCell (p := ⟨w.heap.size + 1, k, none⟩) (Nat.le_succ _) _)⟩, by simp [intOf]; omega⟩
    · obtain rfl : k = 32 := by omega
      have hcv := conv_row R3.out 32 (fillL_length _ _ _).symm
      go_wp2
      go_ret
      exact ⟨rfl, HB.out⟩

end Go.Proofs.Ythipnbiilobjeaa

namespace Go.Proofs.Ythipnbiilobjeaa
open Go.RowKit Go.Shelf

def sigBytes (s : Sg) (b : UInt8) : ByteArray := bytesU s.1 ++ bytesU s.2.1 ++ ⟨#[b]⟩

theorem sigOk_v {s : Sg} (h : sigOk s = true) : s.2.2 = 0 ∨ s.2.2 = 1 := by
  unfold sigOk at h
  simp only [Bool.and_eq_true, Bool.or_eq_true, beq_iff_eq] at h
  exact h.2.2.2

set_option maxRecDepth 100000 in
set_option maxHeartbeats 2000000 in
theorem sigBytes_no (s : Sg) (hs : s.ok) (e : sigOk s = false) (w : World) : Calls Try.prog 49 #[sgV s] w fun e w' => e = .returned (.tuple #[.string ⟨#[]⟩, .int .i64 1]) ∧ Below w.heap.size w w' := by
  have K := fun W => sigRight_any s hs W
  have R := Lib.hid (RowAt.new w (sgc s) 80)
  have HB := Lib.hid (belowA w (.cells (sgc s) 80))
  rw [e] at K
  have K := Lib.hid K
  clear e hs
  obtain ⟨⟨r0, r1, r2, r3⟩, ⟨s0, s1, s2, s3⟩, v⟩ := s
  go_enter Try.func49, Try.ntmps49
  go_upto_region 1 with (fail)
  obtain ⟨x0, x1, x2, x3, x4, x5, x6, x7, x8⟩ := R.out.c9
  simp only at x0 x1 x2 x3 x4 x5 x6 x7 x8
  go_wp2_with (go_at_call 84; refine (K.out _).mono ?_; rintro e w1 ⟨rfl, hb⟩; (replace R := Lib.hid (R.out.belowS hb); replace HB := Lib.hid (HB.out.trans (hb.mono HB.out.size)); clear hb))
  refine bodyPost_ret (v := .tuple #[.string ⟨#[]⟩, .int .i64 1]) (by simp [results, Try.results49, go_sem]) rfl ?_
  exact ⟨rfl, HB.out⟩

theorem conv_one {w : World} {k : Nat} {b : Int} {c : UInt8} {T : TypeId} (hb : b = (c.toNat : Int)) (h : RowAt w k #[.int .u8 b] T) : (convert 117 9 (.slice (some ⟨k, 0, none⟩) 1 1)).run Try.prog w = .ok (.string ⟨#[c]⟩) w := by
  subst hb
  exact conv_row (l := [c]) h 1 rfl

set_option maxRecDepth 100000 in
set_option maxHeartbeats 2000000 in
theorem sigBytes_yes (s : Sg) (hs : s.ok) (e : sigOk s = true) (c : UInt8) (hc : s.2.2 = (c.toNat : Int)) (w : World) : Calls Try.prog 49 #[sgV s] w fun e w' => e = .returned (.tuple #[.string (sigBytes s c), .int .i64 0]) ∧ Below w.heap.size w w' := by
  have K := fun W => sigRight_any s hs W
  have K1 := Lib.hid (fun W => bytesU_any s.1 W)
  have K2 := Lib.hid (fun W => bytesU_any s.2.1 W)
  have z1 := bytesU_size s.1
  have z2 := bytesU_size s.2.1
  have R := Lib.hid (RowAt.new w (sgc s) 80)
  have HB := Lib.hid (belowA w (.cells (sgc s) 80))
  rw [e] at K
  have K := Lib.hid K
  clear e hs
  have hes : sigBytes s c = bytesU s.1 ++ bytesU s.2.1 ++ ⟨#[c]⟩ := rfl
  rw [hes]
  clear hes
  obtain ⟨⟨r0, r1, r2, r3⟩, ⟨s0, s1, s2, s3⟩, v⟩ := s
  simp only at hc
  simp only at K1 K2
  subst hc
  generalize hcn : (c.toNat : Int) = v at *
  generalize bytesU (r0, r1, r2, r3) = rb at *
  generalize bytesU (s0, s1, s2, s3) = sb at *
  have hwc : IntKind.u8.wrap v = (c.toNat : Int) := by
    rw [← hcn]
    have := c.toNat_lt
    simp [IntKind.wrap, IntKind.bits, IntKind.signed]
    omega
  have hcv : ∀ W : World, (convert 117 9 (.slice (some ⟨W.heap.size, 0, none⟩) 1 1)).run Try.prog (W.alloc (.cells #[.int .u8 (IntKind.u8.wrap v)] 5)) = .ok (.string ⟨#[c]⟩) (W.alloc (.cells #[.int .u8 (IntKind.u8.wrap v)] 5)) := fun W => conv_one (hwc) (RowAt.new W _ _)
  have HWC := Lib.hid hwc
  have hcv2 : ∀ W : World, (convert 117 9 (.slice (some ⟨W.heap.size, 0, none⟩) 1 1)).run Try.prog (W.alloc (.cells #[.int .u8 (IntKind.u8.wrap v)] 5)).drew = .ok (.string ⟨#[c]⟩) (W.alloc (.cells #[.int .u8 (IntKind.u8.wrap v)] 5)).drew := fun W => conv_one hwc (RowAt.drew (RowAt.new W _ _))
  clear hwc
  have hv0 : 0 ≤ v := by omega
  have hv1 : v < 256 := by have := c.toNat_lt; omega
  clear hcn
  go_enter Try.func49, Try.ntmps49
  go_upto_region 1 with (fail)
  obtain ⟨x0, x1, x2, x3, x4, x5, x6, x7, x8⟩ := R.out.c9
  simp only at x0 x1 x2 x3 x4 x5 x6 x7 x8
  go_upto_region 3 with (go_at_call 84; refine (K.out _).mono ?_; rintro e w1 ⟨rfl, hb⟩; (replace R := Lib.hid (R.out.belowS hb); replace HB := Lib.hid (HB.out.trans (hb.mono HB.out.size)); clear hb); clear x0 x1 x2 x3 x4 x5 x6 x7 x8)
  obtain ⟨x0, x1, x2, x3, x4, x5, x6, x7, x8⟩ := R.out.c9
  simp only at x0 x1 x2 x3 x4 x5 x6 x7 x8
  have hlt := R.out.lt
  have hne : ¬ w.heap.size = w1.heap.size := by omega
  clear x0 x1 x2 x3 x4 x5 x6 x7 x8
  go_region_held (fun w' => w'.cell? ⟨w.heap.size, 0, none⟩ = some (.int .u64 r0) ∧ w'.cell? ⟨w.heap.size, 1, none⟩ = some (.int .u64 r1) ∧ w'.cell? ⟨w.heap.size, 2, none⟩ = some (.int .u64 r2) ∧ w'.cell? ⟨w.heap.size, 3, none⟩ = some (.int .u64 r3) ∧ w'.cell? ⟨w.heap.size, 4, none⟩ = some (.int .u64 s0) ∧ w'.cell? ⟨w.heap.size, 5, none⟩ = some (.int .u64 s1) ∧ w'.cell? ⟨w.heap.size, 6, none⟩ = some (.int .u64 s2) ∧ w'.cell? ⟨w.heap.size, 7, none⟩ = some (.int .u64 s3) ∧ w'.cell? ⟨w.heap.size, 8, none⟩ = some (.int .i64 v)) (first | with_reducible exact R.out.drew.c9 | with_reducible exact R.out.c9 | with_reducible exact (R.out.drew.alloc _).c9 | with_reducible exact (R.out.alloc _).c9 | with_reducible exact (R.out.alloc _).drew.c9) (first
    | (go_at_call_of 85 (Value.int .u64 r3); refine (K1.out _).mono ?_; rintro e wA ⟨rfl, hb⟩; (first | (replace RC := Lib.hid (show RowAt wA _ #[.int .u8 (IntKind.u8.wrap v)] 5 from by with_reducible exact RowAt.belowS RC.out hb); have hcN := conv_one HWC.out RC.out) | (have RC := Lib.hid (show RowAt wA _ #[.int .u8 (IntKind.u8.wrap v)] 5 from by with_reducible exact RowAt.belowS (RowAt.new _ _ _) hb); have hcN := conv_one HWC.out RC.out) | (have RC := Lib.hid (show RowAt wA _ #[.int .u8 (IntKind.u8.wrap v)] 5 from by with_reducible exact RowAt.belowS (RowAt.drew (RowAt.new _ _ _)) hb); have hcN := conv_one HWC.out RC.out) | skip); have HBW := Lib.hid (Below.trans (by first | with_reducible exact HB.out.drew | with_reducible exact HB.out | with_reducible exact HB.out.drew.alloc HB.out.size _ | with_reducible exact HB.out.alloc HB.out.size _ | with_reducible exact (HB.out.alloc HB.out.size _).drew) (hb.mono (show w.heap.size ≤ _ from by first | with_reducible exact HB.out.drew.size | with_reducible exact HB.out.size | with_reducible exact (HB.out.drew.alloc HB.out.size _).size | with_reducible exact (HB.out.alloc HB.out.size _).size | with_reducible exact (HB.out.alloc HB.out.size _).drew.size)) : Below w.heap.size w wA); replace HB := HBW; clear HBW; replace R := Lib.hid (RowAt.belowS (show RowAt _ w.heap.size _ _ from by first | with_reducible exact R.out.drew | with_reducible exact R.out | with_reducible exact R.out.drew.alloc _ | with_reducible exact R.out.alloc _ | with_reducible exact (R.out.alloc _).drew) hb); replace hlt := R.out.lt)
    | (go_at_call 85; refine (K2.out _).mono ?_; rintro e wA ⟨rfl, hb⟩; (first | (replace RC := Lib.hid (show RowAt wA _ #[.int .u8 (IntKind.u8.wrap v)] 5 from by with_reducible exact RowAt.belowS RC.out hb); have hcN := conv_one HWC.out RC.out) | (have RC := Lib.hid (show RowAt wA _ #[.int .u8 (IntKind.u8.wrap v)] 5 from by with_reducible exact RowAt.belowS (RowAt.new _ _ _) hb); have hcN := conv_one HWC.out RC.out) | (have RC := Lib.hid (show RowAt wA _ #[.int .u8 (IntKind.u8.wrap v)] 5 from by with_reducible exact RowAt.belowS (RowAt.drew (RowAt.new _ _ _)) hb); have hcN := conv_one HWC.out RC.out) | skip); have HBW := Lib.hid (Below.trans (by first | with_reducible exact HB.out.drew | with_reducible exact HB.out | with_reducible exact HB.out.drew.alloc HB.out.size _ | with_reducible exact HB.out.alloc HB.out.size _ | with_reducible exact (HB.out.alloc HB.out.size _).drew) (hb.mono (show w.heap.size ≤ _ from by first | with_reducible exact HB.out.drew.size | with_reducible exact HB.out.size | with_reducible exact (HB.out.drew.alloc HB.out.size _).size | with_reducible exact (HB.out.alloc HB.out.size _).size | with_reducible exact (HB.out.alloc HB.out.size _).drew.size)) : Below w.heap.size w wA); replace HB := HBW; clear HBW; replace R := Lib.hid (RowAt.belowS (show RowAt _ w.heap.size _ _ from by first | with_reducible exact R.out.drew | with_reducible exact R.out | with_reducible exact R.out.drew.alloc _ | with_reducible exact R.out.alloc _ | with_reducible exact (R.out.alloc _).drew) hb); replace hlt := R.out.lt))
  all_goals
    go_wp2
    refine bodyPost_ret (v := .tuple #[.string (rb ++ sb ++ ⟨#[c]⟩), .int .i64 0]) (by simp [results, Try.results49, go_sem]) rfl ?_
    exact ⟨rfl, by first | exact HB.out | exact HB.out.alloc HB.out.size _⟩
end Go.Proofs.Ythipnbiilobjeaa
