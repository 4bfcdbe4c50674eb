/- The reference's Write by the header's two forms. The reference's bytes of a number, of a signature. The reference's bytes of a signature. The reference's Record. The reference's sums of a header: what it is known by, what seals sign, what its proposer signs. The reference's Turn. Rlp: the contract of the reference's size. -/
import Derived.BigRegion
import Derived.Deep.RegionHeld
import Derived.Test.YtefmlbckbhlgdaaRa5
import Derived.Test.YtefmlbckbhlgdaaRa13
import Derived.Test.YtefmlbckbhlgdaaRa16
import Derived.Test.YtefmlbckbhlgdaaRa17
import Derived.Test.YtefmlbckbhlgdaaRa18
namespace Go.Proofs.Ytefmlbckbhlgdaa
open Go.RowKit
set_option maxRecDepth 100000
theorem leaf_count {c : UInt8} (hc : leafK c = true) {f : Fd} (h : (itemK (.mk c []) f).isSome = true) : f.count = 1 := by
  obtain ⟨⟨fn, fb⟩, fk⟩ := f
  rw [leaf_fits c hc] at h
  have : fk.length = 0 := by
    split at h
    · simp at h; simp [h.2]
    · simp at h; simp [h.1.2]
  obtain rfl := List.eq_nil_of_length_eq_zero this
  rw [Tr.count, counts]
theorem counts_one : ∀ {l : List Fd}, (∀ f ∈ l, f.count = 1) → counts l = l.length
  | [], _ => rfl
  | f :: l, h => by rw [counts, h f List.mem_cons_self, counts_one (fun g hg => h g (List.mem_cons_of_mem _ hg)), List.length_cons]; omega
theorem tok_count {t : List UInt8} (ht : tokOk t) {f : Fd} (h : (itemK (tokK t) f).isSome = true) : f.count ≤ 41 := by
  obtain ⟨c, hc, rfl | rfl⟩ := ht
  · have := leaf_count hc (f := f) h; omega
  · obtain ⟨⟨fn, fb⟩, fk⟩ := f
    have h' : (itemK (.mk 42 [.mk c []]) (.mk (fn, fb) fk)).isSome = true := h
    rw [star_fits] at h'
    simp only [Bool.and_eq_true, decide_eq_true_eq, List.all_eq_true] at h'
    rw [Tr.count, counts_one (fun g hg => leaf_count hc (h'.2.2.2 g hg))]
    omega
theorem toks_count : ∀ {toks : List (List UInt8)} {l : List Fd}, (∀ t ∈ toks, tokOk t) → (rowI (toks.map tokK) l).isSome = true → counts l ≤ 41 * toks.length
  | [], [], _, _ => Nat.le_refl _
  | [], _ :: _, _, h => by rw [List.map_nil, rowI] at h; cases h
  | _ :: _, [], _, h => by rw [List.map_cons, rowI] at h; cases h
  | t :: toks, f :: l, ht, h => by
    rw [List.map_cons, rowI_more, Bool.and_eq_true] at h
    have h1 := tok_count (ht t List.mem_cons_self) h.1
    have h2 := toks_count (fun t' h' => ht t' (List.mem_cons_of_mem _ h')) h.2
    rw [counts, List.length_cons]
    omega

def htoks : List (List UInt8) := [[104], [110], [104], [104], [97], [98], [42, 97], [98], [110], [110], [42, 115]]
def hformS : ByteArray := ⟨#[104, 110, 104, 104, 97, 98, 42, 97, 98, 110, 110, 42, 115]⟩
theorem htoks_ok : ∀ t ∈ htoks, tokOk t := by
  intro t ht
  simp only [htoks, List.mem_cons, List.not_mem_nil, or_false] at ht
  rcases ht with rfl | rfl | rfl | rfl | rfl | rfl | rfl | rfl | rfl | rfl | rfl
  · exact ⟨104, by decide, .inl rfl⟩
  · exact ⟨110, by decide, .inl rfl⟩
  · exact ⟨104, by decide, .inl rfl⟩
  · exact ⟨104, by decide, .inl rfl⟩
  · exact ⟨97, by decide, .inl rfl⟩
  · exact ⟨98, by decide, .inl rfl⟩
  · exact ⟨97, by decide, .inr rfl⟩
  · exact ⟨98, by decide, .inl rfl⟩
  · exact ⟨110, by decide, .inl rfl⟩
  · exact ⟨110, by decide, .inl rfl⟩
  · exact ⟨115, by decide, .inr rfl⟩
theorem hflat : FlatF hformS htoks := ⟨rfl, htoks_ok, by decide, fun l h => by have := toks_count htoks_ok h; simp [htoks] at this; omega⟩
theorem hform_bl : bl hformS = hform := rfl
theorem hkindsT : kindsL (bl hformS) = some (htoks.map tokK) := by rw [hform_bl, hkinds_ok]; rfl
/-- What is written of a header that may be, and of its turn. -/
theorem hwrite_any (v : Value) (l : List Fd) (w : World) (hl : fsOk l) (hv : RowT encFd (fun _ => True) w v l) :
    Calls Try.prog 62 #[.string hformS, v] w fun e w' => e = .returned (.tuple #[.string (mkS (writeF hform l).1), .int .i64 (writeF hform l).2]) ∧ Below w.heap.size w w' :=
  rfwrite_any hformS htoks hflat hkindsT v l w hl hv
end Go.Proofs.Ytefmlbckbhlgdaa
namespace Go.Proofs.Ytefmlbckbhlgdaa
open Go.RowKit
set_option maxRecDepth 100000
theorem byte_hi (x : Int) (n m : Nat) (hm : m = n + 8) : x / 2 ^ n % 65536 / 256 = x / 2 ^ m % 256 := by
  subst hm
  have h : (0 : Int) ≤ 2 ^ n := Int.le_of_lt (Int.pow_pos (by decide))
  rw [Int.pow_add, ← Int.ediv_ediv_of_nonneg h]
  have e : (2 : Int) ^ 8 = 256 := by decide
  rw [e]
  clear e h
  generalize x / 2 ^ n = y
  omega
theorem byte_lo (x : Int) (n : Nat) : x / 2 ^ n % 65536 % 256 = x / 2 ^ n % 256 := by
  generalize x / 2 ^ n = y
  omega
theorem u8_of {x : Int} (h : 0 ≤ x ∧ x < 256) : ((UInt8.ofNat x.toNat).toNat : Int) = x := by
  rw [UInt8.toNat_ofNat']
  omega
theorem dig_bytes (a : U4) (k : Nat) (hk : k < 16) : digAt a (15 - k) / 256 = ((byteAt a (2 * k)).toNat : Int) ∧ digAt a (15 - k) % 256 = ((byteAt a (2 * k + 1)).toNat : Int) := by
  unfold byteAt digAt
  have e1 : (31 - 2 * k) / 8 = (15 - k) / 4 := by omega
  have e2 : 8 * ((31 - 2 * k) % 8) = 16 * ((15 - k) % 4) + 8 := by omega
  have e3 : (31 - (2 * k + 1)) / 8 = (15 - k) / 4 := by omega
  have e4 : 8 * ((31 - (2 * k + 1)) % 8) = 16 * ((15 - k) % 4) := by omega
  rw [e1, e2, e3, e4, byte_hi _ _ _ rfl, byte_lo]
  generalize wordAt a ((15 - k) / 4) / 2 ^ (16 * ((15 - k) % 4) + 8) = y
  generalize wordAt a ((15 - k) / 4) / 2 ^ (16 * ((15 - k) % 4)) = z
  exact ⟨(u8_of (by omega)).symm, (u8_of (by omega)).symm⟩
def bytesL32 (a : U4) : List UInt8 := fillL (byteAt a) 32 32
theorem bytesL32_take (a : U4) (k : Nat) (hk : k < 16) : (bytesL32 a).take (2 * k) ++ [byteAt a (2 * k), byteAt a (2 * k + 1)] = (bytesL32 a).take (2 * (k + 1)) := by
  have h : ∀ i, i < 32 → (bytesL32 a)[i]? = some (byteAt a i) := fun i hi => by simp [bytesL32, fillL_full, hi]
  rw [show 2 * (k + 1) = 2 * k + 1 + 1 by omega, List.take_add_one, List.take_add_one, h _ (by omega), h _ (by omega)]
  simp

set_option maxHeartbeats 4000000 in
theorem rbytes_any (a : U4) (ha : a.ok) (w : World) : Calls Try.prog 117 #[u4V a] w fun e w' => e = .returned (.string (bytesU a)) ∧ Below w.heap.size w w' := by
  have KO := Lib.hid (fun W => of_any a ha W)
  have HBY := Lib.hid (show bytesU a = ⟨(bytesL32 a).toArray⟩ from rfl)
  have HT := Lib.hid (fun k hk => bytesL32_take a k hk)
  have HD := Lib.hid (fun k hk => dig_bytes a k hk)
  have HG : Hid (∀ i, i < 16 → (ofL a)[i]? = some (digAt a i)) := Lib.hid (fun i hi => by simp [ofL, hi])
  have HLN : Hid ((bytesL32 a).length = 32) := Lib.hid (by simp [bytesL32, fillL_length])
  have HOK := Lib.hid (digAt_ok a)
  have HL16 := Lib.hid (ofL_length a)
  generalize bytesL32 a = L at *
  generalize bytesU a = BU at *
  generalize digAt a = D at *
  generalize byteAt a = B at *
  generalize ofL a = DL at *
  have R1 := Lib.hid (RowAt.new w (u4c a) 66)
  have HB := Lib.hid (bel1 w (.cells (u4c a) 66))
  obtain ⟨a0, a1, a2, a3⟩ := a
  go_enter Try.func117, Try.ntmps117
  go_upto_region 1 with (fail)
  generalize w.alloc (.cells (u4c (a0, a1, a2, a3)) 66) = W at *
  obtain ⟨y0, y1, y2, y3, yf0, yf1, yf2, yf3⟩ := R1.out.c4
  go_upto_region 2 with (go_at_call 157; refine (KO.out _).mono ?_; rintro e w1 ⟨v, rfl, ho, hb⟩; have HO := Lib.hid ho; replace HB := Lib.hid (HB.out.trans (hb.mono HB.out.size)); clear ho hb y0 y1 y2 y3 yf0 yf1 yf2 yf3)
  clear R1
  go_upto_region 4 with (fail)
  have O0 := Lib.hid (OwnB.start (w := w1) (Nat.le_refl _) 0)
  have HBK := Lib.hid (bel1 w1 (.cells #[] 5))
  generalize w1.alloc (.cells #[] 5) = W2 at *
  obtain ⟨pd, cd, rfl, d1, d2⟩ := RowE.shape encI HO.out
  rw [HL16.out] at d1
  rw [HL16.out]
  rw [HL16.out] at HO
  go_loopw [4, 5] (fun v s wr => ∃ k : Nat, k ≤ 16 ∧ s = .int .i64 (15 - (k : Int)) ∧ Hid (OwnB wr w1.heap.size v (L.take (2 * k))) ∧ Hid (Below w1.heap.size w1 wr)) (fun _ s _ => (intOf s + 1).toNat)
  case atStart => exact ⟨0, Nat.zero_le _, rfl, Lib.hid (by simpa using O0.out), HBK⟩
  case round =>
    clear O0 HBK
    obtain ⟨k, hk, rfl, ho, hb⟩ := hrel
    have O := Lib.hid ho.out
    have HBK := Lib.hid hb.out
    clear ho hb
    by_cases hlt : k < 16
    · have hge : (15 - (k : Int)) ≥ 0 := by omega
      obtain ⟨ad, rfl, c0⟩ := (RI.below HO.out HBK.out (Nat.le_refl _)).at (15 - k) _ (HG.out (15 - k) (by omega))
      obtain ⟨e1, e2⟩ := HD.out k hlt
      have e0 := HOK.out (15 - k)
      have hq : (D (15 - k)).tdiv 256 = ((B (2 * k)).toNat : Int) := by rw [Int.tdiv_eq_ediv_of_nonneg e0.1]; exact e1
      have hr : (D (15 - k)).tmod 256 = ((B (2 * k + 1)).toNat : Int) := by rw [Int.tmod_eq_emod_of_nonneg e0.1]; exact e2
      have hi : (15 - (k : Int)).toNat = 15 - k := by omega
      have hi16 : 15 - (k : Int) < 16 := by omega
      have HTK := Lib.hid (HT.out k hlt)
      have HLK : Hid ((L.take (2 * k)).length ≤ 32) := Lib.hid (by rw [List.length_take]; omega)
      generalize B (2 * k) = b0 at *
      generalize B (2 * k + 1) = b1 at *
      generalize D (15 - k) = x at *
      have hb0 := b0.toNat_lt
      have hb1 := b1.toNat_lt
      have h0w : IntKind.i64.wrap (b0.toNat : Int) = b0.toNat := by rw [IntKind.wrap_i64]; omega
      have h0u : IntKind.u8.wrap (b0.toNat : Int) = b0.toNat := by rw [IntKind.wrap_u8]; omega
      have h1u : IntKind.u8.wrap (b1.toNat : Int) = b1.toNat := by rw [IntKind.wrap_u8]; omega
      clear e1 e2 e0
      go_wp2
      go_region_law (refine step_append_bytes rfl _ _ rfl w1.heap.size _ (L.take (2 * k)) rfl (O.out.drew.alloc _) ⟨wr.heap.size, 0, none⟩ 2 2 [b0, b1] rfl rfl (two_cells (w := wr.drew) rfl rfl) (by have := HLK.out; omega) (by have := HBK.out.size; simp; omega) ?_; intro v' w2 hown1 hb1 hz1)
      all_goals
        go_wp2
        exact ⟨⟨k + 1, by omega, by simp; omega, Lib.hid (by rw [← HTK.out]; exact hown1), Lib.hid (hb1 _ (HBK.out.alloc HBK.out.size _).drew)⟩, by simp [intOf]; omega⟩
    · obtain rfl : k = 16 := by omega
      have O2 := O.out
      rw [List.take_of_length_le (by have := HLN.out; omega)] at O2
      have hcv := OwnB.conv O2
      clear O2
      go_wp2
      go_ret
      rw [HBY.out]
      exact ⟨rfl, HB.out.trans (HBK.out.mono HB.out.size)⟩
end Go.Proofs.Ytefmlbckbhlgdaa
namespace Go.Proofs.Ytefmlbckbhlgdaa
open Go.RowKit
set_option maxRecDepth 100000 in
set_option maxHeartbeats 2000000 in
theorem rsigBytes_yes (s : Sg) (hs : s.ok) (c : UInt8) (hc : s.2.2 = (c.toNat : Int)) (w : World) : Calls Try.prog 66 #[sgV s] w fun e w' => e = .returned (.string (sigBytes s c)) ∧ Below w.heap.size w w' := by
  have K1 := Lib.hid (fun W => rbytes_any s.1 hs.1 W)
  have K2 := Lib.hid (fun W => rbytes_any s.2.1 hs.2 W)
  have z1 := bytesU_size s.1
  have z2 := bytesU_size s.2.1
  have R := Lib.hid (RowAt.new w (sgc s) 68)
  have HB := Lib.hid (bel1 w (.cells (sgc s) 68))
  clear hs
  have hes : sigBytes s c = bytesU s.1 ++ bytesU s.2.1 ++ ⟨#[c]⟩ := rfl
  rw [hes]
  clear hes
  obtain ⟨⟨r0, r1, r2, r3⟩, ⟨s0, s1, s2, s3⟩, v⟩ := s
  simp only at hc
  simp only at K1 K2
  subst hc
  generalize hcn : (c.toNat : Int) = v at *
  generalize bytesU (r0, r1, r2, r3) = rb at *
  generalize bytesU (s0, s1, s2, s3) = sb at *
  have hwc : IntKind.u8.wrap v = (c.toNat : Int) := by
    rw [← hcn]
    have := c.toNat_lt
    simp [IntKind.wrap, IntKind.bits, IntKind.signed]
    omega
  have hcv : ∀ W : World, (convert 123 9 (.slice (some ⟨W.heap.size, 0, none⟩) 1 1)).run Try.prog (W.alloc (.cells #[.int .u8 (IntKind.u8.wrap v)] 5)) = .ok (.string ⟨#[c]⟩) (W.alloc (.cells #[.int .u8 (IntKind.u8.wrap v)] 5)) := fun W => conv_one (hwc) (RowAt.new W _ _)
  have HWC := Lib.hid hwc
  have hcv2 : ∀ W : World, (convert 123 9 (.slice (some ⟨W.heap.size, 0, none⟩) 1 1)).run Try.prog (W.alloc (.cells #[.int .u8 (IntKind.u8.wrap v)] 5)).drew = .ok (.string ⟨#[c]⟩) (W.alloc (.cells #[.int .u8 (IntKind.u8.wrap v)] 5)).drew := fun W => conv_one hwc (RowAt.drew (RowAt.new W _ _))
  clear hwc
  have hv0 : 0 ≤ v := by omega
  have hv1 : v < 256 := by have := c.toNat_lt; omega
  clear hcn
  go_enter Try.func66, Try.ntmps66
  go_upto_region 1 with (fail)
  generalize hWW : w.alloc (.cells (sgc ((r0, r1, r2, r3), (s0, s1, s2, s3), v)) 68) = w1 at *
  have hlt := R.out.lt
  have hne : ¬ w.heap.size = w1.heap.size := by omega
  go_region_held (fun w' => w'.cell? ⟨w.heap.size, 0, none⟩ = some (.int .u64 r0) ∧ w'.cell? ⟨w.heap.size, 1, none⟩ = some (.int .u64 r1) ∧ w'.cell? ⟨w.heap.size, 2, none⟩ = some (.int .u64 r2) ∧ w'.cell? ⟨w.heap.size, 3, none⟩ = some (.int .u64 r3) ∧ w'.cell? ⟨w.heap.size, 4, none⟩ = some (.int .u64 s0) ∧ w'.cell? ⟨w.heap.size, 5, none⟩ = some (.int .u64 s1) ∧ w'.cell? ⟨w.heap.size, 6, none⟩ = some (.int .u64 s2) ∧ w'.cell? ⟨w.heap.size, 7, none⟩ = some (.int .u64 s3) ∧ w'.cell? ⟨w.heap.size, 8, none⟩ = some (.int .i64 v)) (first | with_reducible exact R.out.drew.c9 | with_reducible exact R.out.c9 | with_reducible exact (R.out.drew.alloc _).c9 | with_reducible exact (R.out.alloc _).c9 | with_reducible exact (R.out.alloc _).drew.c9) (first
    | (go_at_call_of 117 (Value.int .u64 r3); refine (K1.out _).mono ?_; rintro e wA ⟨rfl, hb⟩; (first | (replace RC := Lib.hid (show RowAt wA _ #[.int .u8 (IntKind.u8.wrap v)] 5 from by with_reducible exact RowAt.belowS RC.out hb); have hcN := conv_one HWC.out RC.out) | (have RC := Lib.hid (show RowAt wA _ #[.int .u8 (IntKind.u8.wrap v)] 5 from by with_reducible exact RowAt.belowS (RowAt.new _ _ _) hb); have hcN := conv_one HWC.out RC.out) | (have RC := Lib.hid (show RowAt wA _ #[.int .u8 (IntKind.u8.wrap v)] 5 from by with_reducible exact RowAt.belowS (RowAt.drew (RowAt.new _ _ _)) hb); have hcN := conv_one HWC.out RC.out) | skip); have HBW := Lib.hid (Below.trans (by first | with_reducible exact HB.out.drew | with_reducible exact HB.out | with_reducible exact HB.out.drew.alloc HB.out.size _ | with_reducible exact HB.out.alloc HB.out.size _ | with_reducible exact (HB.out.alloc HB.out.size _).drew) (hb.mono (show w.heap.size ≤ _ from by first | with_reducible exact HB.out.drew.size | with_reducible exact HB.out.size | with_reducible exact (HB.out.drew.alloc HB.out.size _).size | with_reducible exact (HB.out.alloc HB.out.size _).size | with_reducible exact (HB.out.alloc HB.out.size _).drew.size)) : Below w.heap.size w wA); replace HB := HBW; clear HBW; replace R := Lib.hid (RowAt.belowS (show RowAt _ w.heap.size _ _ from by first | with_reducible exact R.out.drew | with_reducible exact R.out | with_reducible exact R.out.drew.alloc _ | with_reducible exact R.out.alloc _ | with_reducible exact (R.out.alloc _).drew) hb); replace hlt := R.out.lt)
    | (go_at_call 117; refine (K2.out _).mono ?_; rintro e wA ⟨rfl, hb⟩; (first | (replace RC := Lib.hid (show RowAt wA _ #[.int .u8 (IntKind.u8.wrap v)] 5 from by with_reducible exact RowAt.belowS RC.out hb); have hcN := conv_one HWC.out RC.out) | (have RC := Lib.hid (show RowAt wA _ #[.int .u8 (IntKind.u8.wrap v)] 5 from by with_reducible exact RowAt.belowS (RowAt.new _ _ _) hb); have hcN := conv_one HWC.out RC.out) | (have RC := Lib.hid (show RowAt wA _ #[.int .u8 (IntKind.u8.wrap v)] 5 from by with_reducible exact RowAt.belowS (RowAt.drew (RowAt.new _ _ _)) hb); have hcN := conv_one HWC.out RC.out) | skip); have HBW := Lib.hid (Below.trans (by first | with_reducible exact HB.out.drew | with_reducible exact HB.out | with_reducible exact HB.out.drew.alloc HB.out.size _ | with_reducible exact HB.out.alloc HB.out.size _ | with_reducible exact (HB.out.alloc HB.out.size _).drew) (hb.mono (show w.heap.size ≤ _ from by first | with_reducible exact HB.out.drew.size | with_reducible exact HB.out.size | with_reducible exact (HB.out.drew.alloc HB.out.size _).size | with_reducible exact (HB.out.alloc HB.out.size _).size | with_reducible exact (HB.out.alloc HB.out.size _).drew.size)) : Below w.heap.size w wA); replace HB := HBW; clear HBW; replace R := Lib.hid (RowAt.belowS (show RowAt _ w.heap.size _ _ from by first | with_reducible exact R.out.drew | with_reducible exact R.out | with_reducible exact R.out.drew.alloc _ | with_reducible exact R.out.alloc _ | with_reducible exact (R.out.alloc _).drew) hb); replace hlt := R.out.lt))
  all_goals
    go_wp2
    go_ret
    exact ⟨rfl, by first | exact HB.out | exact HB.out.alloc HB.out.size _⟩
theorem rsigBytes_any (s : Sg) (hs : s.ok) (e : sigOk s = true) (w : World) : Calls Try.prog 66 #[sgV s] w fun e w' => e = .returned (.string (sealB s)) ∧ Below w.heap.size w w' := by
  have hv : s.2.2 = ((UInt8.ofNat s.2.2.toNat).toNat : Int) := by rcases sigOk_v e with h | h <;> rw [h] <;> rfl
  have := rsigBytes_yes s hs _ hv w
  unfold sealB
  rw [if_pos e]
  exact this
end Go.Proofs.Ytefmlbckbhlgdaa
namespace Go.Proofs.Ytefmlbckbhlgdaa
open Go.RowKit
set_option maxRecDepth 100000
/-- A row of trees that is laid out in one block. -/
theorem RowT.lits {A : Nat → Prop} {w : World} {l : List (Fd × Sl)} {g : Nat} {cs : Array Value} {T : TypeId} (hg : w.heap[g]? = some (.cells cs T (0, 0))) (hcs : cs.toList = flat encFd.enc (l.map fun x => (x.1.val, x.2))) (hA : A g) (hl : l.length ≤ 1000)
    (h : ∀ x ∈ l, RowT encFd A w (slV x.2) x.1.kids) : RowT encFd A w (.slice (some ⟨g, 0, none⟩) l.length l.length) (l.map (·.1)) := by
  refine ⟨l.map fun x => (x.1.val, x.2), by simp, .inr ⟨⟨g, 0, none⟩, l.length, by simp, by simp, by unfold maxLen; omega, fun j u hj => ?_⟩, fun _ ad n c e => by injection e with e _ _; injection e with e; subst e; exact hA, fun i t x e1 e2 => ?_⟩
  · rw [← hcs, Array.getElem?_toList] at hj
    have : w.cell? ⟨g, j, none⟩ = cs[j]? := cell_of_row w g j cs T _ hg
    rw [← hj, ← this]
    cases j <;> simp [Addr.add]
  · rw [List.getElem?_map, Option.map_eq_some_iff] at e1 e2
    obtain ⟨y, hy, rfl⟩ := e1
    obtain ⟨z, hz, rfl⟩ := e2
    rw [hy] at hz
    obtain rfl := Option.some.inj hz
    have h2 := h y (List.mem_of_getElem? hy)
    obtain ⟨⟨a, ks⟩, s⟩ := y
    exact RowT.node a h2

set_option maxHeartbeats 4000000 in
theorem record_ref (h : Hd) (sv gv : Value) (w : World) (hh : HdAt w h sv gv) (hn : HdNum h) (hk : HdOk h) : Calls Try.prog 30 #[hdV h sv gv] w fun e w' => e = .returned (.string (mkS (recL h).1)) ∧ Below w.heap.size w w' := by
  obtain ⟨hl, hl2⟩ := hdL_lens (hdL_true hk)
  have HV := Lib.hid hh.1
  have HG := Lib.hid hh.2.1
  have KS : Hid (∀ s ∈ h.se, ∀ W, Calls Try.prog 66 #[sgV s] W fun e w' => e = .returned (.string (sealB s)) ∧ Below W.heap.size W w') := Lib.hid (fun s hs W => rsigBytes_any s (hh.2.2 s hs) (hk.2.2.2.2.2.2.2.2 s hs) W)
  have KW : Hid (∀ v W, RowT encFd (fun _ => True) W v (hdF h) → Calls Try.prog 62 #[.string ⟨#[104, 110, 104, 104, 97, 98, 42, 97, 98, 110, 110, 42, 115]⟩, v] W fun e w' => e = .returned (.tuple #[.string (mkS (recL h).1), .int .i64 (recL h).2]) ∧ Below W.heap.size W w') := Lib.hid (fun v W hv => hwrite_any v (hdF h) W (hdF_ok hn) hv)
  have HF : Hid (hdF h = [bF h.pa, nF h.ht.toNat, bF h.ro, bF h.tx, bF h.pr, bF h.va, lF (h.val.map bF), bF h.vo, nF (if h.ad = true then 1 else 0), nF h.rd.toNat, lF ((h.se.map sealB).map bF)]) := Lib.hid rfl
  have HN := Lib.hid hn
  obtain ⟨ps, cs, hsv, s1, s2⟩ := RowE.shape encS hh.1
  obtain ⟨pg, cg, hgv, g1, g2⟩ := RowE.shape encG hh.2.1
  subst hsv hgv
  unfold maxLen at s2 g2
  generalize recL h = res at *
  generalize hdF h = hf at *
  clear hh hk hn
  have R1 := Lib.hid (RowAt.new w (hdc h (.slice ps h.val.length cs) (.slice pg h.se.length cg)) 26)
  have HB := Lib.hid (bel1 w (.cells (hdc h (.slice ps h.val.length cs) (.slice pg h.se.length cg)) 26))
  obtain ⟨pa, ht, ro, tx, pr, va, val, vo, ad, rd, se⟩ := h
  simp only at *
  obtain ⟨htn, rfl⟩ : ∃ n : Nat, ht = n := ⟨ht.toNat, by have := HN.out.1; simp only at this; omega⟩
  obtain ⟨rdn, rfl⟩ : ∃ n : Nat, rd = n := ⟨rd.toNat, by have := HN.out.2; simp only at this; omega⟩
  simp only [Int.toNat_natCast] at HF
  have HVG : Hid (∀ i x, val[i]? = some x → (val.map bF)[i]? = some (bF x)) := Lib.hid (fun i x h => by rw [List.getElem?_map, h]; rfl)
  have HVL : Hid ((val.map bF).length = val.length) := Lib.hid (by simp)
  have HSG : Hid (∀ i s, se[i]? = some s → ((se.map sealB).map bF)[i]? = some (bF (sealB s))) := Lib.hid (fun i x h => by rw [List.getElem?_map, List.getElem?_map, h]; rfl)
  have HSL : Hid (((se.map sealB).map bF).length = se.length) := Lib.hid (by simp)
  generalize val.map bF = VF at *
  generalize (se.map sealB).map bF = SF at *
  go_enter Try.func30, Try.ntmps30
  go_upto_region 1 with (fail)
  generalize w.alloc (.cells (hdc ⟨pa, htn, ro, tx, pr, va, val, vo, ad, rdn, se⟩ (.slice ps val.length cs) (.slice pg se.length cg)) 26) = W1 at *
  go_upto_region 2 with (fail)
  have R3 := Lib.hid (RowAt.new W1 #[.int .u64 0, .string ⟨#[]⟩, .slice none 0 0] 64)
  have HK3 : Hid (w.heap.size + 1 ≤ W1.heap.size) := Lib.hid R1.out.lt
  have HB1 := Lib.hid (bel1 W1 (.cells #[.int .u64 0, .string ⟨#[]⟩, .slice none 0 0] 64))
  generalize W1.alloc (.cells #[.int .u64 0, .string ⟨#[]⟩, .slice none 0 0] 64) = W3 at *
  generalize hk3 : W1.heap.size = k3 at R3 HK3 HB1 ⊢
  have HSZ1 := Lib.hid (Nat.le_of_eq hk3)
  clear hk3
  have O0 : Hid (OwnT encFd 64 (fun b => k3 < b) W3 (k3 + 1) (.slice none 0 0) (VF.take 0)) := Lib.hid (OwnT.nil _ _)
  have y := (R1.out.below HB1.out (by have := HK3.out; omega)).c11
  obtain ⟨y0, y1, y2, y3, y4, y5, y6, y7, y8, y9, y10⟩ := y
  go_upto_region 3 with (fail)
  clear y0 y1 y2 y3 y4 y5 y6 y7 y8 y9 y10
  go_loopw [17] (fun s17 wr => ∃ (i : Nat) (po : Option Addr) (co : Nat), i ≤ val.length ∧ s17 = .int .i64 i ∧ Hid (RowAt wr k3 #[.int .u64 0, .string ⟨#[]⟩, .slice po i co] 64) ∧ Hid (OwnT encFd 64 (fun b => k3 < b) wr (k3 + 1) (.slice po i co) (VF.take i)) ∧ Hid (Below k3 W1 wr)) (fun s _ => val.length - (intOf s).toNat)
  case atStart => exact ⟨0, none, 0, Nat.zero_le _, rfl, R3, O0, HB1⟩
  case round =>
    clear R3 O0 HB1
    obtain ⟨i, po, co, hi, rfl, h3, ho, hb⟩ := hrel
    have R3 := Lib.hid h3.out
    have O := Lib.hid ho.out
    have HB1 := Lib.hid hb.out
    clear h3 ho hb
    by_cases hlt : i < val.length
    · obtain ⟨x, hx⟩ : ∃ x, val[i]? = some x := ⟨_, List.getElem?_eq_getElem hlt⟩
      have HA := (RowE.below encS (RowE.below encS HV.out HB.out (Nat.le_refl _)) HB1.out HSZ1.out).atS.2.2.2
      obtain ⟨ad0, rfl, c0⟩ := HA i x hx
      clear HA
      have q := R3.out.c3
      obtain ⟨q0, q1, q2, qf0, qf1, qf2⟩ := q
      have HTK : Hid (VF.take i ++ [bF x] = VF.take (i + 1)) := Lib.hid (by rw [List.take_add_one, HVG.out i x hx]; simp)
      have HTL : Hid ((VF.take i).length = i) := Lib.hid (by rw [List.length_take, HVL.out]; omega)
      have HL4 := Lib.hid hl
      clear hx
      go_upto_region 5 with (fail)
      clear c0
      have O8 := Lib.hid (O.out.below (bel1 wr (.cells #[.int .u64 0, .string x, .slice none 0 0] 64)) (Nat.le_refl _))
      have R11 := Lib.hid (RowAt.new wr #[.int .u64 0, .string x, .slice none 0 0] 64)
      have HSZ : Hid (k3 + 1 ≤ (wr.alloc (.cells #[.int .u64 0, .string x, .slice none 0 0] 64)).heap.size) := Lib.hid (by have := R3.out.lt; simp; omega)
      have HB8 := Lib.hid (HB1.out.alloc (Nat.le_of_lt R3.out.lt) (.cells #[.int .u64 0, .string x, .slice none 0 0] 64))
      have R38 := Lib.hid (R3.out.alloc (.cells #[.int .u64 0, .string x, .slice none 0 0] 64))
      go_wp2_with (at_builtin; refine wpList_append_tree (E := encFd) (A := fun b => k3 < b) Try.underlying60 info_field rfl (by omega) rfl _ _ rfl (k3 + 1) _ (VF.take i) rfl O8.out ⟨wr.heap.size, 0, none⟩ (bF x) ((0, bl x), none, 0, 0) rfl (lit_cells (E := encFd) R11.out rfl) (.leaf _ _ _ (by unfold maxLen; omega) (fun _ => rfl)) (by have := HTL.out; have := HL4.out; omega) HSZ.out ?_)
      intro v' w' ho hg hbb hz
      obtain ⟨po', co', rfl, _, _⟩ := OwnT.shape ho
      have HN1 : (VF.take i ++ [bF x]).length = i + 1 := by rw [List.length_append, HTL.out]; rfl
      rw [HN1]
      rw [HN1, HTK.out] at ho
      have hbk := hbb _ (Below.refl _ _)
      have R3' := Lib.hid (R38.out.below hbk (Nat.lt_succ_self _))
      have HB' := Lib.hid (HB8.out.trans (hbk.mono (Nat.le_succ _)))
      have O' := Lib.hid ho
      clear ho hg hbb hz hbk HN1 R11 HSZ q0 q1 q2 qf0 qf1 qf2 R3 R38 HB1 HB8 O O8
      have q := R3'.out.c3
      obtain ⟨q0, q1, q2, qf0, qf1, qf2⟩ := q
      have R3'' := Lib.hid (R3'.out.set 2 (.slice po' (i + 1) co') rfl)
      have O'' := Lib.hid (O'.out.setLow ⟨k3, 2, none⟩ (.slice po' (i + 1) co') (Nat.lt_succ_self _) (fun b hb => by simp only; omega))
      have HB'' := Lib.hid (HB'.out.setCell (p := ⟨k3, 2, none⟩) (Nat.le_refl _) (.slice po' (i + 1) co'))
      clear R3' O' HB'
      go_wp2
      exact ⟨⟨i + 1, po', co', by omega, by simp, R3'', O'', HB''⟩, by simp [intOf]; omega⟩
    · obtain rfl : i = val.length := by omega
      clear hlt hi
      have HT1 := Lib.hid (show RowT encFd (fun _ => True) wr (.slice po val.length co) VF from by
        have := O.out.row (fun b hb => hb)
        rw [← HVL.out, List.take_length, HVL.out] at this
        exact this.weaken (fun _ _ => trivial))
      clear O
      replace R1 := Lib.hid (R1.out.below HB1.out (by have := HK3.out; omega))
      replace HB := Lib.hid (HB.out.trans (HB1.out.mono (by have := HK3.out; omega)))
      clear HB1
      go_upto_region 8 with (fail)
      have R6 := Lib.hid (RowAt.new wr #[.int .u64 0, .string ⟨#[]⟩, .slice none 0 0] 64)
      have HK6 : Hid (k3 + 1 ≤ wr.heap.size) := Lib.hid R3.out.lt
      have HB1 := Lib.hid (bel1 wr (.cells #[.int .u64 0, .string ⟨#[]⟩, .slice none 0 0] 64))
      generalize wr.alloc (.cells #[.int .u64 0, .string ⟨#[]⟩, .slice none 0 0] 64) = W5 at *
      generalize hk6 : wr.heap.size = k6 at R6 HK6 HB1 ⊢
      have HSZ6 := Lib.hid (Nat.le_of_eq hk6)
      clear hk6
      have O0 : Hid (OwnT encFd 64 (fun b => k6 < b) W5 (k6 + 1) (.slice none 0 0) (SF.take 0)) := Lib.hid (OwnT.nil _ _)
      have y := (R1.out.below HB1.out (by have := HK3.out; have := HK6.out; omega)).c11
      obtain ⟨y0, y1, y2, y3, y4, y5, y6, y7, y8, y9, y10⟩ := y
      go_upto_region 9 with (fail)
      clear y0 y1 y2 y3 y4 y5 y6 y7 y8 y9 y10
      go_loopw [33] (fun s33 wr2 => ∃ (i : Nat) (po2 : Option Addr) (co2 : Nat), i ≤ se.length ∧ s33 = .int .i64 i ∧ Hid (RowAt wr2 k6 #[.int .u64 0, .string ⟨#[]⟩, .slice po2 i co2] 64) ∧ Hid (OwnT encFd 64 (fun b => k6 < b) wr2 (k6 + 1) (.slice po2 i co2) (SF.take i)) ∧ Hid (Below k6 wr wr2)) (fun s _ => se.length - (intOf s).toNat)
      case atStart => exact ⟨0, none, 0, Nat.zero_le _, rfl, R6, O0, HB1⟩
      case round =>
      clear R6 O0 HB1
      obtain ⟨i, po2, co2, hi, rfl, h6, ho, hb⟩ := hrel
      have R6 := Lib.hid h6.out
      have O := Lib.hid ho.out
      have HB1 := Lib.hid hb.out
      clear h6 ho hb
      by_cases hlt : i < se.length
      · obtain ⟨s, hs⟩ : ∃ s, se[i]? = some s := ⟨_, List.getElem?_eq_getElem hlt⟩
        obtain ⟨a, rfl, hc⟩ := (RowE.below encG (RowE.below encG HG.out HB.out (Nat.le_refl _)) HB1.out HSZ6.out).atG i s hs
        have KS1 := Lib.hid (KS.out s (List.mem_of_getElem? hs))
        have HTK : Hid (SF.take i ++ [bF (sealB s)] = SF.take (i + 1)) := Lib.hid (by rw [List.take_add_one, HSG.out i s hs]; simp)
        have HTL : Hid ((SF.take i).length = i) := Lib.hid (by rw [List.length_take, HSL.out]; omega)
        have HL4 := Lib.hid hl2
        generalize sealB s = sb at *
        clear hs
        obtain ⟨⟨r0, r1, r2, r3⟩, ⟨s0, s1', s2', s3'⟩, v⟩ := s
        have c0 := hc 0 _ rfl
        have c1 := hc 1 _ rfl
        have c2 := hc 2 _ rfl
        have c3 := hc 3 _ rfl
        have c4 := hc 4 _ rfl
        have c5 := hc 5 _ rfl
        have c6 := hc 6 _ rfl
        have c7 := hc 7 _ rfl
        have c8 := hc 8 _ rfl
        clear hc
        replace c0 : wr.cell? (a.add (i * 9)) = _ := c0
        replace c1 : wr.cell? ⟨(a.add (i * 9)).block, (a.add (i * 9)).off + 1, none⟩ = _ := c1
        replace c2 : wr.cell? ⟨(a.add (i * 9)).block, (a.add (i * 9)).off + 2, none⟩ = _ := c2
        replace c3 : wr.cell? ⟨(a.add (i * 9)).block, (a.add (i * 9)).off + 3, none⟩ = _ := c3
        replace c4 : wr.cell? ⟨(a.add (i * 9)).block, (a.add (i * 9)).off + 4, none⟩ = _ := c4
        replace c5 : wr.cell? ⟨(a.add (i * 9)).block, (a.add (i * 9)).off + 5, none⟩ = _ := c5
        replace c6 : wr.cell? ⟨(a.add (i * 9)).block, (a.add (i * 9)).off + 6, none⟩ = _ := c6
        replace c7 : wr.cell? ⟨(a.add (i * 9)).block, (a.add (i * 9)).off + 7, none⟩ = _ := c7
        replace c8 : wr.cell? ⟨(a.add (i * 9)).block, (a.add (i * 9)).off + 8, none⟩ = _ := c8
        try simp only at c0 c1 c2 c3 c4 c5 c6 c7 c8
        go_upto_region 11 with (fail)
        clear c0 c1 c2 c3 c4 c5 c6 c7 c8
        have R8 := Lib.hid (RowAt.new wr (sgc ((r0, r1, r2, r3), (s0, s1', s2', s3'), v)) 68)
        have HK8 : Hid (k6 < wr.heap.size) := Lib.hid R6.out.lt
        replace O := Lib.hid (O.out.below (bel1 wr (.cells (sgc ((r0, r1, r2, r3), (s0, s1', s2', s3'), v)) 68)) (Nat.le_refl _))
        replace HB1 := Lib.hid (HB1.out.alloc (Nat.le_of_lt R6.out.lt) (.cells (sgc ((r0, r1, r2, r3), (s0, s1', s2', s3'), v)) 68))
        replace R6 := Lib.hid (R6.out.alloc (.cells (sgc ((r0, r1, r2, r3), (s0, s1', s2', s3'), v)) 68))
        generalize wr.alloc (.cells (sgc ((r0, r1, r2, r3), (s0, s1', s2', s3'), v)) 68) = wb at *
        generalize wr.heap.size = k8 at *
        have z0 := fun u : Later wb => (R8.out.later u).cell 0
        have z1 := fun u : Later wb => (R8.out.later u).cell 1
        have z2 := fun u : Later wb => (R8.out.later u).cell 2
        have z3 := fun u : Later wb => (R8.out.later u).cell 3
        have z4 := fun u : Later wb => (R8.out.later u).cell 4
        have z5 := fun u : Later wb => (R8.out.later u).cell 5
        have z6 := fun u : Later wb => (R8.out.later u).cell 6
        have z7 := fun u : Later wb => (R8.out.later u).cell 7
        have z8 := fun u : Later wb => (R8.out.later u).cell 8
        have q := R6.out.lw3
        obtain ⟨q0, q1, q2, qf0, qf1, qf2⟩ := q
        have KC2 : Hid (Calls Try.prog 66 #[sgV ((r0, r1, r2, r3), (s0, s1', s2', s3'), v)] { wb with drawn := wb.drawn + 1 } fun e w' => e = .returned (.string sb) ∧ Below wb.heap.size wb w') := Lib.hid ((KS1.out _).mono fun e w' ⟨h1, h2⟩ => ⟨h1, (Below.refl wb.heap.size wb).drew.trans h2⟩)
        clear KS1
        (refine region_chain 3 6 mix ?hB ?_; case hB => kernel_rfl); (simp only [List.take_succ_cons, List.take_zero, List.drop_succ_cons, List.drop_zero]); (iterate 3 (with_reducible refine cr_step ?_; intro K hK; go_simp; (with_reducible refine hK _ ?_); clear hK K)); (with_reducible refine cr_nil ?_); (with_reducible refine ef_step rfl ?_); (intro K hK; unfold EF; go_simp; (refine KC2.out.mono ?_; rintro e w6 ⟨rfl, hb⟩; refine ⟨_, rfl, hb, hK _ _ ?_⟩; clear hK K)); (with_reducible refine ef_step rfl ?_); (intro K hK; unfold EF; go_simp; (first | refine ⟨Or.inr ⟨_, rfl⟩, hK _ _ ?_⟩ | refine hK _ _ ?_); clear hK K); (with_reducible refine ef_step rfl ?_); (intro K hK; unfold EF; go_simp; (first | refine ⟨Or.inr ⟨_, rfl⟩, hK _ _ ?_⟩ | refine hK _ _ ?_); clear hK K); (with_reducible refine ef_nil ?_)
        have HS6 := Lib.hid hb.size
        clear z0 z1 z2 z3 z4 z5 z6 z7 z8 q0 q1 q2 qf0 qf1 qf2 KC2
        replace O := Lib.hid (O.out.below hb (Nat.le_refl _))
        replace HB1 := Lib.hid (HB1.out.trans (hb.mono (Nat.le_of_lt R6.out.lt)))
        replace R6 := Lib.hid (R6.out.belowS hb)
        clear hb
        have O8 := Lib.hid (O.out.below (bel1 w6 (.cells #[.int .u64 0, .string sb, .slice none 0 0] 64)) (Nat.le_refl _))
        have R11 := Lib.hid (RowAt.new w6 #[.int .u64 0, .string sb, .slice none 0 0] 64)
        have HSZ : Hid (k6 + 1 ≤ (w6.alloc (.cells #[.int .u64 0, .string sb, .slice none 0 0] 64)).heap.size) := Lib.hid (by have := R6.out.lt; simp; omega)
        have HB8 := Lib.hid (HB1.out.alloc (Nat.le_of_lt R6.out.lt) (.cells #[.int .u64 0, .string sb, .slice none 0 0] 64))
        have R68 := Lib.hid (R6.out.alloc (.cells #[.int .u64 0, .string sb, .slice none 0 0] 64))
        go_wp2_with (at_builtin; refine wpList_append_tree (E := encFd) (A := fun b => k6 < b) Try.underlying60 info_field rfl (by omega) rfl _ _ rfl (k6 + 1) _ (SF.take i) rfl O8.out ⟨w6.heap.size, 0, none⟩ (bF sb) ((0, bl sb), none, 0, 0) rfl (lit_cells (E := encFd) R11.out rfl) (.leaf _ _ _ (by unfold maxLen; omega) (fun _ => rfl)) (by have := HTL.out; have := HL4.out; omega) HSZ.out ?_)
        intro v' w' ho hg hbb hz
        obtain ⟨po', co', rfl, _, _⟩ := OwnT.shape ho
        have HN1 : (SF.take i ++ [bF sb]).length = i + 1 := by rw [List.length_append, HTL.out]; rfl
        rw [HN1]
        rw [HN1, HTK.out] at ho
        have hbk := hbb _ (Below.refl _ _)
        have R6' := Lib.hid (R68.out.below hbk (Nat.lt_succ_self _))
        have HB' := Lib.hid (HB8.out.trans (hbk.mono (Nat.le_succ _)))
        have O' := Lib.hid ho
        clear ho hg hbb hz hbk HN1 R11 HSZ R6 R68 HB1 HB8 O O8
        have q := R6'.out.c3
        obtain ⟨q0, q1, q2, qf0, qf1, qf2⟩ := q
        have R6'' := Lib.hid (R6'.out.set 2 (.slice po' (i + 1) co') rfl)
        have O'' := Lib.hid (O'.out.setLow ⟨k6, 2, none⟩ (.slice po' (i + 1) co') (Nat.lt_succ_self _) (fun b hb => by simp only; omega))
        have HB'' := Lib.hid (HB'.out.setCell (p := ⟨k6, 2, none⟩) (Nat.le_refl _) (.slice po' (i + 1) co'))
        clear R6' O' HB'
        go_wp2
        exact ⟨⟨i + 1, po', co', by omega, by simp, R6'', O'', HB''⟩, by simp [intOf]; omega⟩
      · obtain rfl : i = se.length := by omega
        clear hlt hi
        have HT2 := Lib.hid (show RowT encFd (fun _ => True) wr (.slice po2 se.length co2) SF from by
          have := O.out.row (fun b hb => hb)
          rw [← HSL.out, List.take_length, HSL.out] at this
          exact this.weaken (fun _ _ => trivial))
        clear O
        replace HT1 := Lib.hid (RowT.below HT1.out HB1.out HSZ6.out)
        replace R1 := Lib.hid (R1.out.below HB1.out (by have := HK3.out; have := HK6.out; omega))
        replace R3 := Lib.hid (R3.out.below HB1.out (by have := HK6.out; omega))
        replace HB := Lib.hid (HB.out.trans (HB1.out.mono (by have := HK3.out; have := HK6.out; omega)))
        clear HB1
        have y := R1.out.c11
        obtain ⟨y0, y1, y2, y3, y4, y5, y6, y7, y8, y9, y10⟩ := y
        go_upto_region 14 with (fail)
        clear y0 y1 y2 y3 y4 y5 y6 y7 y8 y9 y10
        have R9 := Lib.hid (RowAt.new wr #[.int .u64 0, .string ⟨#[]⟩, .slice none 0 0] 64)
        have HK9 : Hid (k6 + 1 ≤ wr.heap.size) := Lib.hid R6.out.lt
        have hb := bel1 wr (.cells #[.int .u64 0, .string ⟨#[]⟩, .slice none 0 0] 64)
        replace R1 := Lib.hid (R1.out.belowS hb)
        replace R3 := Lib.hid (R3.out.belowS hb)
        replace R6 := Lib.hid (R6.out.belowS hb)
        have HB9 := Lib.hid hb
        clear hb
        generalize wr.alloc (.cells #[.int .u64 0, .string ⟨#[]⟩, .slice none 0 0] 64) = w9 at *
        generalize hk9 : wr.heap.size = k9 at R9 HK9 HB9 ⊢
        have HSZ9 := Lib.hid (Nat.le_of_eq hk9)
        clear hk9
        have y := R1.out.c11
        obtain ⟨y0, y1, y2, y3, y4, y5, y6, y7, y8, y9, y10⟩ := y
        cases ad
        · simp only [Bool.false_eq_true, if_false] at HF
          go_upto_region 16 with (fail)
          clear y0 y1 y2 y3 y4 y5 y6 y7 y8 y9 y10
          replace HT1 := Lib.hid (RowT.below HT1.out HB9.out HSZ9.out)
          replace HT2 := Lib.hid (RowT.below HT2.out HB9.out HSZ9.out)
          replace HB := Lib.hid (HB.out.trans (HB9.out.mono (by have := HK9.out; have := HK6.out; have := HK3.out; omega)))
          have y := R1.out.c11
          obtain ⟨y0, y1, y2, y3, y4, y5, y6, y7, y8, y9, y10⟩ := y
          have a := R3.out.c3
          obtain ⟨a0, a1, a2, af0, af1, af2⟩ := a
          have b := R9.out.c3
          obtain ⟨b0, b1, b2, bf0, bf1, bf2⟩ := b
          have d := R6.out.c3
          obtain ⟨d0, d1, d2, df0, df1, df2⟩ := d
          go_upto_region 17 with (fail)
          clear y0 y1 y2 y3 y4 y5 y6 y7 y8 y9 y10 a0 a1 a2 af0 af1 af2 b0 b1 b2 bf0 bf1 bf2 d0 d1 d2 df0 df1 df2
          have RL := Lib.hid (RowAt.new w9 #[.int .u64 0, .string pa, .slice none 0 0, .int .u64 (htn : Int), .string ⟨#[]⟩, .slice none 0 0, .int .u64 0, .string ro, .slice none 0 0, .int .u64 0, .string tx, .slice none 0 0, .int .u64 0, .string pr, .slice none 0 0, .int .u64 0, .string va, .slice none 0 0, .int .u64 0, .string ⟨#[]⟩, .slice po val.length co, .int .u64 0, .string vo, .slice none 0 0, .int .u64 0, .string ⟨#[]⟩, .slice none 0 0, .int .u64 (rdn : Int), .string ⟨#[]⟩, .slice none 0 0, .int .u64 0, .string ⟨#[]⟩, .slice po2 se.length co2] 64)
          have hb := bel1 w9 (.cells #[.int .u64 0, .string pa, .slice none 0 0, .int .u64 (htn : Int), .string ⟨#[]⟩, .slice none 0 0, .int .u64 0, .string ro, .slice none 0 0, .int .u64 0, .string tx, .slice none 0 0, .int .u64 0, .string pr, .slice none 0 0, .int .u64 0, .string va, .slice none 0 0, .int .u64 0, .string ⟨#[]⟩, .slice po val.length co, .int .u64 0, .string vo, .slice none 0 0, .int .u64 0, .string ⟨#[]⟩, .slice none 0 0, .int .u64 (rdn : Int), .string ⟨#[]⟩, .slice none 0 0, .int .u64 0, .string ⟨#[]⟩, .slice po2 se.length co2] 64)
          (replace HT1 := Lib.hid (HT1.out.below hb (Nat.le_refl _)); replace HT2 := Lib.hid (HT2.out.below hb (Nat.le_refl _)); replace HB := Lib.hid (HB.out.trans (hb.mono HB.out.size)); clear hb)
          generalize w9.alloc (.cells #[.int .u64 0, .string pa, .slice none 0 0, .int .u64 (htn : Int), .string ⟨#[]⟩, .slice none 0 0, .int .u64 0, .string ro, .slice none 0 0, .int .u64 0, .string tx, .slice none 0 0, .int .u64 0, .string pr, .slice none 0 0, .int .u64 0, .string va, .slice none 0 0, .int .u64 0, .string ⟨#[]⟩, .slice po val.length co, .int .u64 0, .string vo, .slice none 0 0, .int .u64 0, .string ⟨#[]⟩, .slice none 0 0, .int .u64 (rdn : Int), .string ⟨#[]⟩, .slice none 0 0, .int .u64 0, .string ⟨#[]⟩, .slice po2 se.length co2] 64) = wL at *
          generalize w9.heap.size = kL at *
          have KW1 := Lib.hid (KW.out (.slice (some ⟨kL, 0, none⟩) 11 11) wL (by
            rw [HF.out]
            refine RowT.lits (l := [(bF pa, (none, 0, 0)), (nF htn, (none, 0, 0)), (bF ro, (none, 0, 0)), (bF tx, (none, 0, 0)), (bF pr, (none, 0, 0)), (bF va, (none, 0, 0)), (lF VF, (po, val.length, co)), (bF vo, (none, 0, 0)), (nF 0, (none, 0, 0)), (nF rdn, (none, 0, 0)), (lF SF, (po2, se.length, co2))]) RL.out rfl trivial (by simp) (fun x hx => ?_)
            simp only [List.mem_cons, List.not_mem_nil, or_false] at hx
            rcases hx with rfl | rfl | rfl | rfl | rfl | rfl | rfl | rfl | rfl | rfl | rfl <;> first | exact RowT.nil | exact HT1.out | exact HT2.out))
          clear RL
          go_wp2_with (go_at_call 62; refine KW1.out.mono ?_; rintro e w6 ⟨rfl, hb⟩; replace HB := Lib.hid (HB.out.trans (hb.mono HB.out.size)); clear hb)
          go_ret
          exact ⟨rfl, HB.out⟩
        · simp only [if_true] at HF
          have b := R9.out.c3
          obtain ⟨b0, b1, b2, bf0, bf1, bf2⟩ := b
          go_upto_region 16 with (fail)
          clear y0 y1 y2 y3 y4 y5 y6 y7 y8 y9 y10 b0 b1 b2 bf0 bf1 bf2
          replace R9 := Lib.hid (R9.out.set 0 (.int .u64 1) rfl)
          replace R1 := Lib.hid (R1.out.other ⟨k9, 0, none⟩ (.int .u64 1) (by have := HK9.out; have := HK6.out; have := HK3.out; simp only; omega))
          replace R3 := Lib.hid (R3.out.other ⟨k9, 0, none⟩ (.int .u64 1) (by have := HK9.out; have := HK6.out; simp only; omega))
          replace R6 := Lib.hid (R6.out.other ⟨k9, 0, none⟩ (.int .u64 1) (by have := HK9.out; simp only; omega))
          replace HB9 := Lib.hid (HB9.out.setCell (p := ⟨k9, 0, none⟩) (Nat.le_refl _) (.int .u64 1))
          generalize w9.setCell ⟨k9, 0, none⟩ (.int .u64 1) = w9 at *
          replace R9 : Hid (RowAt w9 k9 #[.int .u64 1, .string ⟨#[]⟩, .slice none 0 0] 64) := Lib.hid R9.out
          replace HT1 := Lib.hid (RowT.below HT1.out HB9.out HSZ9.out)
          replace HT2 := Lib.hid (RowT.below HT2.out HB9.out HSZ9.out)
          replace HB := Lib.hid (HB.out.trans (HB9.out.mono (by have := HK9.out; have := HK6.out; have := HK3.out; omega)))
          have y := R1.out.c11
          obtain ⟨y0, y1, y2, y3, y4, y5, y6, y7, y8, y9, y10⟩ := y
          have a := R3.out.c3
          obtain ⟨a0, a1, a2, af0, af1, af2⟩ := a
          have b := R9.out.c3
          obtain ⟨b0, b1, b2, bf0, bf1, bf2⟩ := b
          have d := R6.out.c3
          obtain ⟨d0, d1, d2, df0, df1, df2⟩ := d
          go_upto_region 17 with (fail)
          clear y0 y1 y2 y3 y4 y5 y6 y7 y8 y9 y10 a0 a1 a2 af0 af1 af2 b0 b1 b2 bf0 bf1 bf2 d0 d1 d2 df0 df1 df2
          have RL := Lib.hid (RowAt.new w9 #[.int .u64 0, .string pa, .slice none 0 0, .int .u64 (htn : Int), .string ⟨#[]⟩, .slice none 0 0, .int .u64 0, .string ro, .slice none 0 0, .int .u64 0, .string tx, .slice none 0 0, .int .u64 0, .string pr, .slice none 0 0, .int .u64 0, .string va, .slice none 0 0, .int .u64 0, .string ⟨#[]⟩, .slice po val.length co, .int .u64 0, .string vo, .slice none 0 0, .int .u64 1, .string ⟨#[]⟩, .slice none 0 0, .int .u64 (rdn : Int), .string ⟨#[]⟩, .slice none 0 0, .int .u64 0, .string ⟨#[]⟩, .slice po2 se.length co2] 64)
          have hb := bel1 w9 (.cells #[.int .u64 0, .string pa, .slice none 0 0, .int .u64 (htn : Int), .string ⟨#[]⟩, .slice none 0 0, .int .u64 0, .string ro, .slice none 0 0, .int .u64 0, .string tx, .slice none 0 0, .int .u64 0, .string pr, .slice none 0 0, .int .u64 0, .string va, .slice none 0 0, .int .u64 0, .string ⟨#[]⟩, .slice po val.length co, .int .u64 0, .string vo, .slice none 0 0, .int .u64 1, .string ⟨#[]⟩, .slice none 0 0, .int .u64 (rdn : Int), .string ⟨#[]⟩, .slice none 0 0, .int .u64 0, .string ⟨#[]⟩, .slice po2 se.length co2] 64)
          (replace HT1 := Lib.hid (HT1.out.below hb (Nat.le_refl _)); replace HT2 := Lib.hid (HT2.out.below hb (Nat.le_refl _)); replace HB := Lib.hid (HB.out.trans (hb.mono HB.out.size)); clear hb)
          generalize w9.alloc (.cells #[.int .u64 0, .string pa, .slice none 0 0, .int .u64 (htn : Int), .string ⟨#[]⟩, .slice none 0 0, .int .u64 0, .string ro, .slice none 0 0, .int .u64 0, .string tx, .slice none 0 0, .int .u64 0, .string pr, .slice none 0 0, .int .u64 0, .string va, .slice none 0 0, .int .u64 0, .string ⟨#[]⟩, .slice po val.length co, .int .u64 0, .string vo, .slice none 0 0, .int .u64 1, .string ⟨#[]⟩, .slice none 0 0, .int .u64 (rdn : Int), .string ⟨#[]⟩, .slice none 0 0, .int .u64 0, .string ⟨#[]⟩, .slice po2 se.length co2] 64) = wL at *
          generalize w9.heap.size = kL at *
          have KW1 := Lib.hid (KW.out (.slice (some ⟨kL, 0, none⟩) 11 11) wL (by
            rw [HF.out]
            refine RowT.lits (l := [(bF pa, (none, 0, 0)), (nF htn, (none, 0, 0)), (bF ro, (none, 0, 0)), (bF tx, (none, 0, 0)), (bF pr, (none, 0, 0)), (bF va, (none, 0, 0)), (lF VF, (po, val.length, co)), (bF vo, (none, 0, 0)), (nF 1, (none, 0, 0)), (nF rdn, (none, 0, 0)), (lF SF, (po2, se.length, co2))]) RL.out rfl trivial (by simp) (fun x hx => ?_)
            simp only [List.mem_cons, List.not_mem_nil, or_false] at hx
            rcases hx with rfl | rfl | rfl | rfl | rfl | rfl | rfl | rfl | rfl | rfl | rfl <;> first | exact RowT.nil | exact HT1.out | exact HT2.out))
          clear RL
          go_wp2_with (go_at_call 62; refine KW1.out.mono ?_; rintro e w6 ⟨rfl, hb⟩; replace HB := Lib.hid (HB.out.trans (hb.mono HB.out.size)); clear hb)
          go_ret
          exact ⟨rfl, HB.out⟩
end Go.Proofs.Ytefmlbckbhlgdaa
namespace Go.Proofs.Ytefmlbckbhlgdaa
open Go.RowKit
set_option maxRecDepth 100000
end Go.Proofs.Ytefmlbckbhlgdaa
namespace Go.Proofs.Ytefmlbckbhlgdaa
open Go.RowKit
set_option maxRecDepth 100000
end Go.Proofs.Ytefmlbckbhlgdaa
namespace Go.Proofs.Ytefmlbckbhlgdaa
open Go.RowKit
/-- How size ends. -/
def rsizeE : Option (Nat × Nat) → Ending
  | none => .returned (.tuple #[.int .i64 (-1), .int .i64 0])
  | some (fr, n) => .returned (.tuple #[.int .i64 fr, .int .i64 n])

set_option maxRecDepth 100000 in
set_option maxHeartbeats 4000000 in
theorem rsize_any (s : ByteArray) (w : World) (hs : s.size ≤ 5000) (h0 : 0 < s.size) : Calls Try.prog 150 #[.string s] w fun e w' => e = rsizeE (rsizeL (bl s)) ∧ w = w' := by
  obtain ⟨c, t, hct⟩ : ∃ c t, bl s = c :: t := by
    cases h : bl s with
    | nil => have := bl_length s; rw [h] at this; simp at this; omega
    | cons c t => exact ⟨c, t, rfl⟩
  have hz : s.size = t.length + 1 := by rw [← bl_length, hct]; rfl
  have hc0 : s[0] = c := by
    have := sgetD h0
    rw [hct] at this
    simpa using this.symm
  have hget : ∀ k (h : k + 1 < s.size), s[k + 1] = t.getD k 0 := fun k h => by
    have := sgetD h
    rw [hct] at this
    simpa using this.symm
  have HGet := Lib.hid hget
  obtain ⟨C, hC⟩ : ∃ C, C = if 192 ≤ c.toNat then c.toNat - 64 else c.toNat := ⟨_, rfl⟩
  have hrz : rsizeL (c :: t) = if C < 128 then some (0, 1) else if C ≤ 183 then some (1, C - 128) else if 3 < C - 183 ∨ t.length < C - 183 then none else some (1 + (C - 183), valL (t.take (C - 183))) := by
    rw [hC]; rfl
  rw [hct]
  generalize rsizeL (c :: t) = R at *
  have hcl := c.toNat_lt
  have hn0 : (s[0].toNat : Int) = (c.toNat : Int) := by rw [hc0]
  clear hct hc0 hget
  generalize c.toNat = c0 at *
  by_cases h192 : 192 ≤ c0
  · rw [if_pos h192] at hC
    have hn1 : (s[0].toNat : Int) = (C : Int) + 64 := by rw [hn0]; omega
    have hb : C < 192 := by omega
    have hb2 : 128 ≤ C := by omega
    have hs64 : (C : Int) + 64 - 64 = C := by omega
    clear hn0 hC h192 hcl
    by_cases c1 : C < 128
    · omega
    · rw [if_neg c1] at hrz
      by_cases c2 : C ≤ 183
      · rw [if_pos c2] at hrz
        subst hrz
        have hsub : (C : Int) - 128 = ((C - 128 : Nat) : Int) := by omega
        go_enter Try.func150, Try.ntmps150
        go_wp2
        go_ret2
        exact ⟨by simp [rsizeE], rfl⟩
      · rw [if_neg c2] at hrz
        obtain ⟨k, rfl⟩ : ∃ k, C = 183 + k := ⟨C - 183, by omega⟩
        rw [show 183 + k - 183 = k by omega] at hrz
        have hk1 : 1 ≤ k := by omega
        have hsub : ((183 + k : Nat) : Int) - 183 = (k : Int) := by omega
        have hsub2 : (183 : Int) + (k : Int) - 183 = (k : Int) := by omega
        by_cases c3 : 3 < k
        · rw [if_pos (.inl c3)] at hrz
          subst hrz
          go_enter Try.func150, Try.ntmps150
          go_wp2
          go_ret2
          exact ⟨by simp [rsizeE], rfl⟩
        · by_cases c4 : t.length < k
          · rw [if_pos (.inr c4)] at hrz
            subst hrz
            go_enter Try.func150, Try.ntmps150
            go_wp2
            go_ret2
            exact ⟨by simp [rsizeE], rfl⟩
          · rw [if_neg (by omega)] at hrz
            have HV := Lib.hid (fun i (h : i + 1 < s.size) => (by rw [HGet.out i h]; exact valL_take (by rw [List.getD, List.getElem?_eq_getElem (by omega)]; rfl) : valL (t.take (i + 1)) = 256 * valL (t.take i) + (s[i + 1]'h).toNat))
            have HB := Lib.hid (fun i (h : i ≤ 3) => (by have := valL_lt _ (t.take i) rfl; have h2 : (t.take i).length ≤ 3 := by rw [List.length_take]; omega
                                                         have := Nat.pow_le_pow_right (n := 256) (by decide) h2; omega : valL (t.take i) < 16777216))
            have HR := Lib.hid hrz
            clear hrz
            go_enter Try.func150, Try.ntmps150
            go_wp2
            go_loop [5, 7] (fun n i => ∃ j : Nat, j ≤ k ∧ i = .int .i64 j ∧ n = .int .i64 (valL (t.take j))) (fun _ i => k - (intOf i).toNat)
            case atStart => exact ⟨0, Nat.zero_le _, rfl, by simp [valL]⟩
            case round =>
              obtain ⟨j, hj, rfl, rfl⟩ := hrel
              by_cases hlt : j < k
              · have hj1 : j + 1 < s.size := by omega
                have hv := HB.out j (by omega)
                have HO : Hid (256 * (valL (t.take j) : Int) + ((s[j + 1]'hj1).toNat : Int) = (valL (t.take (j + 1)) : Int)) := Lib.hid (by rw [HV.out j hj1]; omega)
                have hbv := (s[j + 1]'hj1).toNat_lt
                have hj2 : 1 + j < s.size := by omega
                have e : (s[1 + j]'hj2) = (s[j + 1]'hj1) := by simp only [Nat.add_comm 1 j]
                have hw : wrap64 ((s[1 + j]'hj2).toNat : Int) = ((s[j + 1]'hj1).toNat : Int) := by rw [e]; unfold wrap64; omega
                generalize hNN : valL (t.take j) = V at *
                clear hNN
                go_wp2
                refine ⟨⟨j + 1, by omega, by go_num, ?_⟩, by simp [intOf]; omega⟩
                rw [HO.out]
              · obtain rfl : j = k := by omega
                go_wp2
                go_ret2
                exact ⟨by rw [HR.out]; simp [rsizeE], rfl⟩
  · rw [if_neg h192] at hC
    subst hC
    have hb : C < 192 := by omega
    clear h192 hcl
    by_cases c1 : C < 128
    · rw [if_pos c1] at hrz
      subst hrz
      go_enter Try.func150, Try.ntmps150
      go_wp2
      go_ret2
      exact ⟨by simp [rsizeE], rfl⟩
    · rw [if_neg c1] at hrz
      by_cases c2 : C ≤ 183
      · rw [if_pos c2] at hrz
        subst hrz
        have hsub : (C : Int) - 128 = ((C - 128 : Nat) : Int) := by omega
        go_enter Try.func150, Try.ntmps150
        go_wp2
        go_ret2
        exact ⟨by simp [rsizeE], rfl⟩
      · rw [if_neg c2] at hrz
        obtain ⟨k, rfl⟩ : ∃ k, C = 183 + k := ⟨C - 183, by omega⟩
        rw [show 183 + k - 183 = k by omega] at hrz
        have hk1 : 1 ≤ k := by omega
        have hsub : ((183 + k : Nat) : Int) - 183 = (k : Int) := by omega
        have hsub2 : (183 : Int) + (k : Int) - 183 = (k : Int) := by omega
        by_cases c3 : 3 < k
        · rw [if_pos (.inl c3)] at hrz
          subst hrz
          go_enter Try.func150, Try.ntmps150
          go_wp2
          go_ret2
          exact ⟨by simp [rsizeE], rfl⟩
        · by_cases c4 : t.length < k
          · rw [if_pos (.inr c4)] at hrz
            subst hrz
            go_enter Try.func150, Try.ntmps150
            go_wp2
            go_ret2
            exact ⟨by simp [rsizeE], rfl⟩
          · rw [if_neg (by omega)] at hrz
            have HV := Lib.hid (fun i (h : i + 1 < s.size) => (by rw [HGet.out i h]; exact valL_take (by rw [List.getD, List.getElem?_eq_getElem (by omega)]; rfl) : valL (t.take (i + 1)) = 256 * valL (t.take i) + (s[i + 1]'h).toNat))
            have HB := Lib.hid (fun i (h : i ≤ 3) => (by have := valL_lt _ (t.take i) rfl; have h2 : (t.take i).length ≤ 3 := by rw [List.length_take]; omega
                                                         have := Nat.pow_le_pow_right (n := 256) (by decide) h2; omega : valL (t.take i) < 16777216))
            have HR := Lib.hid hrz
            clear hrz
            go_enter Try.func150, Try.ntmps150
            go_wp2
            go_loop [5, 7] (fun n i => ∃ j : Nat, j ≤ k ∧ i = .int .i64 j ∧ n = .int .i64 (valL (t.take j))) (fun _ i => k - (intOf i).toNat)
            case atStart => exact ⟨0, Nat.zero_le _, rfl, by simp [valL]⟩
            case round =>
              obtain ⟨j, hj, rfl, rfl⟩ := hrel
              by_cases hlt : j < k
              · have hj1 : j + 1 < s.size := by omega
                have hv := HB.out j (by omega)
                have HO : Hid (256 * (valL (t.take j) : Int) + ((s[j + 1]'hj1).toNat : Int) = (valL (t.take (j + 1)) : Int)) := Lib.hid (by rw [HV.out j hj1]; omega)
                have hbv := (s[j + 1]'hj1).toNat_lt
                have hj2 : 1 + j < s.size := by omega
                have e : (s[1 + j]'hj2) = (s[j + 1]'hj1) := by simp only [Nat.add_comm 1 j]
                have hw : wrap64 ((s[1 + j]'hj2).toNat : Int) = ((s[j + 1]'hj1).toNat : Int) := by rw [e]; unfold wrap64; omega
                generalize hNN : valL (t.take j) = V at *
                clear hNN
                go_wp2
                refine ⟨⟨j + 1, by omega, by go_num, ?_⟩, by simp [intOf]; omega⟩
                rw [HO.out]
              · obtain rfl : j = k := by omega
                go_wp2
                go_ret2
                exact ⟨by rw [HR.out]; simp [rsizeE], rfl⟩
end Go.Proofs.Ytefmlbckbhlgdaa
