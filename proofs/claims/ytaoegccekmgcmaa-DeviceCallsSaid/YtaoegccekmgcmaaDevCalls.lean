/- DeviceCalls: the walk. -/
import Derived.Test.YtaoegccekmgcmaaDev4
import Derived.Test.YtaoegccekmgcmaaLaterTail
import Derived.BigRegion
import Derived.WalkSmall
import Derived.Deep.DeepCutAuto
namespace Go.Proofs.Ytaoegccekmgcmaa
open Go.RowKit

/-- A device that may be. -/
def DR (b : ByteArray) (n : Int) : Prop := (b.size : Int) ≤ 200000 ∧ 0 ≤ n ∧ n ≤ (b.size : Int)

theorem append_gen (b s : ByteArray) (n : Int) (hb : (b.size : Int) ≤ 9223372036854775807) : ∃ (xb : ByteArray) (xn xe : Int), (∀ w, Calls Try.prog 15 #[dev b n, .string s] w fun e w' => e = .returned (.tuple #[dev xb xn, .int .i64 xe]) ∧ Below w.heap.size w w') ∧
    ((¬ DR b n ∧ xb = ⟨#[]⟩ ∧ xn = 0 ∧ xe = 1) ∨ (DR b n ∧ 200000 < (b.size : Int) + (s.size : Int) ∧ xb = ⟨#[]⟩ ∧ xn = 0 ∧ xe = 2) ∨ (DR b n ∧ (b.size : Int) + (s.size : Int) ≤ 200000 ∧ xb = b ++ s ∧ xn = n ∧ xe = 0)) := by
  by_cases h : DR b n
  · obtain ⟨h1, h2, h3⟩ := h
    by_cases hl : 200000 < (b.size : Int) + (s.size : Int)
    · exact ⟨_, _, _, fun w => append_long b s n w h1 h2 h3 (by omega), .inr (.inl ⟨⟨h1, h2, h3⟩, hl, rfl, rfl, rfl⟩)⟩
    · exact ⟨_, _, _, fun w => append_yes b s n w h1 h2 h3 (by omega), .inr (.inr ⟨⟨h1, h2, h3⟩, by omega, rfl, rfl, rfl⟩)⟩
  · exact ⟨_, _, _, fun w => append_no b s n w hb (by unfold DR at h; omega), .inl ⟨h, rfl, rfl, rfl⟩⟩

theorem sync_gen (b : ByteArray) (n : Int) (hb : (b.size : Int) ≤ 9223372036854775807) : ∃ (xb : ByteArray) (xn xe : Int), (∀ w, Calls Try.prog 17 #[dev b n] w fun e w' => e = .returned (.tuple #[dev xb xn, .int .i64 xe]) ∧ Below w.heap.size w w') ∧
    ((¬ DR b n ∧ xb = ⟨#[]⟩ ∧ xn = 0 ∧ xe = 1) ∨ (DR b n ∧ xb = b ∧ xn = (b.size : Int) ∧ xe = 0)) := by
  by_cases h : DR b n
  · obtain ⟨h1, h2, h3⟩ := h
    exact ⟨_, _, _, fun w => sync_yes b n w h1 h2 h3, .inr ⟨⟨h1, h2, h3⟩, rfl, rfl, rfl⟩⟩
  · exact ⟨_, _, _, fun w => sync_no b n w hb (by unfold DR at h; omega), .inl ⟨h, rfl, rfl, rfl⟩⟩

theorem crash_gen (b : ByteArray) (n m : Int) (hb : (b.size : Int) ≤ 9223372036854775807) (hm : m ≤ 9223372036854775807) : ∃ (xb : ByteArray) (xn xe : Int), (∀ w, Calls Try.prog 18 #[dev b n, .int .i64 m] w fun e w' => e = .returned (.tuple #[dev xb xn, .int .i64 xe]) ∧ Below w.heap.size w w') ∧
    ((¬ DR b n ∧ xb = ⟨#[]⟩ ∧ xn = 0 ∧ xe = 1) ∨ (DR b n ∧ xe = 0 ∧ ∀ w, Calls Try.prog 20 #[dev b n, .int .i64 m] w fun e w' => e = .returned (dev xb xn) ∧ Below w.heap.size w w')) := by
  by_cases h : DR b n
  · obtain ⟨h1, h2, h3⟩ := h
    obtain ⟨k, hk⟩ : ∃ k : Int, (m ≤ 0 ∧ k = n) ∨ (0 < m ∧ m ≤ (b.size : Int) - n ∧ k = n + m) ∨ (0 < m ∧ (b.size : Int) - n < m ∧ k = (b.size : Int)) := by
      by_cases c1 : m ≤ 0
      · exact ⟨_, .inl ⟨c1, rfl⟩⟩
      · by_cases c2 : m ≤ (b.size : Int) - n
        · exact ⟨_, .inr (.inl ⟨by omega, c2, rfl⟩)⟩
        · exact ⟨_, .inr (.inr ⟨by omega, by omega, rfl⟩)⟩
    exact ⟨_, _, _, fun w => crash_yes b n m k w h1 h2 h3 hk, .inr ⟨⟨h1, h2, h3⟩, rfl, fun w => rcrash_any b n m k w h1 h2 h3 hm hk⟩⟩
  · exact ⟨_, _, _, fun w => crash_no b n m w hb (by unfold DR at h; omega), .inl ⟨h, rfl, rfl, rfl⟩⟩

theorem cut_gen (b : ByteArray) (n m : Int) (hb : (b.size : Int) ≤ 9223372036854775807) : ∃ (xb : ByteArray) (xn xe : Int), (∀ w, Calls Try.prog 16 #[dev b n, .int .i64 m] w fun e w' => e = .returned (.tuple #[dev xb xn, .int .i64 xe]) ∧ Below w.heap.size w w') ∧
    ((¬ DR b n ∧ xb = ⟨#[]⟩ ∧ xn = 0 ∧ xe = 1) ∨ (DR b n ∧ (m < 0 ∨ (b.size : Int) < m) ∧ xb = ⟨#[]⟩ ∧ xn = 0 ∧ xe = 1) ∨ (DR b n ∧ 0 ≤ m ∧ m ≤ (b.size : Int) ∧ xb = b.extract 0 m.toNat ∧ ((n ≤ m ∧ xn = n) ∨ (m < n ∧ xn = m)) ∧ xe = 0)) := by
  by_cases h : DR b n
  · obtain ⟨h1, h2, h3⟩ := h
    by_cases hc : m < 0 ∨ (b.size : Int) < m
    · exact ⟨_, _, _, fun w => cut_bad b n m w h1 h2 h3 hc, .inr (.inl ⟨⟨h1, h2, h3⟩, hc, rfl, rfl, rfl⟩)⟩
    · by_cases hn : n ≤ m
      · exact ⟨_, _, _, fun w => cut_yes b n m n w h1 h2 h3 (by omega) (by omega) (.inl ⟨hn, rfl⟩), .inr (.inr ⟨⟨h1, h2, h3⟩, by omega, by omega, rfl, .inl ⟨hn, rfl⟩, rfl⟩)⟩
      · exact ⟨_, _, _, fun w => cut_yes b n m m w h1 h2 h3 (by omega) (by omega) (.inr ⟨by omega, rfl⟩), .inr (.inr ⟨⟨h1, h2, h3⟩, by omega, by omega, rfl, .inr ⟨by omega, rfl⟩, rfl⟩)⟩
  · exact ⟨_, _, _, fun w => cut_no b n m w hb (by unfold DR at h; omega), .inl ⟨h, rfl, rfl, rfl⟩⟩

abbrev devO (b : ByteArray) (n : Int) : Obj := .cells #[.string b, .int .i64 n] 34

set_option maxRecDepth 100000 in
set_option maxHeartbeats 4000000 in
theorem calls_any (b s : ByteArray) (n m : Int) (B S : Nat) (w : World) (hb : b.size ≤ 9223372036854775807) (hs : s.size ≤ 9223372036854775807) (hm : m ≤ 9223372036854775807)
    (mb : MinIs 200010 b.size B) (ms : MinIs 300 s.size S) :
    Calls Try.prog 8 #[dev b n, .string s, .int .i64 m] w fun e w' => e = .returned (.bool true) ∧ Below w.heap.size w w' := by
  obtain ⟨b1, b2, b3⟩ := mb
  obtain ⟨s1, s2, s3⟩ := ms
  go_enter Try.func8, Try.ntmps8
  go_wp2
  go_region
  go_upto_region 2 with (fail)
  have zb : ((b.extract 0 B).size : Int) ≤ 200010 := by rw [ByteArray.size_extract]; omega
  have zs : ((s.extract 0 S).size : Int) ≤ 300 := by rw [ByteArray.size_extract]; omega
  generalize b.extract 0 B = b' at *
  generalize s.extract 0 S = s' at *
  clear b1 b2 b3 s1 s2 s3 hb hs
  obtain ⟨ab, an, ae, KA, qA⟩ := append_gen b' s' n (by omega)
  obtain ⟨yb, yn, ye, KY, qY⟩ := sync_gen b' n (by omega)
  obtain ⟨cb, cn, ce, KC, qC⟩ := crash_gen b' n m (by omega) hm
  obtain ⟨tb, tn, te, KT, qT⟩ := cut_gen b' n m (by omega)
  have KA := Lib.hid KA
  have KY := Lib.hid KY
  have KC := Lib.hid KC
  have KT := Lib.hid KT
  have qA := Lib.hid qA
  have qY := Lib.hid qY
  have qC := Lib.hid qC
  have qT := Lib.hid qT
  have D : Hid (RowAt (w.alloc (devO b' n)).drew w.heap.size #[.string b', .int .i64 n] 34) := Lib.hid (RowAt.new _ _ _).drew
  have B : Hid (Below w.heap.size w (w.alloc (devO b' n)).drew) := Lib.hid ((Below.refl w.heap.size w).alloc (Nat.le_refl _) _).drew
  generalize (w.alloc (devO b' n)).drew = W0 at *
  obtain ⟨d0, d1, df0, df1⟩ := D.out.c2
  go_wp2_with fail
  refine (KA.out _).mono ?_
  rintro e w1 ⟨rfl, hb⟩
  (replace D := Lib.hid (D.out.belowS hb); replace B := Lib.hid (B.out.trans (hb.mono B.out.size)); clear hb)
  clear d0 d1 df0 df1
  (replace D := Lib.hid (D.out.alloc (devO ab an)); replace B := Lib.hid (B.out.alloc B.out.size (devO ab an)))
  have A1 : Hid (RowAt (w1.alloc (devO ab an)) w1.heap.size #[.string ab, .int .i64 an] 34) := Lib.hid (RowAt.new _ _ _)
  obtain ⟨d0, d1, df0, df1⟩ := D.out.c2
  go_wp2_with fail
  refine (KY.out _).mono ?_
  rintro e w2 ⟨rfl, hb⟩
  (replace D := Lib.hid (D.out.belowS hb); replace A1 := Lib.hid (A1.out.belowS hb); replace B := Lib.hid (B.out.trans (hb.mono B.out.size)); clear hb)
  clear d0 d1 df0 df1
  (replace D := Lib.hid (D.out.alloc (devO yb yn)); replace A1 := Lib.hid (A1.out.alloc (devO yb yn)); replace B := Lib.hid (B.out.alloc B.out.size (devO yb yn)))
  have Y1 : Hid (RowAt (w2.alloc (devO yb yn)) w2.heap.size #[.string yb, .int .i64 yn] 34) := Lib.hid (RowAt.new _ _ _)
  obtain ⟨d0, d1, df0, df1⟩ := D.out.c2
  go_wp2_with fail
  refine (KC.out _).mono ?_
  rintro e w3 ⟨rfl, hb⟩
  (replace D := Lib.hid (D.out.belowS hb); replace A1 := Lib.hid (A1.out.belowS hb); replace Y1 := Lib.hid (Y1.out.belowS hb); replace B := Lib.hid (B.out.trans (hb.mono B.out.size)); clear hb)
  clear d0 d1 df0 df1
  (replace D := Lib.hid (D.out.alloc (devO cb cn)); replace A1 := Lib.hid (A1.out.alloc (devO cb cn)); replace Y1 := Lib.hid (Y1.out.alloc (devO cb cn)); replace B := Lib.hid (B.out.alloc B.out.size (devO cb cn)))
  have C1 : Hid (RowAt (w3.alloc (devO cb cn)) w3.heap.size #[.string cb, .int .i64 cn] 34) := Lib.hid (RowAt.new _ _ _)
  obtain ⟨d0, d1, df0, df1⟩ := D.out.c2
  go_wp2_with fail
  refine (KT.out _).mono ?_
  rintro e w4 ⟨rfl, hb⟩
  (replace D := Lib.hid (D.out.belowS hb); replace A1 := Lib.hid (A1.out.belowS hb); replace Y1 := Lib.hid (Y1.out.belowS hb); replace C1 := Lib.hid (C1.out.belowS hb); replace B := Lib.hid (B.out.trans (hb.mono B.out.size)); clear hb)
  clear d0 d1 df0 df1
  (replace D := Lib.hid (D.out.alloc (devO tb tn)); replace A1 := Lib.hid (A1.out.alloc (devO tb tn)); replace Y1 := Lib.hid (Y1.out.alloc (devO tb tn)); replace C1 := Lib.hid (C1.out.alloc (devO tb tn)); replace B := Lib.hid (B.out.alloc B.out.size (devO tb tn)))
  have T1 : Hid (RowAt (w4.alloc (devO tb tn)) w4.heap.size #[.string tb, .int .i64 tn] 34) := Lib.hid (RowAt.new _ _ _)
  (replace D := Lib.hid (D.out.alloc (devO ⟨#[]⟩ 0)); replace A1 := Lib.hid (A1.out.alloc (devO ⟨#[]⟩ 0)); replace Y1 := Lib.hid (Y1.out.alloc (devO ⟨#[]⟩ 0)); replace C1 := Lib.hid (C1.out.alloc (devO ⟨#[]⟩ 0)); replace T1 := Lib.hid (T1.out.alloc (devO ⟨#[]⟩ 0)); replace B := Lib.hid (B.out.alloc B.out.size (devO ⟨#[]⟩ 0)))
  have N1 : Hid (RowAt ((w4.alloc (devO tb tn)).alloc (devO ⟨#[]⟩ 0)) (w4.heap.size + 1) #[.string ⟨#[]⟩, .int .i64 0] 34) := Lib.hid (RowAt.new' _ _ _ (by simp))
  go_upto_region 7 with (fail)
  generalize (w4.alloc (devO tb tn)).alloc (devO ⟨#[]⟩ 0) = W5 at *
  clear KA KY KC KT
  by_cases hR : DR b' n
  · have KR1 := Lib.hid (fun w => dright_yes b' n w hR.1 hR.2.1 hR.2.2)
    have KR2 := Lib.hid (fun w => rright_yes b' n w hR.1 hR.2.1 hR.2.2)
    have HR := Lib.hid hR
    clear hR
    obtain ⟨l0, l1⟩ := D.out.l2
    (refine region_later mix ?hB ?_; case hB => kernel_rfl); (repeat (first | go_big_quiet_step ((first | (go_at_call 19; with_reducible exact Later.call (KR1.out _)) | (go_at_call 13; with_reducible exact Later.call (KR2.out _)) | (go_at_call 14; with_reducible exact Later.call (alive12 _)))) | quiet_step ((first | (go_at_call 19; with_reducible exact Later.call (KR1.out _)) | (go_at_call 13; with_reducible exact Later.call (KR2.out _)) | (go_at_call 14; with_reducible exact Later.call (alive12 _)))))); (refine wpQuiet_nil ?_; rintro _ ⟨u, rfl⟩)
    clear l0 l1
    replace D := Lib.hid (D.out.later u)
    replace A1 := Lib.hid (A1.out.later u)
    replace Y1 := Lib.hid (Y1.out.later u)
    replace C1 := Lib.hid (C1.out.later u)
    replace T1 := Lib.hid (T1.out.later u)
    replace N1 := Lib.hid (N1.out.later u)
    replace B := Lib.hid (B.out.trans (u.below.mono B.out.size))
    generalize u.w = W6 at *
    clear u
    obtain ⟨d0, d1, df0, df1⟩ := D.out.c2
    go_wp2_with fail
    refine (KR2.out _).mono ?_
    rintro e w7 ⟨rfl, hb⟩
    (replace D := Lib.hid (D.out.belowS hb); replace A1 := Lib.hid (A1.out.belowS hb); replace Y1 := Lib.hid (Y1.out.belowS hb); replace C1 := Lib.hid (C1.out.belowS hb); replace T1 := Lib.hid (T1.out.belowS hb); replace N1 := Lib.hid (N1.out.belowS hb); replace B := Lib.hid (B.out.trans (hb.mono B.out.size)); clear hb)
    clear d0 d1 df0 df1
    obtain ⟨d0, d1, df0, df1⟩ := D.out.c2
    obtain ⟨a0, a1, af0, af1⟩ := A1.out.c2
    obtain ⟨y0, y1, yf0, yf1⟩ := Y1.out.c2
    obtain ⟨c0, c1, cf0, cf1⟩ := C1.out.c2
    obtain ⟨t0, t1, tf0, tf1⟩ := T1.out.c2
    obtain ⟨z0, z1, zf0, zf1⟩ := N1.out.c2
    clear KR1 KR2
    have HY : Hid (yb = b' ∧ yn = (b'.size : Int) ∧ ye = 0) := Lib.hid (by
      rcases qY.out with ⟨h, _⟩ | ⟨_, h⟩
      · exact absurd HR.out h
      · exact h)
    obtain ⟨e1, e2, e3⟩ := HY.out
    subst e1 e2 e3
    have HC : Hid (ce = 0 ∧ ∀ w, Calls Try.prog 20 #[dev yb n, .int .i64 m] w fun e w' => e = .returned (dev cb cn) ∧ Below w.heap.size w w') := Lib.hid (by
      rcases qC.out with ⟨h, _⟩ | ⟨_, h⟩
      · exact absurd HR.out h
      · exact h)
    obtain ⟨e4, hKR⟩ := HC.out
    have KR := Lib.hid hKR
    subst e4
    clear hKR
    have HA : Hid ((200000 < (yb.size : Int) + (s'.size : Int) ∧ ab = ⟨#[]⟩ ∧ an = 0 ∧ ae = 2) ∨ ((yb.size : Int) + (s'.size : Int) ≤ 200000 ∧ ab = yb ++ s' ∧ an = n ∧ ae = 0)) := Lib.hid (by
      rcases qA.out with ⟨h, _⟩ | ⟨_, h⟩ | ⟨_, h⟩
      · exact absurd HR.out h
      · exact .inl h
      · exact .inr h)
    have HT : Hid (((m < 0 ∨ (yb.size : Int) < m) ∧ tb = ⟨#[]⟩ ∧ tn = 0 ∧ te = 1) ∨ (0 ≤ m ∧ m ≤ (yb.size : Int) ∧ tb = yb.extract 0 m.toNat ∧ ((n ≤ m ∧ tn = n) ∨ (m < n ∧ tn = m)) ∧ te = 0)) := Lib.hid (by
      rcases qT.out with ⟨h, _⟩ | ⟨_, h⟩ | ⟨_, h⟩
      · exact absurd HR.out h
      · exact .inl h
      · exact .inr h)
    have hn1 : 0 ≤ n := HR.out.2.1
    have hn2 : n ≤ (yb.size : Int) := HR.out.2.2
    clear KA KY KC KT qA qY qC qT HR HY HC
    go_upto_region 11 with (fail)
    go_upto_if 108 with (fail)
    go_cut [6] (fun v wr => w7 = wr)
    case first =>
      rcases HA.out with ⟨hl, e5, e6, e7⟩ | ⟨hl, e5, e6, e7⟩
      · subst e5 e6 e7
        go_wp2
        go_meet
        case rel => rfl
      · subst e5 e6 e7
        have hl' : ¬ 200000 < (yb.size : Int) + (s'.size : Int) := by omega
        go_wp2
        go_meet
        case rel => rfl
    case rest =>
      obtain rfl := hcut
      clear HA
      rcases HT.out with ⟨hl, e5, e6, e7⟩ | ⟨g1, g2, e5, hl, e7⟩
      · subst e5 e6 e7
        rcases hl with hl | hl
        · go_upto_region 21 with (fail)
          obtain ⟨l0, l1⟩ := D.out.l2
          obtain ⟨l2, l3⟩ := Y1.out.l2
          obtain ⟨l4, l5⟩ := C1.out.l2
          by_cases hk : 1000 < m
          · have hk' : decide (1000 < m) = true := by simpa using hk
            (refine region_later mix ?hB ?_; case hB => kernel_rfl); (repeat (first | go_big_quiet_step ((fail)) | quiet_step ((fail)))); (refine wpQuiet_nil ?_; rintro _ ⟨u, rfl⟩)
            go_wp2
            go_ret
            exact ⟨rfl, B.out.trans (u.below.mono B.out.size)⟩
          · have hk' : decide (1000 < m) = false := by simpa using hk
            (refine region_later mix ?hB ?_; case hB => kernel_rfl); (repeat (first | go_big_quiet_step ((go_at_call 20; with_reducible exact Later.call (KR.out _))) | quiet_step ((go_at_call 20; with_reducible exact Later.call (KR.out _))))); (refine wpQuiet_nil ?_; rintro _ ⟨u, rfl⟩)
            go_wp2
            go_ret
            exact ⟨rfl, B.out.trans (u.below.mono B.out.size)⟩
        · have hm0 : ¬ m < 0 := by omega
          go_upto_region 21 with (fail)
          obtain ⟨l0, l1⟩ := D.out.l2
          obtain ⟨l2, l3⟩ := Y1.out.l2
          obtain ⟨l4, l5⟩ := C1.out.l2
          by_cases hk : 1000 < m
          · have hk' : decide (1000 < m) = true := by simpa using hk
            (refine region_later mix ?hB ?_; case hB => kernel_rfl); (repeat (first | go_big_quiet_step ((fail)) | quiet_step ((fail)))); (refine wpQuiet_nil ?_; rintro _ ⟨u, rfl⟩)
            go_wp2
            go_ret
            exact ⟨rfl, B.out.trans (u.below.mono B.out.size)⟩
          · have hk' : decide (1000 < m) = false := by simpa using hk
            (refine region_later mix ?hB ?_; case hB => kernel_rfl); (repeat (first | go_big_quiet_step ((go_at_call 20; with_reducible exact Later.call (KR.out _))) | quiet_step ((go_at_call 20; with_reducible exact Later.call (KR.out _))))); (refine wpQuiet_nil ?_; rintro _ ⟨u, rfl⟩)
            go_wp2
            go_ret
            exact ⟨rfl, B.out.trans (u.below.mono B.out.size)⟩
      · subst e5 e7
        have g3 : m.toNat ≤ yb.size := by omega
        rcases hl with ⟨hl, e6⟩ | ⟨hl, e6⟩
        · subst e6
          go_upto_region 19 with (fail)
          obtain ⟨l0, l1⟩ := D.out.l2
          obtain ⟨l2, l3⟩ := T1.out.l2
          (refine region_later mix ?hB ?_; case hB => kernel_rfl); (repeat (first | go_big_quiet_step ((fail)) | quiet_step ((fail)))); (refine wpQuiet_nil ?_; rintro _ ⟨u, rfl⟩)
          clear l0 l1 l2 l3
          replace D := Lib.hid (D.out.later u)
          replace Y1 := Lib.hid (Y1.out.later u)
          replace C1 := Lib.hid (C1.out.later u)
          replace B := Lib.hid (B.out.trans (u.below.mono B.out.size))
          generalize u.w = W8 at *
          clear u
          go_upto_region 21 with (fail)
          obtain ⟨l0, l1⟩ := D.out.l2
          obtain ⟨l2, l3⟩ := Y1.out.l2
          obtain ⟨l4, l5⟩ := C1.out.l2
          by_cases hk : 1000 < m
          · have hk' : decide (1000 < m) = true := by simpa using hk
            (refine region_later mix ?hB ?_; case hB => kernel_rfl); (repeat (first | go_big_quiet_step ((fail)) | quiet_step ((fail)))); (refine wpQuiet_nil ?_; rintro _ ⟨u, rfl⟩)
            go_wp2
            go_ret
            exact ⟨rfl, B.out.trans (u.below.mono B.out.size)⟩
          · have hk' : decide (1000 < m) = false := by simpa using hk
            (refine region_later mix ?hB ?_; case hB => kernel_rfl); (repeat (first | go_big_quiet_step ((go_at_call 20; with_reducible exact Later.call (KR.out _))) | quiet_step ((go_at_call 20; with_reducible exact Later.call (KR.out _))))); (refine wpQuiet_nil ?_; rintro _ ⟨u, rfl⟩)
            go_wp2
            go_ret
            exact ⟨rfl, B.out.trans (u.below.mono B.out.size)⟩
        · subst tn
          have hl2 : ¬ n ≤ m := by omega
          go_upto_region 19 with (fail)
          obtain ⟨l0, l1⟩ := D.out.l2
          obtain ⟨l2, l3⟩ := T1.out.l2
          (refine region_later mix ?hB ?_; case hB => kernel_rfl); (repeat (first | go_big_quiet_step ((fail)) | quiet_step ((fail)))); (refine wpQuiet_nil ?_; rintro _ ⟨u, rfl⟩)
          clear l0 l1 l2 l3
          replace D := Lib.hid (D.out.later u)
          replace Y1 := Lib.hid (Y1.out.later u)
          replace C1 := Lib.hid (C1.out.later u)
          replace B := Lib.hid (B.out.trans (u.below.mono B.out.size))
          generalize u.w = W8 at *
          clear u
          go_upto_region 21 with (fail)
          obtain ⟨l0, l1⟩ := D.out.l2
          obtain ⟨l2, l3⟩ := Y1.out.l2
          obtain ⟨l4, l5⟩ := C1.out.l2
          by_cases hk : 1000 < m
          · have hk' : decide (1000 < m) = true := by simpa using hk
            (refine region_later mix ?hB ?_; case hB => kernel_rfl); (repeat (first | go_big_quiet_step ((fail)) | quiet_step ((fail)))); (refine wpQuiet_nil ?_; rintro _ ⟨u, rfl⟩)
            go_wp2
            go_ret
            exact ⟨rfl, B.out.trans (u.below.mono B.out.size)⟩
          · have hk' : decide (1000 < m) = false := by simpa using hk
            (refine region_later mix ?hB ?_; case hB => kernel_rfl); (repeat (first | go_big_quiet_step ((go_at_call 20; with_reducible exact Later.call (KR.out _))) | quiet_step ((go_at_call 20; with_reducible exact Later.call (KR.out _))))); (refine wpQuiet_nil ?_; rintro _ ⟨u, rfl⟩)
            go_wp2
            go_ret
            exact ⟨rfl, B.out.trans (u.below.mono B.out.size)⟩
  · have KR1 := Lib.hid (fun w => dright_no b' n w (by omega) (by unfold DR at hR; omega))
    have KR2 := Lib.hid (fun w => rright_no b' n w (by omega) (by unfold DR at hR; omega))
    have HR := Lib.hid hR
    clear hR
    obtain ⟨l0, l1⟩ := D.out.l2
    (refine region_later mix ?hB ?_; case hB => kernel_rfl); (repeat (first | go_big_quiet_step ((first | (go_at_call 19; with_reducible exact Later.call (KR1.out _)) | (go_at_call 13; with_reducible exact Later.call (KR2.out _)) | (go_at_call 14; with_reducible exact Later.call (alive12 _)))) | quiet_step ((first | (go_at_call 19; with_reducible exact Later.call (KR1.out _)) | (go_at_call 13; with_reducible exact Later.call (KR2.out _)) | (go_at_call 14; with_reducible exact Later.call (alive12 _)))))); (refine wpQuiet_nil ?_; rintro _ ⟨u, rfl⟩)
    clear l0 l1
    replace D := Lib.hid (D.out.later u)
    replace A1 := Lib.hid (A1.out.later u)
    replace Y1 := Lib.hid (Y1.out.later u)
    replace C1 := Lib.hid (C1.out.later u)
    replace T1 := Lib.hid (T1.out.later u)
    replace N1 := Lib.hid (N1.out.later u)
    replace B := Lib.hid (B.out.trans (u.below.mono B.out.size))
    generalize u.w = W6 at *
    clear u
    obtain ⟨d0, d1, df0, df1⟩ := D.out.c2
    go_wp2_with fail
    refine (KR2.out _).mono ?_
    rintro e w7 ⟨rfl, hb⟩
    (replace D := Lib.hid (D.out.belowS hb); replace A1 := Lib.hid (A1.out.belowS hb); replace Y1 := Lib.hid (Y1.out.belowS hb); replace C1 := Lib.hid (C1.out.belowS hb); replace T1 := Lib.hid (T1.out.belowS hb); replace N1 := Lib.hid (N1.out.belowS hb); replace B := Lib.hid (B.out.trans (hb.mono B.out.size)); clear hb)
    clear d0 d1 df0 df1
    obtain ⟨e1, e2, e3⟩ : ab = ⟨#[]⟩ ∧ an = 0 ∧ ae = 1 := by
      rcases qA.out with ⟨_, h⟩ | ⟨h, _⟩ | ⟨h, _⟩
      · exact h
      · exact absurd h HR.out
      · exact absurd h HR.out
    obtain ⟨e4, e5, e6⟩ : yb = ⟨#[]⟩ ∧ yn = 0 ∧ ye = 1 := by
      rcases qY.out with ⟨_, h⟩ | ⟨h, _⟩
      · exact h
      · exact absurd h HR.out
    obtain ⟨e7, e8, e9⟩ : cb = ⟨#[]⟩ ∧ cn = 0 ∧ ce = 1 := by
      rcases qC.out with ⟨_, h⟩ | ⟨h, _⟩
      · exact h
      · exact absurd h HR.out
    obtain ⟨e10, e11, e12⟩ : tb = ⟨#[]⟩ ∧ tn = 0 ∧ te = 1 := by
      rcases qT.out with ⟨_, h⟩ | ⟨h, _⟩ | ⟨h, _⟩
      · exact h
      · exact absurd h HR.out
      · exact absurd h HR.out
    subst e1 e2 e3 e4 e5 e6 e7 e8 e9 e10 e11 e12
    obtain ⟨a0, a1, af0, af1⟩ := A1.out.c2
    obtain ⟨y0, y1, yf0, yf1⟩ := Y1.out.c2
    obtain ⟨c0, c1, cf0, cf1⟩ := C1.out.c2
    obtain ⟨t0, t1, tf0, tf1⟩ := T1.out.c2
    obtain ⟨z0, z1, zf0, zf1⟩ := N1.out.c2
    go_wp2_with fail
    go_ret
    exact ⟨rfl, B.out⟩

theorem deviceCalls_walk (W : World) (v : Value) (x : ByteArray × Int) (hx : DevRep W v x) (s : ByteArray) (hs : s.size ≤ maxLen) (m : Int) (hm : (Lit.int .i64 m).wf = true) :
    Calls Try.prog 8 #[v, .string s, .int .i64 m] W fun e W' => e = .returned (.bool true) ∧ Below W.heap.size W W' := by
  obtain ⟨rfl, h1, _⟩ := hx
  unfold maxLen at h1 hs
  obtain ⟨B, hB⟩ := minIs_ex 200010 (by omega) x.1.size
  obtain ⟨S, hS⟩ := minIs_ex 300 (by omega) s.size
  exact calls_any _ s _ m B S W h1 hs (i64_bd hm).2 hB hS
end Go.Proofs.Ytaoegccekmgcmaa
