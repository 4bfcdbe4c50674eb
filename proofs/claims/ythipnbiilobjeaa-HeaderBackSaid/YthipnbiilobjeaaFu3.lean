/- Signatures read: sign.From over 65 bytes. -/
import Derived.Test.YthipnbiilobjeaaFu1
import Derived.Deep.DeepCutAuto
namespace Go.Proofs.Ythipnbiilobjeaa
open Go.RowKit Go.Shelf
set_option maxRecDepth 100000

def zU : U4 := (0, 0, 0, 0)
def zSg : Sg := (zU, zU, 0)
/-- What sign.From answers. -/
def fromS (s : ByteArray) : Sg × Int := if sigOk (sgFrom s) = true then (sgFrom s, 0) else (zSg, 4)

theorem RowAt.set9a {w : World} {k : Nat} {u0 u1 u2 u3 u4 u5 u6 u7 u8 : Value} {T : TypeId} (h : RowAt w k #[u0, u1, u2, u3, u4, u5, u6, u7, u8] T) (v0 v1 v2 v3 : Value) : RowAt ((((w.setCell ⟨k, 0, none⟩ (v0)).setCell ⟨k, 1, none⟩ (v1)).setCell ⟨k, 2, none⟩ (v2)).setCell ⟨k, 3, none⟩ (v3)) k #[v0, v1, v2, v3, u4, u5, u6, u7, u8] T := (RowAt.set (cs' := #[v0, v1, v2, v3, u4, u5, u6, u7, u8]) (RowAt.set (cs' := #[v0, v1, v2, u3, u4, u5, u6, u7, u8]) (RowAt.set (cs' := #[v0, v1, u2, u3, u4, u5, u6, u7, u8]) (RowAt.set (cs' := #[v0, u1, u2, u3, u4, u5, u6, u7, u8]) h 0 v0 rfl) 1 v1 rfl) 2 v2 rfl) 3 v3 rfl)
theorem RowAt.set9b {w : World} {k : Nat} {u0 u1 u2 u3 u4 u5 u6 u7 u8 : Value} {T : TypeId} (h : RowAt w k #[u0, u1, u2, u3, u4, u5, u6, u7, u8] T) (v4 v5 v6 v7 : Value) : RowAt ((((w.setCell ⟨k, 4, none⟩ (v4)).setCell ⟨k, 5, none⟩ (v5)).setCell ⟨k, 6, none⟩ (v6)).setCell ⟨k, 7, none⟩ (v7)) k #[u0, u1, u2, u3, v4, v5, v6, v7, u8] T := (RowAt.set (cs' := #[u0, u1, u2, u3, v4, v5, v6, v7, u8]) (RowAt.set (cs' := #[u0, u1, u2, u3, v4, v5, v6, u7, u8]) (RowAt.set (cs' := #[u0, u1, u2, u3, v4, v5, u6, u7, u8]) (RowAt.set (cs' := #[u0, u1, u2, u3, v4, u5, u6, u7, u8]) h 4 v4 rfl) 5 v5 rfl) 6 v6 rfl) 7 v7 rfl)
theorem RowAt.set9c {w : World} {k : Nat} {u0 u1 u2 u3 u4 u5 u6 u7 u8 : Value} {T : TypeId} (h : RowAt w k #[u0, u1, u2, u3, u4, u5, u6, u7, u8] T) (v8 : Value) : RowAt (w.setCell ⟨k, 8, none⟩ (v8)) k #[u0, u1, u2, u3, u4, u5, u6, u7, v8] T := (RowAt.set (cs' := #[u0, u1, u2, u3, u4, u5, u6, u7, v8]) h 8 v8 rfl)


set_option maxHeartbeats 8000000 in
theorem fromS_any (s : ByteArray) (w : World) (hs : s.size = 65) : Calls Try.prog 68 #[.string s] w fun e w' => e = .returned (.tuple #[sgV (fromS s).1, .int .i64 (fromS s).2]) ∧ Below w.heap.size w w' := by
  have K1 := Lib.hid (fun W => fromU_any (s.extract 0 32) W (by rw [extract_size (by omega)]))
  have K2 := Lib.hid (fun W => fromU_any (s.extract 32 64) W (by rw [extract_size (by omega)]))
  have HV : Hid (∀ h : 64 < s.size, ((s[64].toNat : Nat) : Int) = (sgFrom s).2.2) := Lib.hid (fun h => by unfold sgFrom; simp only [sgetD h])
  have h0 : (sgFrom s).1 = fromU (s.extract 0 32) := rfl
  have h1 : (sgFrom s).2.1 = fromU (s.extract 32 64) := rfl
  rw [← h0] at K1
  rw [← h1] at K2
  clear h0 h1
  have HK := Lib.hid (fun W => sigRight_any (sgFrom s) (sgFrom_ok s) W)
  have HR : Hid (∀ b, sigOk (sgFrom s) = b → fromS s = if b = true then (sgFrom s, 0) else (zSg, 4)) := Lib.hid (fun b e => by unfold fromS; rw [e])
  have hg64 : 64 < s.size := by omega
  have hv := HV.out hg64
  have R0 := Lib.hid ((RowAt.new w #[.int .u64 0, .int .u64 0, .int .u64 0, .int .u64 0, .int .u64 0, .int .u64 0, .int .u64 0, .int .u64 0, .int .i64 0] 80).alloc (.cells #[.int .u64 0, .int .u64 0, .int .u64 0, .int .u64 0, .int .u64 0, .int .u64 0, .int .u64 0, .int .u64 0, .int .i64 0] 80))
  have R1 := Lib.hid (RowAt.new' (w.alloc (.cells #[.int .u64 0, .int .u64 0, .int .u64 0, .int .u64 0, .int .u64 0, .int .u64 0, .int .u64 0, .int .u64 0, .int .i64 0] 80)) #[.int .u64 0, .int .u64 0, .int .u64 0, .int .u64 0, .int .u64 0, .int .u64 0, .int .u64 0, .int .u64 0, .int .i64 0] 80 (k := w.heap.size + 1) (by simp))
  have HB := Lib.hid (belowA2 w (.cells #[.int .u64 0, .int .u64 0, .int .u64 0, .int .u64 0, .int .u64 0, .int .u64 0, .int .u64 0, .int .u64 0, .int .i64 0] 80) (.cells #[.int .u64 0, .int .u64 0, .int .u64 0, .int .u64 0, .int .u64 0, .int .u64 0, .int .u64 0, .int .u64 0, .int .i64 0] 80))
  generalize sgFrom s = g at *
  obtain ⟨⟨r0, r1, r2, r3⟩, ⟨s0, s1, s2, s3⟩, v⟩ := g
  simp only at hv K1 K2
  have hv256 : (s[64].toNat : Int) < 256 := by have := s[64].toNat_lt; omega
  generalize hvn : s[64].toNat = vn at *
  subst hv
  have hwr : wrap64 (vn : Int) = (vn : Int) := by
    unfold wrap64
    omega
  have HVN := Lib.hid hvn
  have HWR := Lib.hid hwr
  clear hvn hwr hv256
  generalize sigOk ((r0, r1, r2, r3), (s0, s1, s2, s3), (vn : Int)) = b at *
  have HE := Lib.hid (HR.out b rfl)
  clear HR HV
  generalize fromS s = res at *
  dsimp only [u4V, u4c] at K1 K2
  dsimp only [sgV, sgc] at HK
  go_enter Try.func68, Try.ntmps68
  obtain ⟨x0, x1, x2, x3, x4, x5, x6, x7, x8⟩ := R1.out.c9
  have xf0 := R1.out.frozen 0
  have xf1 := R1.out.frozen 1
  have xf2 := R1.out.frozen 2
  have xf3 := R1.out.frozen 3
  have xf4 := R1.out.frozen 4
  have xf5 := R1.out.frozen 5
  have xf6 := R1.out.frozen 6
  have xf7 := R1.out.frozen 7
  have xf8 := R1.out.frozen 8
  go_upto_region 5 with (go_at_call 115; ((with_reducible refine (K1.out _).mono ?_)); rintro e w1 ⟨rfl, hb⟩; (replace R0 := Lib.hid (R0.out.belowS hb); replace R1 := Lib.hid (R1.out.belowS hb); replace HB := Lib.hid (HB.out.trans (hb.mono HB.out.size)); clear hb); clear x0 x1 x2 x3 x4 x5 x6 x7 x8 xf0 xf1 xf2 xf3 xf4 xf5 xf6 xf7 xf8; obtain ⟨x0, x1, x2, x3, x4, x5, x6, x7, x8⟩ := R1.out.c9; have xf0 := R1.out.frozen 0; have xf1 := R1.out.frozen 1; have xf2 := R1.out.frozen 2; have xf3 := R1.out.frozen 3; have xf4 := R1.out.frozen 4; have xf5 := R1.out.frozen 5; have xf6 := R1.out.frozen 6; have xf7 := R1.out.frozen 7; have xf8 := R1.out.frozen 8)
  clear x0 x1 x2 x3 x4 x5 x6 x7 x8 xf0 xf1 xf2 xf3 xf4 xf5 xf6 xf7 xf8
  replace R0 := Lib.hid ((((R0.out.other ⟨w.heap.size + 1, 0, none⟩ (.int .u64 r0) (by simp)).other ⟨w.heap.size + 1, 1, none⟩ (.int .u64 r1) (by simp)).other ⟨w.heap.size + 1, 2, none⟩ (.int .u64 r2) (by simp)).other ⟨w.heap.size + 1, 3, none⟩ (.int .u64 r3) (by simp))
  replace R1 := Lib.hid (R1.out.set9a (.int .u64 r0) (.int .u64 r1) (.int .u64 r2) (.int .u64 r3))
  replace HB := Lib.hid ((((HB.out.setCell (p := ⟨w.heap.size + 1, 0, none⟩) (Nat.le_succ _) (.int .u64 r0)).setCell (p := ⟨w.heap.size + 1, 1, none⟩) (Nat.le_succ _) (.int .u64 r1)).setCell (p := ⟨w.heap.size + 1, 2, none⟩) (Nat.le_succ _) (.int .u64 r2)).setCell (p := ⟨w.heap.size + 1, 3, none⟩) (Nat.le_succ _) (.int .u64 r3))
  generalize ((((w1.setCell ⟨w.heap.size + 1, 0, none⟩ (.int .u64 r0)).setCell ⟨w.heap.size + 1, 1, none⟩ (.int .u64 r1)).setCell ⟨w.heap.size + 1, 2, none⟩ (.int .u64 r2)).setCell ⟨w.heap.size + 1, 3, none⟩ (.int .u64 r3)) = W5 at *
  obtain ⟨x0, x1, x2, x3, x4, x5, x6, x7, x8⟩ := R1.out.c9
  have xf0 := R1.out.frozen 0
  have xf1 := R1.out.frozen 1
  have xf2 := R1.out.frozen 2
  have xf3 := R1.out.frozen 3
  have xf4 := R1.out.frozen 4
  have xf5 := R1.out.frozen 5
  have xf6 := R1.out.frozen 6
  have xf7 := R1.out.frozen 7
  have xf8 := R1.out.frozen 8
  go_upto_region 6 with (go_at_call 115; ((with_reducible refine (K2.out _).mono ?_)); rintro e w2 ⟨rfl, hb⟩; (replace R0 := Lib.hid (R0.out.belowS hb); replace R1 := Lib.hid (R1.out.belowS hb); replace HB := Lib.hid (HB.out.trans (hb.mono HB.out.size)); clear hb); clear x0 x1 x2 x3 x4 x5 x6 x7 x8 xf0 xf1 xf2 xf3 xf4 xf5 xf6 xf7 xf8; obtain ⟨x0, x1, x2, x3, x4, x5, x6, x7, x8⟩ := R1.out.c9; have xf0 := R1.out.frozen 0; have xf1 := R1.out.frozen 1; have xf2 := R1.out.frozen 2; have xf3 := R1.out.frozen 3; have xf4 := R1.out.frozen 4; have xf5 := R1.out.frozen 5; have xf6 := R1.out.frozen 6; have xf7 := R1.out.frozen 7; have xf8 := R1.out.frozen 8)
  clear x0 x1 x2 x3 x4 x5 x6 x7 x8 xf0 xf1 xf2 xf3 xf4 xf5 xf6 xf7 xf8
  replace R0 := Lib.hid ((((R0.out.other ⟨w.heap.size + 1, 4, none⟩ (.int .u64 s0) (by simp)).other ⟨w.heap.size + 1, 5, none⟩ (.int .u64 s1) (by simp)).other ⟨w.heap.size + 1, 6, none⟩ (.int .u64 s2) (by simp)).other ⟨w.heap.size + 1, 7, none⟩ (.int .u64 s3) (by simp))
  replace R1 := Lib.hid (R1.out.set9b (.int .u64 s0) (.int .u64 s1) (.int .u64 s2) (.int .u64 s3))
  replace HB := Lib.hid ((((HB.out.setCell (p := ⟨w.heap.size + 1, 4, none⟩) (Nat.le_succ _) (.int .u64 s0)).setCell (p := ⟨w.heap.size + 1, 5, none⟩) (Nat.le_succ _) (.int .u64 s1)).setCell (p := ⟨w.heap.size + 1, 6, none⟩) (Nat.le_succ _) (.int .u64 s2)).setCell (p := ⟨w.heap.size + 1, 7, none⟩) (Nat.le_succ _) (.int .u64 s3))
  generalize ((((w2.setCell ⟨w.heap.size + 1, 4, none⟩ (.int .u64 s0)).setCell ⟨w.heap.size + 1, 5, none⟩ (.int .u64 s1)).setCell ⟨w.heap.size + 1, 6, none⟩ (.int .u64 s2)).setCell ⟨w.heap.size + 1, 7, none⟩ (.int .u64 s3)) = W6 at *
  have hvn := HVN.out
  have hwr := HWR.out
  obtain ⟨x0, x1, x2, x3, x4, x5, x6, x7, x8⟩ := R1.out.c9
  have xf0 := R1.out.frozen 0
  have xf1 := R1.out.frozen 1
  have xf2 := R1.out.frozen 2
  have xf3 := R1.out.frozen 3
  have xf4 := R1.out.frozen 4
  have xf5 := R1.out.frozen 5
  have xf6 := R1.out.frozen 6
  have xf7 := R1.out.frozen 7
  have xf8 := R1.out.frozen 8
  go_upto_region 7 with (fail)
  clear hvn hwr x0 x1 x2 x3 x4 x5 x6 x7 x8 xf0 xf1 xf2 xf3 xf4 xf5 xf6 xf7 xf8
  replace R0 := Lib.hid (R0.out.other ⟨w.heap.size + 1, 8, none⟩ (.int .i64 vn) (by simp))
  replace R1 := Lib.hid (R1.out.set9c (.int .i64 vn))
  replace HB := Lib.hid (HB.out.setCell (p := ⟨w.heap.size + 1, 8, none⟩) (Nat.le_succ _) (.int .i64 vn))
  generalize (W6.setCell ⟨w.heap.size + 1, 8, none⟩ (.int .i64 vn)) = W7 at *
  obtain ⟨x0, x1, x2, x3, x4, x5, x6, x7, x8⟩ := R1.out.c9
  cases b with
  | false =>
    go_upto_region 8 with (go_at_call 84; ((with_reducible refine (HK.out _).mono ?_)); rintro e w3 ⟨rfl, hb⟩; (replace R0 := Lib.hid (R0.out.belowS hb); replace R1 := Lib.hid (R1.out.belowS hb); replace HB := Lib.hid (HB.out.trans (hb.mono HB.out.size)); clear hb); clear x0 x1 x2 x3 x4 x5 x6 x7 x8)
    clear HK K1 K2 R1
    obtain ⟨y0, y1, y2, y3, y4, y5, y6, y7, y8⟩ := R0.out.c9
    have yf0 := R0.out.frozen 0
    have yf1 := R0.out.frozen 1
    have yf2 := R0.out.frozen 2
    have yf3 := R0.out.frozen 3
    have yf4 := R0.out.frozen 4
    have yf5 := R0.out.frozen 5
    have yf6 := R0.out.frozen 6
    have yf7 := R0.out.frozen 7
    have yf8 := R0.out.frozen 8
    go_wp2
    have RZ := Lib.hid ((((R0.out.set9a (.int .u64 0) (.int .u64 0) (.int .u64 0) (.int .u64 0)).set9b (.int .u64 0) (.int .u64 0) (.int .u64 0) (.int .u64 0)).set9c (.int .i64 0)))
    have HZ := Lib.hid (((((((((HB.out.setCell (p := ⟨w.heap.size, 0, none⟩) (Nat.le_refl _) (.int .u64 0)).setCell (p := ⟨w.heap.size, 1, none⟩) (Nat.le_refl _) (.int .u64 0)).setCell (p := ⟨w.heap.size, 2, none⟩) (Nat.le_refl _) (.int .u64 0)).setCell (p := ⟨w.heap.size, 3, none⟩) (Nat.le_refl _) (.int .u64 0)).setCell (p := ⟨w.heap.size, 4, none⟩) (Nat.le_refl _) (.int .u64 0)).setCell (p := ⟨w.heap.size, 5, none⟩) (Nat.le_refl _) (.int .u64 0)).setCell (p := ⟨w.heap.size, 6, none⟩) (Nat.le_refl _) (.int .u64 0)).setCell (p := ⟨w.heap.size, 7, none⟩) (Nat.le_refl _) (.int .u64 0)).setCell (p := ⟨w.heap.size, 8, none⟩) (Nat.le_refl _) (.int .i64 0))
    generalize (((((((((w3.setCell ⟨w.heap.size, 0, none⟩ (.int .u64 0)).setCell ⟨w.heap.size, 1, none⟩ (.int .u64 0)).setCell ⟨w.heap.size, 2, none⟩ (.int .u64 0)).setCell ⟨w.heap.size, 3, none⟩ (.int .u64 0)).setCell ⟨w.heap.size, 4, none⟩ (.int .u64 0)).setCell ⟨w.heap.size, 5, none⟩ (.int .u64 0)).setCell ⟨w.heap.size, 6, none⟩ (.int .u64 0)).setCell ⟨w.heap.size, 7, none⟩ (.int .u64 0)).setCell ⟨w.heap.size, 8, none⟩ (.int .i64 0)) = WZ at *
    clear y0 y1 y2 y3 y4 y5 y6 y7 y8 yf0 yf1 yf2 yf3 yf4 yf5 yf6 yf7 yf8 R0 HB HVN
    obtain ⟨k0, k1, k2, k3, k4, k5, k6, k7, k8⟩ := RZ.out.c9
    refine bodyPost_ret (v := .tuple #[.agg #[.int .u64 0, .int .u64 0, .int .u64 0, .int .u64 0, .int .u64 0, .int .u64 0, .int .u64 0, .int .u64 0, .int .i64 0], .int .i64 4]) (by simp [results, Try.results68, go_sem, k0, k1, k2, k3, k4, k5, k6, k7, k8]) rfl ?_
    exact ⟨by rw [HE.out]; rfl, HZ.out⟩
  | true =>
    go_upto_region 9 with (go_at_call 84; ((with_reducible refine (HK.out _).mono ?_)); rintro e w3 ⟨rfl, hb⟩; (replace R0 := Lib.hid (R0.out.belowS hb); replace R1 := Lib.hid (R1.out.belowS hb); replace HB := Lib.hid (HB.out.trans (hb.mono HB.out.size)); clear hb); clear x0 x1 x2 x3 x4 x5 x6 x7 x8)
    clear HK K1 K2
    obtain ⟨y0, y1, y2, y3, y4, y5, y6, y7, y8⟩ := R0.out.c9
    have yf0 := R0.out.frozen 0
    have yf1 := R0.out.frozen 1
    have yf2 := R0.out.frozen 2
    have yf3 := R0.out.frozen 3
    have yf4 := R0.out.frozen 4
    have yf5 := R0.out.frozen 5
    have yf6 := R0.out.frozen 6
    have yf7 := R0.out.frozen 7
    have yf8 := R0.out.frozen 8
    obtain ⟨x0, x1, x2, x3, x4, x5, x6, x7, x8⟩ := R1.out.c9
    go_wp2
    have RZ := Lib.hid ((((R0.out.set9a (.int .u64 r0) (.int .u64 r1) (.int .u64 r2) (.int .u64 r3)).set9b (.int .u64 s0) (.int .u64 s1) (.int .u64 s2) (.int .u64 s3)).set9c (.int .i64 vn)))
    have HZ := Lib.hid (((((((((HB.out.setCell (p := ⟨w.heap.size, 0, none⟩) (Nat.le_refl _) (.int .u64 r0)).setCell (p := ⟨w.heap.size, 1, none⟩) (Nat.le_refl _) (.int .u64 r1)).setCell (p := ⟨w.heap.size, 2, none⟩) (Nat.le_refl _) (.int .u64 r2)).setCell (p := ⟨w.heap.size, 3, none⟩) (Nat.le_refl _) (.int .u64 r3)).setCell (p := ⟨w.heap.size, 4, none⟩) (Nat.le_refl _) (.int .u64 s0)).setCell (p := ⟨w.heap.size, 5, none⟩) (Nat.le_refl _) (.int .u64 s1)).setCell (p := ⟨w.heap.size, 6, none⟩) (Nat.le_refl _) (.int .u64 s2)).setCell (p := ⟨w.heap.size, 7, none⟩) (Nat.le_refl _) (.int .u64 s3)).setCell (p := ⟨w.heap.size, 8, none⟩) (Nat.le_refl _) (.int .i64 vn))
    generalize (((((((((w3.setCell ⟨w.heap.size, 0, none⟩ (.int .u64 r0)).setCell ⟨w.heap.size, 1, none⟩ (.int .u64 r1)).setCell ⟨w.heap.size, 2, none⟩ (.int .u64 r2)).setCell ⟨w.heap.size, 3, none⟩ (.int .u64 r3)).setCell ⟨w.heap.size, 4, none⟩ (.int .u64 s0)).setCell ⟨w.heap.size, 5, none⟩ (.int .u64 s1)).setCell ⟨w.heap.size, 6, none⟩ (.int .u64 s2)).setCell ⟨w.heap.size, 7, none⟩ (.int .u64 s3)).setCell ⟨w.heap.size, 8, none⟩ (.int .i64 vn)) = WZ at *
    clear y0 y1 y2 y3 y4 y5 y6 y7 y8 yf0 yf1 yf2 yf3 yf4 yf5 yf6 yf7 yf8 x0 x1 x2 x3 x4 x5 x6 x7 x8 R0 R1 HB HVN
    obtain ⟨k0, k1, k2, k3, k4, k5, k6, k7, k8⟩ := RZ.out.c9
    refine bodyPost_ret (v := .tuple #[.agg #[.int .u64 r0, .int .u64 r1, .int .u64 r2, .int .u64 r3, .int .u64 s0, .int .u64 s1, .int .u64 s2, .int .u64 s3, .int .i64 vn], .int .i64 0]) (by simp [results, Try.results68, go_sem, k0, k1, k2, k3, k4, k5, k6, k7, k8]) rfl ?_
    exact ⟨by rw [HE.out]; rfl, HZ.out⟩
end Go.Proofs.Ythipnbiilobjeaa
