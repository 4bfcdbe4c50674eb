/- Vset: a header of few bytes. -/
import Derived.Test.YthipnbiilobjeaaVs4
import Derived.Test.YthipnbiilobjeaaLaterTail
import Derived.BigQuiet
import Derived.BigRegion
namespace Go.Proofs.Ythipnbiilobjeaa
open Go.RowKit Go.Shelf

def cutB (s : ByteArray) : ByteArray := s.extract 0 (min s.size 50)
def fewH (x : HS) : HS := (⟨cutB x.1.pa, x.1.ht, cutB x.1.ro, cutB x.1.tx, cutB x.1.pr, cutB x.1.va, x.1.val.take (min x.1.val.length 20), cutB x.1.vo, x.1.ad, x.1.rd, x.1.se.take (min x.1.se.length 20)⟩, x.2)

theorem fewH_ok {w : World} {x : HS} (h : HsOk w x) : HsOk w (fewH x) := by
  obtain ⟨⟨h1, h2, h3⟩, h4, h5⟩ := h
  have e1 : (x.1.val.take (min x.1.val.length 20)).length = min x.1.val.length 20 := by simp
  have e2 : (x.1.se.take (min x.1.se.length 20)).length = min x.1.se.length 20 := by simp
  refine ⟨⟨?_, ?_, fun s hs => h3 s (List.mem_of_mem_take hs)⟩, ?_, h5⟩
  · show RowE encS w (.slice x.2.1.1 (x.1.val.take (min x.1.val.length 20)).length x.2.1.2) (x.1.val.take (min x.1.val.length 20))
    rw [e1]
    exact RowE.take encS h1 (Nat.min_le_left _ _)
  · show RowE encG w (.slice x.2.2.1 (x.1.se.take (min x.1.se.length 20)).length x.2.2.2) (x.1.se.take (min x.1.se.length 20))
    rw [e2]
    exact RowE.take encG h2 (Nat.min_le_left _ _)
  · show (x.1.val.take (min x.1.val.length 20)).length ≤ 100000
    rw [e1]; omega

theorem minIs_nat (top n : Nat) (t : Int) (ht : t = (top : Int)) : MinIs t n (min n top) := by
  subst ht
  unfold MinIs
  refine ⟨?_, Nat.min_le_left _ _, by omega⟩
  split <;> omega

theorem RowAt.f11 {w : World} {k : Nat} {cs : Array Value} {T : TypeId} (h : RowAt w k cs T) : w.frozen? ⟨k, 0, none⟩ = false ∧ w.frozen? ⟨k, 1, none⟩ = false ∧ w.frozen? ⟨k, 2, none⟩ = false ∧ w.frozen? ⟨k, 3, none⟩ = false ∧
    w.frozen? ⟨k, 4, none⟩ = false ∧ w.frozen? ⟨k, 5, none⟩ = false ∧ w.frozen? ⟨k, 6, none⟩ = false ∧ w.frozen? ⟨k, 7, none⟩ = false ∧ w.frozen? ⟨k, 8, none⟩ = false ∧ w.frozen? ⟨k, 9, none⟩ = false ∧ w.frozen? ⟨k, 10, none⟩ = false :=
  ⟨h.frozen 0, h.frozen 1, h.frozen 2, h.frozen 3, h.frozen 4, h.frozen 5, h.frozen 6, h.frozen 7, h.frozen 8, h.frozen 9, h.frozen 10⟩
/-- Eleven cells stored one behind the other. -/
abbrev put11 (w : World) (b o : Nat) (v0 v1 v2 v3 v4 v5 v6 v7 v8 v9 v10 : Value) : World :=
  ((((((((((w.setCell ⟨b, o, none⟩ v0).setCell ⟨b, o + 1, none⟩ v1).setCell ⟨b, o + 2, none⟩ v2).setCell ⟨b, o + 3, none⟩ v3).setCell ⟨b, o + 4, none⟩ v4).setCell ⟨b, o + 5, none⟩ v5).setCell ⟨b, o + 6, none⟩ v6).setCell ⟨b, o + 7, none⟩ v7).setCell ⟨b, o + 8, none⟩ v8).setCell ⟨b, o + 9, none⟩ v9).setCell ⟨b, o + 10, none⟩ v10
theorem RowAt.set11 {w : World} {k : Nat} {u0 u1 u2 u3 u4 u5 u6 u7 u8 u9 u10 : Value} {T : TypeId} (h : RowAt w k #[u0, u1, u2, u3, u4, u5, u6, u7, u8, u9, u10] T) (v0 v1 v2 v3 v4 v5 v6 v7 v8 v9 v10 : Value) : RowAt (put11 w k 0 v0 v1 v2 v3 v4 v5 v6 v7 v8 v9 v10) k #[v0, v1, v2, v3, v4, v5, v6, v7, v8, v9, v10] T := by
  have h0 := h.set 0 v0 (cs' := #[v0, u1, u2, u3, u4, u5, u6, u7, u8, u9, u10]) rfl
  have h1 := h0.set 1 v1 (cs' := #[v0, v1, u2, u3, u4, u5, u6, u7, u8, u9, u10]) rfl
  have h2 := h1.set 2 v2 (cs' := #[v0, v1, v2, u3, u4, u5, u6, u7, u8, u9, u10]) rfl
  have h3 := h2.set 3 v3 (cs' := #[v0, v1, v2, v3, u4, u5, u6, u7, u8, u9, u10]) rfl
  have h4 := h3.set 4 v4 (cs' := #[v0, v1, v2, v3, v4, u5, u6, u7, u8, u9, u10]) rfl
  have h5 := h4.set 5 v5 (cs' := #[v0, v1, v2, v3, v4, v5, u6, u7, u8, u9, u10]) rfl
  have h6 := h5.set 6 v6 (cs' := #[v0, v1, v2, v3, v4, v5, v6, u7, u8, u9, u10]) rfl
  have h7 := h6.set 7 v7 (cs' := #[v0, v1, v2, v3, v4, v5, v6, v7, u8, u9, u10]) rfl
  have h8 := h7.set 8 v8 (cs' := #[v0, v1, v2, v3, v4, v5, v6, v7, v8, u9, u10]) rfl
  have h9 := h8.set 9 v9 (cs' := #[v0, v1, v2, v3, v4, v5, v6, v7, v8, v9, u10]) rfl
  have h10 := h9.set 10 v10 (cs' := #[v0, v1, v2, v3, v4, v5, v6, v7, v8, v9, v10]) rfl
  exact h10
theorem below_set11 {w0 w : World} {B b o : Nat} (h : Below B w0 w) (hb : B ≤ b) (v0 v1 v2 v3 v4 v5 v6 v7 v8 v9 v10 : Value) : Below B w0 (put11 w b o v0 v1 v2 v3 v4 v5 v6 v7 v8 v9 v10) :=
  ((((((((((h.setCell (p := ⟨b, o, none⟩) hb v0).setCell (p := ⟨b, o + 1, none⟩) hb v1).setCell (p := ⟨b, o + 2, none⟩) hb v2).setCell (p := ⟨b, o + 3, none⟩) hb v3).setCell (p := ⟨b, o + 4, none⟩) hb v4).setCell (p := ⟨b, o + 5, none⟩) hb v5).setCell (p := ⟨b, o + 6, none⟩) hb v6).setCell (p := ⟨b, o + 7, none⟩) hb v7).setCell (p := ⟨b, o + 8, none⟩) hb v8).setCell (p := ⟨b, o + 9, none⟩) hb v9).setCell (p := ⟨b, o + 10, none⟩) hb v10

set_option maxRecDepth 100000 in
set_option maxHeartbeats 2000000 in
theorem cut_any (s : ByteArray) (hs : s.size ≤ 9223372036854775807) (w : World) : Calls Try.prog 56 #[.string s] w fun e w' => e = .returned (.string (cutB s)) ∧ w = w' := by
  obtain ⟨h1, h2, h3⟩ := minIs_nat 50 s.size 50 rfl
  have hc : Hid (cutB s = s.extract 0 (min s.size 50)) := Lib.hid rfl
  generalize min s.size 50 = m at *
  go_enter Try.func56, Try.ntmps56
  go_wp2
  go_ret
  exact ⟨by rw [hc.out]; rfl, rfl⟩

set_option maxRecDepth 100000 in
set_option maxHeartbeats 4000000 in
theorem fewH_any (x : HS) (w : World) (hz : x.1.pa.size ≤ 9223372036854775807 ∧ x.1.ro.size ≤ 9223372036854775807 ∧ x.1.tx.size ≤ 9223372036854775807 ∧ x.1.pr.size ≤ 9223372036854775807 ∧ x.1.va.size ≤ 9223372036854775807 ∧ x.1.vo.size ≤ 9223372036854775807) (hc : x.1.val.length ≤ x.2.1.2 ∧ x.2.1.2 ≤ maxLen ∧ x.1.se.length ≤ x.2.2.2 ∧ x.2.2.2 ≤ maxLen) :
    Calls Try.prog 29 #[.agg (hsc x)] w fun e w' => e = .returned (.agg (hsc (fewH x))) ∧ Below w.heap.size w w' := by
  obtain ⟨⟨pa, ht, ro, tx, pr, va, val, vo, ad, rd, se⟩, ⟨pv, cv⟩, ⟨pg, cg⟩⟩ := x
  simp only at hz hc
  obtain ⟨z0, z1, z2, z3, z4, z5⟩ := hz
  obtain ⟨c0, c1, c2, c3⟩ := hc
  have K0 := Lib.hid (fun W => cut_any pa z0 W)
  have K1 := Lib.hid (fun W => cut_any ro z1 W)
  have K2 := Lib.hid (fun W => cut_any tx z2 W)
  have K3 := Lib.hid (fun W => cut_any pr z3 W)
  have K4 := Lib.hid (fun W => cut_any va z4 W)
  have K5 := Lib.hid (fun W => cut_any vo z5 W)
  have M1 := minIs_nat 20 val.length 20 rfl
  have M2 := minIs_nat 20 se.length 20 rfl
  have e1 : (val.take (min val.length 20)).length = min val.length 20 := by simp
  have e2 : (se.take (min se.length 20)).length = min se.length 20 := by simp
  have HF : Hid (fewH (⟨pa, ht, ro, tx, pr, va, val, vo, ad, rd, se⟩, (pv, cv), (pg, cg)) = (⟨cutB pa, ht, cutB ro, cutB tx, cutB pr, cutB va, val.take (min val.length 20), cutB vo, ad, rd, se.take (min se.length 20)⟩, (pv, cv), (pg, cg))) := Lib.hid rfl
  generalize hm1 : min val.length 20 = m1 at *
  generalize hm2 : min se.length 20 = m2 at *
  clear hm1 hm2 z0 z1 z2 z3 z4 z5
  generalize cutB pa = pa' at *
  generalize cutB ro = ro' at *
  generalize cutB tx = tx' at *
  generalize cutB pr = pr' at *
  generalize cutB va = va' at *
  generalize cutB vo = vo' at *
  unfold maxLen at c1 c3
  obtain ⟨m11, m12, m13⟩ := M1
  obtain ⟨m21, m22, m23⟩ := M2
  have E1 := Lib.hid e1
  have E2 := Lib.hid e2
  clear e1 e2
  have R1 := Lib.hid ((RowAt.new w #[.string pa, .int .u64 ht, .string ro, .string tx, .string pr, .string va, .slice pv val.length cv, .string vo, .bool ad, .int .u64 rd, .slice pg se.length cg] 36).alloc (.cells #[.string ⟨#[]⟩, .int .u64 0, .string ⟨#[]⟩, .string ⟨#[]⟩, .string ⟨#[]⟩, .string ⟨#[]⟩, .slice none 0 0, .string ⟨#[]⟩, .bool false, .int .u64 0, .slice none 0 0] 36))
  have R2 := Lib.hid (RowAt.new' (w.alloc (.cells #[.string pa, .int .u64 ht, .string ro, .string tx, .string pr, .string va, .slice pv val.length cv, .string vo, .bool ad, .int .u64 rd, .slice pg se.length cg] 36)) #[.string ⟨#[]⟩, .int .u64 0, .string ⟨#[]⟩, .string ⟨#[]⟩, .string ⟨#[]⟩, .string ⟨#[]⟩, .slice none 0 0, .string ⟨#[]⟩, .bool false, .int .u64 0, .slice none 0 0] 36 (k := w.heap.size + 1) (by simp))
  have HB := Lib.hid (belowA2 w (.cells #[.string pa, .int .u64 ht, .string ro, .string tx, .string pr, .string va, .slice pv val.length cv, .string vo, .bool ad, .int .u64 rd, .slice pg se.length cg] 36) (.cells #[.string ⟨#[]⟩, .int .u64 0, .string ⟨#[]⟩, .string ⟨#[]⟩, .string ⟨#[]⟩, .string ⟨#[]⟩, .slice none 0 0, .string ⟨#[]⟩, .bool false, .int .u64 0, .slice none 0 0] 36))
  go_enter Try.func29, Try.ntmps29
  go_upto_region 2 with (fail)
  generalize (w.alloc (.cells #[.string pa, .int .u64 ht, .string ro, .string tx, .string pr, .string va, .slice pv val.length cv, .string vo, .bool ad, .int .u64 rd, .slice pg se.length cg] 36)).alloc (.cells #[.string ⟨#[]⟩, .int .u64 0, .string ⟨#[]⟩, .string ⟨#[]⟩, .string ⟨#[]⟩, .string ⟨#[]⟩, .slice none 0 0, .string ⟨#[]⟩, .bool false, .int .u64 0, .slice none 0 0] 36) = W at *
  have L0 : ∀ u : Later W, u.w.cell? ⟨w.heap.size, 0, none⟩ = some (.string pa) := fun u => (R1.out.later u).cell 0
  have L2 : ∀ u : Later W, u.w.cell? ⟨w.heap.size, 2, none⟩ = some (.string ro) := fun u => (R1.out.later u).cell 2
  have L3 : ∀ u : Later W, u.w.cell? ⟨w.heap.size, 3, none⟩ = some (.string tx) := fun u => (R1.out.later u).cell 3
  have L4 : ∀ u : Later W, u.w.cell? ⟨w.heap.size, 4, none⟩ = some (.string pr) := fun u => (R1.out.later u).cell 4
  have L5 : ∀ u : Later W, u.w.cell? ⟨w.heap.size, 5, none⟩ = some (.string va) := fun u => (R1.out.later u).cell 5
  have L7 : ∀ u : Later W, u.w.cell? ⟨w.heap.size, 7, none⟩ = some (.string vo) := fun u => (R1.out.later u).cell 7
  (refine region_later_tail 25 mix ?hB ?_; case hB => kernel_rfl); (simp only [List.take_succ_cons, List.take_zero, List.drop_succ_cons, List.drop_zero]); (iterate 25 (first | go_big_quiet_step ((first | (go_at_call 56; first | with_reducible exact Later.callSame (K0.out _) | with_reducible exact Later.callSame (K1.out _) | with_reducible exact Later.callSame (K2.out _) | with_reducible exact Later.callSame (K3.out _) | with_reducible exact Later.callSame (K4.out _) | with_reducible exact Later.callSame (K5.out _)) | (simp only [L0, L2, L3, L4, L5, L7]))) | quiet_step ((first | (go_at_call 56; first | with_reducible exact Later.callSame (K0.out _) | with_reducible exact Later.callSame (K1.out _) | with_reducible exact Later.callSame (K2.out _) | with_reducible exact Later.callSame (K3.out _) | with_reducible exact Later.callSame (K4.out _) | with_reducible exact Later.callSame (K5.out _)) | (simp only [L0, L2, L3, L4, L5, L7]))))); (refine wpQuiet_nil ?_; intro u)
  have Y0 := Lib.hid ((R1.out.later u).frozen 0)
  have Y2 := Lib.hid ((R1.out.later u).frozen 2)
  have Y3 := Lib.hid ((R1.out.later u).frozen 3)
  have Y4 := Lib.hid ((R1.out.later u).frozen 4)
  have Y5 := Lib.hid ((R1.out.later u).frozen 5)
  have Y7 := Lib.hid ((R1.out.later u).frozen 7)
  go_wp2
  any_goals (rename_i h; first | (rw [Y0.out] at h; cases h) | (rw [Y2.out] at h; cases h) | (rw [Y3.out] at h; cases h) | (rw [Y4.out] at h; cases h) | (rw [Y5.out] at h; cases h) | (rw [Y7.out] at h; cases h))
  rename_i f1 f2 f3 f4 f5 f6 g1 g2
  clear f1 f2 f3 f4 f5 f6 Y0 Y2 Y3 Y4 Y5 Y7
  have T1 := R1.out.later u
  have T2 : RowAt (u.w.setCell ⟨w.heap.size, 0, none⟩ (.string pa')) w.heap.size #[.string pa', .int .u64 ht, .string ro, .string tx, .string pr, .string va, .slice pv val.length cv, .string vo, .bool ad, .int .u64 rd, .slice pg se.length cg] 36 := T1.set 0 _ rfl
  have T3 : RowAt ((u.w.setCell ⟨w.heap.size, 0, none⟩ (.string pa')).setCell ⟨w.heap.size, 2, none⟩ (.string ro')) w.heap.size #[.string pa', .int .u64 ht, .string ro', .string tx, .string pr, .string va, .slice pv val.length cv, .string vo, .bool ad, .int .u64 rd, .slice pg se.length cg] 36 := T2.set 2 _ rfl
  have T4 : RowAt (((u.w.setCell ⟨w.heap.size, 0, none⟩ (.string pa')).setCell ⟨w.heap.size, 2, none⟩ (.string ro')).setCell ⟨w.heap.size, 3, none⟩ (.string tx')) w.heap.size #[.string pa', .int .u64 ht, .string ro', .string tx', .string pr, .string va, .slice pv val.length cv, .string vo, .bool ad, .int .u64 rd, .slice pg se.length cg] 36 := T3.set 3 _ rfl
  have T5 : RowAt ((((u.w.setCell ⟨w.heap.size, 0, none⟩ (.string pa')).setCell ⟨w.heap.size, 2, none⟩ (.string ro')).setCell ⟨w.heap.size, 3, none⟩ (.string tx')).setCell ⟨w.heap.size, 4, none⟩ (.string pr')) w.heap.size #[.string pa', .int .u64 ht, .string ro', .string tx', .string pr', .string va, .slice pv val.length cv, .string vo, .bool ad, .int .u64 rd, .slice pg se.length cg] 36 := T4.set 4 _ rfl
  have T6 : RowAt (((((u.w.setCell ⟨w.heap.size, 0, none⟩ (.string pa')).setCell ⟨w.heap.size, 2, none⟩ (.string ro')).setCell ⟨w.heap.size, 3, none⟩ (.string tx')).setCell ⟨w.heap.size, 4, none⟩ (.string pr')).setCell ⟨w.heap.size, 5, none⟩ (.string va')) w.heap.size #[.string pa', .int .u64 ht, .string ro', .string tx', .string pr', .string va', .slice pv val.length cv, .string vo, .bool ad, .int .u64 rd, .slice pg se.length cg] 36 := T5.set 5 _ rfl
  have T7 : RowAt ((((((u.w.setCell ⟨w.heap.size, 0, none⟩ (.string pa')).setCell ⟨w.heap.size, 2, none⟩ (.string ro')).setCell ⟨w.heap.size, 3, none⟩ (.string tx')).setCell ⟨w.heap.size, 4, none⟩ (.string pr')).setCell ⟨w.heap.size, 5, none⟩ (.string va')).setCell ⟨w.heap.size, 7, none⟩ (.string vo')) w.heap.size #[.string pa', .int .u64 ht, .string ro', .string tx', .string pr', .string va', .slice pv val.length cv, .string vo', .bool ad, .int .u64 rd, .slice pg se.length cg] 36 := T6.set 7 _ rfl
  have R2' := Lib.hid (show RowAt ((((((u.w.setCell ⟨w.heap.size, 0, none⟩ (.string pa')).setCell ⟨w.heap.size, 2, none⟩ (.string ro')).setCell ⟨w.heap.size, 3, none⟩ (.string tx')).setCell ⟨w.heap.size, 4, none⟩ (.string pr')).setCell ⟨w.heap.size, 5, none⟩ (.string va')).setCell ⟨w.heap.size, 7, none⟩ (.string vo')) (w.heap.size + 1) #[.string ⟨#[]⟩, .int .u64 0, .string ⟨#[]⟩, .string ⟨#[]⟩, .string ⟨#[]⟩, .string ⟨#[]⟩, .slice none 0 0, .string ⟨#[]⟩, .bool false, .int .u64 0, .slice none 0 0] 36 from (((((((R2.out.later u).other _ _ (by simp)).other _ _ (by simp)).other _ _ (by simp)).other _ _ (by simp)).other _ _ (by simp)).other _ _ (by simp)))
  have HB' := Lib.hid (show Below w.heap.size w ((((((u.w.setCell ⟨w.heap.size, 0, none⟩ (.string pa')).setCell ⟨w.heap.size, 2, none⟩ (.string ro')).setCell ⟨w.heap.size, 3, none⟩ (.string tx')).setCell ⟨w.heap.size, 4, none⟩ (.string pr')).setCell ⟨w.heap.size, 5, none⟩ (.string va')).setCell ⟨w.heap.size, 7, none⟩ (.string vo')) from (((((((HB.out.trans (u.below.mono HB.out.size)).setCell (p := ⟨w.heap.size, 0, none⟩) (Nat.le_refl _) _).setCell (p := ⟨w.heap.size, 2, none⟩) (Nat.le_refl _) _).setCell (p := ⟨w.heap.size, 3, none⟩) (Nat.le_refl _) _).setCell (p := ⟨w.heap.size, 4, none⟩) (Nat.le_refl _) _).setCell (p := ⟨w.heap.size, 5, none⟩) (Nat.le_refl _) _).setCell (p := ⟨w.heap.size, 7, none⟩) (Nat.le_refl _) _))
  have R1' := Lib.hid T7
  clear T1 T2 T3 T4 T5 T6 T7 R1 R2 HB L0 L2 L3 L4 L5 L7 K0 K1 K2 K3 K4 K5
  generalize ((((((u.w.setCell ⟨w.heap.size, 0, none⟩ (.string pa')).setCell ⟨w.heap.size, 2, none⟩ (.string ro')).setCell ⟨w.heap.size, 3, none⟩ (.string tx')).setCell ⟨w.heap.size, 4, none⟩ (.string pr')).setCell ⟨w.heap.size, 5, none⟩ (.string va')).setCell ⟨w.heap.size, 7, none⟩ (.string vo')) = W6 at *
  have x6 : W6.cell? ⟨w.heap.size, 6, none⟩ = some (.slice pv val.length cv) := R1'.out.cell 6
  have x10 : W6.cell? ⟨w.heap.size, 10, none⟩ = some (.slice pg se.length cg) := R1'.out.cell 10
  have y6 := R1'.out.frozen 6
  have y10 := R1'.out.frozen 10
  clear u
  go_region
  have R1'' : RowAt (((W6.setCell ⟨w.heap.size, 6, none⟩ (.slice pv m1 cv)).setCell ⟨w.heap.size, 10, none⟩ (.slice pg m2 cg)).drew) w.heap.size #[.string pa', .int .u64 ht, .string ro', .string tx', .string pr', .string va', .slice pv m1 cv, .string vo', .bool ad, .int .u64 rd, .slice pg m2 cg] 36 := ((R1'.out.set 6 (.slice pv m1 cv) rfl).set 10 (.slice pg m2 cg) rfl).drew
  have R2'' := Lib.hid (show RowAt (((W6.setCell ⟨w.heap.size, 6, none⟩ (.slice pv m1 cv)).setCell ⟨w.heap.size, 10, none⟩ (.slice pg m2 cg)).drew) (w.heap.size + 1) _ _ from ((R2'.out.other ⟨w.heap.size, 6, none⟩ (.slice pv m1 cv) (by simp)).other ⟨w.heap.size, 10, none⟩ (.slice pg m2 cg) (by simp)).drew)
  have HB'' := Lib.hid (show Below w.heap.size w (((W6.setCell ⟨w.heap.size, 6, none⟩ (.slice pv m1 cv)).setCell ⟨w.heap.size, 10, none⟩ (.slice pg m2 cg)).drew) from ((HB'.out.setCell (p := ⟨w.heap.size, 6, none⟩) (Nat.le_refl _) (.slice pv m1 cv)).setCell (p := ⟨w.heap.size, 10, none⟩) (Nat.le_refl _) (.slice pg m2 cg)).drew)
  clear x6 x10 y6 y10 R1' R2' HB'
  generalize ((W6.setCell ⟨w.heap.size, 6, none⟩ (.slice pv m1 cv)).setCell ⟨w.heap.size, 10, none⟩ (.slice pg m2 cg)).drew = W7 at *
  obtain ⟨x0, x1, x2, x3, x4, x5, x6, x7, x8, x9, x10⟩ := R1''.c11
  obtain ⟨y0, y1, y2, y3, y4, y5, y6, y7, y8, y9, y10⟩ := R2''.out.f11
  obtain ⟨z0, z1, z2, z3, z4, z5, z6, z7, z8, z9, z10⟩ := R2''.out.c11
  go_wp2
  clear z0 z1 z2 z3 z4 z5 z6 z7 z8 z9 z10 x0 x1 x2 x3 x4 x5 x6 x7 x8 x9 x10 y0 y1 y2 y3 y4 y5 y6 y7 y8 y9 y10
  obtain ⟨k0, k1, k2, k3, k4, k5, k6, k7, k8, k9, k10⟩ := (R2''.out.set11 (.string pa') (.int .u64 ht) (.string ro') (.string tx') (.string pr') (.string va') (.slice pv m1 cv) (.string vo') (.bool ad) (.int .u64 rd) (.slice pg m2 cg)).c11
  refine bodyPost_ret (v := .agg #[.string pa', .int .u64 ht, .string ro', .string tx', .string pr', .string va', .slice pv m1 cv, .string vo', .bool ad, .int .u64 rd, .slice pg m2 cg]) (by simp [results, Try.results29, go_sem, k0, k1, k2, k3, k4, k5, k6, k7, k8, k9, k10]) rfl ?_
  refine ⟨?_, below_set11 HB''.out (Nat.le_succ _) _ _ _ _ _ _ _ _ _ _ _⟩
  rw [HF.out]
  simp only [hsc, hdc, HS.sv, HS.gv, E1.out, E2.out]
end Go.Proofs.Ythipnbiilobjeaa
