/- Header: a header of few bytes. -/
import Derived.Test.YthipnbiilobjeaaHr4
import Derived.Test.YthipnbiilobjeaaLaterTail
import Derived.Test.YthipnbiilobjeaaStg
import Derived.BigQuiet
import Derived.BigRegion
namespace Go.Proofs.Ythipnbiilobjeaa
open Go.RowKit Go.Shelf

def cutB (s : ByteArray) : ByteArray := s.extract 0 (min s.size 50)
/-- What 'few' leaves of a header. -/
def fewD (h : Hd) : Hd := ⟨cutB h.pa, h.ht, cutB h.ro, cutB h.tx, cutB h.pr, cutB h.va, (h.val.take (min h.val.length 20)).map cutB, cutB h.vo, h.ad, h.rd, h.se.take (min h.se.length 20)⟩
theorem minIs_nat (top n : Nat) (t : Int) (ht : t = (top : Int)) : MinIs t n (min n top) := by
  subst ht
  unfold MinIs
  refine ⟨?_, Nat.min_le_left _ _, by omega⟩
  split <;> omega

theorem RowAt.f11 {w : World} {k : Nat} {cs : Array Value} {T : TypeId} (h : RowAt w k cs T) : w.frozen? ⟨k, 0, none⟩ = false ∧ w.frozen? ⟨k, 1, none⟩ = false ∧ w.frozen? ⟨k, 2, none⟩ = false ∧ w.frozen? ⟨k, 3, none⟩ = false ∧
    w.frozen? ⟨k, 4, none⟩ = false ∧ w.frozen? ⟨k, 5, none⟩ = false ∧ w.frozen? ⟨k, 6, none⟩ = false ∧ w.frozen? ⟨k, 7, none⟩ = false ∧ w.frozen? ⟨k, 8, none⟩ = false ∧ w.frozen? ⟨k, 9, none⟩ = false ∧ w.frozen? ⟨k, 10, none⟩ = false :=
  ⟨h.frozen 0, h.frozen 1, h.frozen 2, h.frozen 3, h.frozen 4, h.frozen 5, h.frozen 6, h.frozen 7, h.frozen 8, h.frozen 9, h.frozen 10⟩
/-- Eleven cells stored one behind the other. -/
abbrev put11 (w : World) (b o : Nat) (v0 v1 v2 v3 v4 v5 v6 v7 v8 v9 v10 : Value) : World :=
  ((((((((((w.setCell ⟨b, o, none⟩ v0).setCell ⟨b, o + 1, none⟩ v1).setCell ⟨b, o + 2, none⟩ v2).setCell ⟨b, o + 3, none⟩ v3).setCell ⟨b, o + 4, none⟩ v4).setCell ⟨b, o + 5, none⟩ v5).setCell ⟨b, o + 6, none⟩ v6).setCell ⟨b, o + 7, none⟩ v7).setCell ⟨b, o + 8, none⟩ v8).setCell ⟨b, o + 9, none⟩ v9).setCell ⟨b, o + 10, none⟩ v10
theorem RowAt.set11 {w : World} {k : Nat} {u0 u1 u2 u3 u4 u5 u6 u7 u8 u9 u10 : Value} {T : TypeId} (h : RowAt w k #[u0, u1, u2, u3, u4, u5, u6, u7, u8, u9, u10] T) (v0 v1 v2 v3 v4 v5 v6 v7 v8 v9 v10 : Value) : RowAt (put11 w k 0 v0 v1 v2 v3 v4 v5 v6 v7 v8 v9 v10) k #[v0, v1, v2, v3, v4, v5, v6, v7, v8, v9, v10] T := by
  have h0 := h.set 0 v0 (cs' := #[v0, u1, u2, u3, u4, u5, u6, u7, u8, u9, u10]) rfl
  have h1 := h0.set 1 v1 (cs' := #[v0, v1, u2, u3, u4, u5, u6, u7, u8, u9, u10]) rfl
  have h2 := h1.set 2 v2 (cs' := #[v0, v1, v2, u3, u4, u5, u6, u7, u8, u9, u10]) rfl
  have h3 := h2.set 3 v3 (cs' := #[v0, v1, v2, v3, u4, u5, u6, u7, u8, u9, u10]) rfl
  have h4 := h3.set 4 v4 (cs' := #[v0, v1, v2, v3, v4, u5, u6, u7, u8, u9, u10]) rfl
  have h5 := h4.set 5 v5 (cs' := #[v0, v1, v2, v3, v4, v5, u6, u7, u8, u9, u10]) rfl
  have h6 := h5.set 6 v6 (cs' := #[v0, v1, v2, v3, v4, v5, v6, u7, u8, u9, u10]) rfl
  have h7 := h6.set 7 v7 (cs' := #[v0, v1, v2, v3, v4, v5, v6, v7, u8, u9, u10]) rfl
  have h8 := h7.set 8 v8 (cs' := #[v0, v1, v2, v3, v4, v5, v6, v7, v8, u9, u10]) rfl
  have h9 := h8.set 9 v9 (cs' := #[v0, v1, v2, v3, v4, v5, v6, v7, v8, v9, u10]) rfl
  have h10 := h9.set 10 v10 (cs' := #[v0, v1, v2, v3, v4, v5, v6, v7, v8, v9, v10]) rfl
  exact h10
theorem below_set11 {w0 w : World} {B b o : Nat} (h : Below B w0 w) (hb : B ≤ b) (v0 v1 v2 v3 v4 v5 v6 v7 v8 v9 v10 : Value) : Below B w0 (put11 w b o v0 v1 v2 v3 v4 v5 v6 v7 v8 v9 v10) :=
  ((((((((((h.setCell (p := ⟨b, o, none⟩) hb v0).setCell (p := ⟨b, o + 1, none⟩) hb v1).setCell (p := ⟨b, o + 2, none⟩) hb v2).setCell (p := ⟨b, o + 3, none⟩) hb v3).setCell (p := ⟨b, o + 4, none⟩) hb v4).setCell (p := ⟨b, o + 5, none⟩) hb v5).setCell (p := ⟨b, o + 6, none⟩) hb v6).setCell (p := ⟨b, o + 7, none⟩) hb v7).setCell (p := ⟨b, o + 8, none⟩) hb v8).setCell (p := ⟨b, o + 9, none⟩) hb v9).setCell (p := ⟨b, o + 10, none⟩) hb v10

set_option maxRecDepth 100000 in
set_option maxHeartbeats 2000000 in
theorem cutS_any (s : ByteArray) (hs : s.size ≤ 9223372036854775807) (w : World) : Calls Try.prog 44 #[.string s] w fun e w' => e = .returned (.string (cutB s)) ∧ w = w' := by
  obtain ⟨h1, h2, h3⟩ := minIs_nat 50 s.size 50 rfl
  have hc : Hid (cutB s = s.extract 0 (min s.size 50)) := Lib.hid rfl
  generalize min s.size 50 = m at *
  have h4 : min (s.size : Int) 50 = m := by rw [← h1]; split <;> omega
  clear h1
  go_enter Try.func44, Try.ntmps44
  go_wp2
  go_ret
  exact ⟨by rw [hc.out]; rfl, rfl⟩


/-- How 'few' ends. -/
def FewPost (h : Hd) (w : World) (e : Ending) (w' : World) : Prop := ∃ (sv gv : Value), e = .returned (.agg (hdc h sv gv)) ∧ HdAt w' h sv gv ∧ Below w.heap.size w w'
/-- How 'few' ends: the addresses lie in a row of the call's own, the seals where they lay in 'w0'. -/
def FewPost2 (w0 : World) (h : Hd) (w : World) (e : Ending) (w' : World) : Prop := ∃ (sv gv : Value), e = .returned (.agg (hdc h sv gv)) ∧ OwnE encS 9 w' w.heap.size sv h.val ∧ RowE encG w0 gv h.se ∧ (∀ s ∈ h.se, s.ok) ∧ Below w.heap.size w w'
/-- The first 'i' texts cut. -/
def partC (l : List ByteArray) (i : Nat) : List ByteArray := (l.take i).map cutB ++ l.drop i
theorem partC_get {l : List ByteArray} {i : Nat} {s : ByteArray} (h : l[i]? = some s) : (partC l i)[i]? = some s := by
  have hi := (List.getElem?_eq_some_iff.1 h).1
  unfold partC
  rw [List.getElem?_append_right (by simp; omega)]
  have : i - ((l.take i).map cutB).length = 0 := by simp; omega
  rw [this, List.getElem?_drop, Nat.add_zero, h]
theorem partC_set {l : List ByteArray} {i : Nat} {s : ByteArray} (h : l[i]? = some s) : (partC l i).set i (cutB s) = partC l (i + 1) := by
  have hi := (List.getElem?_eq_some_iff.1 h).1
  have hd : l.drop i = s :: l.drop (i + 1) := by
    obtain ⟨h1, h2⟩ := List.getElem?_eq_some_iff.1 h
    rw [List.drop_eq_getElem_cons h1, h2]
  unfold partC
  rw [List.set_append_right _ _ (by simp; omega), hd]
  have : i - ((l.take i).map cutB).length = 0 := by simp; omega
  rw [this, List.set_cons_zero, List.take_add_one, h]
  simp
theorem partC_zero (l : List ByteArray) : partC l 0 = l := by simp [partC]
theorem partC_all (l : List ByteArray) : partC l l.length = l.map cutB := by simp [partC]
theorem partC_len (l : List ByteArray) (i : Nat) (h : i ≤ l.length) : (partC l i).length = l.length := by simp [partC]; omega

theorem OwnE.setLow {α : Type} {E : Enc α} {T : TypeId} {w : World} {base : Nat} {v : Value} {l : List α} (h : OwnE E T w base v l) (a : Addr) (u : Value) (ha : a.block < base) : OwnE E T (w.setCell a u) base v l := by
  refine ⟨h.1, ?_⟩
  rcases h.2 with h' | ⟨g, cap, cur, hv, hg, hc, r⟩
  · exact .inl h'
  · exact .inr ⟨g, cap, cur, hv, hg, by rw [heap_setCell_other _ _ _ _ (by omega)]; exact hc, r⟩
theorem OwnE.setLow11 {α : Type} {E : Enc α} {T : TypeId} {w : World} {base k : Nat} {v : Value} {l : List α} (h : OwnE E T w base v l) (ha : k < base) {v0 v1 v2 v3 v4 v5 v6 v7 v8 v9 v10 : Value} : OwnE E T (put11 w k 0 v0 v1 v2 v3 v4 v5 v6 v7 v8 v9 v10) base v l :=
  ((((((((((h.setLow ⟨k, 0, none⟩ v0 ha).setLow ⟨k, 0 + 1, none⟩ v1 ha).setLow ⟨k, 0 + 2, none⟩ v2 ha).setLow ⟨k, 0 + 3, none⟩ v3 ha).setLow ⟨k, 0 + 4, none⟩ v4 ha).setLow ⟨k, 0 + 5, none⟩ v5 ha).setLow ⟨k, 0 + 6, none⟩ v6 ha).setLow ⟨k, 0 + 7, none⟩ v7 ha).setLow ⟨k, 0 + 8, none⟩ v8 ha).setLow ⟨k, 0 + 9, none⟩ v9 ha).setLow ⟨k, 0 + 10, none⟩ v10 ha
theorem run_append_rowE {α : Type} (E : Enc α) {ts te : TypeId} {z : Value} {bytes : Nat} (ht : Try.prog.underlying ts = some (.slice te)) (hinf : (Try.prog.info? te).map (fun i => (i.zero, i.size, i.bytes)) = some (some z, E.k, bytes)) (hzs : z.cells.size = E.k)
    (w : World) (ty : TypeId) (base : Nat) (v : Value) (l : List α) (hown : OwnE E te w base v l)
    (v2 : Value) (news : List α) (hsrc : RowE E w v2 news) (hb : l.length + news.length ≤ maxLen) (hby : (l.length + news.length) * bytes ≤ 140737488355328) (hbase : base ≤ w.heap.size) :
    ∃ v' w', (Builtin.append_ #[ts, ts] ty #[v, v2]).run Try.prog w = .ok v' w' ∧ OwnE E te w' base v' (l ++ news) ∧ (∀ w0, Below base w0 w → Below base w0 w') := by
  obtain ⟨i0, hi, hz0, hz1, hz2⟩ := info_parts hinf
  rcases hsrc with ⟨rfl, rfl⟩ | ⟨ad, cap, rfl, h1, h2, hc⟩
  · exact ⟨v, w, run_append_owned_none (P := Try.prog) (w := w) base ts ty te i0 E.k ht hi v l.length (flat E l) hown, by rw [List.append_nil]; exact hown, fun _ h => h⟩
  · obtain ⟨v', w', hr, k2, k3, _⟩ := run_append_own (P := Try.prog) w base ts ty te i0 _ E.k bytes ht hi hz0 hz1 hz2 hzs E.pos v l.length (flat E l) hown ad news.length cap (flat E news) (flat_length E news) hc (flat_one E news) hb hby hbase
    refine ⟨v', w', hr, ?_, below_grown hown k3 hbase⟩
    unfold OwnE
    rw [List.length_append, flat_append]
    exact k2

set_option maxRecDepth 100000 in
set_option maxHeartbeats 4000000 in
theorem fewD_any (h : Hd) (sv gv : Value) (w : World) (hz : h.pa.size ≤ 9223372036854775807 ∧ h.ro.size ≤ 9223372036854775807 ∧ h.tx.size ≤ 9223372036854775807 ∧ h.pr.size ≤ 9223372036854775807 ∧ h.va.size ≤ 9223372036854775807 ∧ h.vo.size ≤ 9223372036854775807) (w0 : World) (hw0 : Below w0.heap.size w0 w) (hh0 : HdAt w0 h sv gv) (hvs : ∀ s ∈ h.val, s.size ≤ 9223372036854775807) :
    Calls Try.prog 16 #[.agg (hdc h sv gv)] w (FewPost2 w0 (fewD h) w) := by
  have hh := hh0.below hw0
  have HG0 := Lib.hid hh0.2
  clear hh0 hw0
  obtain ⟨pv, cv, rfl, c0, c1⟩ := RowE.shape encS hh.1
  obtain ⟨pg, cg, rfl, c2, c3⟩ := RowE.shape encG hh.2.1
  have HHS := Lib.hid hh.1
  have HHG := Lib.hid hh.2
  have HVS := Lib.hid hvs
  clear hh hvs
  obtain ⟨pa, ht, ro, tx, pr, va, val, vo, ad, rd, se⟩ := h
  simp only at hz c0 c2 HHS HHG HVS
  obtain ⟨z0, z1, z2, z3, z4, z5⟩ := hz
  have K0 := Lib.hid (fun W => cutS_any pa z0 W)
  have K1 := Lib.hid (fun W => cutS_any ro z1 W)
  have K2 := Lib.hid (fun W => cutS_any tx z2 W)
  have K3 := Lib.hid (fun W => cutS_any pr z3 W)
  have K4 := Lib.hid (fun W => cutS_any va z4 W)
  have K5 := Lib.hid (fun W => cutS_any vo z5 W)
  have M1 := minIs_nat 20 val.length 20 rfl
  have M2 := minIs_nat 20 se.length 20 rfl
  have e1 : (val.take (min val.length 20)).length = min val.length 20 := by simp
  have e2 : (se.take (min se.length 20)).length = min se.length 20 := by simp
  have HF : Hid (fewD ⟨pa, ht, ro, tx, pr, va, val, vo, ad, rd, se⟩ = ⟨cutB pa, ht, cutB ro, cutB tx, cutB pr, cutB va, (val.take (min val.length 20)).map cutB, cutB vo, ad, rd, se.take (min se.length 20)⟩) := Lib.hid rfl
  generalize hm1 : min val.length 20 = m1 at *
  generalize hm2 : min se.length 20 = m2 at *
  clear hm1 hm2 z0 z1 z2 z3 z4 z5
  generalize cutB pa = pa' at *
  generalize cutB ro = ro' at *
  generalize cutB tx = tx' at *
  generalize cutB pr = pr' at *
  generalize cutB va = va' at *
  generalize cutB vo = vo' at *
  unfold maxLen at c1 c3
  obtain ⟨m11, m12, m13⟩ := M1
  obtain ⟨m21, m22, m23⟩ := M2
  have m14 : min (val.length : Int) 20 = m1 := by rw [← m11]; split <;> omega
  have m24 : min (se.length : Int) 20 = m2 := by rw [← m21]; split <;> omega
  clear m11 m21
  have E1 := Lib.hid e1
  have E2 := Lib.hid e2
  clear e1 e2
  have R1 := Lib.hid ((RowAt.new w #[.string pa, .int .u64 ht, .string ro, .string tx, .string pr, .string va, .slice pv val.length cv, .string vo, .bool ad, .int .u64 rd, .slice pg se.length cg] 36).alloc (.cells #[.string ⟨#[]⟩, .int .u64 0, .string ⟨#[]⟩, .string ⟨#[]⟩, .string ⟨#[]⟩, .string ⟨#[]⟩, .slice none 0 0, .string ⟨#[]⟩, .bool false, .int .u64 0, .slice none 0 0] 36))
  have R2 := Lib.hid (RowAt.new' (w.alloc (.cells #[.string pa, .int .u64 ht, .string ro, .string tx, .string pr, .string va, .slice pv val.length cv, .string vo, .bool ad, .int .u64 rd, .slice pg se.length cg] 36)) #[.string ⟨#[]⟩, .int .u64 0, .string ⟨#[]⟩, .string ⟨#[]⟩, .string ⟨#[]⟩, .string ⟨#[]⟩, .slice none 0 0, .string ⟨#[]⟩, .bool false, .int .u64 0, .slice none 0 0] 36 (k := w.heap.size + 1) (by simp))
  have HB := Lib.hid (belowA2 w (.cells #[.string pa, .int .u64 ht, .string ro, .string tx, .string pr, .string va, .slice pv val.length cv, .string vo, .bool ad, .int .u64 rd, .slice pg se.length cg] 36) (.cells #[.string ⟨#[]⟩, .int .u64 0, .string ⟨#[]⟩, .string ⟨#[]⟩, .string ⟨#[]⟩, .string ⟨#[]⟩, .slice none 0 0, .string ⟨#[]⟩, .bool false, .int .u64 0, .slice none 0 0] 36))
  go_enter Try.func16, Try.ntmps16
  go_upto_region 2 with (fail)
  generalize (w.alloc (.cells #[.string pa, .int .u64 ht, .string ro, .string tx, .string pr, .string va, .slice pv val.length cv, .string vo, .bool ad, .int .u64 rd, .slice pg se.length cg] 36)).alloc (.cells #[.string ⟨#[]⟩, .int .u64 0, .string ⟨#[]⟩, .string ⟨#[]⟩, .string ⟨#[]⟩, .string ⟨#[]⟩, .slice none 0 0, .string ⟨#[]⟩, .bool false, .int .u64 0, .slice none 0 0] 36) = W at *
  have L0 : ∀ u : Later W, u.w.cell? ⟨w.heap.size, 0, none⟩ = some (.string pa) := fun u => (R1.out.later u).cell 0
  have L2 : ∀ u : Later W, u.w.cell? ⟨w.heap.size, 2, none⟩ = some (.string ro) := fun u => (R1.out.later u).cell 2
  have L3 : ∀ u : Later W, u.w.cell? ⟨w.heap.size, 3, none⟩ = some (.string tx) := fun u => (R1.out.later u).cell 3
  have L4 : ∀ u : Later W, u.w.cell? ⟨w.heap.size, 4, none⟩ = some (.string pr) := fun u => (R1.out.later u).cell 4
  have L5 : ∀ u : Later W, u.w.cell? ⟨w.heap.size, 5, none⟩ = some (.string va) := fun u => (R1.out.later u).cell 5
  have L7 : ∀ u : Later W, u.w.cell? ⟨w.heap.size, 7, none⟩ = some (.string vo) := fun u => (R1.out.later u).cell 7
  (refine region_later_tail 25 mix ?hB ?_; case hB => kernel_rfl); (simp only [List.take_succ_cons, List.take_zero, List.drop_succ_cons, List.drop_zero]); (iterate 25 (first | go_big_quiet_step ((first | (go_at_call 44; first | with_reducible exact Later.callSame (K0.out _) | with_reducible exact Later.callSame (K1.out _) | with_reducible exact Later.callSame (K2.out _) | with_reducible exact Later.callSame (K3.out _) | with_reducible exact Later.callSame (K4.out _) | with_reducible exact Later.callSame (K5.out _)) | (simp only [L0, L2, L3, L4, L5, L7]))) | quiet_step ((first | (go_at_call 44; first | with_reducible exact Later.callSame (K0.out _) | with_reducible exact Later.callSame (K1.out _) | with_reducible exact Later.callSame (K2.out _) | with_reducible exact Later.callSame (K3.out _) | with_reducible exact Later.callSame (K4.out _) | with_reducible exact Later.callSame (K5.out _)) | (simp only [L0, L2, L3, L4, L5, L7]))))); (refine wpQuiet_nil ?_; intro u)
  have Y0 := Lib.hid ((R1.out.later u).frozen 0)
  have Y2 := Lib.hid ((R1.out.later u).frozen 2)
  have Y3 := Lib.hid ((R1.out.later u).frozen 3)
  have Y4 := Lib.hid ((R1.out.later u).frozen 4)
  have Y5 := Lib.hid ((R1.out.later u).frozen 5)
  have Y7 := Lib.hid ((R1.out.later u).frozen 7)
  go_wp2
  any_goals (rename_i h; first | (rw [Y0.out] at h; cases h) | (rw [Y2.out] at h; cases h) | (rw [Y3.out] at h; cases h) | (rw [Y4.out] at h; cases h) | (rw [Y5.out] at h; cases h) | (rw [Y7.out] at h; cases h))
  rename_i f1 f2 f3 f4 f5 f6 g1 g2
  clear f1 f2 f3 f4 f5 f6 Y0 Y2 Y3 Y4 Y5 Y7
  have T1 := R1.out.later u
  have T2 : RowAt (u.w.setCell ⟨w.heap.size, 0, none⟩ (.string pa')) w.heap.size #[.string pa', .int .u64 ht, .string ro, .string tx, .string pr, .string va, .slice pv val.length cv, .string vo, .bool ad, .int .u64 rd, .slice pg se.length cg] 36 := T1.set 0 _ rfl
  have T3 : RowAt ((u.w.setCell ⟨w.heap.size, 0, none⟩ (.string pa')).setCell ⟨w.heap.size, 2, none⟩ (.string ro')) w.heap.size #[.string pa', .int .u64 ht, .string ro', .string tx, .string pr, .string va, .slice pv val.length cv, .string vo, .bool ad, .int .u64 rd, .slice pg se.length cg] 36 := T2.set 2 _ rfl
  have T4 : RowAt (((u.w.setCell ⟨w.heap.size, 0, none⟩ (.string pa')).setCell ⟨w.heap.size, 2, none⟩ (.string ro')).setCell ⟨w.heap.size, 3, none⟩ (.string tx')) w.heap.size #[.string pa', .int .u64 ht, .string ro', .string tx', .string pr, .string va, .slice pv val.length cv, .string vo, .bool ad, .int .u64 rd, .slice pg se.length cg] 36 := T3.set 3 _ rfl
  have T5 : RowAt ((((u.w.setCell ⟨w.heap.size, 0, none⟩ (.string pa')).setCell ⟨w.heap.size, 2, none⟩ (.string ro')).setCell ⟨w.heap.size, 3, none⟩ (.string tx')).setCell ⟨w.heap.size, 4, none⟩ (.string pr')) w.heap.size #[.string pa', .int .u64 ht, .string ro', .string tx', .string pr', .string va, .slice pv val.length cv, .string vo, .bool ad, .int .u64 rd, .slice pg se.length cg] 36 := T4.set 4 _ rfl
  have T6 : RowAt (((((u.w.setCell ⟨w.heap.size, 0, none⟩ (.string pa')).setCell ⟨w.heap.size, 2, none⟩ (.string ro')).setCell ⟨w.heap.size, 3, none⟩ (.string tx')).setCell ⟨w.heap.size, 4, none⟩ (.string pr')).setCell ⟨w.heap.size, 5, none⟩ (.string va')) w.heap.size #[.string pa', .int .u64 ht, .string ro', .string tx', .string pr', .string va', .slice pv val.length cv, .string vo, .bool ad, .int .u64 rd, .slice pg se.length cg] 36 := T5.set 5 _ rfl
  have T7 : RowAt ((((((u.w.setCell ⟨w.heap.size, 0, none⟩ (.string pa')).setCell ⟨w.heap.size, 2, none⟩ (.string ro')).setCell ⟨w.heap.size, 3, none⟩ (.string tx')).setCell ⟨w.heap.size, 4, none⟩ (.string pr')).setCell ⟨w.heap.size, 5, none⟩ (.string va')).setCell ⟨w.heap.size, 7, none⟩ (.string vo')) w.heap.size #[.string pa', .int .u64 ht, .string ro', .string tx', .string pr', .string va', .slice pv val.length cv, .string vo', .bool ad, .int .u64 rd, .slice pg se.length cg] 36 := T6.set 7 _ rfl
  have R2' := Lib.hid (show RowAt ((((((u.w.setCell ⟨w.heap.size, 0, none⟩ (.string pa')).setCell ⟨w.heap.size, 2, none⟩ (.string ro')).setCell ⟨w.heap.size, 3, none⟩ (.string tx')).setCell ⟨w.heap.size, 4, none⟩ (.string pr')).setCell ⟨w.heap.size, 5, none⟩ (.string va')).setCell ⟨w.heap.size, 7, none⟩ (.string vo')) (w.heap.size + 1) #[.string ⟨#[]⟩, .int .u64 0, .string ⟨#[]⟩, .string ⟨#[]⟩, .string ⟨#[]⟩, .string ⟨#[]⟩, .slice none 0 0, .string ⟨#[]⟩, .bool false, .int .u64 0, .slice none 0 0] 36 from (((((((R2.out.later u).other _ _ (by simp)).other _ _ (by simp)).other _ _ (by simp)).other _ _ (by simp)).other _ _ (by simp)).other _ _ (by simp)))
  have HB' := Lib.hid (show Below w.heap.size w ((((((u.w.setCell ⟨w.heap.size, 0, none⟩ (.string pa')).setCell ⟨w.heap.size, 2, none⟩ (.string ro')).setCell ⟨w.heap.size, 3, none⟩ (.string tx')).setCell ⟨w.heap.size, 4, none⟩ (.string pr')).setCell ⟨w.heap.size, 5, none⟩ (.string va')).setCell ⟨w.heap.size, 7, none⟩ (.string vo')) from (((((((HB.out.trans (u.below.mono HB.out.size)).setCell (p := ⟨w.heap.size, 0, none⟩) (Nat.le_refl _) _).setCell (p := ⟨w.heap.size, 2, none⟩) (Nat.le_refl _) _).setCell (p := ⟨w.heap.size, 3, none⟩) (Nat.le_refl _) _).setCell (p := ⟨w.heap.size, 4, none⟩) (Nat.le_refl _) _).setCell (p := ⟨w.heap.size, 5, none⟩) (Nat.le_refl _) _).setCell (p := ⟨w.heap.size, 7, none⟩) (Nat.le_refl _) _))
  have R1' := Lib.hid T7
  clear T1 T2 T3 T4 T5 T6 T7 R1 R2 HB L0 L2 L3 L4 L5 L7 K0 K1 K2 K3 K4 K5
  generalize ((((((u.w.setCell ⟨w.heap.size, 0, none⟩ (.string pa')).setCell ⟨w.heap.size, 2, none⟩ (.string ro')).setCell ⟨w.heap.size, 3, none⟩ (.string tx')).setCell ⟨w.heap.size, 4, none⟩ (.string pr')).setCell ⟨w.heap.size, 5, none⟩ (.string va')).setCell ⟨w.heap.size, 7, none⟩ (.string vo')) = W6 at *
  have x6 : W6.cell? ⟨w.heap.size, 6, none⟩ = some (.slice pv val.length cv) := R1'.out.cell 6
  have x10 : W6.cell? ⟨w.heap.size, 10, none⟩ = some (.slice pg se.length cg) := R1'.out.cell 10
  have y6 := R1'.out.frozen 6
  have y10 := R1'.out.frozen 10
  clear u
  have HLT6 : Hid (w.heap.size + 2 ≤ W6.heap.size) := Lib.hid R2'.out.lt
  have OS := Lib.hid (OwnE.start encS (T := 9) (w := W6.drew) (Nat.le_refl W6.heap.size))
  have HV1 : Hid (RowE encS (W6.drew.alloc (.cells #[] 9)) (.slice pv m1 cv) (val.take m1)) := Lib.hid (RowE.below encS (RowE.take encS HHS.out m12) (((HB'.out.drew).alloc (by have := HLT6.out; show w.heap.size ≤ W6.heap.size; omega) (.cells #[] 9))) (Nat.le_refl _))
  have HA : Hid (∀ w0, Below W6.heap.size w0 W6 → Below W6.heap.size w0 (W6.drew.alloc (.cells #[] 9))) := Lib.hid (fun w0 hb => hb.drew.alloc (Nat.le_refl _) _)
  have HM1 : Hid ((val.take m1).length = m1) := E1
  have hk6 : w.heap.size < W6.heap.size := by have := HLT6.out; omega
  have hmc1 : m1 ≤ cv := by omega
  have hmc2 : m2 ≤ cg := by omega
  obtain ⟨v', w1, hrun, ho, hbb⟩ := run_append_rowE encS Try.underlying33 info_str rfl (W6.drew.alloc (.cells #[] 9)) 33 W6.heap.size (.slice (some ⟨W6.heap.size, 0, none⟩) 0 0) [] OS.out _ (val.take m1) HV1.out (by unfold maxLen; rw [HM1.out]; simp; omega) (by rw [HM1.out]; simp; omega) (by simp)
  rw [List.nil_append] at ho
  obtain ⟨p', c', e, t1, t2⟩ := RowE.shape encS (OwnE.row encS ho)
  rw [HM1.out] at e t1
  subst e
  have HBK := Lib.hid (hbb _ (HA.out _ (Below.refl _ _)))
  have HO := Lib.hid ho
  have HRUN := Lib.hid hrun
  have e6 : w1.cell? ⟨w.heap.size, 6, none⟩ = some (.slice pv val.length cv) := by rw [HBK.out.cell (by have := HLT6.out; show w.heap.size < _; omega)]; exact x6
  have e10 : w1.cell? ⟨w.heap.size, 10, none⟩ = some (.slice pg se.length cg) := by rw [HBK.out.cell (by have := HLT6.out; show w.heap.size < _; omega)]; exact x10
  have f6 : w1.frozen? ⟨w.heap.size, 6, none⟩ = false := by rw [HBK.out.frozen (by have := HLT6.out; show w.heap.size < _; omega)]; exact y6
  have f10 : w1.frozen? ⟨w.heap.size, 10, none⟩ = false := by rw [HBK.out.frozen (by have := HLT6.out; show w.heap.size < _; omega)]; exact y10
  obtain ⟨Ws, g0, g1', g2', g3, g4⟩ : ∃ Ws : Nat → World, Ws 0 = W6.drew ∧ Ws 1 = W6.drew.alloc (.cells #[] 9) ∧ Ws 2 = w1 ∧ Ws 3 = w1.setCell ⟨w.heap.size, 6, none⟩ (.slice p' m1 c') ∧ Ws 4 = (w1.setCell ⟨w.heap.size, 6, none⟩ (.slice p' m1 c')).setCell ⟨w.heap.size, 10, none⟩ (.slice pg m2 cg) :=
    ⟨fun s => match s with | 0 => W6.drew | 1 => W6.drew.alloc (.cells #[] 9) | 2 => w1 | 3 => w1.setCell ⟨w.heap.size, 6, none⟩ (.slice p' m1 c') | _ => (w1.setCell ⟨w.heap.size, 6, none⟩ (.slice p' m1 c')).setCell ⟨w.heap.size, 10, none⟩ (.slice pg m2 cg), rfl, rfl, rfl, rfl, rfl⟩
  have G0 := Lib.hid g0
  have G1 := Lib.hid g1'
  have G2 := Lib.hid g2'
  have G3 := Lib.hid g3
  have G4 := Lib.hid g4
  have l6 : ∀ s : { s : Nat // s ≤ 1 }, (Ws s.1).cell? ⟨w.heap.size, 6, none⟩ = some (.slice pv val.length cv) := fun ⟨s, hs⟩ => by
    match s, hs with
    | 0, _ => show (Ws 0).cell? _ = _; rw [g0]; exact x6
    | 1, _ => show (Ws 1).cell? _ = _; rw [g1']; exact (R1'.out.drew.alloc _).cell 6
  have l10 : ∀ s : { s : Nat // s ≤ 3 }, (Ws s.1).cell? ⟨w.heap.size, 10, none⟩ = some (.slice pg se.length cg) := fun ⟨s, hs⟩ => by
    match s, hs with
    | 0, _ => show (Ws 0).cell? _ = _; rw [g0]; exact x10
    | 1, _ => show (Ws 1).cell? _ = _; rw [g1']; exact (R1'.out.drew.alloc _).cell 10
    | 2, _ => show (Ws 2).cell? _ = _; rw [g2']; exact e10
    | 3, _ => show (Ws 3).cell? _ = _; rw [g3, World.cell?_setCell_other _ _ _ _ (by intro e; injection e with _ e; cases e)]; exact e10
  clear g0 g1' g2' g3 g4 ho hbb hrun x6 x10 y6 y10
  (refine region_stages [0, 8, 17, 19] (fun k => if k == 2 then 1 else if k == 4 then 1 else if k == 10 then 3 else if k == 12 then 3 else 4) Ws mix ?hB G0.out ?_; case hB => kernel_rfl); (refine stg_eff 0 (.slice (some ⟨W6.heap.size, 0, none⟩) 0 0) rfl (by decide) rfl ?he ?_; case he => (show effUpon (Ws 1) _ (Sem.run _ _ (Ws 0)); (rw [G1.out, G0.out]; unfold effUpon; go_simp))); go_simp; ((with_reducible refine stg_step 4 ?hkk ?_); (case hkk => rfl); intro K hK; go_simp; (with_reducible refine hK _ ?_; clear hK K)); ((with_reducible refine stg_step 1 ?hkk ?_); (case hkk => rfl); intro K hK; go_simp; (with_reducible refine hK _ ?_; clear hK K)); ((with_reducible refine stg_step 4 ?hkk ?_); (case hkk => rfl); intro K hK; go_simp; (with_reducible refine hK _ ?_; clear hK K)); ((with_reducible refine stg_step 1 ?hkk ?_); (case hkk => rfl); intro K hK; go_simp; (with_reducible refine hK _ ?_; clear hK K)); ((with_reducible refine stg_step 4 ?hkk ?_); (case hkk => rfl); intro K hK; go_simp; (with_reducible refine hK _ ?_; clear hK K)); ((with_reducible refine stg_step 4 ?hkk ?_); (case hkk => rfl); intro K hK; go_simp; (with_reducible refine hK _ ?_; clear hK K)); ((with_reducible refine stg_step 4 ?hkk ?_); (case hkk => rfl); intro K hK; go_simp; (with_reducible refine hK _ ?_; clear hK K)); (refine stg_eff 1 (.slice p' m1 c') rfl (by decide) rfl ?he ?_; case he => (show effUpon (Ws 2) _ (Sem.run _ _ (Ws 1)); (rw [G2.out, G1.out]; exact eff_append _ _ rfl rfl rfl HRUN.out))); go_simp; ((with_reducible refine stg_step 4 ?hkk ?_); (case hkk => rfl); intro K hK; go_simp; (with_reducible refine hK _ ?_; clear hK K)); ((with_reducible refine stg_step 3 ?hkk ?_); (case hkk => rfl); intro K hK; go_simp; (with_reducible refine hK _ ?_; clear hK K)); ((with_reducible refine stg_step 4 ?hkk ?_); (case hkk => rfl); intro K hK; go_simp; (with_reducible refine hK _ ?_; clear hK K)); ((with_reducible refine stg_step 3 ?hkk ?_); (case hkk => rfl); intro K hK; go_simp; (with_reducible refine hK _ ?_; clear hK K)); ((with_reducible refine stg_step 4 ?hkk ?_); (case hkk => rfl); intro K hK; go_simp; (with_reducible refine hK _ ?_; clear hK K)); ((with_reducible refine stg_step 4 ?hkk ?_); (case hkk => rfl); intro K hK; go_simp; (with_reducible refine hK _ ?_; clear hK K)); ((with_reducible refine stg_step 4 ?hkk ?_); (case hkk => rfl); intro K hK; go_simp; (with_reducible refine hK _ ?_; clear hK K)); ((with_reducible refine stg_step 4 ?hkk ?_); (case hkk => rfl); intro K hK; go_simp; (with_reducible refine hK _ ?_; clear hK K)); (refine stg_eff 2 (undef) rfl (by decide) rfl ?he ?_; case he => (show effUpon (Ws 3) _ (Sem.run _ _ (Ws 2)); (rw [G3.out, G2.out]; unfold effUpon; go_simp))); go_simp; ((with_reducible refine stg_step 4 ?hkk ?_); (case hkk => rfl); intro K hK; go_simp; (with_reducible refine hK _ ?_; clear hK K)); (refine stg_eff 3 (undef) rfl (by decide) rfl ?he ?_; case he => (show effUpon (Ws 4) _ (Sem.run _ _ (Ws 3)); (rw [G4.out, G3.out]; unfold effUpon; go_simp))); go_simp; (with_reducible refine stg_nil ?_)
  rw [G4.out]
  have hk1 : w.heap.size ≠ w.heap.size + 1 := by omega
  have R7 := Lib.hid (((R1'.out.below HBK.out hk6).set 6 (.slice p' m1 c') rfl).set 10 (.slice pg m2 cg) rfl)
  have R8 := Lib.hid (((R2'.out.below HBK.out (by have := HLT6.out; omega)).other ⟨w.heap.size, 6, none⟩ (.slice p' m1 c') (Ne.symm hk1)).other ⟨w.heap.size, 10, none⟩ (.slice pg m2 cg) (Ne.symm hk1))
  have HB7 := Lib.hid (((HB'.out.trans (HBK.out.mono (Nat.le_of_lt (Nat.lt_of_lt_of_le hk6 (Nat.le_refl _))))).setCell (p := ⟨w.heap.size, 6, none⟩) (Nat.le_refl _) (.slice p' m1 c')).setCell (p := ⟨w.heap.size, 10, none⟩) (Nat.le_refl _) (.slice pg m2 cg))
  have HSW1 := Lib.hid HBK.out.size
  have O7 : Hid (OwnE encS 9 ((w1.setCell ⟨w.heap.size, 6, none⟩ (.slice p' m1 c')).setCell ⟨w.heap.size, 10, none⟩ (.slice pg m2 cg)) W6.heap.size (.slice p' m1 c') (partC (val.take m1) 0)) := Lib.hid (by rw [partC_zero]; exact (HO.out.setLow ⟨w.heap.size, 6, none⟩ _ hk6).setLow ⟨w.heap.size, 10, none⟩ _ hk6)
  have HVL : Hid (∀ s ∈ val.take m1, s.size ≤ 9223372036854775807) := Lib.hid (fun s hs => HVS.out s (List.mem_of_mem_take hs))
  have HBS := Lib.hid hk6
  clear R1' R2' HB' HO HBK HRUN G0 G1 G2 G3 G4 l6 l10 e6 e10 f6 f10 OS HV1 HA HVS
  generalize (w1.setCell ⟨w.heap.size, 6, none⟩ (.slice p' m1 c')).setCell ⟨w.heap.size, 10, none⟩ (.slice pg m2 cg) = W7 at *
  generalize W6.heap.size = base at *
  generalize hVL : val.take m1 = VL at *
  have x6 : W7.cell? ⟨w.heap.size, 6, none⟩ = some (.slice p' m1 c') := R7.out.cell 6
  unfold maxLen at t2
  clear hk6 hk1 hmc1 hmc2
  go_upto_region 5 with (fail)
  clear x6
  go_loopw [57] (fun s57 wr => ∃ (i : Nat), i ≤ m1 ∧ s57 = .int .i64 i ∧ Hid (OwnE encS 9 wr base (.slice p' m1 c') (partC VL i)) ∧ Hid (RowAt wr w.heap.size #[.string pa', .int .u64 ht, .string ro', .string tx', .string pr', .string va', .slice p' m1 c', .string vo', .bool ad, .int .u64 rd, .slice pg m2 cg] 36) ∧ Hid (RowAt wr (w.heap.size + 1) #[.string ⟨#[]⟩, .int .u64 0, .string ⟨#[]⟩, .string ⟨#[]⟩, .string ⟨#[]⟩, .string ⟨#[]⟩, .slice none 0 0, .string ⟨#[]⟩, .bool false, .int .u64 0, .slice none 0 0] 36) ∧ Hid (Below w.heap.size w wr)) (fun s _ => m1 - (intOf s).toNat)
  case atStart => exact ⟨0, Nat.zero_le _, rfl, O7, R7, R8, HB7⟩
  case round =>
    clear O7 R7 R8 HB7
    obtain ⟨i, hi, rfl, ho, h7, h8, hb⟩ := hrel
    have O := Lib.hid ho.out
    have R7 := Lib.hid h7.out
    have R8 := Lib.hid h8.out
    have HB := Lib.hid hb.out
    clear ho h7 h8 hb
    by_cases hlt : i < m1
    · obtain ⟨s, hs⟩ : ∃ s, VL[i]? = some s := ⟨_, List.getElem?_eq_getElem (by have := HM1.out; omega)⟩
      obtain ⟨g, rfl, u1, u2, u3, u4, u5⟩ := OwnE.at O.out (partC_get hs)
      have hsz := HVL.out s (List.mem_of_getElem? hs)
      have c0 : wr.cell? ⟨g, i, none⟩ = some (.string s) := by have := u3 0 _ rfl; simpa [encS] using this
      have cf0 : wr.frozen? ⟨g, i, none⟩ = false := u4 i
      have HC0 := Lib.hid (RowAt.cell R7.out 6)
      have KC := Lib.hid (fun W => cutS_any s hsz W)
      have HU5 := Lib.hid (fun (w' : World) h => (u5 (cutB s) w' h))
      have HPS := Lib.hid (partC_set hs)
      have HG := Lib.hid u1
      have HGL := Lib.hid u2
      clear u3 u4 u5 hs hsz
      go_upto_region 7 with (fail)
      have L6 : ∀ u : Later wr, u.w.cell? ⟨w.heap.size, 6, none⟩ = some (.slice (some ⟨g, 0, none⟩) m1 c') := fun u => (R7.out.later u).cell 6
      (refine region_later_tail 7 mix ?hB ?_; case hB => kernel_rfl); (simp only [List.take_succ_cons, List.take_zero, List.drop_succ_cons, List.drop_zero]); (iterate 7 (first | go_big_quiet_step ((go_at_call 44; with_reducible exact Later.callSame (KC.out _))) | quiet_step ((go_at_call 44; with_reducible exact Later.callSame (KC.out _))))); (refine wpQuiet_nil ?_; intro u)
      clear L6
      have d0 : u.w.cell? ⟨g, i, none⟩ = some (.string s) := by rw [u.below.cell HGL.out]; exact c0
      have df0 : u.w.frozen? ⟨g, i, none⟩ = false := by rw [u.below.frozen HGL.out]; exact cf0
      have hgk : g ≠ w.heap.size ∧ g ≠ w.heap.size + 1 := by have := HG.out; have := HLT6.out; omega
      have O2 : Hid (OwnE encS 9 (u.w.setCell ⟨g, i, none⟩ (.string (cutB s))) base (.slice (some ⟨g, 0, none⟩) m1 c') (partC VL (i + 1))) := Lib.hid (by
        have := HU5.out u.w (fun C h => h.below u.below HGL.out)
        rw [HPS.out] at this
        have e : layW u.w g (i * encS.k) (encS.cells (cutB s)) = u.w.setCell ⟨g, i, none⟩ (.string (cutB s)) := by
          show u.w.setCell ⟨g, i * 1, none⟩ _ = _
          rw [Nat.mul_one]
        rwa [e] at this)
      have R72 := Lib.hid ((R7.out.later u).other ⟨g, i, none⟩ (.string (cutB s)) (Ne.symm hgk.1))
      have R82 := Lib.hid ((R8.out.later u).other ⟨g, i, none⟩ (.string (cutB s)) (Ne.symm hgk.2))
      have HB2 := Lib.hid ((HB.out.trans (u.below.mono HB.out.size)).setCell (p := ⟨g, i, none⟩) (by have := HG.out; have := HBS.out; show w.heap.size ≤ g; omega) (.string (cutB s)))
      clear O R7 R8 HB HU5 HPS KC c0 cf0 hgk
      generalize cutB s = cs at *
      go_wp2
      exact ⟨⟨i + 1, by omega, by simp, O2, R72, R82, HB2⟩, by simp [intOf]; omega⟩
    · obtain rfl : i = m1 := by omega
      obtain ⟨x0, x1, x2, x3, x4, x5, x6, x7, x8, x9, x10⟩ := R7.out.c11
      obtain ⟨y0, y1, y2, y3, y4, y5, y6, y7, y8, y9, y10⟩ := R8.out.f11
      obtain ⟨z0, z1, z2, z3, z4, z5, z6, z7, z8, z9, z10⟩ := R8.out.c11
      have HPA : Hid (partC VL i = VL.map cutB) := Lib.hid (by rw [← HM1.out]; exact partC_all VL)
      have hli := HM1.out
      clear hlt hi
      go_wp2
      clear z0 z1 z2 z3 z4 z5 z6 z7 z8 z9 z10 x0 x1 x2 x3 x4 x5 x6 x7 x8 x9 x10 y0 y1 y2 y3 y4 y5 y6 y7 y8 y9 y10
      obtain ⟨k0, k1, k2, k3, k4, k5, k6, k7, k8, k9, k10⟩ := (R8.out.set11 (.string pa') (.int .u64 ht) (.string ro') (.string tx') (.string pr') (.string va') (.slice p' i c') (.string vo') (.bool ad) (.int .u64 rd) (.slice pg m2 cg)).c11
      refine bodyPost_ret (v := .agg #[.string pa', .int .u64 ht, .string ro', .string tx', .string pr', .string va', .slice p' i c', .string vo', .bool ad, .int .u64 rd, .slice pg m2 cg]) (by simp [results, Try.results16, go_sem, k0, k1, k2, k3, k4, k5, k6, k7, k8, k9, k10]) rfl ?_
      have hB := below_set11 (b := w.heap.size + 1) (o := 0) HB.out (Nat.le_succ _) (.string pa') (.int .u64 ht) (.string ro') (.string tx') (.string pr') (.string va') (.slice p' i c') (.string vo') (.bool ad) (.int .u64 rd) (.slice pg m2 cg)
      refine ⟨.slice p' i c', .slice pg m2 cg, by rw [HF.out], ?_, ?_, ?_, hB⟩
      · rw [HF.out]
        show OwnE encS _ _ w.heap.size (.slice p' i c') (VL.map cutB)
        rw [← HPA.out]
        have hO := O.out.setLow11 (v0 := .string pa') (v1 := .int .u64 ht) (v2 := .string ro') (v3 := .string tx') (v4 := .string pr') (v5 := .string va') (v6 := .slice p' i c') (v7 := .string vo') (v8 := .bool ad) (v9 := .int .u64 rd) (v10 := .slice pg m2 cg) (k := w.heap.size + 1) (by have := HLT6.out; omega)
        refine ⟨hO.1, ?_⟩
        rcases hO.2 with h' | ⟨g, cap, cur, hv, hg, r⟩
        · exact .inl h'
        · exact .inr ⟨g, cap, cur, hv, by have := HLT6.out; omega, r⟩
      · rw [HF.out]
        exact RowE.take encG HG0.out.1 m22
      · rw [HF.out]
        exact fun s hs => HG0.out.2 s (List.mem_of_mem_take hs)
end Go.Proofs.Ythipnbiilobjeaa
