/- Frame: how many fields there are (that it answers). Frame: ref11.Like of rows that are the same. Frame: fields that come in; the law's own call that must answer. -/
import Derived.Test.YthipnbiilobjeaaFr12
namespace Go.Proofs.Ythipnbiilobjeaa
open Go.RowKit

/-- Some number comes back. -/
def AnyInt (w : World) (e : Ending) (w' : World) : Prop := ∃ n : Int, e = .returned (.int .i64 n) ∧ Below w.heap.size w w'

theorem QueueF.grow {w wr w' : World} {v v' : Value} {xs : List (EV (Nat × List UInt8))} {ts : List Fd} {x : EV (Nat × List UInt8)} {t : Fd} (h : QueueF w wr v xs ts) (ho : OwnE encFd.enc 58 w' w.heap.size v' (xs ++ [x])) (ht : TreeP encFd (fun _ => True) w t x) : QueueF w w' v' (xs ++ [x]) (ts ++ [t]) := by
  refine ⟨by rw [List.length_append, List.length_append, h.1]; rfl, ho, fun j t' x' h1 h2 => ?_⟩
  have hl := h.1
  by_cases hj : j < xs.length
  · rw [List.getElem?_append_left hj] at h2
    rw [List.getElem?_append_left (by omega)] at h1
    exact h.2.2 j t' x' h1 h2
  · rw [List.getElem?_append_right (by omega)] at h2
    rw [List.getElem?_append_right (by omega)] at h1
    rw [← hl] at h1
    cases hj' : j - xs.length with
    | zero => rw [hj'] at h1 h2; simp at h1 h2; subst h1 h2; exact ht
    | succ n => rw [hj'] at h1; simp at h1

set_option maxRecDepth 100000 in
set_option maxHeartbeats 2000000 in
theorem many_anyF (v : Value) (l : List Fd) (w : World) (h : RowT encFd (fun _ => True) w v l) : Calls Try.prog 11 #[v, .int .i64 1000] w (AnyInt w) := by
  obtain ⟨p, cap, rfl, s1, s2⟩ := RowT.shape h
  have HL := Lib.hid h
  have O0 := Lib.hid (OwnE.start encFd.enc (T := 58) (w := w) (Nat.le_refl w.heap.size))
  have HB0 := Lib.hid (bel1 w (.cells #[] 58))
  have HQ0 : Hid (QueueF w (w.alloc (.cells #[] 58)) (.slice (some ⟨w.heap.size, 0, none⟩) 0 0) [] []) := Lib.hid ⟨rfl, O0.out, fun i t x h => by simp at h⟩
  clear h O0
  unfold maxLen at s2
  go_enter Try.func11, Try.ntmps11
  go_upto_region 3 with (fail)
  generalize w.alloc (.cells #[] 58) = W at *
  go_loopw [5, 14] (fun s5 s14 wr => ∃ (j : Nat) (xs : List (EV (Nat × List UInt8))) (ts : List Fd) (p : Option Addr) (c : Nat), j ≤ l.length ∧ xs.length ≤ 1001 ∧ s14 = .int .i64 j ∧ s5 = .slice p xs.length c ∧ Hid (QueueF w wr (.slice p xs.length c) xs ts) ∧ Hid (Below w.heap.size w wr)) (fun _ s _ => l.length - (intOf s).toNat)
  case atStart => exact ⟨0, [], [], _, _, Nat.zero_le _, Nat.zero_le _, rfl, rfl, HQ0, HB0⟩
  case round =>
    clear HQ0 HB0
    obtain ⟨j, xs, ts, p1, c1, hj, hxl, rfl, rfl, hq, hb⟩ := hrel
    have HQ := Lib.hid hq.out
    have HB := Lib.hid hb.out
    clear hq hb
    obtain ⟨-, k1, k2, -⟩ := RowE.sane (OwnE.row _ HQ.out.2.1)
    unfold maxLen at k2
    by_cases hlt : j < l.length
    · skip
      obtain ⟨f, hf⟩ : ∃ f, l[j]? = some f := ⟨_, List.getElem?_eq_getElem hlt⟩
      obtain ⟨adf, sf, rfl, hfc, hfk⟩ := RowT.at2 (HL.out.below HB.out (Nat.le_refl _)) hf
      obtain ⟨_, sf', e', hfc', hfk'⟩ := RowT.at2 HL.out hf
      obtain ⟨p3, n3, c3⟩ := sf
      obtain ⟨⟨fn, fb⟩, fk⟩ := f
      have f0 := hfc 0 _ rfl
      have f1' := hfc 1 _ rfl
      have f2' := hfc 2 _ rfl
      replace f0 : wr.cell? (adf.add (j * 3)) = some (.int .u64 (fn : Int)) := f0
      replace f1' : wr.cell? ⟨(adf.add (j * 3)).block, (adf.add (j * 3)).off + 1, none⟩ = some (.string (mkS fb)) := f1'
      replace f2' : wr.cell? ⟨(adf.add (j * 3)).block, (adf.add (j * 3)).off + 2, none⟩ = some (.slice p3 n3 c3) := f2'
      have hs3 : sf' = (p3, n3, c3) := by
        injection e' with e'
        subst e'
        have hz : w.cell? ((adf.add (j * 3)).add 2) = some (slV sf') := hfc' 2 _ rfl
        have hy : wr.cell? ((adf.add (j * 3)).add 2) = some (slV sf') := by rw [HB.out.cell (block_lt_of_cell hz)]; exact hz
        have hx : wr.cell? ((adf.add (j * 3)).add 2) = some (.slice p3 n3 c3) := f2'
        rw [hy] at hx
        obtain ⟨a1, a2, a3⟩ := sf'
        simpa [slV] using hx
      subst hs3
      have HT := Lib.hid (RowT.node (A := fun _ => True) (fn, fb) hfk')
      clear hfc hfc' hfk hfk' hf e'
      go_upto_region 5 with (fail)
      have B1 := bel1 wr (.cells #[.int .u64 (fn : Int), .string (mkS fb), .slice p3 n3 c3] 58)
      have R8 := Lib.hid (RowAt.new wr #[.int .u64 (fn : Int), .string (mkS fb), .slice p3 n3 c3] 58)
      have HQ1 := Lib.hid (OwnE.below _ HQ.out.2.1 B1 (Nat.le_refl _))
      have HB1 := Lib.hid (HB.out.trans (B1.mono HB.out.size))
      clear f0 f1' f2' B1
      generalize wr.alloc (.cells #[.int .u64 (fn : Int), .string (mkS fb), .slice p3 n3 c3] 58) = wa at *
      generalize wr.heap.size = k8 at *
      obtain ⟨y0, y1, y2, yf0, yf1, yf2⟩ := R8.out.c3
      by_cases hle : xs.length ≤ 1000
      · have q1 : (xs.length : Int) ≤ 1000 := by omega
        have O8 := Lib.hid (OwnE.below _ HQ1.out (bel1 wa (.cells #[.int .u64 (fn : Int), .string (mkS fb), .slice p3 n3 c3] 58)) (Nat.le_refl _))
        have HB8 := Lib.hid (HB1.out.trans ((bel1 wa (.cells #[.int .u64 (fn : Int), .string (mkS fb), .slice p3 n3 c3] 58)).mono HB1.out.size))
        have R9 := Lib.hid (RowAt.new wa #[.int .u64 (fn : Int), .string (mkS fb), .slice p3 n3 c3] 58)
        have HL9 := Lib.hid (RowE.lit encFd.enc R9.out ((fn, fb), p3, n3, c3) rfl)
        have HSZ := Lib.hid HB8.out.size
        clear HB HQ1 HB1
        go_upto_region 7 with (at_builtin; refine wpList_append_rowE encFd.enc Try.underlying22 info_field rfl rfl _ _ rfl w.heap.size _ xs rfl O8.out _ [((fn, fb), p3, n3, c3)] rfl HL9.out (by unfold maxLen; simp; omega) (by simp; omega) HSZ.out ?_)
        intro v' w' ho hbb _ _
        have HQ2 := Lib.hid (QueueF.grow HQ.out ho HT.out)
        have HB2 := Lib.hid (hbb _ HB8.out)
        have hl2 : (xs ++ [((fn, fb), p3, n3, c3)]).length = xs.length + 1 := by simp
        obtain ⟨p5, c5, rfl, _, _⟩ := RowE.shape _ (OwnE.row _ ho)
        have hl3 : (xs ++ [((fn, fb), p3, n3, c3)]).length ≤ 1001 := by omega
        clear ho hbb HQ HT HL9 R9 hl2
        generalize xs ++ [((fn, fb), p3, n3, c3)] = xs2 at *
        generalize ts ++ [Tr.mk (fn, fb) fk] = ts2 at *
        go_wp2
        exact ⟨⟨j + 1, xs2, ts2, p5, c5, by omega, hl3, by simp, rfl, HQ2, HB2⟩, by simp [intOf]; omega⟩
      · have q1 : ¬ (xs.length : Int) ≤ 1000 := by omega
        have HQ2 : Hid (QueueF w wa (.slice p1 xs.length c1) xs ts) := Lib.hid ⟨HQ.out.1, HQ1.out, HQ.out.2.2⟩
        clear HQ HQ1
        go_wp2
        exact ⟨⟨j + 1, xs, ts, p1, c1, by omega, hxl, by simp, rfl, HQ2, HB1⟩, by simp [intOf]; omega⟩
    · obtain rfl : j = l.length := by omega
      clear hj hlt
      go_upto_region 9 with (fail)
      go_loopw [5, 8] (fun s5 s8 wr => ∃ (i : Nat) (xs : List (EV (Nat × List UInt8))) (ts : List Fd) (p : Option Addr) (c : Nat), i ≤ 1002 ∧ xs.length ≤ 1001 ∧ s8 = .int .i64 i ∧ s5 = .slice p xs.length c ∧ Hid (QueueF w wr (.slice p xs.length c) xs ts) ∧ Hid (Below w.heap.size w wr)) (fun _ s _ => 1003 - (intOf s).toNat)
      case atStart => exact ⟨0, xs, ts, p1, c1, by omega, hxl, rfl, rfl, HQ, HB⟩
      case round =>
        clear HQ HB hxl
        obtain ⟨i, xs, ts, p1, c1, hi, hxl, rfl, rfl, hq, hb⟩ := hrel
        have HQ := Lib.hid hq.out
        have HB := Lib.hid hb.out
        clear hq hb
        obtain ⟨-, k1, k2, -⟩ := RowE.sane (OwnE.row _ HQ.out.2.1)
        unfold maxLen at k2
        by_cases hlt : i < xs.length
        · by_cases hle : xs.length ≤ 1000
          · have q1 : (xs.length : Int) ≤ 1000 := by omega
            have hql := HQ.out.1
            obtain ⟨x, hg⟩ : ∃ x, xs[i]? = some x := ⟨_, List.getElem?_eq_getElem hlt⟩
            obtain ⟨t, hgt⟩ : ∃ t, ts[i]? = some t := ⟨_, List.getElem?_eq_getElem (by omega)⟩
            obtain ⟨g, rfl, g1, g2, g3, g4, -⟩ := OwnE.at HQ.out.2.1 hg
            have hrow := (HQ.out.2.2 i _ _ hgt hg).row
            obtain ⟨⟨xn, xb⟩, pk, nk, ck⟩ := x
            have hlk := hrow.sane
            obtain ⟨lk1, lk2, lk3⟩ := hlk
            unfold maxLen at lk3
            have c0 : wr.cell? ⟨g, i * 3 + 2, none⟩ = some (.slice pk nk ck) := g3 2 _ rfl
            generalize t.kids = L at *
            subst lk1
            have HK : Hid (RowT encFd (fun _ => True) w (.slice pk L.length ck) L) := Lib.hid hrow
            have HXI := Lib.hid hlt
            clear hrow g1 g2 g3 g4 hg hgt hql
            go_upto_region 12 with (fail)
            clear c0 q1 k1 k2 hle
            go_loopw [5, 45] (fun s5 s45 wr => ∃ (j : Nat) (xs : List (EV (Nat × List UInt8))) (ts : List Fd) (p : Option Addr) (c : Nat), j ≤ L.length ∧ xs.length ≤ 1001 ∧ s45 = .int .i64 j ∧ s5 = .slice p xs.length c ∧ Hid (i < xs.length) ∧ Hid (QueueF w wr (.slice p xs.length c) xs ts) ∧ Hid (Below w.heap.size w wr)) (fun _ s _ => L.length - (intOf s).toNat)
            case atStart => exact ⟨0, xs, ts, _, _, Nat.zero_le _, hxl, rfl, rfl, HXI, HQ, HB⟩
            case round =>
              clear HQ HB HXI hlt hxl
              obtain ⟨j, xs, ts, p1, c1, hj, hxl, rfl, rfl, hxi, hq, hb⟩ := hrel
              have HQ := Lib.hid hq.out
              have HB := Lib.hid hb.out
              have HXI := Lib.hid hxi.out
              clear hq hb hxi
              obtain ⟨-, k1, k2, -⟩ := RowE.sane (OwnE.row _ HQ.out.2.1)
              unfold maxLen at k2
              by_cases hlt : j < L.length
              · skip
                obtain ⟨f, hf⟩ : ∃ f, L[j]? = some f := ⟨_, List.getElem?_eq_getElem hlt⟩
                obtain ⟨adf, sf, rfl, hfc, hfk⟩ := RowT.at2 (HK.out.below HB.out (Nat.le_refl _)) hf
                obtain ⟨_, sf', e', hfc', hfk'⟩ := RowT.at2 HK.out hf
                obtain ⟨p3, n3, c3⟩ := sf
                obtain ⟨⟨fn, fb⟩, fk⟩ := f
                have f0 := hfc 0 _ rfl
                have f1' := hfc 1 _ rfl
                have f2' := hfc 2 _ rfl
                replace f0 : wr.cell? (adf.add (j * 3)) = some (.int .u64 (fn : Int)) := f0
                replace f1' : wr.cell? ⟨(adf.add (j * 3)).block, (adf.add (j * 3)).off + 1, none⟩ = some (.string (mkS fb)) := f1'
                replace f2' : wr.cell? ⟨(adf.add (j * 3)).block, (adf.add (j * 3)).off + 2, none⟩ = some (.slice p3 n3 c3) := f2'
                have hs3 : sf' = (p3, n3, c3) := by
                  injection e' with e'
                  subst e'
                  have hz : w.cell? ((adf.add (j * 3)).add 2) = some (slV sf') := hfc' 2 _ rfl
                  have hy : wr.cell? ((adf.add (j * 3)).add 2) = some (slV sf') := by rw [HB.out.cell (block_lt_of_cell hz)]; exact hz
                  have hx : wr.cell? ((adf.add (j * 3)).add 2) = some (.slice p3 n3 c3) := f2'
                  rw [hy] at hx
                  obtain ⟨a1, a2, a3⟩ := sf'
                  simpa [slV] using hx
                subst hs3
                have HT := Lib.hid (RowT.node (A := fun _ => True) (fn, fb) hfk')
                clear hfc hfc' hfk hfk' hf e'
                go_upto_region 14 with (fail)
                have B1 := bel1 wr (.cells #[.int .u64 (fn : Int), .string (mkS fb), .slice p3 n3 c3] 58)
                have R8 := Lib.hid (RowAt.new wr #[.int .u64 (fn : Int), .string (mkS fb), .slice p3 n3 c3] 58)
                have HQ1 := Lib.hid (OwnE.below _ HQ.out.2.1 B1 (Nat.le_refl _))
                have HB1 := Lib.hid (HB.out.trans (B1.mono HB.out.size))
                clear f0 f1' f2' B1
                generalize wr.alloc (.cells #[.int .u64 (fn : Int), .string (mkS fb), .slice p3 n3 c3] 58) = wa at *
                generalize wr.heap.size = k8 at *
                obtain ⟨y0, y1, y2, yf0, yf1, yf2⟩ := R8.out.c3
                by_cases hle : xs.length ≤ 1000
                · have q1 : (xs.length : Int) ≤ 1000 := by omega
                  have O8 := Lib.hid (OwnE.below _ HQ1.out (bel1 wa (.cells #[.int .u64 (fn : Int), .string (mkS fb), .slice p3 n3 c3] 58)) (Nat.le_refl _))
                  have HB8 := Lib.hid (HB1.out.trans ((bel1 wa (.cells #[.int .u64 (fn : Int), .string (mkS fb), .slice p3 n3 c3] 58)).mono HB1.out.size))
                  have R9 := Lib.hid (RowAt.new wa #[.int .u64 (fn : Int), .string (mkS fb), .slice p3 n3 c3] 58)
                  have HL9 := Lib.hid (RowE.lit encFd.enc R9.out ((fn, fb), p3, n3, c3) rfl)
                  have HSZ := Lib.hid HB8.out.size
                  clear HB HQ1 HB1
                  go_upto_region 16 with (at_builtin; refine wpList_append_rowE encFd.enc Try.underlying22 info_field rfl rfl _ _ rfl w.heap.size _ xs rfl O8.out _ [((fn, fb), p3, n3, c3)] rfl HL9.out (by unfold maxLen; simp; omega) (by simp; omega) HSZ.out ?_)
                  intro v' w' ho hbb _ _
                  have HQ2 := Lib.hid (QueueF.grow HQ.out ho HT.out)
                  have HB2 := Lib.hid (hbb _ HB8.out)
                  have hl2 : (xs ++ [((fn, fb), p3, n3, c3)]).length = xs.length + 1 := by simp
                  obtain ⟨p5, c5, rfl, _, _⟩ := RowE.shape _ (OwnE.row _ ho)
                  have HXI2 : Hid (i < (xs ++ [((fn, fb), p3, n3, c3)]).length) := Lib.hid (by have := HXI.out; omega)
                  have hl3 : (xs ++ [((fn, fb), p3, n3, c3)]).length ≤ 1001 := by omega
                  clear ho hbb HQ HT HL9 R9 hl2
                  generalize xs ++ [((fn, fb), p3, n3, c3)] = xs2 at *
                  generalize ts ++ [Tr.mk (fn, fb) fk] = ts2 at *
                  go_wp2
                  exact ⟨⟨j + 1, xs2, ts2, p5, c5, by omega, hl3, by simp, rfl, HXI2, HQ2, HB2⟩, by simp [intOf]; omega⟩
                · have q1 : ¬ (xs.length : Int) ≤ 1000 := by omega
                  have HQ2 : Hid (QueueF w wa (.slice p1 xs.length c1) xs ts) := Lib.hid ⟨HQ.out.1, HQ1.out, HQ.out.2.2⟩
                  clear HQ HQ1
                  go_wp2
                  exact ⟨⟨j + 1, xs, ts, p1, c1, by omega, hxl, by simp, rfl, HXI, HQ2, HB1⟩, by simp [intOf]; omega⟩
              · obtain rfl : j = L.length := by omega
                have hxi := HXI.out
                have hi2 : i + 1 ≤ 1002 := by omega
                clear hlt hj
                go_wp2
                exact ⟨⟨i + 1, xs, ts, p1, c1, hi2, hxl, by simp, rfl, HQ, HB⟩, by simp [intOf]; omega⟩
          · have q1 : ¬ (xs.length : Int) ≤ 1000 := by omega
            go_wp2
            go_ret
            exact ⟨_, rfl, HB.out⟩
        · go_wp2
          go_ret
          exact ⟨_, rfl, HB.out⟩
end Go.Proofs.Ythipnbiilobjeaa

namespace Go.Proofs.Ythipnbiilobjeaa
open Go.RowKit

set_option maxRecDepth 100000 in
set_option maxHeartbeats 2000000 in
theorem likeF_any : ∀ (n : Nat) (l : List Fd), counts l < n → ∀ (v v' : Value) (w : World), RowT encFd (fun _ => True) w v l → RowT encFd (fun _ => True) w v' l →
    Calls Try.prog 14 #[v, v'] w fun e w' => e = .returned (.bool true) ∧ Below w.heap.size w w'
  | 0, _, h, _, _, _, _, _ => by omega
  | n + 1, l, hn, v, v', w, hv, hv' => by
    have KI := Lib.hid (likeF_any n)
    obtain ⟨p, cap, rfl, s1, s2⟩ := RowT.shape hv
    obtain ⟨p', cap', rfl, s1', s2'⟩ := RowT.shape hv'
    have HV := Lib.hid hv
    have HV' := Lib.hid hv'
    have HB := Lib.hid (Below.refl w.heap.size w)
    have HN : Hid (∀ (i : Nat) (f : Fd), l[i]? = some f → counts f.kids < n) := Lib.hid (fun i f h => by
      have h1 := counts_mem (List.mem_of_getElem? h)
      have h2 := count_pos f
      omega)
    unfold maxLen at s2 s2'
    clear hv hv' hn
    go_enter Try.func14, Try.ntmps14
    go_upto_region 4 with (fail)
    go_loopw [13] (fun s13 wr => ∃ (i : Nat), i ≤ l.length ∧ s13 = .int .i64 i ∧ Hid (Below w.heap.size w wr)) (fun s _ => l.length - (intOf s).toNat)
    case atStart => exact ⟨0, Nat.zero_le _, rfl, HB⟩
    case round =>
      clear HB
      obtain ⟨i, hi, rfl, hb⟩ := hrel
      have HB := Lib.hid hb.out
      clear hb
      by_cases hlt : i < l.length
      · obtain ⟨f, hf⟩ : ∃ f, l[i]? = some f := ⟨_, List.getElem?_eq_getElem hlt⟩
        obtain ⟨adf, sf, rfl, hfc, hfk⟩ := RowT.at2 HV.out hf
        obtain ⟨adg, sg, rfl, hgc, hgk⟩ := RowT.at2 HV'.out hf
        have hnn := HN.out i f hf
        obtain ⟨p3, n3, c3⟩ := sf
        obtain ⟨p4, n4, c4⟩ := sg
        obtain ⟨⟨fn, fb⟩, fk⟩ := f
        have key : ∀ {q : Addr} {v : Value}, w.cell? q = some v → ∀ u : Later wr, u.w.cell? q = some v := fun h u => by
          rw [(HB.out.trans (u.below.mono HB.out.size)).cell (block_lt_of_cell h)]; exact h
        have r0 : ∀ u : Later wr, u.w.cell? (adf.add (i * 3)) = some (.int .u64 (fn : Int)) := key (hfc 0 _ rfl)
        have r1 : ∀ u : Later wr, u.w.cell? ⟨(adf.add (i * 3)).block, (adf.add (i * 3)).off + 1, none⟩ = some (.string (mkS fb)) := key (hfc 1 _ rfl)
        have r2 : ∀ u : Later wr, u.w.cell? ⟨(adf.add (i * 3)).block, (adf.add (i * 3)).off + 2, none⟩ = some (.slice p3 n3 c3) := key (hfc 2 _ rfl)
        have t0 : ∀ u : Later wr, u.w.cell? (adg.add (i * 3)) = some (.int .u64 (fn : Int)) := key (hgc 0 _ rfl)
        have t1 : ∀ u : Later wr, u.w.cell? ⟨(adg.add (i * 3)).block, (adg.add (i * 3)).off + 1, none⟩ = some (.string (mkS fb)) := key (hgc 1 _ rfl)
        have t2 : ∀ u : Later wr, u.w.cell? ⟨(adg.add (i * 3)).block, (adg.add (i * 3)).off + 2, none⟩ = some (.slice p4 n4 c4) := key (hgc 2 _ rfl)
        have KC : Hid (∀ u : Later wr, Calls Try.prog 14 #[.slice p3 n3 c3, .slice p4 n4 c4] u.w fun e w' => e = .returned (.bool true) ∧ Below u.w.heap.size u.w w') := Lib.hid fun u =>
          KI.out fk hnn _ _ _ (RowT.below hfk (HB.out.trans (u.below.mono HB.out.size)) (Nat.le_refl _)) (RowT.below hgk (HB.out.trans (u.below.mono HB.out.size)) (Nat.le_refl _))
        clear key hfc hgc hfk hgk hf hnn
        go_upto_region 6 with (fail)
        (refine region_later mix ?hB ?_; case hB => kernel_rfl); (repeat (first | go_big_quiet_step ((go_at_call 14; with_reducible exact Later.call (KC.out _))) | quiet_step ((go_at_call 14; with_reducible exact Later.call (KC.out _))))); (refine wpQuiet_nil ?_; rintro _ ⟨u, rfl⟩)
        clear r0 r1 r2 t0 t1 t2 KC
        have HB2 := Lib.hid (HB.out.trans (u.below.mono HB.out.size))
        clear HB
        generalize u.w = wu at *
        go_wp2
        exact ⟨⟨i + 1, by omega, by simp, HB2⟩, by simp [intOf]; omega⟩
      · obtain rfl : i = l.length := by omega
        go_wp2
        go_ret
        exact ⟨rfl, HB.out⟩
end Go.Proofs.Ythipnbiilobjeaa

namespace Go.Proofs.Ythipnbiilobjeaa
open Go.RowKit Go.ChangeShapes Go.WideShapes Go.ChangeAt
set_option maxRecDepth 100000

theorem row_of_cellsF {α : Type} {E : Enc α} {w : World} {a : Addr} {len cap : Nat} {q : Nat → α} (h1 : len ≤ cap) (h2 : cap ≤ maxLen) (h : ∀ i, i < len → ∀ r u, (E.cells (q i))[r]? = some u → w.cell? (a.add (i * E.k + r)) = some u) :
    RowE E w (.slice (some a) len cap) ((List.range len).map q) := by
  refine .inr ⟨a, cap, by simp, by simpa using h1, h2, fun j u hj => ?_⟩
  have hlt : j < ((List.range len).map q).length * E.k := by
    rw [← flat_length]; exact (List.getElem?_eq_some_iff.1 hj).1
  rw [List.length_map, List.length_range] at hlt
  have hk := E.pos
  have hi : j / E.k < len := (Nat.div_lt_iff_lt_mul hk).2 hlt
  have hr : j % E.k < E.k := Nat.mod_lt _ hk
  have e : j = j / E.k * E.k + j % E.k := by rw [Nat.mul_comm]; exact (Nat.div_add_mod j E.k).symm
  have hget : ((List.range len).map q)[j / E.k]? = some (q (j / E.k)) := by simp [hi]
  have := flat_get E hget (j % E.k) hr
  rw [← e, hj] at this
  rw [e]
  exact h _ hi _ _ this.symm

theorem fields_slice {H : Type} {enc : TypeId × Value → H} {w : World} {n : Nat} {c2 : Value} {y : DataW H × List MemPlace} (ih : ∀ n' ≤ n, ∀ {cs : List Value} {x : DataW H × List MemPlace}, DataW.trod enc Try.prog w 0 (fun _ => true) true n' 58 cs = some x →
      ∃ (f : Fd) (s : Sl), cs = encFd.enc.cells (f.val, s) ∧ RowT encFd (fun _ => True) w (slV s) f.kids ∧ fOk f)
    (g2 : DataW.trod enc Try.prog w 0 (fun _ => true) true n 22 [c2] = some y) : ∃ (l : List Fd) (s : Sl), c2 = slV s ∧ RowT encFd (fun _ => True) w (slV s) l ∧ fsOk l := by
  have h3 : Try.prog.cellsOf 58 = 3 := by kernel_rfl
  rcases DataW.trod_slice Try.underlying22 g2 with ⟨e2, e2'⟩ | ⟨a, len, cap, elems, rest, n', hn', e2, e2', _, hlc, hcm, hel, hget, _, _⟩
  · simp at e2
    subst e2
    exact ⟨[], (none, 0, 0), rfl, RowT.nil, trivial⟩
  · simp at e2
    subst e2
    have hall : ∀ i, i < len → ∃ k : Fd × Sl, (∀ r u, (encFd.enc.cells (k.1.val, k.2))[r]? = some u → w.cell? (a.add (i * 3 + r)) = some u) ∧ RowT encFd (fun _ => True) w (slV k.2) k.1.kids ∧ fOk k.1 := by
      intro i hi
      have hgi := hget i hi
      rw [h3, List.getElem?_eq_getElem (show i < elems.length by omega)] at hgi
      obtain ⟨cs', k1, k2⟩ := Option.bind_eq_some_iff.1 hgi
      obtain ⟨_, kl, kc⟩ := World.cells?_some k1
      obtain ⟨f, s, rfl, kr, ko⟩ := ih n' (by omega) k2
      refine ⟨(f, s), fun r u hr => ?_, kr, ko⟩
      have hr3 : r < 3 := by have h1 := (List.getElem?_eq_some_iff.1 hr).1; have e : (encFd.enc.cells ((f, s).1.val, (f, s).2)).length = 3 := encFd.enc.len _; omega
      have := kc r hr3
      rw [Go.Deep.add_add] at this
      rw [this]
      exact hr
    haveI : Inhabited (Fd × Sl) := ⟨(.mk (0, []) [], (none, 0, 0))⟩
    obtain ⟨q, hq⟩ := Go.Deep.choose_lt (n := len) hall
    refine ⟨(List.range len).map fun i => (q i).1, (some a, len, cap), rfl, ⟨(List.range len).map fun i => ((q i).1.val, (q i).2), by simp, row_of_cellsF (E := encFd.enc) hlc hcm (fun i hi => (hq i hi).1), fun _ _ _ _ _ => trivial, fun i t x h1 h2 => ?_⟩, ?_⟩
    · rw [List.getElem?_map] at h1 h2
      by_cases hi : i < len
      · simp only [List.getElem?_range hi, Option.map_some, Option.some.injEq] at h1 h2
        subst h1 h2
        have := RowT.node (q i).1.val (hq i hi).2.1
        generalize q i = qi at *
        obtain ⟨⟨fa, fk⟩, s⟩ := qi
        exact this
      · rw [List.getElem?_eq_none (by simpa using hi)] at h1
        cases h1
    · have : ∀ l : List Nat, (∀ i ∈ l, i < len) → fsOk (l.map fun i => (q i).1) := by
        intro l
        induction l with
        | nil => intro _; trivial
        | cons i l ih => intro h; rw [List.map_cons, fsOk]; exact ⟨(hq i (h i (by simp))).2.2, ih fun j hj => h j (by simp [hj])⟩
      exact this _ fun i hi => List.mem_range.1 hi

theorem field_trod {H : Type} {enc : TypeId × Value → H} {w : World} (fuel : Nat) : ∀ {cs : List Value} {x : DataW H × List MemPlace}, DataW.trod enc Try.prog w 0 (fun _ => true) true fuel 58 cs = some x →
    ∃ (f : Fd) (s : Sl), cs = encFd.enc.cells (f.val, s) ∧ RowT encFd (fun _ => True) w (slV s) f.kids ∧ fOk f := by
  induction fuel using Nat.strongRecOn with
  | ind fuel ih =>
  intro cs x hf
  have h3 : Try.prog.cellsOf 58 = 3 := by kernel_rfl
  have hb1 : Try.prog.cellsOf 32 = 1 := by kernel_rfl
  have hs1 : Try.prog.cellsOf 9 = 1 := by kernel_rfl
  have hl1 : Try.prog.cellsOf 22 = 1 := by kernel_rfl
  obtain ⟨xs, n, rfl, rfl, hsz, hlen, hg⟩ := DataW.trod_struct Try.underlying58 hf
  match cs, hsz.trans h3 with
  | [c0, c1, c2], _ =>
    match xs, hlen with
    | [y0, y1, y2], _ =>
      have g0 : DataW.trod enc Try.prog w 0 (fun _ => true) true n 32 (([c0, c1, c2].drop 0).take (Try.prog.cellsOf 32)) = some y0 := hg 0 _ rfl
      have g1 : DataW.trod enc Try.prog w 0 (fun _ => true) true n 9 (([c0, c1, c2].drop 1).take (Try.prog.cellsOf 9)) = some y1 := hg 1 _ rfl
      have g2 : DataW.trod enc Try.prog w 0 (fun _ => true) true n 22 (([c0, c1, c2].drop 2).take (Try.prog.cellsOf 22)) = some y2 := hg 2 _ rfl
      rw [hb1] at g0
      rw [hs1] at g1
      rw [hl1] at g2
      replace g0 : DataW.trod enc Try.prog w 0 (fun _ => true) true n 32 [c0] = some y0 := g0
      replace g1 : DataW.trod enc Try.prog w 0 (fun _ => true) true n 9 [c1] = some y1 := g1
      replace g2 : DataW.trod enc Try.prog w 0 (fun _ => true) true n 22 [c2] = some y2 := g2
      obtain ⟨z, e0, e0', w0⟩ := DataW.trod_int Try.underlying32 g0
      obtain ⟨b, e1, e1', wb⟩ := DataW.trod_string Try.underlying9 g1
      simp at e0 e1
      subst e0 e1
      have hz := bounds_u64 w0
      obtain ⟨l, s, rfl, hr, ho⟩ := fields_slice (fun n' hn' => ih n' (by omega)) g2
      refine ⟨.mk (z.toNat, b.data.toList) l, s, ?_, hr, ?_⟩
      · have : ((z.toNat : Nat) : Int) = z := by omega
        show [Value.int .u64 z, Value.string b, slV s] = [Value.int .u64 ((z.toNat : Nat) : Int), Value.string (mkS b.data.toList), slV s]
        rw [this]
        rfl
      · rw [fOk]
        exact ⟨by show z.toNat < _; omega, ho⟩

def FieldsRep (w : World) (v : Value) (l : List Fd) : Prop := RowT encFd (fun _ => True) w v l ∧ fsOk l
theorem fields_open {H : Type} {enc : TypeId × Value → H} {w : World} {base : Nat} {v : Value} {d : DataW H} {p : List MemPlace} (hv : Value.okWide Try.prog w .any base 22 v) (h : DataW.Trod enc Try.prog w 0 (fun _ => true) true 22 v d p) (_ : ∀ x ∈ p, x.block < w.heap.size) :
    ∃ l, FieldsRep w v l := by
  obtain ⟨a0, len, cap, rfl⟩ := okWide_slice Try.underlying22 hv
  obtain ⟨fuel, hf⟩ := h
  obtain ⟨l, s, e, h1, h2⟩ := fields_slice (fun n' _ => field_trod n') hf
  rw [e]
  exact ⟨l, h1, h2⟩

/-! ### 'alive' -/
theorem alive_write : writeF [110, 42, 110] [.mk (5, []) [], .mk (0, []) [.mk (1, []) [], .mk (2, []) []]] = ([196, 5, 194, 1, 2], 0) := by
  have hk : kindsL [110, 42, 110] = some [.mk 110 [], .mk 42 [.mk 110 []]] := by rfl
  have hi : itemsT (.mk 40 [.mk 110 [], .mk 42 [.mk 110 []]]) [.mk (5, []) [], .mk (0, []) [.mk (1, []) [], .mk (2, []) []]] = some (.mk true [] [.mk false [5] [], .mk true [] [.mk false [1] [], .mk false [2] []]]) := by
    simp [itemsT, rowI, itemK, starI, dig_one]
  unfold writeF
  rw [hk]
  simp only
  rw [if_pos (by simp [counts, Tr.count]), hi]
  simp only
  have hw : It.write (.mk true [] [.mk false [5] [], .mk true [] [.mk false [1] [], .mk false [2] []]]) = [196, 5, 194, 1, 2] := by
    simp [It.write, writes, headL]
  rw [It.enc, hw]
  decide

/-- Two fields in a block of the call's own. -/
theorem RowT.two {A : Nat → Prop} {w : World} {t1 t2 : Fd} {s1 s2 : Sl} {g : Nat} {cs : Array Value} {T : TypeId} (hg : w.heap[g]? = some (.cells cs T (0, 0))) (hcs : cs.toList = encFd.pre t1.val ++ [slV s1] ++ (encFd.pre t2.val ++ [slV s2])) (hA : A g) (h1 : RowT encFd A w (slV s1) t1.kids) (h2 : RowT encFd A w (slV s2) t2.kids) :
    RowT encFd A w (.slice (some ⟨g, 0, none⟩) 2 2) [t1, t2] := by
  refine ⟨[(t1.val, s1), (t2.val, s2)], rfl, .inr ⟨⟨g, 0, none⟩, 2, rfl, Nat.le_refl _, by unfold maxLen; omega, fun j u hj => ?_⟩, fun _ ad n c e => by injection e with e _ _; injection e with e; subst e; exact hA, fun i t x e1 e2 => ?_⟩
  · have e : flat encFd.enc [(t1.val, s1), (t2.val, s2)] = cs.toList := by rw [hcs]; rfl
    rw [e, Array.getElem?_toList] at hj
    have : w.cell? ⟨g, j, none⟩ = cs[j]? := cell_of_row w g j cs T _ hg
    rw [← hj, ← this]
    cases j <;> simp [Addr.add]
  · match i, e1, e2 with
    | 0, e1, e2 =>
      simp at e1 e2
      subst e1 e2
      cases t1 with
      | mk a ks => exact RowT.node a h1
    | 1, e1, e2 =>
      simp at e1 e2
      subst e1 e2
      cases t2 with
      | mk a ks => exact RowT.node a h2
    | i + 2, e1, e2 => simp at e1

set_option maxHeartbeats 2000000 in
theorem falive_any (w : World) : Calls Try.prog 15 #[] w fun e w' => e = .returned (.bool true) ∧ Below w.heap.size w w' := by
  have R1 := Lib.hid ((RowAt.new w #[.int .u64 1, .string ⟨#[]⟩, .slice none 0 0, .int .u64 2, .string ⟨#[]⟩, .slice none 0 0] 58).alloc (.cells #[.int .u64 5, .string ⟨#[]⟩, .slice none 0 0, .int .u64 0, .string ⟨#[]⟩, .slice (some ⟨w.heap.size, 0, none⟩) 2 2] 58))
  have R2 := Lib.hid (RowAt.new' (w.alloc (.cells #[.int .u64 1, .string ⟨#[]⟩, .slice none 0 0, .int .u64 2, .string ⟨#[]⟩, .slice none 0 0] 58)) #[.int .u64 5, .string ⟨#[]⟩, .slice none 0 0, .int .u64 0, .string ⟨#[]⟩, .slice (some ⟨w.heap.size, 0, none⟩) 2 2] 58 (k := w.heap.size + 1) (by simp))
  have HB := Lib.hid (bel2 w (.cells #[.int .u64 1, .string ⟨#[]⟩, .slice none 0 0, .int .u64 2, .string ⟨#[]⟩, .slice none 0 0] 58) (.cells #[.int .u64 5, .string ⟨#[]⟩, .slice none 0 0, .int .u64 0, .string ⟨#[]⟩, .slice (some ⟨w.heap.size, 0, none⟩) 2 2] 58))
  have KW : Hid (∀ W, RowAt W w.heap.size #[.int .u64 1, .string ⟨#[]⟩, .slice none 0 0, .int .u64 2, .string ⟨#[]⟩, .slice none 0 0] 58 → RowAt W (w.heap.size + 1) #[.int .u64 5, .string ⟨#[]⟩, .slice none 0 0, .int .u64 0, .string ⟨#[]⟩, .slice (some ⟨w.heap.size, 0, none⟩) 2 2] 58 → Calls Try.prog 12 #[.string ⟨#[110, 42, 110]⟩, .slice (some ⟨w.heap.size + 1, 0, none⟩) 2 2] W fun e w' => e = .returned (.tuple #[.string ⟨#[196, 5, 194, 1, 2]⟩, .int .i64 0]) ∧ Below W.heap.size W w') := Lib.hid (fun W h1 h2 => by
    have := fwrite_any ⟨#[110, 42, 110]⟩ (.slice (some ⟨w.heap.size + 1, 0, none⟩) 2 2) [.mk (5, []) [], .mk (0, []) [.mk (1, []) [], .mk (2, []) []]] W (by show (3 : Nat) ≤ 1000; omega) (by simp [fsOk, fOk])
      (RowT.two (t1 := .mk (5, []) []) (t2 := .mk (0, []) [.mk (1, []) [], .mk (2, []) []]) (s1 := (none, 0, 0)) (s2 := (some ⟨w.heap.size, 0, none⟩, 2, 2)) h2 rfl trivial RowT.nil
        (RowT.two (t1 := .mk (1, []) []) (t2 := .mk (2, []) []) (s1 := (none, 0, 0)) (s2 := (none, 0, 0)) h1 rfl trivial RowT.nil RowT.nil))
    have e : writeF (bl ⟨#[110, 42, 110]⟩) [.mk (5, []) [], .mk (0, []) [.mk (1, []) [], .mk (2, []) []]] = ([196, 5, 194, 1, 2], 0) := alive_write
    rw [e] at this
    exact this)
  go_enter Try.func15, Try.ntmps15
  go_wp2_with (go_at_call 12; refine (KW.out _ R1.out R2.out).mono ?_; rintro e w1 ⟨rfl, hb⟩; have HB2 := Lib.hid (HB.out.trans (hb.mono HB.out.size)); clear hb)
  go_ret
  exact ⟨rfl, HB2.out⟩
end Go.Proofs.Ythipnbiilobjeaa
