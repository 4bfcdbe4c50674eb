/- Tries in memory: the reference's cut. Nibble: contracts of Unpack, Key. Nibble: contracts of the reference; of Key. Nibble: more contracts of the reference; of Key. Tries in memory: the reference's common, parts. Regions that draw their order: reads (in any order one likes to take them in), then effects each of which is the only operation that may come, then a tail in one order; at any class of worlds in which the reads answer alike. Tries in memory: the reference's parts. Tries in memory: the reference's kids of none. Tries in memory: nodes; how many are laid. Tries in memory: a node's cells turned; the reference's lay (under way). -/
import Derived.Laws.CopyOwn
import Derived.Test.YtefmlbckbhlgdaaTm0
import Derived.Test.YtefmlbckbhlgdaaTm2
import Derived.Test.YtefmlbckbhlgdaaTm5
namespace Go.Proofs.Ytefmlbckbhlgdaa
open Go.RowKit
set_option maxRecDepth 100000
theorem mkS_drop (l : List UInt8) (m : Nat) : (mkS l).extract m (mkS l).size = mkS (l.drop m) := by
  apply bl_inj
  rw [bl_extract, bl_mk, bl_mk, mk_size, List.take_length]
theorem mkS_take (l : List UInt8) (m : Nat) : (mkS l).extract 0 m = mkS (l.take m) := by
  apply bl_inj
  rw [bl_extract, bl_mk, bl_mk, List.drop_zero]
def selC (c : Nat) (p : Pr) : Bool := decide (c = 16) || hasC c p
def cutP (c m : Nat) (l : List Pr) : List Pr := cutK m (l.filter (selC c))
theorem selC_all (l : List Pr) : l.filter (selC 16) = l := List.filter_eq_self.2 fun p _ => by simp [selC]
theorem selC_some {c : Nat} (h : c ≠ 16) (l : List Pr) : l.filter (selC c) = l.filter (hasC c) := List.filter_congr fun p _ => by simp [selC, h]

set_option maxHeartbeats 4000000 in
theorem rcut_any (c m : Nat) (v : Value) (l : List Pr) (w : World) (h : RP w v l) (hl : l.length ≤ 100000) (hc : c ≤ 16) (_hm : m ≤ 100000) (hk : ∀ p ∈ l, selC c p = true → m ≤ p.1.length) (hz : ∀ p ∈ l, p.1.length ≤ 100000) :
    Calls Try.prog 81 #[v, .int .i64 c, .int .i64 m] w fun e w' => ∃ v', e = .returned v' ∧ RP w' v' (cutP c m l) ∧ Below w.heap.size w w' := by
  obtain ⟨p, cp, rfl, h1, h2⟩ := RowE.shape encP h
  have HR := Lib.hid h
  have HB0 : Hid (Below w.heap.size w (w.alloc (.cells #[] 41))) := Lib.hid ((Below.refl _ _).alloc (Nat.le_refl _) _)
  have O0 : Hid (OP (w.alloc (.cells #[] 41)) w.heap.size (.slice (some ⟨w.heap.size, 0, none⟩) 0 0) []) := Lib.hid (OwnE.start encP (Nat.le_refl _))
  have HS : Hid (∀ i x, l[i]? = some x → cutP c m (l.drop i) = if selC c x = true then (x.1.drop m, x.2) :: cutP c m (l.drop (i + 1)) else cutP c m (l.drop (i + 1))) := Lib.hid (fun i x hx => by
    obtain ⟨hlt, e⟩ := List.getElem?_eq_some_iff.1 hx
    rw [List.drop_eq_getElem_cons hlt, e]
    unfold cutP
    by_cases hs : selC c x = true
    · rw [List.filter_cons_of_pos hs, if_pos hs]; rfl
    · rw [List.filter_cons_of_neg hs, if_neg hs])
  have H0 : Hid ([] ++ cutP c m (l.drop 0) = cutP c m l) := Lib.hid rfl
  have HE : Hid (cutP c m (l.drop l.length) = []) := Lib.hid (by rw [List.drop_length]; rfl)
  have HK := Lib.hid hk
  have HZ := Lib.hid hz
  generalize cutP c m l = r at *
  clear h hk hz
  unfold maxLen at h2
  go_enter Try.func81, Try.ntmps81
  go_upto_region 3 with (fail)
  go_loopw [7, 13] (fun s7 s wr => ∃ (i : Nat) (out : List Pr), i ≤ l.length ∧ out.length ≤ i ∧ s = .int .i64 i ∧ Hid (OP wr w.heap.size s7 out) ∧ Hid (out ++ cutP c m (l.drop i) = r) ∧ Hid (Below w.heap.size w wr)) (fun _ s _ => l.length - (intOf s).toNat)
  case atStart => exact ⟨0, [], Nat.zero_le _, Nat.zero_le _, rfl, O0, H0, HB0⟩
  case round =>
    clear H0 HB0 O0
    obtain ⟨i, out, hi, hoi, rfl, ho, hr, hb⟩ := hrel
    have O := Lib.hid ho.out
    have HR1 := Lib.hid hr.out
    have HB := Lib.hid hb.out
    clear ho hr hb
    by_cases hlt : i < l.length
    · obtain ⟨x, hx⟩ : ∃ x, l[i]? = some x := ⟨_, List.getElem?_eq_getElem hlt⟩
      obtain ⟨a, rfl, c0, c1⟩ := RP.at (RP.below HR.out HB.out (Nat.le_refl _)) hx
      have hs := HS.out i x hx
      have hkx := HK.out x (List.mem_of_getElem? hx)
      have hzx := HZ.out x (List.mem_of_getElem? hx)
      have HA := prAlloc wr x
      have O1 := Lib.hid (O.out.below HA (Nat.le_refl _))
      have HB1 := Lib.hid (HB.out.trans (HA.mono HB.out.size))
      have R1 := Lib.hid (RowAt.new wr #[.string (mkS x.1), .string (mkS x.2)] 41)
      have HOL : Hid (∀ g, u7.ownBlock = some g → g < wr.heap.size) := Lib.hid (fun g hg => (World.ownsRow.lt O.out g hg).2)
      clear HA hx O HB
      go_upto_region 5 with (fail)
      clear c0 c1
      generalize hw1 : wr.alloc (.cells #[.string (mkS x.1), .string (mkS x.2)] 41) = w1 at *
      clear hw1
      generalize wr.heap.size = k1 at *
      obtain ⟨y0, y1, yf0, yf1⟩ := R1.out.c2
      have hsz : (mkS x.1).size = x.1.length := mk_size _
      by_cases hsel : selC c x = true
      · rw [if_pos hsel] at hs
        have hml := hkx hsel
        have hdr := mkS_drop x.1 m
        rw [hsz] at hdr
        have hv := Lib.hid (show (out ++ [(x.1.drop m, x.2)]) ++ cutP c m (l.drop (i + 1)) = r by rw [List.append_assoc, List.singleton_append, ← hs]; exact HR1.out)
        have HD : Below w1.heap.size w1 w1.drew := (Below.refl _ _).drew
        have R2 := Lib.hid (RowAt.new w1.drew #[.string (mkS (x.1.drop m)), .string (mkS x.2)] 41)
        have HA := HD.trans (prAlloc w1.drew (x.1.drop m, x.2))
        have O2 := Lib.hid ((O1.out.below HA (Nat.le_refl _)))
        have HB2 := Lib.hid (HB1.out.trans (HA.mono HB1.out.size))
        have HL2 := Lib.hid (RowE.lit encP R2.out (x.1.drop m, x.2) rfl)
        have HZ2 := Lib.hid HB2.out.size
        clear HA O1 HB1 hs hkx HR1
        have q0 : (m : Int) ≤ x.1.length := by omega
        obtain ⟨z0, z1⟩ := R1.out.l2
        by_cases e16 : c = 16
        · have hc16 : ((c : Int) == 16) = true := beq_iff_eq.2 (by omega)
          clear hsel e16
          go_upto_region 6 with (fail)
          clear y0 y1 yf0 yf1
          (refine region_chain 8 9 mix ?hB ?_; case hB => kernel_rfl); (simp only [List.take_succ_cons, List.take_zero, List.drop_succ_cons, List.drop_zero]); (iterate 8 (with_reducible refine cr_step ?_; intro K hK; go_simp; (with_reducible refine hK _ ?_); clear hK K)); (with_reducible refine cr_nil ?_); (with_reducible refine ef_step rfl ?_); (intro K hK; unfold EF; go_simp; (first | refine ⟨Or.inr ⟨_, rfl⟩, hK _ _ ?_⟩ | refine hK _ _ ?_); clear hK K); (with_reducible refine ef_nil ?_)
          go_wp2_with (at_builtin; refine wpList_append_rowG encP Try.underlying34 info_pr rfl rfl _ _ rfl w.heap.size _ out rfl O2.out _ [(x.1.drop m, x.2)] rfl HL2.out (by unfold maxLen; simp; omega) (by simp; omega) HZ2.out ?_)
          intro v' w2 ho hgr hbb hz _
          have HO := Lib.hid (show OP w2 w.heap.size v' (out ++ [(x.1.drop m, x.2)]) from ho)
          have HB3 := Lib.hid (hbb _ HB2.out)
          clear ho hgr hbb hz
          go_wp2
          go_roundw
          case rel => exact ⟨i + 1, out ++ [(x.1.drop m, x.2)], by omega, by simp; omega, by simp, HO, hv, HB3⟩
          case measure => simp [intOf]; omega
        · have hc16 : ((c : Int) == 16) = false := beq_eq_false_iff_ne.2 (by omega)
          have hsc : hasC c x = true := by simpa [selC, e16] using hsel
          obtain ⟨y, ys, hxy, hyc⟩ := hasC_some hsc
          obtain ⟨hi0, hg0⟩ := at_byte (s := mkS x.1) (i := 0) (c := y) (by rw [bl_mk, hxy]; rfl)
          have hgc : ((mkS x.1)[0]'hi0).toNat = c := by rw [hg0]; exact hyc
          have hc2 : c < 16 := by omega
          have hwr : IntKind.i64.wrap (c : Int) = (c : Int) := by rw [IntKind.wrap_i64]; omega
          have hi1 : (0 : Int) < ((mkS x.1).size : Int) := by omega
          clear hsc hsel hg0 hyc hxy
          go_upto_region 6 with (fail)
          clear y0 y1 yf0 yf1
          (refine region_chain 8 9 mix ?hB ?_; case hB => kernel_rfl); (simp only [List.take_succ_cons, List.take_zero, List.drop_succ_cons, List.drop_zero]); (iterate 8 (with_reducible refine cr_step ?_; intro K hK; go_simp; (with_reducible refine hK _ ?_); clear hK K)); (with_reducible refine cr_nil ?_); (with_reducible refine ef_step rfl ?_); (intro K hK; unfold EF; go_simp; (first | refine ⟨Or.inr ⟨_, rfl⟩, hK _ _ ?_⟩ | refine hK _ _ ?_); clear hK K); (with_reducible refine ef_nil ?_)
          go_wp2_with (at_builtin; refine wpList_append_rowG encP Try.underlying34 info_pr rfl rfl _ _ rfl w.heap.size _ out rfl O2.out _ [(x.1.drop m, x.2)] rfl HL2.out (by unfold maxLen; simp; omega) (by simp; omega) HZ2.out ?_)
          intro v' w2 ho hgr hbb hz _
          have HO := Lib.hid (show OP w2 w.heap.size v' (out ++ [(x.1.drop m, x.2)]) from ho)
          have HB3 := Lib.hid (hbb _ HB2.out)
          clear ho hgr hbb hz
          go_wp2
          go_roundw
          case rel => exact ⟨i + 1, out ++ [(x.1.drop m, x.2)], by omega, by simp; omega, by simp, HO, hv, HB3⟩
          case measure => simp [intOf]; omega
      · rw [if_neg hsel] at hs
        have hv := Lib.hid (show out ++ cutP c m (l.drop (i + 1)) = r by rw [← hs]; exact HR1.out)
        have hc16 : ((c : Int) == 16) = false := beq_eq_false_iff_ne.2 (fun e => hsel (by
          have : c = 16 := by omega
          simp [selC, this]))
        clear hs hkx HR1
        cases hx1 : x.1 with
        | nil =>
          have hz0 : (mkS x.1).size = 0 := by rw [hsz, hx1]; rfl
          clear hx1 hsel
          go_wp2
          exact ⟨⟨i + 1, out, by omega, by omega, by simp, O1, hv, HB1⟩, by simp [intOf]; omega⟩
        | cons y ys =>
          obtain ⟨hi0, hg0⟩ := at_byte (s := mkS x.1) (i := 0) (c := y) (by rw [bl_mk, hx1]; rfl)
          have hi1 : (0 : Int) < ((mkS x.1).size : Int) := by omega
          have hne : ¬ ((((mkS x.1)[0]'hi0).toNat : Int) = (c : Int)) := fun e => hsel (by
            have : y.toNat = c := by rw [← hg0]; omega
            simp [selC, hasC, hx1, this])
          have hwr : IntKind.i64.wrap (((mkS x.1)[0]'hi0).toNat : Int) = (((mkS x.1)[0]'hi0).toNat : Int) := by
            have := ((mkS x.1)[0]'hi0).toNat_lt
            rw [IntKind.wrap_i64]; omega
          clear hx1 hsel hg0
          generalize hq : ((mkS x.1)[0]'hi0).toNat = q at *
          have hbqc : ((q : Int) == (c : Int)) = false := beq_eq_false_iff_ne.2 hne
          clear hne
          go_wp2
          exact ⟨⟨i + 1, out, by omega, by omega, by simp, O1, hv, HB1⟩, by simp [intOf]; omega⟩
    · obtain rfl : i = l.length := by omega
      have hv := Lib.hid (show out = r by have := HR1.out; rw [HE.out, List.append_nil] at this; exact this)
      go_wp2
      go_ret
      exact ⟨_, rfl, by rw [← hv.out]; exact OwnE.row encP O.out, HB.out⟩
end Go.Proofs.Ytefmlbckbhlgdaa
namespace Go.Proofs.Ytefmlbckbhlgdaa
open Go.RowKit
set_option maxRecDepth 100000
/-- A list of bytes as a text. -/
def bstr (l : List UInt8) : ByteArray := ⟨l.toArray⟩

end Go.Proofs.Ytefmlbckbhlgdaa
namespace Go.Proofs.Ytefmlbckbhlgdaa
open Go.RowKit
set_option maxRecDepth 100000
theorem joinL_snoc : ∀ (l : List UInt8) (x y : UInt8), l.length % 2 = 0 → joinL (l ++ [x, y]) = joinL l ++ [x * 16 + y]
  | [], _, _, _ => rfl
  | [_], _, _, h => by simp at h
  | a :: b :: l, x, y, h => by simp only [List.cons_append, joinL, joinL_snoc l x y (by simp only [List.length_cons] at h; omega)]

theorem joinL_last : ∀ (l : List UInt8) (x : UInt8), l.length % 2 = 0 → joinL (l ++ [x]) = joinL l
  | [], _, _ => rfl
  | [_], _, h => by simp at h
  | a :: b :: l, x, h => by simp only [List.cons_append, joinL, joinL_last l x (by simp only [List.length_cons] at h; omega)]

theorem u8_sixteen (x y : UInt8) : IntKind.u8.wrap (IntKind.u8.wrap (16 * (x.toNat : Int)) + (y.toNat : Int)) = ((x * 16 + y).toNat : Int) := by
  simp only [IntKind.wrap_u8, UInt8.toNat_add, UInt8.toNat_mul]
  simp
  omega

set_option maxHeartbeats 2000000 in
theorem rbytes_any (s : ByteArray) (w : World) (hs : s.size ≤ 1000000) :
    Calls Try.prog 142 #[.string s] w fun e w' => e = .returned (.string (joinB s)) ∧ Below w.heap.size w w' := by
  go_enter Try.func142, Try.ntmps142
  go_wp2
  go_loopw [3, 4] (fun v i wr => ∃ k : Nat, 2 * k ≤ s.size ∧ i = .int .i64 (2 * (k : Int)) ∧ OwnB wr w.heap.size v (joinL (s.data.toList.take (2 * k))) ∧ Below w.heap.size w wr ∧ w.heap.size ≤ wr.heap.size) (fun _ i _ => s.size - (intOf i).toNat)
  case atStart => exact ⟨0, Nat.zero_le _, rfl, OwnB.start (Nat.le_refl _) 0, (Below.refl _ _).alloc (Nat.le_refl _) _, by simp⟩
  case round =>
    obtain ⟨k, hk, rfl, hown, hbl, hsz⟩ := hrel
    have hlen : (joinL (s.data.toList.take (2 * k))).length = k := by rw [joinL_length, List.length_take]; simp; omega
    have HO := Lib.hid hown
    have HL := Lib.hid hbl
    have HN := Lib.hid hlen
    have l0 : 0 ≤ 2 * (k : Int) := by omega
    by_cases hlt : 2 * k + 1 < s.size
    · have l1 : 2 * (k : Int) + 1 < (s.size : Int) := by omega
      have l2 : 2 * (k : Int) < (s.size : Int) := by omega
      have e1 : IntKind.i64.wrap (2 * (k : Int) + 1) = 2 * (k : Int) + 1 := IntWalk.i64_in _ (by omega)
      have e3 : (2 * (k : Int)).toNat = 2 * k := by omega
      have e4 : (2 * (k : Int) + 1).toNat = 2 * k + 1 := by omega
      have l4 : 0 ≤ 2 * (k : Int) + 1 := by omega
      clear hown hbl hlen
      go_wp2
      go_region_law (refine step_append_bytes rfl _ _ rfl w.heap.size _ _ rfl (HO.out.drew.alloc _) ⟨wr.heap.size, 0, none⟩ 1 1 [s[2 * k] * 16 + s[2 * k + 1]] rfl rfl (one_cell_new (w := wr.drew) (u8_sixteen s[2 * k] s[2 * k + 1])) (by rw [HN.out]; omega) (by simp; omega) ?_; intro v' w1 hown1 hb1 hz1)
      all_goals
        go_wp2
        go_roundw
        case rel =>
          refine ⟨k + 1, by omega, by go_num, ?_, hb1 _ (HL.out.drew.alloc hsz _), by simp at hz1; omega⟩
          rw [show 2 * (k + 1) = 2 * k + 1 + 1 by omega, take_snoc hlt, take_snoc (by omega), List.append_assoc]
          rw [show [s[2 * k]] ++ [s[2 * k + 1]] = [s[2 * k], s[2 * k + 1]] from rfl, joinL_snoc _ _ _ (by rw [List.length_take]; simp; omega)]
          exact hown1
        case measure => simp [intOf]; omega
    · have hcv := hown.conv
      have l1 : ¬ 2 * (k : Int) + 1 < (s.size : Int) := by omega
      have hfin : joinL (s.data.toList.take (2 * k)) = joinL s.data.toList := by
        by_cases hz : 2 * k = s.size
        · rw [List.take_of_length_le (by simp; omega)]
        · have hz' : 2 * k < s.size := by omega
          have : s.data.toList = s.data.toList.take (2 * k) ++ [s[2 * k]] := by
            rw [← take_snoc hz', List.take_of_length_le (by simp; omega)]
          conv => rhs; rw [this]
          rw [joinL_last _ _ (by rw [List.length_take]; simp; omega)]
      have HF := Lib.hid hfin
      clear hown hbl hfin hlen
      go_wp2
      go_ret
      refine ⟨?_, HL.out⟩
      unfold joinB
      rw [← HF.out]
      rfl
end Go.Proofs.Ytefmlbckbhlgdaa
namespace Go.Proofs.Ytefmlbckbhlgdaa
open Go.RowKit
set_option maxRecDepth 100000
set_option maxHeartbeats 2000000 in
theorem rshare_any (a b : ByteArray) (w : World) (ha : a.size ≤ 9223372036854775807) (_hb : b.size ≤ 9223372036854775807) :
    Calls Try.prog 132 #[.string a, .string b] w fun e w' => e = .returned (.int .i64 (shareB a b)) ∧ Below w.heap.size w w' := by
  have H1 := shareB_le a b
  have HS := Lib.hid (shareB_stop a b)
  generalize hn : shareB a b = n at *
  have HA : Hid (∀ k, k < n → (h1 : k < a.size) → (h2 : k < b.size) → ((a[k].toNat : Int) == (b[k].toNat : Int)) = true) := by subst hn; exact fun k h h1 h2 => shareB_alike a b h h1 h2
  clear hn
  go_enter Try.func132, Try.ntmps132
  go_wp2
  go_loopw [5] (fun i wr => ∃ k : Nat, k ≤ n ∧ i = .int .i64 k ∧ Below w.heap.size w wr) (fun i _ => n - (intOf i).toNat)
  case atStart => exact ⟨0, Nat.zero_le _, rfl, Below.refl _ _⟩
  case round =>
    obtain ⟨k, hk, rfl, hbl⟩ := hrel
    have HB := Lib.hid hbl
    clear hbl
    by_cases hlt : k < n
    · have l1 : k < a.size := by omega
      have l2 : k < b.size := by omega
      have hq := HA.out k hlt l1 l2
      have hq2 : ((a[k].toNat : Int) != (b[k].toNat : Int)) = false := by rw [bne, hq]; rfl
      clear hq
      have hd : decide (b.size ≤ k) = false := by simp; omega
      go_wp2
      (refine region_tail 12 mix ?hB ?_; case hB => kernel_rfl); (simp only [List.take_succ_cons, List.take_zero, List.drop_succ_cons, List.drop_zero]; (iterate 12 (with_reducible refine wpStill_step ?_; intro K hK; go_simp; with_reducible refine hK _ ?_; clear hK K)); with_reducible refine wpStill_nil ?_)
      go_wp2
      go_roundw
      case rel => exact ⟨k + 1, by omega, by go_num, HB.out.drew⟩
      case measure => simp [intOf]; omega
    · obtain rfl : k = n := by omega
      by_cases l1 : k < a.size
      · by_cases l2 : k < b.size
        · have hq := HS.out l1 l2
          have hq2 : ((a[k].toNat : Int) != (b[k].toNat : Int)) = true := by rw [bne, hq]; rfl
          clear hq
          have hd : decide (b.size ≤ k) = false := by simp; omega
          go_wp2
          (refine region_tail 12 mix ?hB ?_; case hB => kernel_rfl); (simp only [List.take_succ_cons, List.take_zero, List.drop_succ_cons, List.drop_zero]; (iterate 12 (with_reducible refine wpStill_step ?_; intro K hK; go_simp; with_reducible refine hK _ ?_; clear hK K)); with_reducible refine wpStill_nil ?_)
          go_wp2
          go_ret
          exact ⟨rfl, HB.out.drew⟩
        · have hd : decide (b.size ≤ k) = true := by simp; omega
          clear l2
          go_wp2
          (refine region_tail 12 mix ?hB ?_; case hB => kernel_rfl); (simp only [List.take_succ_cons, List.take_zero, List.drop_succ_cons, List.drop_zero]; (iterate 12 (with_reducible refine wpStill_step ?_; intro K hK; go_simp; with_reducible refine hK _ ?_; clear hK K)); with_reducible refine wpStill_nil ?_)
          go_wp2
          go_ret
          exact ⟨rfl, HB.out.drew⟩
      · obtain rfl : k = a.size := by omega
        go_wp2
        go_ret
        exact ⟨rfl, HB.out⟩

end Go.Proofs.Ytefmlbckbhlgdaa
namespace Go.Proofs.Ytefmlbckbhlgdaa
open Go.RowKit
set_option maxRecDepth 100000
theorem shareB_mk (a b : List UInt8) : shareB (mkS a) (mkS b) = shareL a b := by
  unfold shareB
  show shareL (bl (mkS a)) (bl (mkS b)) = _
  rw [bl_mk, bl_mk]

set_option maxHeartbeats 2000000 in
theorem rcommon_any (v : Value) (p0 : Pr) (r0 : List Pr) (w : World) (h : RP w v (p0 :: r0)) (hl : (p0 :: r0).length ≤ 100000) (hz : ∀ p ∈ p0 :: r0, p.1.length ≤ 100000) :
    Calls Try.prog 80 #[v] w fun e w' => e = .returned (.int .i64 (commonL (p0 :: r0))) ∧ Below w.heap.size w w' := by
  have KS := Lib.hid (fun (x : Pr) (hx : x.1.length ≤ 100000) (h0 : p0.1.length ≤ 100000) W => rshare_any (mkS x.1) (mkS p0.1) W (by rw [mk_size]; omega) (by rw [mk_size]; omega))
  obtain ⟨p, cp, rfl, h1, h2⟩ := RowE.shape encP h
  have HR := Lib.hid h
  have HB0 := Lib.hid (Below.refl w.heap.size w)
  have HZ := Lib.hid hz
  have hz0 := hz p0 List.mem_cons_self
  obtain ⟨a, rfl, d0, d1⟩ := RP.at h (i := 0) rfl
  have D0 := Lib.hid d0
  have H0 : Hid ((p0 :: r0).foldl (fun n q => min n (shareL q.1 p0.1)) p0.1.length = commonL (p0 :: r0)) := Lib.hid (by
    rw [List.foldl_cons, shareL_self, Nat.min_self]; rfl)
  have hsz : (mkS p0.1).size = p0.1.length := mk_size _
  generalize commonL (p0 :: r0) = res at *
  generalize hll : p0 :: r0 = l at *
  have hpos : 0 < l.length := by rw [← hll]; simp
  have HS : Hid (∀ i x n, l[i]? = some x → (l.drop i).foldl (fun n q => min n (shareL q.1 p0.1)) n = (l.drop (i + 1)).foldl (fun n q => min n (shareL q.1 p0.1)) (min n (shareL x.1 p0.1))) := Lib.hid (fun i x n hx => by
    obtain ⟨hlt, e⟩ := List.getElem?_eq_some_iff.1 hx
    rw [List.drop_eq_getElem_cons hlt, e, List.foldl_cons])
  have HE : Hid (∀ n, (l.drop l.length).foldl (fun n q => min n (shareL q.1 p0.1)) n = n) := Lib.hid (fun n => by rw [List.drop_length]; rfl)
  replace H0 : Hid ((l.drop 0).foldl (fun n q => min n (shareL q.1 p0.1)) p0.1.length = res) := H0
  clear h hz hll d1
  unfold maxLen at h2
  have hadd : a.add 0 = a := Addr.add_zero' a
  rw [Nat.zero_mul, hadd] at d0
  go_enter Try.func80, Try.ntmps80
  go_upto_region 3 with (fail)
  go_loopw [3, 14] (fun s3 s wr => ∃ (i n : Nat), i ≤ l.length ∧ s3 = .int .i64 n ∧ s = .int .i64 i ∧ Hid ((l.drop i).foldl (fun n q => min n (shareL q.1 p0.1)) n = res) ∧ Hid (Below w.heap.size w wr)) (fun _ s _ => l.length - (intOf s).toNat)
  case atStart => exact ⟨0, p0.1.length, Nat.zero_le _, rfl, rfl, H0, HB0⟩
  case round =>
    clear H0 HB0 d0
    obtain ⟨i, n, hi, rfl, rfl, hr, hb⟩ := hrel
    have HR1 := Lib.hid hr.out
    have HB := Lib.hid hb.out
    clear hr hb
    by_cases hlt : i < l.length
    · obtain ⟨x, hx⟩ : ∃ x, l[i]? = some x := ⟨_, List.getElem?_eq_getElem hlt⟩
      obtain ⟨a', e', c0, c1⟩ := RP.at (RP.below HR.out HB.out (Nat.le_refl _)) hx
      obtain rfl := Option.some.inj e'
      clear e'
      have hs := HS.out i x n hx
      have hv := hs.symm.trans HR1.out
      have KC := Lib.hid (KS.out x (HZ.out x (List.mem_of_getElem? hx)) hz0)
      rw [shareB_mk] at KC
      generalize shareL x.1 p0.1 = q at *
      have HA := prAlloc wr x
      have HB1 := Lib.hid (HB.out.trans (HA.mono HB.out.size))
      have R1 := Lib.hid (RowAt.new wr #[.string (mkS x.1), .string (mkS x.2)] 41)
      clear HA hx HB hs HR1
      go_upto_region 5 with (fail)
      clear c0 c1
      generalize wr.alloc (.cells #[.string (mkS x.1), .string (mkS x.2)] 41) = w1 at *
      generalize wr.heap.size = k1 at *
      obtain ⟨z0, z1⟩ := R1.out.l2
      have da : ∀ u : Later w1, u.w.cell? a = some (.string (mkS p0.1)) := fun u => by
        have h0 := D0.out
        rw [Nat.zero_mul, hadd] at h0
        rw [(HB1.out.trans (u.below.mono HB1.out.size)).cell (block_lt_of_cell h0)]
        exact h0
      (refine region_later mix ?hB ?_; case hB => kernel_rfl); (repeat (first | go_big_quiet_step ((go_at_call 132; with_reducible exact Later.call (KC.out _))) | quiet_step ((go_at_call 132; with_reducible exact Later.call (KC.out _))))); (refine wpQuiet_nil ?_; rintro _ ⟨u, rfl⟩)
      have HB2 := Lib.hid (HB1.out.trans (u.below.mono HB1.out.size))
      clear z0 z1 da HB1 KC
      by_cases hq : q < n
      · have hv2 := Lib.hid (show (l.drop (i + 1)).foldl (fun n q => min n (shareL q.1 p0.1)) q = res by rw [← hv]; congr 1; omega)
        have hqi : (q : Int) < n := by omega
        clear hv
        go_wp2
        go_roundw
        case rel => exact ⟨i + 1, q, by omega, rfl, by simp, hv2, HB2⟩
        case measure => simp [intOf]; omega
      · have hv2 := Lib.hid (show (l.drop (i + 1)).foldl (fun n q => min n (shareL q.1 p0.1)) n = res by rw [← hv]; congr 1; omega)
        have hqi : ¬ (q : Int) < n := by omega
        clear hv
        go_wp2
        go_roundw
        case rel => exact ⟨i + 1, n, by omega, rfl, by simp, hv2, HB2⟩
        case measure => simp [intOf]; omega
    · obtain rfl : i = l.length := by omega
      have hv := Lib.hid (show n = res from (HE.out n).symm.trans HR1.out)
      go_wp2
      go_ret
      exact ⟨by rw [← hv.out]; rfl, HB.out⟩
end Go.Proofs.Ytefmlbckbhlgdaa
namespace Go.Proofs.Ytefmlbckbhlgdaa
open Go.RowKit
/-- The worlds of a class. -/
def InC (C : World → Prop) : Type := { w : World // C w }
def InC.w {C : World → Prop} (u : InC C) : World := u.1
/-- The class of the later worlds. -/
def LaterC (W w' : World) : Prop := Below W.heap.size W w'
instance laterCNonempty (W : World) : Nonempty (InC (LaterC W)) := ⟨⟨W, Below.refl _ _⟩⟩
theorem InC.below {W : World} (u : InC (LaterC W)) : Below W.heap.size W u.w := u.2
theorem RowAt.inC {W : World} {k : Nat} {cs : Array Value} {T : TypeId} (h : RowAt W k cs T) (u : InC (LaterC W)) : RowAt u.w k cs T := h.belowS u.below
theorem RowAt.ic2 {W : World} {k : Nat} {v0 v1 : Value} {T : TypeId} (h : RowAt W k #[v0, v1] T) : (∀ u : InC (LaterC W), u.w.cell? ⟨k, 0, none⟩ = some v0) ∧ (∀ u : InC (LaterC W), u.w.cell? ⟨k, 1, none⟩ = some v1) := ⟨fun u => (h.inC u).cell 0, fun u => (h.inC u).cell 1⟩
theorem InC.is {C : World → Prop} (u : InC C) : C u.w := u.2
def InC.of {C : World → Prop} {w : World} (h : C w) : InC C := ⟨w, h⟩

section
variable {P : Program} {ops : Array Oper} {md : Region.Mode} {C : World → Prop} {E : Nat → Bool}
/-- A read's value, the same in all worlds of the class, none of which it turns. -/
def YC (P : Program) (ops : Array Oper) (C : World → Prop) (o : Oper) (v : Value) (a : Act) : Prop :=
  (Region.wanted o (yielded ops a.tmps) = true ∧ ∀ u : InC C, o.quietAt P a (fun w' => w' = u.w) u.w v) ∨ (Region.wanted o (yielded ops a.tmps) = false ∧ v = undef)
theorem YC.of_same {o : Oper} {v : Value} {a a' : Act} (hy : YC P ops C o v a) (he : execOp a'.eval o = execOp a.eval o) (hw : Region.wanted o (yielded ops a'.tmps) = Region.wanted o (yielded ops a.tmps)) : YC P ops C o v a' := by
  unfold YC Oper.quietAt at *
  rw [he, hw]
  exact hy
/-- An effect: a call, whatever it answers, or a value; the world stays in the class. -/
def EX (P : Program) (C : World → Prop) (o : Oper) (K : Act → World → Prop) (a : Act) (w : World) : Prop :=
  match (execOp a.eval o).run P w with
  | .ok (.enter f args) w' => w' = w ∧ Calls P f args w (fun e w'' => ∃ v, e = .returned v ∧ C w'' ∧ K (a.put o.dst v) w'')
  | .ok (.value u) w' => C w' ∧ K (a.put o.dst u) w'
  | _ => False
theorem EX.mono {o : Oper} {K K' : Act → World → Prop} {a : Act} {w : World} (h : ∀ a w, K a w → K' a w) (hh : EX P C o K a w) : EX P C o K' a w := by
  unfold EX at *
  generalize (execOp a.eval o).run P w = r at *
  cases r with
  | ok n w' =>
    cases n <;> simp only at hh ⊢
    case enter f args => exact ⟨hh.1, hh.2.mono fun e w'' ⟨v, h1, h2, h3⟩ => ⟨v, h1, h2, h _ _ h3⟩⟩
    case value u => exact ⟨hh.1, h _ _ hh.2⟩
  | halt x w' => simp only at hh
def xOp (P : Program) (ops : Array Oper) (C : World → Prop) (E : Nat → Bool) (i : Nat) (K : Act → World → Prop) (a : Act) (w : World) : Prop :=
  match ops[i]? with
  | none => K a w
  | some o => if E i = true then (if Region.wanted o (yielded ops a.tmps) = true then EX P C o K a w else K (a.put o.dst undef) w)
    else ∃ v, YC P ops C o v a ∧ K (a.put o.dst v) w
theorem xOp_mono {i : Nat} {a : Act} {w : World} {K K' : Act → World → Prop} (h : ∀ a w, K a w → K' a w) (hh : xOp P ops C E i K a w) : xOp P ops C E i K' a w := by
  unfold xOp at *
  split
  · rename_i ho
    simp only [ho] at hh
    exact h _ _ hh
  · rename_i o ho
    simp only [ho] at hh
    by_cases e : E i = true
    · rw [if_pos e] at hh ⊢
      by_cases e2 : Region.wanted o (yielded ops a.tmps) = true
      · rw [if_pos e2] at hh ⊢; exact hh.mono h
      · rw [if_neg e2] at hh ⊢; exact h _ _ hh
    · rw [if_neg e] at hh ⊢
      obtain ⟨v, h1, h2⟩ := hh
      exact ⟨v, h1, h _ _ h2⟩
theorem xOp_put {j : Nat} {oi oj : Oper} {v : Value} {w : World} (hj : ops[j]? = some oj) (hap : oi.apart ops oj = true)
    (hsi : ∀ cs b, oi.op ≠ .select cs b) (hsj : ∀ cs b, oj.op ≠ .select cs b) {K : Act → World → Prop} {a : Act}
    (hy : YC P ops C oi v a) (h : xOp P ops C E j K (a.put oi.dst v) w) :
    xOp P ops C E j (fun a' w' => YC P ops C oi v a' ∧ K (a'.put oi.dst v) w') a w := by
  obtain ⟨h1, h2, h3⟩ := Oper.apart_spec hap
  have hs : ∀ u, YC P ops C oi v (a.put oj.dst u) := fun u => hy.of_same (execOp_put oi hsi a oj.dst u h3) (wanted_put oi a oj.dst u h3)
  have ee := execOp_put oj hsj a oi.dst v h1
  have ew := wanted_put (ops := ops) oj a oi.dst v h1
  unfold xOp at *
  simp only [hj] at *
  by_cases e : E j = true
  · rw [if_pos e] at h ⊢
    rw [ew] at h
    by_cases e2 : Region.wanted oj (yielded ops a.tmps) = true
    · rw [if_pos e2] at h ⊢
      unfold EX at *
      rw [ee] at h
      generalize (execOp a.eval oj).run P w = r at *
      cases r with
      | ok n w' =>
        cases n <;> simp only at h ⊢
        case enter f args => exact ⟨h.1, h.2.mono fun e w'' ⟨u, k1, k2, k3⟩ => ⟨u, k1, k2, hs u, by rw [← Act.put_comm a v u h2]; exact k3⟩⟩
        case value u => exact ⟨h.1, hs u, by rw [← Act.put_comm a v u h2]; exact h.2⟩
      | halt x w' => simp only at h
    · rw [if_neg e2] at h ⊢
      exact ⟨hs _, by rw [← Act.put_comm a v undef h2]; exact h⟩
  · rw [if_neg e] at h ⊢
    obtain ⟨u, hu, hn⟩ := h
    exact ⟨u, hu.of_same ee.symm ew.symm, hs u, by rw [← Act.put_comm a v u h2]; exact hn⟩

def wpHeadX (P : Program) (md : Region.Mode) (ops : Array Oper) (C : World → Prop) (E : Nat → Bool) (n : Nat) (L : Array Bool → Act → World → Prop) : Nat → Array Bool → Act → World → Prop
  | 0, listed, a, w => L listed a w
  | f + 1, listed, a, w =>
    Region.ready md ops listed ≠ [] ∧ ∀ i ∈ Region.ready md ops listed, i < n ∧ xOp P ops C E i (wpHeadX P md ops C E n L f (listed.setIfInBounds i true)) a w

theorem wpOp_of_xOp {i : Nat} {a : Act} {K K' : Act → World → Prop} {Q' : Exit → Act → World → Prop} {w : World}
    (hC : C w) (h : ∀ a w', C w' → K a w' → K' a w') (hh : xOp P ops C E i K a w) : wpOp P ops Q' i K' a w := by
  unfold xOp at hh
  unfold wpOp
  split
  · rename_i ho
    simp only [ho] at hh
    exact h _ _ hC hh
  rename_i o ho
  simp only [ho] at hh
  by_cases e : E i = true
  · rw [if_pos e] at hh
    by_cases hw : Region.wanted o (yielded ops a.tmps) = true
    · rw [if_pos hw] at hh
      simp only [hw, if_true]
      refine .inl ?_
      unfold Oper.wp
      unfold EX at hh
      generalize (execOp a.eval o).run P w = r at *
      cases r with
      | ok n w' =>
        cases n <;> simp only at hh <;> simp only [Oper.upon]
        case enter f args =>
          obtain ⟨rfl, hcc⟩ := hh
          exact hcc.mono fun e w'' ⟨v, he, hb, hk⟩ => by
            subst he
            exact h _ _ hb hk
        case value u => exact h _ _ hh.1 hh.2
      | halt x w' => simp only at hh
    · rw [if_neg hw] at hh
      have hw' : Region.wanted o (yielded ops a.tmps) = false := by simpa using hw
      simp only [hw', Bool.false_eq_true, if_false]
      exact h _ _ hC hh
  · rw [if_neg e] at hh
    obtain ⟨v, hy, hK⟩ := hh
    rcases hy with ⟨hw, hq⟩ | ⟨hw, rfl⟩
    · simp only [hw, if_true]
      refine .inl ?_
      refine Oper.wp_of_quiet (C := fun w' => w' = w) rfl (fun a w' hw' hk => h a w' (by rw [hw']; exact hC) (by rw [hw']; exact hk)) (o := o) (K := fun a => K a w) ⟨v, fun w2 hw2 => ?_, hK⟩
      rw [hw2]
      exact hq (InC.of hC)
    · simp only [hw, Bool.false_eq_true, if_false]
      exact h _ _ hC hK

theorem wpAny_of_headX {n g : Nat} {L : Array Bool → Act → World → Prop} {Q' : Exit → Act → World → Prop} (hL : ∀ listed a w, L listed a w → wpAny P md ops Q' g listed a w) :
    ∀ (f : Nat) (listed : Array Bool) (a : Act) (w : World), C w → wpHeadX P md ops C E n L f listed a w → wpAny P md ops Q' (f + g) listed a w
  | 0, listed, a, w, _, h => by rw [Nat.zero_add]; exact hL _ _ _ h
  | f + 1, listed, a, w, hw, h => by
    rw [show f + 1 + g = (f + g) + 1 by omega]
    exact ⟨fun h0 => absurd h0 h.1, fun i hi => wpOp_of_xOp hw (fun a' w' hw' h' => wpAny_of_headX hL f _ a' w' hw' h') (h.2 i hi).2⟩

theorem YC.xOp {i : Nat} {o : Oper} {v : Value} {a : Act} {w : World} (hi : ops[i]? = some o) (hic : E i = false) (hy : YC P ops C o v a) {K : Act → World → Prop} (h : K (a.put o.dst v) w) : xOp P ops C E i K a w := by
  unfold Go.Proofs.Ytefmlbckbhlgdaa.xOp
  simp only [hi, hic, Bool.false_eq_true, if_false]
  exact ⟨v, hy, h⟩

theorem wpHeadX_first {n i : Nat} {oi : Oper} {v : Value} {L : Array Bool → Act → World → Prop} (hi : ops[i]? = some oi) (hic : E i = false) (hsel : ∀ (j : Nat) (o : Oper) cs b, ops[j]? = some o → o.op ≠ .select cs b)
    (hs : Region.sinkB md ops n = true) (hc : Region.chainB md ops n = true) (hn : n < ops.size) (hin : i < n)
    (hdone : ∀ listed a w, L listed a w → ∀ j ∈ Region.ready md ops listed, n ≤ j) :
    ∀ (f : Nat) (listed : Array Bool) (a : Act) (w : World), HeadInv md ops n listed →
      (∀ j oj, ops[j]? = some oj → j ≠ i → listed.getD j true = false → (∀ e ∈ oj.after, Region.binds md e = true → e.on ≠ i) → oi.apart ops oj = true) →
      i ∈ Region.ready md ops listed → YC P ops C oi v a →
      wpHeadX P md ops C E n L f (listed.setIfInBounds i true) (a.put oi.dst v) w → wpHeadX P md ops C E n L (f + 1) listed a w := by
  intro f
  induction f with
  | zero =>
    intro listed a w inv _ hr hy H
    have hun := (mem_ready.1 hr).1
    refine ⟨fun h => (by rw [h] at hr; cases hr), fun j hj => ?_⟩
    have hjn : j < n := by
      rcases Nat.lt_or_ge j n with h | h
      · exact h
      · exact absurd hj (tail_waits hs hc hn inv _ i rfl hin hun j h)
    refine ⟨hjn, ?_⟩
    by_cases hji : j = i
    · subst hji; exact hy.xOp hi hic H
    · have := hdone _ _ _ H j (ready_mono hj hji)
      omega
  | succ f ih =>
    intro listed a w inv hfree hr hy H
    have hun := (mem_ready.1 hr).1
    refine ⟨fun h => (by rw [h] at hr; cases hr), fun j hj => ?_⟩
    have hjn : j < n := by
      rcases Nat.lt_or_ge j n with h | h
      · exact h
      · exact absurd hj (tail_waits hs hc hn inv _ i rfl hin hun j h)
    refine ⟨hjn, ?_⟩
    by_cases hji : j = i
    · subst hji; exact hy.xOp hi hic H
    · have h1 := (H.2 j (ready_mono hj hji)).2
      obtain ⟨hjun, oj, hoj, hall⟩ := mem_ready.1 hj
      have hnot : ∀ e ∈ oj.after, Region.binds md e = true → e.on ≠ i := fun e he hb heq => by
        have h1 := hall e he hb
        rw [heq, getD_both hun] at h1
        cases h1
      have h2 := xOp_put hoj (hfree j oj hoj hji hjun hnot) (fun cs b => hsel i oi cs b hi) (fun cs b => hsel j oj cs b hoj) hy h1
      have hfree' : ∀ k ok, ops[k]? = some ok → k ≠ i → (listed.setIfInBounds j true).getD k true = false →
          (∀ e ∈ ok.after, Region.binds md e = true → e.on ≠ i) → oi.apart ops ok = true := fun k ok hk hki hun hno => by
        refine hfree k ok hk hki ?_ hno
        by_cases hjk : j = k
        · subst hjk; exact hjun
        · rw [getD_set_ne true hjk] at hun; exact hun
      refine xOp_mono (fun a' w' h3 => ih (listed.setIfInBounds j true) a' w' (inv.set hj hjn) hfree' (ready_mono hr (Ne.symm hji)) h3.1 ?_) h2
      rw [Array.setIfInBounds_comm _ _ hji]
      exact h3.2

/-- The reads, in the order that one takes them in. -/
def wpXR (P : Program) (ops : Array Oper) (C : World → Prop) (Q : Act → Prop) : List Nat → Act → Prop
  | [], a => Q a
  | i :: is, a => match ops[i]? with
    | none => False
    | some o => ∃ v, YC P ops C o v a ∧ wpXR P ops C Q is (a.put o.dst v)
/-- The effects, in their order. -/
def wpXE (P : Program) (ops : Array Oper) (C : World → Prop) (Q : Act → World → Prop) : List Nat → Act → World → Prop
  | [], a, w => Q a w
  | k :: es, a, w => match ops[k]? with
    | none => False
    | some o => if Region.wanted o (yielded ops a.tmps) = true then EX P C o (wpXE P ops C Q es) a w else wpXE P ops C Q es (a.put o.dst undef) w
/-- The reads may come first, in this order; behind them one effect after the other is the only operation that may come; then the tail. -/
def ordEB (md : Region.Mode) (ops : Array Oper) (E : Nat → Bool) (g n : Nat) : List Nat → Array Bool → Bool
  | [], listed => Region.seqB md ops g n listed
  | k :: es, listed => (decide (Region.ready md ops listed = [k]) && decide (k < n) && E k) && ordEB md ops E g n es (listed.setIfInBounds k true)
def ordXB (md : Region.Mode) (ops : Array Oper) (E : Nat → Bool) (g n : Nat) (es : List Nat) : List Nat → Array Bool → Bool
  | [], listed => ordEB md ops E g n es listed
  | i :: is, listed => ((Region.ready md ops listed).contains i && Region.free md ops listed i && decide (i < n) && !E i) && ordXB md ops E g n es is (listed.setIfInBounds i true)

theorem wpHeadX_ord {n g : Nat} {Lq : Act → World → Prop} (hsel : Region.noSelect ops = true) (hs : Region.sinkB md ops n = true) (hc : Region.chainB md ops n = true) (hn : n < ops.size) :
    ∀ (is es : List Nat) (listed : Array Bool) (a : Act) (w : World), HeadInv md ops n listed → ordXB md ops E g n es is listed = true → wpXR P ops C (fun a => wpXE P ops C Lq es a w) is a →
      wpHeadX P md ops C E n (fun listed' a' w' => Region.seqB md ops g n listed' = true ∧ Lq a' w') (is.length + es.length) listed a w
  | [], [], listed, a, w, _, hB, h => ⟨by simpa [ordXB, ordEB] using hB, h⟩
  | [], k :: es, listed, a, w, inv, hB, h => by
    simp only [ordXB, ordEB, Bool.and_eq_true, decide_eq_true_eq] at hB
    obtain ⟨⟨⟨hr, hkn⟩, hE⟩, hB'⟩ := hB
    have hkr : k ∈ Region.ready md ops listed := by rw [hr]; exact List.mem_singleton.2 rfl
    rw [List.length_nil, Nat.zero_add, List.length_cons]
    refine ⟨by rw [hr]; simp, fun i hi => ?_⟩
    rw [hr] at hi
    obtain rfl := List.mem_singleton.1 hi
    refine ⟨hkn, ?_⟩
    have ih := fun a' w' (h' : wpXE P ops C Lq es a' w') => wpHeadX_ord hsel hs hc hn [] es _ a' w' (inv.set hkr hkn) hB' h'
    simp only [List.length_nil, Nat.zero_add] at ih
    have h1 : wpXE P ops C Lq (i :: es) a w := h
    unfold wpXE at h1
    unfold xOp
    cases ho : ops[i]? with
    | none => rw [ho] at h1; exact absurd h1 (by simp)
    | some o =>
      rw [ho] at h1
      simp only at h1 ⊢
      rw [if_pos hE]
      by_cases hw : Region.wanted o (yielded ops a.tmps) = true
      · rw [if_pos hw] at h1 ⊢
        exact h1.mono ih
      · rw [if_neg hw] at h1 ⊢
        exact ih _ _ h1
  | i :: is, es, listed, a, w, inv, hB, h => by
    simp only [ordXB, Bool.and_eq_true, decide_eq_true_eq, Bool.not_eq_true'] at hB
    obtain ⟨⟨⟨⟨hr, hf⟩, hin⟩, hE⟩, hB'⟩ := hB
    have hr' : i ∈ Region.ready md ops listed := by simpa using hr
    unfold wpXR at h
    cases ho : ops[i]? with
    | none => rw [ho] at h; exact absurd h (by simp)
    | some o =>
      rw [ho] at h
      simp only at h
      obtain ⟨v, hy, hK⟩ := h
      rw [List.length_cons, show is.length + 1 + es.length = (is.length + es.length) + 1 by omega]
      exact wpHeadX_first ho hE (Region.noSelect_spec hsel) hs hc hn hin (fun listed' a' w' hL => seqB_ready hL.1) (is.length + es.length) listed a w inv (Region.free_spec ho hf) hr' hy
        (wpHeadX_ord hsel hs hc hn is es _ _ w (inv.set hr' hin) hB' hK)
end
/-- The whole check. -/
def chainOk (l : List Oper) (is es : List Nat) (n : Nat) : Bool :=
  Region.noSelect l.toArray && decide (n < l.toArray.size) && Region.sinkB .any l.toArray n && Region.chainB .any l.toArray n && decide (is.length + es.length = n) &&
    ordXB .any l.toArray (fun k => es.contains k) (l.toArray.size - n) n es is (Array.replicate l.toArray.size false)
/-- Reads 'is', effects 'es', a tail in one order from 'n' on. -/
theorem region_order {P : Program} {id : Nat} {Q : Exit → Act → World → Prop} {a : Act} {w : World} {l : List Oper} (is es : List Nat) (n : Nat) (C : World → Prop) (hm : P.follows .mixedOrders = true) (hB : chainOk l is es n = true)
    (hC : C { w with drawn := w.drawn + 1 })
    (h : wpXR P l.toArray C (fun a => wpXE P l.toArray C (fun a w => wpList P l.toArray Q (l.drop n) a w) es a { w with drawn := w.drawn + 1 }) is a) : (Code.region id l.toArray true).wp P Q a w := by
  simp only [chainOk, Bool.and_eq_true, decide_eq_true_eq] at hB
  obtain ⟨⟨⟨⟨⟨hsel, hn⟩, hs⟩, hc⟩, hlen⟩, hord⟩ := hB
  have hdl : (l.drop n).length = l.toArray.size - n := by simp
  have inv0 : HeadInv .any l.toArray n (Array.replicate l.toArray.size false) :=
    ⟨by simp, fun j oj _ hl => (by rw [getD_replicate_false] at hl; cases hl), fun t _ ht => getD_in (by simpa using ht) (getD_replicate_false _ _)⟩
  have H := wpHeadX_ord (md := .any) (C := C) (E := fun k => es.contains k) (g := l.toArray.size - n) (n := n) (Lq := fun a' w' => wpList P l.toArray Q (l.drop n) a' w') hsel hs hc hn is es _ a { w with drawn := w.drawn + 1 } inv0 hord h
  refine wp_region_any hm ?_
  have := wpAny_of_headX (Q' := Q) (C := C) (g := l.toArray.size - n) (fun listed a' w' hL => by
    have := wpAny_of_seq (md := .any) (Q' := Q) (l.drop n) n listed a' w' (fun j => by simp [List.getElem?_drop]) (by rw [hdl]; exact hL.1) hL.2
    rwa [hdl] at this) _ _ _ { w with drawn := w.drawn + 1 } hC H
  rw [hlen, show n + (l.toArray.size - n) = l.toArray.size by omega] at this
  exact this

section
variable {P : Program} {ops : Array Oper} {C : World → Prop}
theorem xr_nil {Q : Act → Prop} {a : Act} (h : Q a) : wpXR P ops C Q [] a := h
theorem xr_step {Q : Act → Prop} {a : Act} {i : Nat} {is : List Nat}
    (h : ∃ o, ops[i]? = some o ∧ ∀ K : Act → Prop, (∀ a, wpXR P ops C Q is a → K a) → if Region.wanted o (yielded ops a.tmps) then (∃ v, (∀ u : InC C, o.quietAt P a (fun w' => w' = u.w) u.w v) ∧ K (a.put o.dst v)) else K (a.put o.dst undef)) : wpXR P ops C Q (i :: is) a := by
  obtain ⟨o, hi, h⟩ := h
  have := h _ (fun _ h => h)
  unfold wpXR YC
  rw [hi]
  simp only
  split at this
  · rename_i hw
    obtain ⟨v, h1, h2⟩ := this
    exact ⟨v, .inl ⟨hw, h1⟩, h2⟩
  · rename_i hw
    exact ⟨_, .inr ⟨by simpa using hw, rfl⟩, this⟩
theorem xe_nil {Q : Act → World → Prop} {a : Act} {w : World} (h : Q a w) : wpXE P ops C Q [] a w := h
theorem xe_step {Q : Act → World → Prop} {a : Act} {w : World} {k : Nat} {es : List Nat}
    (h : ∃ o, ops[k]? = some o ∧ ∀ K : Act → World → Prop, (∀ a w, wpXE P ops C Q es a w → K a w) → if Region.wanted o (yielded ops a.tmps) then EX P C o K a w else K (a.put o.dst undef) w) : wpXE P ops C Q (k :: es) a w := by
  obtain ⟨o, hk, h⟩ := h
  have := h _ (fun _ _ h => h)
  unfold wpXE
  rw [hk]
  simp only
  split at this
  · rename_i hw; rw [if_pos hw]; exact this
  · rename_i hw; rw [if_neg hw]; exact this
end
end Go.Proofs.Ytefmlbckbhlgdaa
namespace Go.Proofs.Ytefmlbckbhlgdaa
open Go.RowKit
set_option maxRecDepth 100000
theorem ofB_mk (l : List UInt8) : ofB (mkS l) = mkS (ofL l) := by
  unfold ofB
  show mkS (ofL (bl (mkS l))) = _
  rw [bl_mk]

set_option maxHeartbeats 4000000 in
theorem rparts_any (v : Value) (l : List Pr) (w : World) (h : RP w v l) (hl : l.length ≤ 100000) (hz : ∀ p ∈ l, p.1.length ≤ 100000) : Calls Try.prog 44 #[v] w fun e w' => ∃ v', e = .returned v' ∧ RP w' v' (partsL l) ∧ Below w.heap.size w w' := by
  have KO := Lib.hid (fun (x : Pr) (hx : x.1.length ≤ 100000) W => rof_any (mkS x.1) W (by rw [mk_size]; omega))
  obtain ⟨p, c, rfl, h1, h2⟩ := RowE.shape encP h
  have HR := Lib.hid h
  have HZ := Lib.hid hz
  have HB0 : Hid (Below w.heap.size w (w.alloc (.cells #[] 41))) := Lib.hid ((Below.refl _ _).alloc (Nat.le_refl _) _)
  have O0 : Hid (OP (w.alloc (.cells #[] 41)) w.heap.size (.slice (some ⟨w.heap.size, 0, none⟩) 0 0) (partsL (l.take 0))) := Lib.hid (OwnE.start encP (Nat.le_refl _))
  have HS : Hid (∀ i x, l[i]? = some x → partsL (l.take i) ++ [(ofL x.1, x.2)] = partsL (l.take (i + 1))) := Lib.hid (fun i x hx => by
    unfold partsL
    rw [List.take_add_one, hx, List.map_append]; rfl)
  have HE : Hid (partsL (l.take l.length) = partsL l) := Lib.hid (by rw [List.take_length])
  have HLN : Hid (∀ i, (partsL (l.take i)).length ≤ i) := Lib.hid (fun i => by unfold partsL; rw [List.length_map, List.length_take]; omega)
  generalize partsL l = r at *
  clear h hz
  unfold maxLen at h2
  go_enter Try.func44, Try.ntmps44
  go_upto_region 3 with (fail)
  go_loopw [3, 9] (fun s3 s wr => ∃ i : Nat, i ≤ l.length ∧ s = .int .i64 i ∧ Hid (OP wr w.heap.size s3 (partsL (l.take i))) ∧ Hid (Below w.heap.size w wr)) (fun _ s _ => l.length - (intOf s).toNat)
  case atStart => exact ⟨0, Nat.zero_le _, rfl, O0, HB0⟩
  case round =>
    clear HB0 O0
    obtain ⟨i, hi, rfl, ho, hb⟩ := hrel
    have O := Lib.hid ho.out
    have HB := Lib.hid hb.out
    clear ho hb
    by_cases hlt : i < l.length
    · obtain ⟨x, hx⟩ : ∃ x, l[i]? = some x := ⟨_, List.getElem?_eq_getElem hlt⟩
      obtain ⟨a, rfl, c0, c1⟩ := RP.at (RP.below HR.out HB.out (Nat.le_refl _)) hx
      have hs := Lib.hid (HS.out i x hx)
      have hll := HLN.out i
      have KC := Lib.hid (KO.out x (HZ.out x (List.mem_of_getElem? hx)))
      rw [ofB_mk] at KC
      generalize partsL (l.take i) = out at *
      have HA := prAlloc wr x
      have O1 := Lib.hid (O.out.below HA (Nat.le_refl _))
      have HB1 := Lib.hid (HB.out.trans (HA.mono HB.out.size))
      have R1 := Lib.hid (RowAt.new wr #[.string (mkS x.1), .string (mkS x.2)] 41)
      clear HA hx O HB
      go_upto_region 5 with (fail)
      clear c0 c1
      generalize wr.alloc (.cells #[.string (mkS x.1), .string (mkS x.2)] 41) = w1 at *
      generalize wr.heap.size = k1 at *
      replace R1 := Lib.hid R1.out.drew
      replace O1 := Lib.hid (O1.out.below (Below.refl w1.heap.size w1).drew (Nat.le_refl _))
      replace HB1 := Lib.hid HB1.out.drew
      obtain ⟨y0, y1, yf0, yf1⟩ := R1.out.c2
      obtain ⟨z0, z1⟩ := R1.out.ic2
      clear y0 y1 yf0 yf1
      (refine region_order [0, 1, 2, 4, 5] [3, 6, 7] 8 (LaterC w1.drew) mix ?hB ?hC ?_; case hB => kernel_rfl); (case hC => (exact Below.refl _ _)); (iterate 5 ((with_reducible refine xr_step ?_); (refine ⟨_, rfl, ?_⟩); intro K hK; go_simp; (with_reducible refine hK _ ?_); clear hK K)); (with_reducible refine xr_nil ?_); ((with_reducible refine xe_step ?_); (refine ⟨_, rfl, ?_⟩); intro K hK; unfold EX; go_simp; (go_at_call 82; (with_reducible refine (KC.out _).mono ?_); rintro e w2 ⟨rfl, hb⟩; refine ⟨_, rfl, hb, hK _ _ ?_⟩; clear hK K)); ((with_reducible refine xe_step ?_); (refine ⟨_, rfl, ?_⟩); intro K hK; unfold EX; go_simp; (refine ⟨hb, hK _ _ ?_⟩; clear hK K)); ((with_reducible refine xe_step ?_); (refine ⟨_, rfl, ?_⟩); intro K hK; unfold EX; go_simp; (refine ⟨hb.trans ((prAlloc w2 (ofL x.1, x.2)).mono hb.size), hK _ _ ?_⟩; clear hK K)); (with_reducible refine xe_nil ?_); (simp only [List.drop_succ_cons, List.drop_zero])
      have O2 := O1.out.below hb (Nat.le_refl _)
      have HB2 := HB1.out.trans (hb.mono HB1.out.size)
      have HA := prAlloc w2 (ofL x.1, x.2)
      have R3 := Lib.hid (RowAt.new w2 #[.string (mkS (ofL x.1)), .string (mkS x.2)] 41)
      have O3 := Lib.hid (O2.below HA (Nat.le_refl _))
      have HB3 := Lib.hid (HB2.trans (HA.mono HB2.size))
      have HL3 := Lib.hid (RowE.lit encP R3.out (ofL x.1, x.2) rfl)
      have HZ3 := Lib.hid HB3.out.size
      clear HA O2 HB2 O1 HB1 R1 z0 z1 hb
      go_wp2_with (at_builtin; refine wpList_append_rowG encP Try.underlying34 info_pr rfl rfl _ _ rfl w.heap.size _ out rfl O3.out _ [(ofL x.1, x.2)] rfl HL3.out (by unfold maxLen; simp; omega) (by simp; omega) HZ3.out ?_)
      intro v' w3 ho hgr hbb hz _
      have HO := Lib.hid (show OP w3 w.heap.size v' (partsL (l.take (i + 1))) by rw [← hs.out]; exact ho)
      have HB4 := Lib.hid (hbb _ HB3.out)
      clear ho hgr hbb hz
      go_wp2
      go_roundw
      case rel => exact ⟨i + 1, by omega, by simp, HO, HB4⟩
      case measure => simp [intOf]; omega
    · obtain rfl : i = l.length := by omega
      have O' := O.out
      rw [HE.out] at O'
      have O' := Lib.hid O'
      clear O
      go_wp2
      go_ret
      exact ⟨_, rfl, OwnE.row encP O'.out, HB.out⟩
end Go.Proofs.Ytefmlbckbhlgdaa
namespace Go.Proofs.Ytefmlbckbhlgdaa
open Go.RowKit
set_option maxRecDepth 100000
/-- Sixteen kids, of which so many are none. -/
def kA (i : Nat) : Array Value := (List.replicate i (Value.int .i64 (-1)) ++ List.replicate (16 - i) (Value.int .i64 0)).toArray
theorem kA_set (i : Nat) (h : i < 16) : (kA i).setIfInBounds i (.int .i64 (-1)) = kA (i + 1) := by
  have : i = 0 ∨ i = 1 ∨ i = 2 ∨ i = 3 ∨ i = 4 ∨ i = 5 ∨ i = 6 ∨ i = 7 ∨ i = 8 ∨ i = 9 ∨ i = 10 ∨ i = 11 ∨ i = 12 ∨ i = 13 ∨ i = 14 ∨ i = 15 := by omega
  rcases this with rfl | rfl | rfl | rfl | rfl | rfl | rfl | rfl | rfl | rfl | rfl | rfl | rfl | rfl | rfl | rfl <;> rfl
theorem kA_get (i : Nat) (h : i < 16) : (kA i)[i]? = some (.int .i64 0) := by
  have : i = 0 ∨ i = 1 ∨ i = 2 ∨ i = 3 ∨ i = 4 ∨ i = 5 ∨ i = 6 ∨ i = 7 ∨ i = 8 ∨ i = 9 ∨ i = 10 ∨ i = 11 ∨ i = 12 ∨ i = 13 ∨ i = 14 ∨ i = 15 := by omega
  rcases this with rfl | rfl | rfl | rfl | rfl | rfl | rfl | rfl | rfl | rfl | rfl | rfl | rfl | rfl | rfl | rfl <;> rfl
def noK : Value := .agg #[.int .i64 (-1), .int .i64 (-1), .int .i64 (-1), .int .i64 (-1), .int .i64 (-1), .int .i64 (-1), .int .i64 (-1), .int .i64 (-1), .int .i64 (-1), .int .i64 (-1), .int .i64 (-1), .int .i64 (-1), .int .i64 (-1), .int .i64 (-1), .int .i64 (-1), .int .i64 (-1)]

theorem kA_one : (kA 16).all (·.oneCell') = true := by
  rw [Array.all_eq_true_iff_forall_mem]
  intro v hv
  have : v = .int .i64 (-1) := by simpa [kA] using hv
  subst this
  rfl
set_option maxHeartbeats 2000000 in
theorem rkids_none (w : World) : Calls Try.prog 79 #[] w fun e w' => e = .returned noK ∧ Below w.heap.size w w' := by
  have H0 : Hid (RowAt ((w.alloc (.cells (kA 0) 86)).alloc (.cells (kA 0) 86)) w.heap.size (kA 0) 86) := Lib.hid ((RowAt.new _ _ _).alloc _)
  have H1 : Hid (RowAt ((w.alloc (.cells (kA 0) 86)).alloc (.cells (kA 0) 86)) (w.heap.size + 1) (kA 0) 86) := Lib.hid (RowAt.new' _ _ _ (by simp))
  have HB0 : Hid (Below w.heap.size w ((w.alloc (.cells (kA 0) 86)).alloc (.cells (kA 0) 86))) := Lib.hid (((Below.refl _ _).alloc (Nat.le_refl _) _).alloc (by simp) _)
  go_enter Try.func79, Try.ntmps79
  go_upto_region 3 with (fail)
  generalize hW : (w.alloc (.cells (kA 0) 86)).alloc (.cells (kA 0) 86) = W at *
  go_loopw [2] (fun s2 wr => ∃ i : Nat, i ≤ 16 ∧ s2 = .int .i64 i ∧ Hid (RowAt wr w.heap.size (kA 0) 86) ∧ Hid (RowAt wr (w.heap.size + 1) (kA i) 86) ∧ Hid (Below w.heap.size w wr)) (fun s _ => 16 - (intOf s).toNat)
  case atStart => exact ⟨0, by omega, rfl, by first | exact H0 | (rw [← hW] at H0; exact H0), by first | exact H1 | (rw [← hW] at H1; exact H1), by first | exact HB0 | (rw [← hW] at HB0; exact HB0)⟩
  case round =>
    clear H0 H1 HB0
    obtain ⟨i, hi, rfl, h0, h1, hb⟩ := hrel
    have H0 := Lib.hid h0.out
    have H1 := Lib.hid h1.out
    have HB := Lib.hid hb.out
    clear h0 h1 hb
    by_cases hlt : i < 16
    · have hc : wr.cell? ⟨w.heap.size + 1, i, none⟩ = some (.int .i64 0) := by rw [H1.out.cell]; exact kA_get i hlt
      have hf := H1.out.frozen i
      have H1' := Lib.hid (H1.out.set i (.int .i64 (-1)) (kA_set i hlt))
      have H0' := Lib.hid (H0.out.other ⟨w.heap.size + 1, i, none⟩ (.int .i64 (-1)) (by simp))
      have HB' := Lib.hid (HB.out.setCell (p := ⟨w.heap.size + 1, i, none⟩) (Nat.le_succ _) (.int .i64 (-1)))
      clear H0 H1 HB
      go_wp2
      exact ⟨⟨i + 1, by omega, by simp, H0', H1', HB'⟩, by simp [intOf]; omega⟩
    · obtain rfl : i = 16 := by omega
      go_wp2_with (first
        | (refine wpList_load_row rfl 86 _ rfl (w.heap.size + 1) rfl 86 (kA 16) (0, 0) _ H1.out Try.underlying86 rfl (by kernel_rfl) ?_)
        | (refine wpList_store_row rfl 86 _ _ rfl w.heap.size (kA 16) rfl rfl 86 (kA 0) H0.out (by kernel_rfl) (by rfl) kA_one ?_))
      refine bodyPost_ret (v := noK) ?_ rfl ⟨rfl, below_setRow HB.out (Nat.le_refl _) _⟩
      exact results_cell_row Try.results79 _ _ w.heap.size 86 (kA 16) (0, 0) _ rfl (setRow_heap _ _ _ _ _ _ H0.out) Try.underlying86 rfl (by kernel_rfl)
end Go.Proofs.Ytefmlbckbhlgdaa
namespace Go.Proofs.Ytefmlbckbhlgdaa
open Go.RowKit
set_option maxRecDepth 100000
def kidV (n : Nd) (i : Nat) : Value := .int .i64 (n.kids.getD i 0)
def ndc (n : Nd) : Array Value := #[.int .i64 n.kind, .string (mkS n.part), .string (mkS n.value), kidV n 0, kidV n 1, kidV n 2, kidV n 3, kidV n 4, kidV n 5, kidV n 6, kidV n 7, kidV n 8, kidV n 9, kidV n 10, kidV n 11, kidV n 12, kidV n 13, kidV n 14, kidV n 15]
def encN : Enc Nd := ⟨19, fun n => (ndc n).toList, fun _ => rfl, fun x u h => by
  simp only [ndc, List.mem_cons, List.mem_nil_iff, or_false] at h
  rcases h with rfl | rfl | rfl | rfl | rfl | rfl | rfl | rfl | rfl | rfl | rfl | rfl | rfl | rfl | rfl | rfl | rfl | rfl | rfl <;> rfl, by decide⟩
theorem info_nd : (Try.prog.info? 88).map (fun i => (i.zero, i.size, i.bytes)) = some (some (.agg #[.int .i64 0, .string ⟨#[]⟩, .string ⟨#[]⟩, .int .i64 0, .int .i64 0, .int .i64 0, .int .i64 0, .int .i64 0, .int .i64 0, .int .i64 0, .int .i64 0, .int .i64 0, .int .i64 0, .int .i64 0, .int .i64 0, .int .i64 0, .int .i64 0, .int .i64 0, .int .i64 0]), 19, 168) := by kernel_rfl

theorem filter_sum {α : Type} (f : α → Nat) (n : Nat) : ∀ l : List α, ((List.range n).map fun c => (l.filter (fun a => f a == c)).length).sum ≤ l.length
  | [] => by
    have : (List.range n).map (fun c => (([] : List α).filter (fun a => f a == c)).length) = List.replicate n 0 := by
      rw [List.eq_replicate_iff]; simp
    rw [this]; simp
  | a :: l => by
    have ih := filter_sum f n l
    have h : ∀ m : Nat, ((List.range m).map fun c => ((a :: l).filter (fun a => f a == c)).length).sum = ((List.range m).map fun c => (l.filter (fun a => f a == c)).length).sum + (if f a < m then 1 else 0) := by
      intro m
      induction m with
      | zero => simp
      | succ m ihm =>
        rw [List.range_succ, List.map_append, List.map_append, List.sum_append, List.sum_append, ihm]
        simp only [List.map_cons, List.map_nil, List.sum_cons, List.sum_nil]
        by_cases e : f a = m
        · rw [List.filter_cons_of_pos (by simpa using e), List.length_cons, if_neg (by omega), if_pos (by omega)]; omega
        · rw [List.filter_cons_of_neg (by simpa using e)]
          by_cases e2 : f a < m
          · rw [if_pos e2, if_pos (by omega)]; omega
          · rw [if_neg e2, if_neg (by omega)]; omega
    rw [h n, List.length_cons]
    split <;> omega
theorem cutC_len (c : Nat) (l : List Pr) : (cutC c l).length = (l.filter (fun p => headN p == c + 1)).length := by
  unfold cutC cutK
  rw [List.length_map]
  congr 1
  exact List.filter_congr fun p _ => (headN_hasC c p).symm
theorem layF_len : ∀ (f : Nat) (l : List Pr) (ns : List Nd), (layF f l ns).1.length ≤ ns.length + f * l.length
  | 0, l, ns => by simp [layF]
  | f + 1, [], ns => by simp [layF]
  | f + 1, [p], ns => by rw [layF_one]; simp
  | f + 1, p :: q :: r, ns => by
    by_cases hc : 0 < commonL (p :: q :: r)
    · rw [layF_joint hc]
      have := layF_len f (cutK (commonL (p :: q :: r)) (p :: q :: r)) ns
      rw [show (cutK (commonL (p :: q :: r)) (p :: q :: r)).length = (p :: q :: r).length from List.length_map _] at this
      simp only [List.length_append, List.length_cons, List.length_nil, Nat.add_mul] at this ⊢
      omega
    · rw [layF_branch hc]
      have hk : ∀ (cs : List Nat) (s : List Nd × List Int), (kidsF f (p :: q :: r) cs s).1.length ≤ s.1.length + f * (cs.map fun c => (cutC c (p :: q :: r)).length).sum := by
        intro cs
        induction cs with
        | nil => intro s; simp [kidsF]
        | cons c cs ih =>
          intro s
          rw [kidsF_cons]
          have h1 := ih ((layF f (cutC c (p :: q :: r)) s.1).1, s.2 ++ [(layF f (cutC c (p :: q :: r)) s.1).2])
          have h2 := layF_len f (cutC c (p :: q :: r)) s.1
          simp only [List.map_cons, List.sum_cons, Nat.mul_add] at h1 ⊢
          omega
      have h1 := hk (List.range 16) (ns, [])
      have h2 : ((List.range 16).map fun c => (cutC c (p :: q :: r)).length).sum ≤ (p :: q :: r).length := by
        have h17 := filter_sum headN 17 (p :: q :: r)
        have e : List.range 17 = 0 :: (List.range 16).map (· + 1) := rfl
        rw [e, List.map_cons, List.sum_cons, List.map_map] at h17
        have e2 : (List.range 16).map (fun c => (cutC c (p :: q :: r)).length) = (List.range 16).map ((fun c => ((p :: q :: r).filter (fun a => headN a == c)).length) ∘ (· + 1)) := List.map_congr_left fun c _ => cutC_len c _
        rw [e2]
        omega
      have h3 := Nat.mul_le_mul_left f h2
      simp only [List.length_append, List.length_cons, List.length_nil, Nat.add_mul] at h1 h3 ⊢
      omega
end Go.Proofs.Ytefmlbckbhlgdaa
namespace Go.Proofs.Ytefmlbckbhlgdaa
open Go.RowKit
set_option maxRecDepth 100000
theorem ndc_kind (n : Nd) (k : Int) : (ndc n).setIfInBounds 0 (.int .i64 k) = ndc { n with kind := k } := rfl
theorem ndc_part (n : Nd) (s : List UInt8) : (ndc n).setIfInBounds 1 (.string (mkS s)) = ndc { n with part := s } := rfl
theorem ndc_value (n : Nd) (s : List UInt8) : (ndc n).setIfInBounds 2 (.string (mkS s)) = ndc { n with value := s } := rfl
theorem len16 {l : List Int} (h : l.length = 16) : ∃ a b c d e f g i j k m n o p q r, l = [a, b, c, d, e, f, g, i, j, k, m, n, o, p, q, r] := by
  match l, h with
  | [a, b, c, d, e, f, g, i, j, k, m, n, o, p, q, r], _ => exact ⟨a, b, c, d, e, f, g, i, j, k, m, n, o, p, q, r, rfl⟩
theorem ndc_kid (n : Nd) (h : n.kids.length = 16) (i : Nat) (hi : i < 16) (x : Int) : (ndc n).setIfInBounds (3 + i) (.int .i64 x) = ndc { n with kids := n.kids.set i x } := by
  obtain ⟨kd, pt, vl, ks⟩ := n
  obtain ⟨a, b, c, d, e, f, g, i', j, k, m, n, o, p, q, r, rfl⟩ := len16 h
  have : i = 0 ∨ i = 1 ∨ i = 2 ∨ i = 3 ∨ i = 4 ∨ i = 5 ∨ i = 6 ∨ i = 7 ∨ i = 8 ∨ i = 9 ∨ i = 10 ∨ i = 11 ∨ i = 12 ∨ i = 13 ∨ i = 14 ∨ i = 15 := by omega
  rcases this with rfl | rfl | rfl | rfl | rfl | rfl | rfl | rfl | rfl | rfl | rfl | rfl | rfl | rfl | rfl | rfl <;> rfl
theorem ndc_size (n : Nd) : (ndc n).size = 19 := rfl
def zN : Nd := ⟨0, [], [], noKids⟩
/-- The document's 'Get' of the empty key is what a branch bears. -/
theorem getL_nil : ∀ l : List Pr, (getL [] l).getD [] = valE l
  | [] => rfl
  | p :: l => by
    rw [getL, valE]
    by_cases h : p.1 = []
    · rw [if_pos h, if_pos h]; rfl
    · rw [if_neg h, if_neg h]; exact getL_nil l
end Go.Proofs.Ytefmlbckbhlgdaa
