/- Crc: contracts of the reference: Same, Scan. -/
import Derived.Test.YtddeeejfmodgfaaCrc5
import Derived.Deep.RegionWith
import Derived.Deep.DeepCutAuto
namespace Go.Proofs.Ytddeeejfmodgfaa
open Go.RowKit

set_option maxHeartbeats 1000000 in
theorem same_yes (u v : Value) (l : List ByteArray) (w : World) (hu : StrRow w u l) (hv : StrRow w v l) :
    Calls Try.prog 31 #[u, v] w fun e w' => e = .returned (.bool true) ∧ Below w.heap.size w w' := by
  rcases hu with ⟨rfl, rfl⟩ | ⟨a, len, cap, rfl, h1, h2, h3, hc⟩
  · rcases hv with ⟨rfl, _⟩ | ⟨b, len, cap, rfl, g1, g2, g3, _⟩
    · go_enter Try.func31, Try.ntmps31
      go_wp2
      go_loop [13] (fun c => c = .int .i64 0) (fun _ => 0)
      case atStart => rfl
      case round =>
        obtain rfl := hrel
        go_wp2
        go_ret
        exact ⟨rfl, Below.refl _ _⟩
    · obtain rfl : len = 0 := by simpa using g3.symm
      go_enter Try.func31, Try.ntmps31
      go_wp2
      go_loop [13] (fun c => c = .int .i64 0) (fun _ => 0)
      case atStart => rfl
      case round =>
        obtain rfl := hrel
        go_wp2
        go_ret
        exact ⟨rfl, Below.refl _ _⟩
  · rcases hv with ⟨rfl, rfl⟩ | ⟨b, len2, cap2, rfl, g1, g2, g3, hd⟩
    · obtain rfl : len = 0 := by simpa using h3.symm
      go_enter Try.func31, Try.ntmps31
      go_wp2
      go_loop [13] (fun c => c = .int .i64 0) (fun _ => 0)
      case atStart => rfl
      case round =>
        obtain rfl := hrel
        go_wp2
        go_ret
        exact ⟨rfl, Below.refl _ _⟩
    · obtain rfl : len = len2 := by omega
      have HC := Lib.hid hc
      have HD := Lib.hid hd
      unfold maxLen at h2
      clear hc hd g2 h3 g3
      go_enter Try.func31, Try.ntmps31
      go_wp2
      go_loopw [13] (fun c wr => ∃ k : Nat, k ≤ len ∧ c = .int .i64 k ∧ Hid (∃ nd, wr = w.drewN nd)) (fun c _ => len - (intOf c).toNat)
      case atStart => exact ⟨0, Nat.zero_le _, rfl, Lib.hid ⟨0, rfl⟩⟩
      case round =>
        obtain ⟨k, hk, rfl, HB⟩ := hrel
        obtain ⟨nd, hnd⟩ := HB.out
        have HN := Lib.hid hnd
        clear hnd HB
        by_cases hlt : k < len
        · have c1 : wr.cell? (a.add k) = some (.string (l.getD k ByteArray.empty)) := by rw [HN.out]; exact HC.out k hlt
          have c2 : wr.cell? (b.add k) = some (.string (l.getD k ByteArray.empty)) := by rw [HN.out]; exact HD.out k hlt
          generalize l.getD k ByteArray.empty = x at *
          go_wp2
          (refine region_tail 8 mix ?hB ?_; case hB => kernel_rfl); (simp only [List.take_succ_cons, List.take_zero, List.drop_succ_cons, List.drop_zero]; (iterate 8 (with_reducible refine wpStill_step ?_; intro K hK; go_simp; with_reducible refine hK _ ?_; clear hK K)); with_reducible refine wpStill_nil ?_)
          go_wp2
          go_roundw
          case rel => exact ⟨k + 1, by omega, by go_num, Lib.hid ⟨nd + 1, by rw [HN.out]; rfl⟩⟩
          case measure => simp [intOf]; omega
        · obtain rfl : k = len := by omega
          go_wp2
          go_ret
          exact ⟨rfl, by rw [HN.out]; exact below_drewN (Below.refl _ _) _⟩

theorem num_two {s : ByteArray} {k : Nat} (h : k + 1 < s.size) : numL (((bl s).drop k).take 2) = s[k].toNat + 256 * s[k + 1].toNat := by
  have e : ((bl s).drop k).take 2 = [s[k], s[k + 1]] := by
    rw [List.drop_eq_getElem_cons (by rw [bl_length]; omega), List.drop_eq_getElem_cons (by rw [bl_length]; omega)]
    rfl
  rw [e]
  simp [numL]

set_option maxRecDepth 100000 in
set_option maxHeartbeats 2000000 in
theorem rcrcScan_any (s : ByteArray) (w : World) (hs : s.size ≤ 1000000) :
    Calls Try.prog 30 #[.string s] w (Scanned s w) := by
  go_enter Try.func30, Try.ntmps30
  go_wp2
  go_loopw [4, 5] (fun v c wr => ∃ (k : Nat) (recs : List (List UInt8)), ScanAt (bl s) recs k ∧ c = .int .i64 k ∧ OwnS wr w.heap.size v (recs.map mkS) ∧ Below w.heap.size w wr) (fun _ c _ => s.size - (intOf c).toNat)
  case atStart =>
    exact ⟨0, [], ScanAt.start _, rfl, OwnS.start (Nat.le_refl _), (Below.refl _ _).alloc (Nat.le_refl _) _⟩
  case round =>
    obtain ⟨k, recs, hat, rfl, hown, hbl⟩ := hrel
    have hk : k ≤ s.size := by have := hat.1; rwa [bl_length] at this
    have hrl : recs.length ≤ k := hat.2.1
    have hlen : ((bl s).drop k).length = s.size - k := by rw [List.length_drop, bl_length]
    have HAT := Lib.hid hat
    have HO := Lib.hid hown
    have HL := Lib.hid hbl
    have hrz := hbl.size
    clear hat hown hbl
    by_cases h7 : s.size - k < 7
    · have hno := oneL_none_short (s := (bl s).drop k) (by rw [hlen]; exact h7)
      have HD := Lib.hid (HAT.out.done hno)
      clear hno hlen
      go_wp2
      go_ret2
      unfold Scanned
      rw [HD.out]
      exact ⟨_, rfl, HO.out, HL.out⟩
    · have l1 : k < s.size := by omega
      have l2 : k + 1 < s.size := by omega
      have hn2 := num_two l2
      have b1 := s[k].toNat_lt
      have b2 := s[k + 1].toNat_lt
      have hnn : ((s[k].toNat : Int) + 256 * (s[k + 1].toNat : Int)) = ((numL (((bl s).drop k).take 2) : Nat) : Int) := by rw [hn2]; push_cast; rfl
      have hnb : numL (((bl s).drop k).take 2) ≤ 65535 := by rw [hn2]; omega
      obtain ⟨n, hn⟩ : ∃ n, numL (((bl s).drop k).take 2) = n := ⟨_, rfl⟩
      rw [hn] at hnn hnb
      have i1 : IntKind.i64.wrap ((k : Int) + 1) = (k : Int) + 1 := IntWalk.i64_in _ (by omega)
      have i2 : 0 ≤ (k : Int) + 1 := by omega
      have i3 : ((k : Int) + 1).toNat = k + 1 := by omega
      have i4 : (k : Int) + 1 < (s.size : Int) := by omega
      have HN := Lib.hid hn
      clear hn2 hn
      have j1 : IntKind.i64.wrap (s[k].toNat : Int) = (s[k].toNat : Int) := IntWalk.i64_in _ (by omega)
      have j2 : IntKind.i64.wrap (s[k + 1].toNat : Int) = (s[k + 1].toNat : Int) := IntWalk.i64_in _ (by omega)
      have j3 : IntKind.i64.wrap (256 * (s[k + 1].toNat : Int)) = 256 * (s[k + 1].toNat : Int) := IntWalk.i64_in _ (by omega)
      have j4 : IntKind.i64.wrap ((s[k].toNat : Int) + 256 * (s[k + 1].toNat : Int)) = (n : Int) := by rw [hnn]; exact IntWalk.i64_in _ (by omega)
      clear hnn
      by_cases hbad : n < 1 ∨ 4000 < n ∨ s.size - k < n + 6
      · have hno := oneL_none_len HN.out (by rw [hlen]; exact hbad)
        have HD := Lib.hid (HAT.out.done hno)
        clear hno hlen HN
        rcases hbad with hbad | hbad | hbad
        all_goals
          go_wp2
          (refine region_tail 11 mix ?hB ?_; case hB => kernel_rfl); (simp only [List.take_succ_cons, List.take_zero, List.drop_succ_cons, List.drop_zero]; (iterate 11 (with_reducible refine wpStill_step ?_; intro K hK; go_simp; with_reducible refine hK _ ?_; clear hK K)); with_reducible refine wpStill_nil ?_)
          clear j1 j2 j3 j4
          go_wp2
          all_goals
            go_ret2
            unfold Scanned
            rw [HD.out]
            exact ⟨_, rfl, HO.out.drew, HL.out.drew⟩
      · have q1 : 1 ≤ n := by omega
        have q2 : n ≤ 4000 := by omega
        have q3 : k + (n + 6) ≤ s.size := by omega
        have hone := oneL_frame HN.out q1 q2 (by rw [hlen]; omega)
        have hx1 : bl (s.extract (k + 2) (k + 2 + n)) = (((bl s).drop k).drop 2).take n := by
          rw [bl_extract, List.drop_drop, List.drop_take]
          congr 1
          omega
        have hx2 : bl (s.extract k (k + n + 6)) = ((bl s).drop k).take (n + 6) := by
          rw [bl_extract, List.drop_take]
          congr 1
          omega
        rw [← hx1, ← hx2] at hone
        have zR : (s.extract (k + 2) (k + 2 + n)).size = n := by rw [ByteArray.size_extract]; omega
        have KF := fun w => rcrcFrame_any (s.extract (k + 2) (k + 2 + n)) w (by omega)
        obtain ⟨R, hR⟩ : ∃ R, s.extract (k + 2) (k + 2 + n) = R := ⟨_, rfl⟩
        obtain ⟨F, hF⟩ : ∃ F, mkS (frameL (bl R)) = F := ⟨_, rfl⟩
        have hFe : frameL (bl R) = bl F := by rw [← hF, bl_mk]
        rw [hR] at hone KF hx1
        simp only [hF] at KF
        have HX : Hid (R = mkS ((((bl s).drop k).drop 2).take n)) := Lib.hid (bl_inj (by rw [hx1, bl_mk]))
        have HR := Lib.hid hR
        have KF := Lib.hid KF
        have HLD := Lib.hid HL.out.drew
        clear hbad hx1 hx2 hF hR zR hlen
        have m1 : IntKind.i64.wrap ((k : Int) + (n : Int)) = (k : Int) + (n : Int) := IntWalk.i64_in _ (by omega)
        have m2 : IntKind.i64.wrap ((k : Int) + (n : Int) + 6) = (k : Int) + (n : Int) + 6 := IntWalk.i64_in _ (by omega)
        have m3 : ((k : Int) + (n : Int) + 6).toNat = k + n + 6 := by omega
        have m4 : 0 ≤ (k : Int) + (n : Int) := by omega
        have m5 : 0 ≤ (k : Int) + (n : Int) + 6 := by omega
        have m6 : (k : Int) ≤ (k : Int) + (n : Int) + 6 := by omega
        have m7 : (k : Int) + (n : Int) + 6 ≤ (s.size : Int) := by omega
        have n1 : ((k : Int) + 2).toNat = k + 2 := by omega
        have n2 : ((k : Int) + 2 + (n : Int)).toNat = k + 2 + n := by omega
        by_cases hq : F = s.extract k (k + n + 6)
        · rw [hFe, if_pos (congrArg bl hq)] at hone
          have hne := seq_true hq
          have HQ := Lib.hid hq
          have HD := Lib.hid hone
          clear hone hq hFe
          go_wp2
          (refine region_tail 11 mix ?hB ?_; case hB => kernel_rfl); (simp only [List.take_succ_cons, List.take_zero, List.drop_succ_cons, List.drop_zero]; (iterate 11 (with_reducible refine wpStill_step ?_; intro K hK; go_simp; with_reducible refine hK _ ?_; clear hK K)); with_reducible refine wpStill_nil ?_)
          clear j1 j2 j3 j4
          go_wp2
          rw [HR.out]
          go_region_with (go_at_call 23; refine (KF.out _).mono ?_; rintro e wN ⟨rfl, HBN⟩)
          have HO2 := Lib.hid (HO.out.drew.drew.below HBN (Nat.le_refl _))
          have HL2 := Lib.hid (HL.out.drew.drew.trans (HBN.mono hrz))
          have hwz : w.heap.size ≤ wN.heap.size := Nat.le_trans hrz HBN.size
          clear HBN HLD
          go_wp2_with (first
            | (at_builtin; refine wpList_append_str rfl _ _ rfl w.heap.size _ (recs.map mkS) rfl (HO2.out.alloc _) ⟨wN.heap.size, 0, none⟩ 1 1 [R] rfl rfl (one_str_new (w := wN)) (by rw [List.length_map]; omega) (by simp; omega) ?_; intro v' w3 hown3 hb3 hz3))
          go_roundw
          case rel =>
            refine ⟨k + (n + 6), recs ++ [(((bl s).drop k).drop 2).take n], HAT.out.step HD.out, by go_num, ?_, hb3 _ (HL2.out.alloc hwz _)⟩
            rw [List.map_append, List.map_cons, List.map_nil, ← HX.out]
            exact hown3
          case measure => simp [intOf]; omega
        · rw [hFe, if_neg (fun h => hq (bl_inj h))] at hone
          have hne := seq_false hq
          have HD := Lib.hid (HAT.out.done hone)
          clear hone hq hFe
          go_wp2
          (refine region_tail 11 mix ?hB ?_; case hB => kernel_rfl); (simp only [List.take_succ_cons, List.take_zero, List.drop_succ_cons, List.drop_zero]; (iterate 11 (with_reducible refine wpStill_step ?_; intro K hK; go_simp; with_reducible refine hK _ ?_; clear hK K)); with_reducible refine wpStill_nil ?_)
          clear j1 j2 j3 j4
          go_wp2
          rw [HR.out]
          go_region_with (go_at_call 23; refine (KF.out _).mono ?_; rintro e wN ⟨rfl, HBN⟩)
          go_wp2
          go_ret2
          unfold Scanned
          rw [HD.out]
          exact ⟨_, rfl, HO.out.drew.drew.below HBN (Nat.le_refl _), HL.out.drew.drew.trans (HBN.mono hrz)⟩
end Go.Proofs.Ytddeeejfmodgfaa
