/- NibbleShared: the walk. -/
import Derived.Test.YtddeeejfmodgfaaNib3
namespace Go.Proofs.Ytddeeejfmodgfaa
open Go.RowKit

theorem shareB_comm (a b : ByteArray) : shareB a b = shareB b a := shareL_comm _ _
theorem shareB_append (c a b : ByteArray) : shareB (c ++ a) (c ++ b) = c.size + shareB a b := by
  have := shareL_append c.data.toList a.data.toList b.data.toList
  simpa [shareB] using this
theorem shareB_extract (a b : ByteArray) : a.extract 0 (shareB a b) = b.extract 0 (shareB a b) := by
  have := shareL_take a.data.toList b.data.toList
  apply ByteArray.ext
  apply Array.toList_inj.1
  simpa [shareB] using this

set_option maxRecDepth 100000 in
set_option maxHeartbeats 4000000 in
theorem shared_any (a b c : ByteArray) (w : World) (ha : a.size ≤ 9223372036854775807) (hb : b.size ≤ 9223372036854775807) (hc : c.size ≤ 9223372036854775807) :
    Calls Try.prog 3 #[.string a, .string b, .string c] w fun e w' => e = .returned (.bool true) ∧ Below w.heap.size w w' := by
  have K1 := fun w => short_any a w ha
  have K2 := fun w => short_any b w hb
  have K3 := fun w => short_any c w hc
  have za := shortB_size a
  have zb := shortB_size b
  have zc := shortB_size c
  generalize shortB a = a' at *
  generalize shortB b = b' at *
  generalize shortB c = c' at *
  have H1 := shareB_le a' b'
  have HS := Lib.hid (shareB_stop a' b')
  have HE := Lib.hid (shareB_extract a' b')
  have HC := Lib.hid (shareB_comm b' a')
  have HA := Lib.hid (shareB_append c' a' b')
  have K1 := Lib.hid K1
  have K2 := Lib.hid K2
  have K3 := Lib.hid K3
  have KS := Lib.hid (fun w => share_any a' b' w (by omega) (by omega))
  have KT := Lib.hid (fun w => share_any b' a' w (by omega) (by omega))
  have KU := Lib.hid (fun w => share_any (c' ++ a') (c' ++ b') w (by rw [ByteArray.size_append]; omega) (by rw [ByteArray.size_append]; omega))
  rw [HC.out] at KT
  rw [HA.out] at KU
  generalize hn : shareB a' b' = n at *
  clear hn HC HA
  go_enter Try.func3, Try.ntmps3
  go_wp2_with fail
  refine (K1.out _).mono ?_
  rintro e w1 ⟨rfl, rfl⟩
  go_wp2_with fail
  refine (K2.out _).mono ?_
  rintro e w1 ⟨rfl, rfl⟩
  go_wp2_with fail
  refine (K3.out _).mono ?_
  rintro e w1 ⟨rfl, rfl⟩
  go_wp2_with fail
  refine (KS.out _).mono ?_
  rintro e w1 ⟨rfl, hb1⟩
  have B1 := Lib.hid hb1
  clear hb1 K1 K2 K3
  have he := HE.out
  have n1 := H1.1
  have n2 := H1.2
  have n3 : 0 ≤ (n : Int) := by omega
  clear H1
  by_cases l1 : n < a'.size
  · by_cases l2 : n < b'.size
    · have hq := HS.out l1 l2
      by_cases l3 : b'.size < a'.size
      all_goals
        go_wp2_with (fail)
        (refine region_tail 19 mix ?hB ?_; case hB => kernel_rfl); (simp only [List.take_succ_cons, List.take_zero, List.drop_succ_cons, List.drop_zero]; (iterate 19 (with_reducible refine wpStill_step ?_; intro K hK; go_simp; with_reducible refine hK _ ?_; clear hK K)); with_reducible refine wpStill_nil ?_)
        go_wp2_with (fail)
        (refine region_tail 19 mix ?hB ?_; case hB => kernel_rfl); (simp only [List.take_succ_cons, List.take_zero, List.drop_succ_cons, List.drop_zero]; (iterate 19 (with_reducible refine wpStill_step ?_; intro K hK; go_simp; with_reducible refine hK _ ?_; clear hK K)); with_reducible refine wpStill_nil ?_)
        go_wp2_with (first
          | (go_at_call 17; refine (alive09 _).mono ?_; rintro e w2 ⟨rfl, hb2⟩))
        refine (KT.out _).mono ?_
        rintro e w3 ⟨rfl, hb3⟩
        go_wp2_with fail
        refine (KU.out _).mono ?_
        rintro e w4 ⟨rfl, hb4⟩
        have B2 := Lib.hid (B1.out.drew.drew.trans ((hb2.mono B1.out.size).trans ((hb3.mono (Nat.le_trans B1.out.size hb2.size)).trans (hb4.mono (Nat.le_trans B1.out.size (Nat.le_trans hb2.size hb3.size))))))
        clear hb2 hb3 hb4 B1
        go_wp2
        go_ret
        exact ⟨rfl, B2.out⟩
    · have l3 : b'.size < a'.size := by omega
      have hd : decide (n < b'.size) = false := by simpa using l2
      clear l2
      go_wp2_with (fail)
      (refine region_tail 19 mix ?hB ?_; case hB => kernel_rfl); (simp only [List.take_succ_cons, List.take_zero, List.drop_succ_cons, List.drop_zero]; (iterate 19 (with_reducible refine wpStill_step ?_; intro K hK; go_simp; with_reducible refine hK _ ?_; clear hK K)); with_reducible refine wpStill_nil ?_)
      go_wp2_with (fail)
      (refine region_tail 19 mix ?hB ?_; case hB => kernel_rfl); (simp only [List.take_succ_cons, List.take_zero, List.drop_succ_cons, List.drop_zero]; (iterate 19 (with_reducible refine wpStill_step ?_; intro K hK; go_simp; with_reducible refine hK _ ?_; clear hK K)); with_reducible refine wpStill_nil ?_)
      go_wp2_with (first
        | (go_at_call 17; refine (alive09 _).mono ?_; rintro e w2 ⟨rfl, hb2⟩))
      refine (KT.out _).mono ?_
      rintro e w3 ⟨rfl, hb3⟩
      go_wp2_with fail
      refine (KU.out _).mono ?_
      rintro e w4 ⟨rfl, hb4⟩
      have B2 := Lib.hid (B1.out.drew.drew.trans ((hb2.mono B1.out.size).trans ((hb3.mono (Nat.le_trans B1.out.size hb2.size)).trans (hb4.mono (Nat.le_trans B1.out.size (Nat.le_trans hb2.size hb3.size))))))
      clear hb2 hb3 hb4 B1
      go_wp2
      go_ret
      exact ⟨rfl, B2.out⟩
  · have l3 : ¬ b'.size < a'.size := by omega
    have hd : decide (n < a'.size) = false := by simpa using l1
    clear l1
    go_wp2_with (fail)
    (refine region_tail 19 mix ?hB ?_; case hB => kernel_rfl); (simp only [List.take_succ_cons, List.take_zero, List.drop_succ_cons, List.drop_zero]; (iterate 19 (with_reducible refine wpStill_step ?_; intro K hK; go_simp; with_reducible refine hK _ ?_; clear hK K)); with_reducible refine wpStill_nil ?_)
    go_wp2_with (fail)
    (refine region_tail 19 mix ?hB ?_; case hB => kernel_rfl); (simp only [List.take_succ_cons, List.take_zero, List.drop_succ_cons, List.drop_zero]; (iterate 19 (with_reducible refine wpStill_step ?_; intro K hK; go_simp; with_reducible refine hK _ ?_; clear hK K)); with_reducible refine wpStill_nil ?_)
    go_wp2_with (first
      | (go_at_call 17; refine (alive09 _).mono ?_; rintro e w2 ⟨rfl, hb2⟩))
    refine (KT.out _).mono ?_
    rintro e w3 ⟨rfl, hb3⟩
    go_wp2_with fail
    refine (KU.out _).mono ?_
    rintro e w4 ⟨rfl, hb4⟩
    have B2 := Lib.hid (B1.out.drew.drew.trans ((hb2.mono B1.out.size).trans ((hb3.mono (Nat.le_trans B1.out.size hb2.size)).trans (hb4.mono (Nat.le_trans B1.out.size (Nat.le_trans hb2.size hb3.size))))))
    clear hb2 hb3 hb4 B1
    go_wp2
    go_ret
    exact ⟨rfl, B2.out⟩

theorem nibbleShared_walk (W : World) (a : ByteArray) (ha : a.size ≤ maxLen) (b : ByteArray) (hb : b.size ≤ maxLen) (c : ByteArray) (hc : c.size ≤ maxLen) :
    Calls Try.prog 3 #[.string a, .string b, .string c] W fun e W' => e = .returned (.bool true) ∧ Below W.heap.size W W' := by
  unfold maxLen at ha hb hc
  exact shared_any a b c W ha hb hc
end Go.Proofs.Ytddeeejfmodgfaa
