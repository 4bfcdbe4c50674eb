/- NibbleBack: the walk. -/
import Derived.Test.YtddeeejfmodgfaaNib9
import Derived.Deep.DeepCutAuto
namespace Go.Proofs.Ytddeeejfmodgfaa
open Go.RowKit

theorem ofB_size (s : ByteArray) : (ofB s).size = 2 * s.size := by rw [ofB_eq, bstr_size, ofL_length]; simp
theorem ofB_right (s : ByteArray) : rightB (ofB s) = true := ofL_small _
theorem joinB_ofB (s : ByteArray) : joinB (ofB s) = s := by
  show bstr (joinL (ofL s.data.toList)) = s
  rw [joinL_ofL]
  rfl
theorem right_extract (s : ByteArray) (k : Nat) (h : rightB s = true) : rightB (s.extract k s.size) = true := by
  unfold rightB at *
  rw [List.all_eq_true] at *
  intro x hx
  refine h x ?_
  have : (s.extract k s.size).data.toList = s.data.toList.drop k := by
    simp
    rw [List.take_of_length_le (by simp)]
  rw [this] at hx
  exact List.mem_of_mem_drop hx

theorem unpack_packB (p : ByteArray) (ends : Bool) (h : rightB p = true) : unpackL (packB p ends).data.toList = some (p.data.toList, ends) := by
  rw [packB_eq]
  show unpackL (packL p.data.toList ends) = _
  exact unpack_pack _ _ h

set_option maxRecDepth 100000 in
set_option maxHeartbeats 4000000 in
theorem back_any (a b : ByteArray) (ends : Bool) (w : World) (ha : a.size ≤ 9223372036854775807) (hb : b.size ≤ 9223372036854775807) :
    Calls Try.prog 8 #[.string a, .string b, .bool ends] w fun e w' => e = .returned (.bool true) ∧ Below w.heap.size w w' := by
  have K1 := fun w => short_any a w ha
  have K2 := fun w => short_any b w hb
  have za := shortB_size a
  have zb := shortB_size b
  generalize shortB a = a' at *
  generalize shortB b = b' at *
  have K1 := Lib.hid K1
  have K2 := Lib.hid K2
  have HB0 := Lib.hid (Below.refl w.heap.size w)
  have zp := ofB_size a'
  have KO := fun w => of_any a' w (by omega)
  have KK := fun w => key_yes (ofB a') w (by omega) (ofB_right a') (by omega)
  rw [joinB_ofB] at KK
  have KP : ∀ k w, Calls Try.prog 32 #[.string ((ofB a').extract k (ofB a').size), .bool ends] w fun e w' => e = .returned (.tuple #[.string (packB ((ofB a').extract k (ofB a').size) ends), .int .i64 0]) ∧ Below w.heap.size w w' := fun k w =>
    pack_yes _ _ w (by rw [ByteArray.size_extract]; omega) (right_extract _ k (ofB_right a'))
  have KU : ∀ k w, Calls Try.prog 33 #[.string (packB ((ofB a').extract k (ofB a').size) ends)] w fun e w' => e = .returned (.tuple #[.string ((ofB a').extract k (ofB a').size), .bool ends, .int .i64 0]) ∧ Below w.heap.size w w' := fun k w => by
    have h := unpack_any (packB ((ofB a').extract k (ofB a').size) ends) w (by
      rw [packB_eq, bstr_size]
      unfold packL
      rw [joinL_length, List.length_append]
      have h1 : ((ofB a').extract k (ofB a').size).data.toList.length ≤ 1000 := by
        show ((ofB a').extract k (ofB a').size).data.toList.length ≤ 1000
        rw [Array.length_toList]
        show ((ofB a').extract k (ofB a').size).size ≤ 1000
        rw [ByteArray.size_extract]; omega
      split <;> simp only [List.length_cons, List.length_nil] <;> omega)
    rw [unpack_packB _ _ (right_extract _ k (ofB_right a'))] at h
    exact h
  have U1 := fun w => unpack_any b' w (by omega)
  have hlast : ∀ p pe, unpackL b'.data.toList = some (p, pe) → (∀ w, Calls Try.prog 32 #[.string (bstr p), .bool pe] w fun e w' => e = .returned (.tuple #[.string b', .int .i64 0]) ∧ Below w.heap.size w w') := by
    intro p pe h w
    obtain ⟨h1, h2⟩ := pack_unpack _ _ _ h
    have hp := pack_yes (bstr p) pe w (by
      have := congrArg List.length h1
      unfold packL at this
      rw [joinL_length, List.length_append] at this
      have e : b'.data.toList.length = b'.size := by simp
      rw [e] at this
      rw [bstr_size]
      split at this <;> simp only [List.length_cons, List.length_nil] at this <;> omega) h2
    rw [pack_hit b' p pe h1] at hp
    exact hp
  generalize ofB a' = P at *
  obtain ⟨m, hm⟩ := minIs_ex 3 (by omega) P.size
  obtain ⟨m1, m2, m3⟩ := hm
  have KO := Lib.hid KO
  have KK := Lib.hid KK
  have KP := Lib.hid KP
  have KU := Lib.hid KU
  have U1 := Lib.hid U1
  have HL := Lib.hid hlast
  have zp1 : (P.size : Int) ≤ 1000 := by omega
  have HZ : Hid ((P.size : Int) = 2 * (a'.size : Int)) := Lib.hid (by omega)
  clear zp hlast
  go_enter Try.func8, Try.ntmps8
  go_wp2_with fail
  refine (K1.out _).mono ?_
  rintro e w1 ⟨rfl, rfl⟩
  go_wp2_with fail
  refine (K2.out _).mono ?_
  rintro e w1 ⟨rfl, rfl⟩
  go_wp2_with (first
    | (go_at_call 26; refine (chainH (KO.out _) (by assumption)).mono ?_; rintro e wN ⟨rfl, HBN⟩)
    | (go_at_call 24; refine (chainH (KK.out _) (by assumption)).mono ?_; rintro e wN ⟨rfl, HBN⟩))
  go_loopw [36] (fun i wr => ∃ k : Nat, k ≤ m + 1 ∧ i = .int .i64 k ∧ Hid (Below w.heap.size w wr)) (fun i _ => m + 1 - (intOf i).toNat)
  case atStart => exact ⟨0, Nat.zero_le _, rfl, by assumption⟩
  case round =>
    obtain ⟨k, hk, rfl, HBR⟩ := hrel
    by_cases hlt : k < m + 1
    · have hki : (k : Int) ≤ (P.size : Int) := by omega
      have hlt2 : (k : Int) < (m : Int) + 1 := by omega
      clear m1
      go_wp2_with (fail)
      refine (chainH (KP.out k _) (by assumption)).mono ?_
      rintro e v1 ⟨rfl, HB1⟩
      go_wp2_with (fail)
      refine (chainH (KU.out k _) (by assumption)).mono ?_
      rintro e v2 ⟨rfl, HB2⟩
      go_upto_region 9 with (fail)
      have e3 : ((k : Int)).toNat = k := by omega
      have k0 : 0 ≤ (k : Int) := by omega
      go_wp2
      go_roundw
      case rel => exact ⟨k + 1, by omega, by go_num, by assumption⟩
      case measure => simp [intOf]; omega
    · obtain rfl : k = m + 1 := by omega
      clear m1 KP KU
      have zp2 := HZ.out
      cases hu : unpackL b'.data.toList with
      | none =>
        have U2 := U1.out
        rw [hu] at U2
        simp only [unpackV] at U2
        have U2 := Lib.hid U2
        clear hu
        go_wp2_with (first
          | (go_at_call 33; refine (chainH (U2.out _) (by assumption)).mono ?_; rintro e wN ⟨rfl, HBN⟩)
          | (go_at_call 17; refine (chainH (alive09 _) (by assumption)).mono ?_; rintro e wN ⟨rfl, HBN⟩))
        go_ret
        exact ⟨rfl, Hid.out (by assumption)⟩
      | some pe =>
        obtain ⟨p, pe⟩ := pe
        have U2 := U1.out
        rw [hu] at U2
        simp only [unpackV] at U2
        have U2 := Lib.hid U2
        have KL := Lib.hid (HL.out p pe hu)
        generalize bstr p = Q at *
        clear hu
        go_wp2_with (first
          | (go_at_call 33; refine (chainH (U2.out _) (by assumption)).mono ?_; rintro e wN ⟨rfl, HBN⟩)
          | (go_at_call 32; refine (chainH (KL.out _) (by assumption)).mono ?_; rintro e wN ⟨rfl, HBN⟩)
          | (go_at_call 17; refine (chainH (alive09 _) (by assumption)).mono ?_; rintro e wN ⟨rfl, HBN⟩))
        go_ret
        exact ⟨rfl, Hid.out (by assumption)⟩

theorem nibbleBack_walk (W : World) (a : ByteArray) (ha : a.size ≤ maxLen) (b : ByteArray) (hb : b.size ≤ maxLen) (ends : Bool) :
    Calls Try.prog 8 #[.string a, .string b, .bool ends] W fun e W' => e = .returned (.bool true) ∧ Below W.heap.size W W' := by
  unfold maxLen at ha hb
  exact back_any a b ends W ha hb
end Go.Proofs.Ytddeeejfmodgfaa
