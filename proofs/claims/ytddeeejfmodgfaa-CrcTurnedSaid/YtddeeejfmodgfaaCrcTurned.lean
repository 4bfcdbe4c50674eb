/- CrcTurned: the walk. -/
import Derived.Test.YtddeeejfmodgfaaCrc7
namespace Go.Proofs.Ytddeeejfmodgfaa
open Go.RowKit

theorem OwnS.slice {w : World} {base : Nat} {v : Value} {l : List ByteArray} (h : OwnS w base v l) : ∃ p c, v = .slice p l.length c := by
  rcases h.2 with ⟨hv, hn⟩ | ⟨g, cap, cur, hv, hg, hc, hn, hcap, hsz, hx⟩
  · rw [hn]; exact ⟨none, 0, hv⟩
  · exact ⟨_, _, hv⟩

theorem tmod_bd (f n : Int) (h : 0 < n) : -n < f.tmod n ∧ f.tmod n < n := by
  rw [Int.tmod_eq_emod]
  have h1 := Int.emod_nonneg f (by omega : n ≠ 0)
  have h2 := Int.emod_lt_of_pos f h
  split
  · omega
  · rename_i hd
    have : f % n ≠ 0 := fun e => hd (.inr (Int.dvd_of_emod_eq_zero e))
    omega

theorem turn_from (f n : Int) (h : 0 < n) (h2 : n ≤ 100000) : ∃ x : Nat, wrap64 (16 + (wrap64 (f.tmod n + n)).tmod n) = ((16 + x : Nat) : Int) ∧ x ≤ 100000 := by
  have b1 := tmod_bd f n h
  have e1 : wrap64 (f.tmod n + n) = f.tmod n + n := IntWalk.wrap64_in _ (by omega)
  rw [e1, Int.tmod_eq_emod_of_nonneg (by omega)]
  have h3 := Int.emod_nonneg (f.tmod n + n) (by omega : n ≠ 0)
  have h4 := Int.emod_lt_of_pos (f.tmod n + n) h
  generalize (f.tmod n + n) % n = y at *
  refine ⟨y.toNat, ?_, by omega⟩
  rw [IntWalk.wrap64_in _ (by omega)]
  omega

set_option maxHeartbeats 4000000 in
theorem crcTurned_any (s : ByteArray) (f p : Int) (w : World) (hs : s.size ≤ 9223372036854775807) (hf : -9223372036854775808 ≤ f ∧ f ≤ 9223372036854775807) (hp : 0 ≤ p ∧ p ≤ 4294967295) :
    Calls Try.prog 10 #[.string s, .int .i64 f, .int .u32 p] w fun e w' => e = .returned (.bool true) ∧ Below w.heap.size w w' := by
  obtain ⟨m, hm⟩ := minIs_ex 500 (by omega) s.size
  obtain ⟨m1, m2, m3⟩ := hm
  obtain ⟨hf0, hf1⟩ := hf
  obtain ⟨hp0, hp1⟩ := hp
  have zT : (s.extract 0 m).size = m := by rw [ByteArray.size_extract]; omega
  by_cases h : 1 ≤ m
  · have KF := fun w => crcFrame_yes (s.extract 0 m) w (by omega) (by omega)
    have zF : (mkS (frameL (bl (s.extract 0 m)))).size = m + 6 := by rw [mk_size, frameL_length, bl_length, zT]
    have HT : ∀ t x, NearBits (bl (mkS (frameL (bl (s.extract 0 m))))) t (16 + x) (16 + x + 32) → (mkS t = mkS (frameL (bl (s.extract 0 m))) ∧ (scanL t).1.length = 1) ∨ (mkS t ≠ mkS (frameL (bl (s.extract 0 m))) ∧ (scanL t).1.length = 0) := fun t x ht => by
      rw [bl_mk] at ht
      rcases turned_scan (bl (s.extract 0 m)) t (by rw [bl_length]; omega) (by rw [bl_length]; omega) ht.1 (16 + x) (by omega) ht.2 with ⟨a, b⟩ | ⟨a, b⟩
      · exact .inl ⟨congrArg mkS a, b⟩
      · exact .inr ⟨fun e => a (mk_inj e), b⟩
    generalize mkS (frameL (bl (s.extract 0 m))) = F at *
    have KF := Lib.hid KF
    have HT := Lib.hid HT
    have zF2 : 7 ≤ F.size := by omega
    have zF3 : F.size ≤ 506 := by omega
    clear zF zT
    go_enter Try.func10, Try.ntmps10
    go_wp2_with fail
    refine (KF.out _).mono ?_
    rintro e w1 ⟨rfl, b1⟩
    have B1 := Lib.hid b1
    clear b1
    go_wp2_with fail
    obtain ⟨x, hx, hxb⟩ := turn_from f (8 * ((F.size : Int) - 2)) (by omega) (by omega)
    rw [hx]
    refine (turned_any F (16 + x) p _ (by omega) (by omega) hp0 hp1).mono ?_
    rintro e w2 ⟨t, ht, rfl, b2⟩
    have hways := HT.out t x ht
    have B2 := Lib.hid (B1.out.trans (b2.mono B1.out.size))
    have zt : (mkS t).size ≤ 1000000 := by rw [mk_size, ht.1, bl_length]; omega
    have K := fun w => crcScan_any (mkS t) w zt
    unfold Scanned at K
    rw [bl_mk] at K
    generalize scanL t = R at *
    generalize mkS t = T at *
    obtain ⟨R1, R2⟩ := R
    simp only at K hways
    have K := Lib.hid K
    have hlen : (R1.map mkS).length = R1.length := List.length_map ..
    generalize R1.map mkS = L at *
    clear hx hxb ht b2 HT zt
    rcases hways with ⟨q1, q2⟩ | ⟨q1, q2⟩
    · have hne := seq_true q1
      rw [q2] at hlen
      have HL := Lib.hid hlen
      clear q1 q2 hlen
      go_wp2_with fail
      refine (K.out _).mono ?_
      rintro e w3 ⟨v, rfl, o3, b3⟩
      obtain ⟨pp, cc, hv⟩ := o3.slice
      rw [HL.out] at hv
      subst hv
      have B3 := Lib.hid (B2.out.trans (b3.mono B2.out.size))
      clear b3 o3
      go_wp2_with fail
      refine (alive05 _).mono ?_
      rintro e w4 ⟨rfl, b4⟩
      have B4 := Lib.hid (B3.out.trans (b4.mono B3.out.size))
      clear b4
      go_wp2_with fail
      go_ret
      exact ⟨rfl, B4.out⟩
    · have hne := seq_false q1
      rw [q2] at hlen
      have HL := Lib.hid hlen
      clear q1 q2 hlen
      go_wp2_with fail
      refine (K.out _).mono ?_
      rintro e w3 ⟨v, rfl, o3, b3⟩
      obtain ⟨pp, cc, hv⟩ := o3.slice
      rw [HL.out] at hv
      subst hv
      have B3 := Lib.hid (B2.out.trans (b3.mono B2.out.size))
      clear b3 o3
      go_wp2_with fail
      refine (alive05 _).mono ?_
      rintro e w4 ⟨rfl, b4⟩
      have B4 := Lib.hid (B3.out.trans (b4.mono B3.out.size))
      clear b4
      go_wp2_with fail
      go_ret
      exact ⟨rfl, B4.out⟩
  · have KF := Lib.hid (fun w => crcFrame_no (s.extract 0 m) w (by omega) (by omega))
    clear zT h
    go_enter Try.func10, Try.ntmps10
    go_wp2_with (first
      | (go_at_call 18; refine (KF.out _).mono ?_; rintro e w1 ⟨rfl, b1⟩)
      | (go_at_call 21; refine (alive05 _).mono ?_; rintro e w2 ⟨rfl, b2⟩))
    go_ret
    exact ⟨rfl, b1.trans (b2.mono b1.size)⟩

theorem u32_bd {n : Int} (h : (Lit.int .u32 n).wf = true) : 0 ≤ n ∧ n ≤ 4294967295 := by
  simpa [Lit.wf, IntKind.min, IntKind.max, IntKind.signed, IntKind.bits] using h

theorem crcTurned_walk (W : World) (s : ByteArray) (hs : s.size ≤ maxLen) (f : Int) (hf : (Lit.int .i64 f).wf = true) (p : Int) (hp : (Lit.int .u32 p).wf = true) :
    Calls Try.prog 10 #[.string s, .int .i64 f, .int .u32 p] W fun e W' => e = .returned (.bool true) ∧ Below W.heap.size W W' := by
  unfold maxLen at hs
  exact crcTurned_any s f p W hs (i64_bd hf) (u32_bd hp)
end Go.Proofs.Ytddeeejfmodgfaa
