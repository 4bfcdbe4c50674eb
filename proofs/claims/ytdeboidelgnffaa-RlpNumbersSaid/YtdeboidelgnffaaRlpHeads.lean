/- Rlp: RlpHeads walked. -/
import Derived.Test.YtdeboidelgnffaaRlp13
namespace Go.Proofs.Ytdeboidelgnffaa
open Go.RowKit

theorem leaf_is (w : World) (b : List UInt8) (h : b.length ≤ 9223372036854775807) : ItemIs w (.mk false b []) (itemV false b (.slice none 0 0)) := by
  rw [ItemIs]; exact ⟨_, rfl, h, .inl ⟨rfl, rfl⟩⟩

theorem leaf_write_one {b : List UInt8} (h : b.length = 1 ∧ (b.getD 0 0).toNat < 128) : (It.mk false b []).write = b := by rw [It.write, if_neg (by simp), if_pos h]
theorem leaf_write {b : List UInt8} (h : ¬ (b.length = 1 ∧ (b.getD 0 0).toNat < 128)) : (It.mk false b []).write = headL 128 b.length ++ b := by rw [It.write, if_neg (by simp), if_neg h]
theorem leaf_enc {b : List UInt8} (h : (It.mk false b []).write.length ≤ 4000) : (It.mk false b []).enc = ((It.mk false b []).write, 0) := by
  rw [It.enc, if_neg (by simp [It.pureB, It.size, puresB, sizes]), if_neg (by simp [It.depth, depths]), if_neg (by omega)]

set_option maxHeartbeats 2000000 in
set_option maxRecDepth 100000 in
theorem rlpHeads_walk (w : World) (s : ByteArray) (hs : s.size ≤ maxLen) :
    Calls Try.prog 5 #[.string s] w fun e w' => e = .returned (.bool true) ∧ Below w.heap.size w w' := by
  unfold maxLen at hs
  obtain ⟨m, m1, m2, m3⟩ := minIs_ex 1500 (by omega) s.size
  have m4 : min (s.size : Int) 1500 = m := by rw [← m1]; split <;> omega
  have zT : (s.extract 0 m).size = m := by rw [ByteArray.size_extract]; omega
  clear m1
  obtain ⟨b, hb⟩ : ∃ b, bl (s.extract 0 m) = b := ⟨_, rfl⟩
  have hbl : b.length = m := by rw [← hb, bl_length, zT]
  have hT : s.extract 0 m = mkS b := by rw [← hb, mk_bl]
  have KA := Lib.hid (fun W => alive_any W)
  by_cases h1 : b.length = 1 ∧ (b.getD 0 0).toNat < 128
  · have hwr := leaf_write_one h1
    have K0 := fun W => encode_any _ _ W (leaf_is W b (by omega)) (fun _ _ => by rw [hwr]; omega)
    rw [leaf_enc (by rw [hwr]; omega), hwr] at K0
    simp only [itemV] at K0
    have K := Lib.hid K0
    obtain ⟨h1, h2⟩ := h1
    have hc : ∀ h : 0 < (mkS b).size, (((mkS b)[0]'h).toNat : Int) < 128 := by intro h; rw [mkget]; omega
    have hz1 : (mkS b).size = m := by rw [mk_size, hbl]
    have hx : (mkS b).extract 0 m = mkS b := by rw [← hz1, extract_all]
    have hm1 : ((m : Int) == 1) = true := by simp; omega
    have hm0 : 0 < m := by omega
    clear K0 hwr hb hbl h1 h2 zT
    generalize mkS b = T at *
    replace hc := hc (by omega)
    go_enter Try.func5, Try.ntmps5
    go_wp2_with fail
    refine (K.out _).mono ?_
    rintro e w1 ⟨rfl, hb⟩
    have B := Lib.hid hb
    clear hb
    go_wp2_with fail
    refine (KA.out _).mono ?_
    rintro e w2 ⟨rfl, hb⟩
    (replace B := Lib.hid (B.out.trans (hb.mono B.out.size)); clear hb)
    go_wp2
    go_ret
    exact ⟨rfl, B.out⟩
  · have hwr := leaf_write h1
    have hhl := headL_length (fr := 128) (n := b.length) (by omega)
    have K0 := fun W => encode_any _ _ W (leaf_is W b (by omega)) (fun _ _ => by rw [hwr, List.length_append, hhl]; split <;> (try split) <;> omega)
    rw [leaf_enc (by rw [hwr, List.length_append, hhl]; split <;> (try split) <;> omega), hwr] at K0
    have hA : (mkS (headL 128 b.length ++ b)).size = (headL 128 b.length).length + m := by rw [mk_size, List.length_append, hbl]
    have hX : (mkS (headL 128 b.length ++ b)).extract (headL 128 b.length).length ((headL 128 b.length).length + m) = mkS b := by
      rw [mk_extract]
      congr 1
      rw [List.take_of_length_le (by rw [List.length_append]; omega), List.drop_left]
    simp only [itemV] at K0
    have K := Lib.hid K0
    have hzb : (mkS b).size = m := by rw [mk_size, hbl]
    have hc : m = 1 → ∀ h : 0 < (mkS b).size, ¬ ((((mkS b)[0]'h).toNat : Int) < 128) := by
      intro e h h'
      apply h1
      rw [mkget] at h'
      exact ⟨by omega, by omega⟩
    clear K0 hwr hb h1 zT
    generalize mkS (headL 128 b.length ++ b) = A at *
    generalize (headL 128 b.length).length = hl at *
    rw [hbl] at hhl
    generalize mkS b = T at *
    clear hbl
    by_cases c1 : m ≤ 55
    · rw [if_pos c1] at hhl
      subst hhl
      by_cases c0 : m = 1
      · have hm1 : ((m : Int) == 1) = true := by simp; omega
        have hm0 : 0 < m := by omega
        have hz0 : 0 < T.size := by omega
        have hc2 := hc c0 hz0
        clear hc c0
        have hA2 : (A.size : Int) = (m : Int) + 1 := by rw [hA]; omega
        have hq1 : ((A.size : Int) == (m : Int) + 1) = true := by rw [hA2]; simp
        have hX2 : A.extract 1 A.size = T := by rw [hA]; exact hX
        have hAle : A.size ≤ 1600 := by omega
        have hAge : 1 ≤ A.size := by omega
        clear hA hA2 hX
        go_enter Try.func5, Try.ntmps5
        go_wp2_with fail
        refine (K.out _).mono ?_
        rintro e w1 ⟨rfl, hb⟩
        have B := Lib.hid hb
        clear hb
        go_wp2_with fail
        refine (KA.out _).mono ?_
        rintro e w2 ⟨rfl, hb⟩
        (replace B := Lib.hid (B.out.trans (hb.mono B.out.size)); clear hb)
        go_wp2
        go_ret
        exact ⟨rfl, B.out⟩
      · clear hc
        have hA2 : (A.size : Int) = (m : Int) + 1 := by rw [hA]; omega
        have hq1 : ((A.size : Int) == (m : Int) + 1) = true := by rw [hA2]; simp
        have hX2 : A.extract 1 A.size = T := by rw [hA]; exact hX
        have hAle : A.size ≤ 1600 := by omega
        have hAge : 1 ≤ A.size := by omega
        clear hA hA2 hX
        go_enter Try.func5, Try.ntmps5
        go_wp2_with fail
        refine (K.out _).mono ?_
        rintro e w1 ⟨rfl, hb⟩
        have B := Lib.hid hb
        clear hb
        go_wp2_with fail
        refine (KA.out _).mono ?_
        rintro e w2 ⟨rfl, hb⟩
        (replace B := Lib.hid (B.out.trans (hb.mono B.out.size)); clear hb)
        go_wp2
        go_ret
        exact ⟨rfl, B.out⟩
    · rw [if_neg c1] at hhl
      have c0 : m ≠ 1 := by omega
      clear hc
      by_cases c2 : m < 256
      · rw [if_pos c2] at hhl
        subst hhl
        have hA2 : (A.size : Int) = (m : Int) + 2 := by rw [hA]; omega
        have hq1 : ((A.size : Int) == (m : Int) + 2) = true := by rw [hA2]; simp
        have hX2 : A.extract 2 A.size = T := by rw [hA]; exact hX
        have hAle : A.size ≤ 1600 := by omega
        have hAge : 2 ≤ A.size := by omega
        clear hA hA2 hX
        go_enter Try.func5, Try.ntmps5
        go_wp2_with fail
        refine (K.out _).mono ?_
        rintro e w1 ⟨rfl, hb⟩
        have B := Lib.hid hb
        clear hb
        go_wp2_with fail
        refine (KA.out _).mono ?_
        rintro e w2 ⟨rfl, hb⟩
        (replace B := Lib.hid (B.out.trans (hb.mono B.out.size)); clear hb)
        go_wp2
        go_ret
        exact ⟨rfl, B.out⟩
      · rw [if_neg c2] at hhl
        subst hhl
        have hA2 : (A.size : Int) = (m : Int) + 3 := by rw [hA]; omega
        have hq1 : ((A.size : Int) == (m : Int) + 3) = true := by rw [hA2]; simp
        have hX2 : A.extract 3 A.size = T := by rw [hA]; exact hX
        have hAle : A.size ≤ 1600 := by omega
        have hAge : 3 ≤ A.size := by omega
        clear hA hA2 hX
        go_enter Try.func5, Try.ntmps5
        go_wp2_with fail
        refine (K.out _).mono ?_
        rintro e w1 ⟨rfl, hb⟩
        have B := Lib.hid hb
        clear hb
        go_wp2_with fail
        refine (KA.out _).mono ?_
        rintro e w2 ⟨rfl, hb⟩
        (replace B := Lib.hid (B.out.trans (hb.mono B.out.size)); clear hb)
        go_wp2
        go_ret
        exact ⟨rfl, B.out⟩
end Go.Proofs.Ytdeboidelgnffaa
