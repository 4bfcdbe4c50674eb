/- Rlp: RlpReads walked. -/
import Derived.Test.YtdeboidelgnffaaRlp21
namespace Go.Proofs.Ytdeboidelgnffaa
open Go.RowKit

set_option maxRecDepth 100000 in
set_option maxHeartbeats 2000000 in
theorem rlpReads_walk (w : World) (s : ByteArray) (hs : s.size ≤ maxLen) :
    Calls Try.prog 8 #[.string s] w fun e w' => e = .returned (.bool true) ∧ Below w.heap.size w w' := by
  unfold maxLen at hs
  obtain ⟨m, m1, m2, m3⟩ := minIs_ex 4100 (by omega) s.size
  have m4 : min (s.size : Int) 4100 = m := by rw [← m1]; split <;> omega
  have zT : (s.extract 0 m).size = m := by rw [ByteArray.size_extract]; omega
  have K1 := Lib.hid (fun W => decode_any (s.extract 0 m) W (by omega))
  have K2 := Lib.hid (fun W => rdecode_any (s.extract 0 m) W (by omega))
  have KA := Lib.hid (fun W => alive_any W)
  generalize decL (bl (s.extract 0 m)) = d at *
  obtain ⟨x, c⟩ := d
  have KL := Lib.hid (fun W v v' (h : ItemIs W x v) (h' : ItemIs W x v') => like_any x.size x x (Nat.le_refl _) v v' W h h')
  rw [(like_iff x x).2 rfl] at KL
  generalize hT : s.extract 0 m = T at *
  clear m1 zT
  go_enter Try.func8, Try.ntmps8
  go_wp2_with fail
  refine (K1.out _).mono ?_
  rintro e w1 ⟨v, rfl, hv, hb⟩
  obtain ⟨⟨yl, yb, yp, yn, yc⟩, rfl⟩ := hv.triple
  simp only [IV.val, IV.kids] at hv ⊢
  have T1 : Hid (RowAt (w1.alloc (ivO (yl, yb, yp, yn, yc))) w1.heap.size #[.bool yl, .string yb, .slice yp yn yc] 24) := Lib.hid (RowAt.new _ _ _)
  have I1 : Hid (ItemIs (w1.alloc (ivO (yl, yb, yp, yn, yc))) x (.agg #[.bool yl, .string yb, .slice yp yn yc])) := Lib.hid (ItemIs.below ((Below.refl w1.heap.size w1).alloc (Nat.le_refl _) _) (Nat.le_refl _) _ _ (ItemP.is _ _ hv))
  have B := Lib.hid (hb.alloc hb.size (ivO (yl, yb, yp, yn, yc)))
  clear hb hv K1
  go_wp2_with fail
  refine (K2.out _).mono ?_
  rintro e w2 ⟨v, rfl, hv, hb⟩
  obtain ⟨⟨zl, zb, zp, zn, zc⟩, rfl⟩ := hv.triple
  simp only [IV.val, IV.kids] at hv ⊢
  have T2 : Hid (RowAt (w2.alloc (ivO (zl, zb, zp, zn, zc))) w2.heap.size #[.bool zl, .string zb, .slice zp zn zc] 24) := Lib.hid (RowAt.new _ _ _)
  have I2 : Hid (ItemIs (w2.alloc (ivO (zl, zb, zp, zn, zc))) x (.agg #[.bool zl, .string zb, .slice zp zn zc])) := Lib.hid (ItemIs.below ((Below.refl w2.heap.size w2).alloc (Nat.le_refl _) _) (Nat.le_refl _) _ _ (ItemP.is _ _ hv))
  replace T1 := Lib.hid ((T1.out.belowS hb).alloc (ivO (zl, zb, zp, zn, zc)))
  replace I1 : Hid (ItemIs (w2.alloc (ivO (zl, zb, zp, zn, zc))) x (.agg #[.bool yl, .string yb, .slice yp yn yc])) := Lib.hid (ItemIs.below (hb.alloc hb.size _) (Nat.le_refl _) _ _ I1.out)
  replace B := Lib.hid ((B.out.trans (hb.mono B.out.size)).alloc (Nat.le_trans B.out.size hb.size) (ivO (zl, zb, zp, zn, zc)))
  clear hb hv K2
  go_wp2_with fail
  refine (KA.out _).mono ?_
  rintro e w3 ⟨rfl, hb⟩
  replace T1 := Lib.hid (T1.out.belowS hb)
  replace T2 := Lib.hid (T2.out.belowS hb)
  replace I1 : Hid (ItemIs w3 x (.agg #[.bool yl, .string yb, .slice yp yn yc])) := Lib.hid (ItemIs.below hb (Nat.le_refl _) _ _ I1.out)
  replace I2 : Hid (ItemIs w3 x (.agg #[.bool zl, .string zb, .slice zp zn zc])) := Lib.hid (ItemIs.below hb (Nat.le_refl _) _ _ I2.out)
  replace B := Lib.hid (B.out.trans (hb.mono B.out.size))
  clear hb
  obtain ⟨a0, a1, a2, af0, af1, af2⟩ := T1.out.c3
  obtain ⟨b0, b1, b2, bf0, bf1, bf2⟩ := T2.out.c3
  go_wp2_with fail
  refine (KL.out _ _ _ I1.out I2.out).mono ?_
  rintro e w4 ⟨rfl, hb⟩
  have HB := Lib.hid (B.out.trans (hb.mono B.out.size))
  clear hb B T1 T2 I1 I2
  clear a0 a1 a2 af0 af1 af2
  clear b0 b1 b2 bf0 bf1 bf2
  go_wp2
  go_ret
  exact ⟨rfl, HB.out⟩
end Go.Proofs.Ytdeboidelgnffaa
