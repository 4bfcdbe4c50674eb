/- Rlp: RlpBack walked. -/
import Derived.Test.YtdeboidelgnffaaRlpReads
namespace Go.Proofs.Ytdeboidelgnffaa
open Go.RowKit

theorem decL_enc {x : It} (h : x.enc.2 = 0) : decL x.write = (x, 0) := by
  obtain ⟨hp, hl, -, -, hd⟩ := enc_ok h
  have hr := (read_write (2 * x.write.length)).1 x [] hp (by omega) (by omega)
  rw [List.append_nil] at hr
  rw [decL, if_neg (by omega), hr]
  simp only
  rw [if_neg (by simp), if_neg (by omega)]

theorem decL_ok {s : List UInt8} (h : (decL s).2 = 0) : (decL s).1.enc = (s, 0) := by
  rw [decL] at h ⊢
  split at h
  · simp at h
  · rename_i h1
    rw [if_neg h1]
    cases hr : readL (2 * s.length) s with
    | none => rw [hr] at h; simp at h
    | some q =>
      obtain ⟨x, t⟩ := q
      rw [hr] at h
      simp only at h ⊢
      by_cases ht : t = []
      · subst ht
        rw [if_neg (by simp)] at h ⊢
        by_cases hd : 8 < x.depth
        · rw [if_pos hd] at h; simp at h
        · rw [if_neg hd]
          obtain ⟨e, hp⟩ := (read_sound _).1 _ _ _ hr
          rw [List.append_nil] at e
          have hsz := size_le_write x hp
          rw [← e] at hsz
          have hpb := (pureB_iff x).2 hp
          rw [It.enc, if_neg (by rw [hpb]; simp; omega), if_neg hd, ← e, if_neg h1]
      · rw [if_pos ht] at h; simp at h

theorem decL_err {s : List UInt8} (h : (decL s).2 ≠ 0) : (decL s).1 = zeroI := by
  rw [decL] at h ⊢
  split at h
  · rename_i h1; rw [if_pos h1]
  · rename_i h1
    rw [if_neg h1]
    cases hr : readL (2 * s.length) s with
    | none => rfl
    | some q =>
      obtain ⟨x, t⟩ := q
      rw [hr] at h
      simp only at h ⊢
      by_cases ht : t = []
      · rw [if_neg (by simp [ht])] at h ⊢
        by_cases hd : 8 < x.depth
        · rw [if_pos hd]
        · rw [if_neg hd] at h; simp at h
      · rw [if_pos ht]

set_option maxRecDepth 100000 in
set_option maxHeartbeats 4000000 in
theorem rlpBack_walk (w : World) (v : Value) (x : It) (hx : ItemIs w x v) (hw : x.write.length ≤ 1000000000) (s : ByteArray) (hs : s.size ≤ maxLen) :
    Calls Try.prog 9 #[v, .string s] w fun e w' => e = .returned (.bool true) ∧ Below w.heap.size w w' := by
  unfold maxLen at hs
  obtain ⟨⟨l, b, p, n, c⟩, rfl⟩ := itemIs_val hx
  have HX : ∀ W, Below w.heap.size w W → ItemIs W x (.agg #[.bool l, .string b, .slice p n c]) := fun W h => ItemIs.below h (Nat.le_refl _) _ _ hx
  have L : Hid (RowAt (w.alloc (ivO (l, b, p, n, c))) w.heap.size #[.bool l, .string b, .slice p n c] 24) := Lib.hid (RowAt.new _ _ _)
  have B : Hid (Below w.heap.size w (w.alloc (ivO (l, b, p, n, c)))) := Lib.hid ((Below.refl _ _).alloc (Nat.le_refl _) _)
  show Calls Try.prog 9 #[.agg #[.bool l, .string b, .slice p n c], .string s] w _
  have HXH := Lib.hid HX
  have KF := Lib.hid (fun W h => few_any x (.agg #[.bool l, .string b, .slice p n c]) W (HX W h))
  have KE := Lib.hid (fun W h => encode_any x (.agg #[.bool l, .string b, .slice p n c]) W (HX W h) (fun _ _ => hw))
  have KA := Lib.hid (fun W => alive_any W)
  obtain ⟨m, m1, m2, m3⟩ := minIs_ex 4100 (by omega) s.size
  have m4 : min (s.size : Int) 4100 = m := by rw [← m1]; split <;> omega
  have zT : (s.extract 0 m).size = m := by rw [ByteArray.size_extract]; omega
  have K2 := Lib.hid (fun W => decode_any (s.extract 0 m) W (by omega))
  have hOk := decL_ok (s := bl (s.extract 0 m))
  have hErr := decL_err (s := bl (s.extract 0 m))
  generalize hT : s.extract 0 m = T at *
  have HTb : Hid (mkS (bl T) = T) := Lib.hid (mk_bl T)
  generalize decL (bl T) = d at *
  obtain ⟨y, code⟩ := d
  simp only at hOk hErr
  have KZ : Hid (∀ W v, ItemIs W zeroI v → Calls Try.prog 15 #[v, .agg #[.bool false, .string ⟨#[]⟩, .slice none 0 0]] W fun e w' => e = .returned (.bool true) ∧ Below W.heap.size W w') := Lib.hid fun W v h => by
    have := like_any 1 zeroI zeroI (by simp [It.size, sizes]) v _ W h (ItemP.is (A := fun _ => True) _ _ zeroP)
    rwa [(like_iff _ _).2 rfl] at this
  have KX : Hid (∀ W v, Below w.heap.size w W → ItemIs W x v → Calls Try.prog 15 #[.agg #[.bool l, .string b, .slice p n c], v] W fun e w' => e = .returned (.bool true) ∧ Below W.heap.size W w') := Lib.hid fun W v hb h => by
    have := like_any x.size x x (Nat.le_refl _) _ v W (HXH.out W hb) h
    rwa [(like_iff _ _).2 rfl] at this
  have KE2 : Hid (y.enc = (bl T, 0) → ∀ W v, ItemIs W y v → Calls Try.prog 11 #[v] W fun e w' => e = .returned (.tuple #[.string T, .int .i64 0]) ∧ Below W.heap.size W w') := Lib.hid fun he W v h => by
    have := encode_any y v W h (fun _ _ => by obtain ⟨_, h2, _⟩ := enc_ok (x := y) (by rw [he]); omega)
    rw [he] at this
    exact this
  have KD1 : Hid (x.enc.2 = 0 → ∀ W, Calls Try.prog 21 #[.string (mkS x.write)] W (DecPost (x, 0) W)) := Lib.hid fun he W => by
    obtain ⟨_, h2, _⟩ := enc_ok he
    have := decode_any (mkS x.write) W (by rw [mk_size]; omega)
    rwa [bl_mk, decL_enc he] at this
  have HE1 : Hid (x.enc.2 = 0 → x.enc.1 = x.write) := Lib.hid fun he => (enc_ok he).2.2.1
  clear hx HX HXH hw m1 zT
  by_cases hc : code = 0
  · subst hc
    have KEy := Lib.hid (KE2.out (hOk rfl))
    clear KE2 hOk hErr KZ HTb
    by_cases hf : x.size ≤ 400
    rotate_left
    · rw [decide_eq_false hf] at KF
      clear hf KE KD1 KX HE1
      obtain ⟨a0, a1, a2, af0, af1, af2⟩ := L.out.c3
      go_enter Try.func9, Try.ntmps9
      go_wp2_with fail
      refine (KF.out _ B.out).mono ?_
      rintro e w1 ⟨rfl, hb⟩
      clear a0 a1 a2 af0 af1 af2
      (replace L := Lib.hid (L.out.belowS hb); replace B := Lib.hid (B.out.trans (hb.mono B.out.size)); clear hb)
      go_wp2_with fail
      refine (K2.out _).mono ?_
      rintro e w5 ⟨v, rfl, hv, hb⟩
      obtain ⟨⟨zl, zb, zp, zn, zc⟩, rfl⟩ := hv.triple
      simp only [IV.val, IV.kids] at hv ⊢
      have T2 : Hid (RowAt (w5.alloc (ivO (zl, zb, zp, zn, zc))) w5.heap.size #[.bool zl, .string zb, .slice zp zn zc] 24) := Lib.hid (RowAt.new _ _ _)
      have I2 : Hid (ItemIs (w5.alloc (ivO (zl, zb, zp, zn, zc))) y (.agg #[.bool zl, .string zb, .slice zp zn zc])) := Lib.hid (ItemIs.below ((Below.refl w5.heap.size w5).alloc (Nat.le_refl _) _) (Nat.le_refl _) _ _ (ItemP.is _ _ hv))
      replace B := Lib.hid ((B.out.trans (hb.mono B.out.size)).alloc (Nat.le_trans B.out.size hb.size) (ivO (zl, zb, zp, zn, zc)))
      clear hb hv K2 L
      obtain ⟨t0, t1, t2, tf0, tf1, tf2⟩ := T2.out.c3
      go_wp2_with fail
      refine (KEy.out _ _ I2.out).mono ?_
      rintro e w6 ⟨rfl, hb⟩
      clear t0 t1 t2 tf0 tf1 tf2
      (replace B := Lib.hid (B.out.trans (hb.mono B.out.size)); clear hb)
      clear T2 I2 KEy
      go_wp2_with fail
      refine (KA.out _).mono ?_
      rintro e w7 ⟨rfl, hb⟩
      (replace B := Lib.hid (B.out.trans (hb.mono B.out.size)); clear hb)
      go_wp2
      go_ret
      exact ⟨rfl, B.out⟩
    rw [decide_eq_true hf] at KF
    clear hf
    by_cases he : x.enc.2 = 0
    rotate_left
    · obtain ⟨c1, hc1⟩ : ∃ c1, x.enc.2 = c1 := ⟨_, rfl⟩
      rw [hc1] at KE he
      clear hc1 KD1 KX HE1
      generalize mkS x.enc.1 = A at *
      obtain ⟨a0, a1, a2, af0, af1, af2⟩ := L.out.c3
      go_enter Try.func9, Try.ntmps9
      go_wp2_with fail
      refine (KF.out _ B.out).mono ?_
      rintro e w1 ⟨rfl, hb⟩
      clear a0 a1 a2 af0 af1 af2
      (replace L := Lib.hid (L.out.belowS hb); replace B := Lib.hid (B.out.trans (hb.mono B.out.size)); clear hb)
      obtain ⟨a0, a1, a2, af0, af1, af2⟩ := L.out.c3
      go_wp2_with fail
      refine (KE.out _ B.out).mono ?_
      rintro e w2 ⟨rfl, hb⟩
      clear a0 a1 a2 af0 af1 af2
      (replace L := Lib.hid (L.out.belowS hb); replace B := Lib.hid (B.out.trans (hb.mono B.out.size)); clear hb)
      go_wp2_with fail
      refine (K2.out _).mono ?_
      rintro e w5 ⟨v, rfl, hv, hb⟩
      obtain ⟨⟨zl, zb, zp, zn, zc⟩, rfl⟩ := hv.triple
      simp only [IV.val, IV.kids] at hv ⊢
      have T2 : Hid (RowAt (w5.alloc (ivO (zl, zb, zp, zn, zc))) w5.heap.size #[.bool zl, .string zb, .slice zp zn zc] 24) := Lib.hid (RowAt.new _ _ _)
      have I2 : Hid (ItemIs (w5.alloc (ivO (zl, zb, zp, zn, zc))) y (.agg #[.bool zl, .string zb, .slice zp zn zc])) := Lib.hid (ItemIs.below ((Below.refl w5.heap.size w5).alloc (Nat.le_refl _) _) (Nat.le_refl _) _ _ (ItemP.is _ _ hv))
      replace B := Lib.hid ((B.out.trans (hb.mono B.out.size)).alloc (Nat.le_trans B.out.size hb.size) (ivO (zl, zb, zp, zn, zc)))
      clear hb hv K2 L
      obtain ⟨t0, t1, t2, tf0, tf1, tf2⟩ := T2.out.c3
      go_wp2_with fail
      refine (KEy.out _ _ I2.out).mono ?_
      rintro e w6 ⟨rfl, hb⟩
      clear t0 t1 t2 tf0 tf1 tf2
      (replace B := Lib.hid (B.out.trans (hb.mono B.out.size)); clear hb)
      clear T2 I2 KEy
      go_wp2_with fail
      refine (KA.out _).mono ?_
      rintro e w7 ⟨rfl, hb⟩
      (replace B := Lib.hid (B.out.trans (hb.mono B.out.size)); clear hb)
      go_wp2
      go_ret
      exact ⟨rfl, B.out⟩
    rw [he, HE1.out he] at KE
    replace KD1 := Lib.hid (KD1.out he)
    clear he HE1
    generalize mkS x.write = A at *
    obtain ⟨a0, a1, a2, af0, af1, af2⟩ := L.out.c3
    go_enter Try.func9, Try.ntmps9
    go_wp2_with fail
    refine (KF.out _ B.out).mono ?_
    rintro e w1 ⟨rfl, hb⟩
    clear a0 a1 a2 af0 af1 af2
    (replace L := Lib.hid (L.out.belowS hb); replace B := Lib.hid (B.out.trans (hb.mono B.out.size)); clear hb)
    obtain ⟨a0, a1, a2, af0, af1, af2⟩ := L.out.c3
    go_wp2_with fail
    refine (KE.out _ B.out).mono ?_
    rintro e w2 ⟨rfl, hb⟩
    clear a0 a1 a2 af0 af1 af2
    (replace L := Lib.hid (L.out.belowS hb); replace B := Lib.hid (B.out.trans (hb.mono B.out.size)); clear hb)
    go_wp2_with fail
    refine (KD1.out _).mono ?_
    rintro e w3 ⟨v, rfl, hv, hb⟩
    obtain ⟨⟨yl, yb, yp, yn, yc⟩, rfl⟩ := hv.triple
    simp only [IV.val, IV.kids] at hv ⊢
    have T1 : Hid (RowAt (w3.alloc (ivO (yl, yb, yp, yn, yc))) w3.heap.size #[.bool yl, .string yb, .slice yp yn yc] 24) := Lib.hid (RowAt.new _ _ _)
    have I1 : Hid (ItemIs (w3.alloc (ivO (yl, yb, yp, yn, yc))) x (.agg #[.bool yl, .string yb, .slice yp yn yc])) := Lib.hid (ItemIs.below ((Below.refl w3.heap.size w3).alloc (Nat.le_refl _) _) (Nat.le_refl _) _ _ (ItemP.is _ _ hv))
    replace L := Lib.hid ((L.out.belowS hb).alloc (ivO (yl, yb, yp, yn, yc)))
    replace B := Lib.hid ((B.out.trans (hb.mono B.out.size)).alloc (Nat.le_trans B.out.size hb.size) (ivO (yl, yb, yp, yn, yc)))
    clear hb hv KD1
    obtain ⟨a0, a1, a2, af0, af1, af2⟩ := L.out.c3
    obtain ⟨t0, t1, t2, tf0, tf1, tf2⟩ := T1.out.c3
    go_wp2_with fail
    refine (KX.out _ _ B.out I1.out).mono ?_
    rintro e w4 ⟨rfl, hb⟩
    clear a0 a1 a2 af0 af1 af2
    clear t0 t1 t2 tf0 tf1 tf2
    (replace L := Lib.hid (L.out.belowS hb); replace B := Lib.hid (B.out.trans (hb.mono B.out.size)); clear hb)
    clear T1 I1 KX
    go_wp2_with fail
    refine (K2.out _).mono ?_
    rintro e w5 ⟨v, rfl, hv, hb⟩
    obtain ⟨⟨zl, zb, zp, zn, zc⟩, rfl⟩ := hv.triple
    simp only [IV.val, IV.kids] at hv ⊢
    have T2 : Hid (RowAt (w5.alloc (ivO (zl, zb, zp, zn, zc))) w5.heap.size #[.bool zl, .string zb, .slice zp zn zc] 24) := Lib.hid (RowAt.new _ _ _)
    have I2 : Hid (ItemIs (w5.alloc (ivO (zl, zb, zp, zn, zc))) y (.agg #[.bool zl, .string zb, .slice zp zn zc])) := Lib.hid (ItemIs.below ((Below.refl w5.heap.size w5).alloc (Nat.le_refl _) _) (Nat.le_refl _) _ _ (ItemP.is _ _ hv))
    replace B := Lib.hid ((B.out.trans (hb.mono B.out.size)).alloc (Nat.le_trans B.out.size hb.size) (ivO (zl, zb, zp, zn, zc)))
    clear hb hv K2 L
    obtain ⟨t0, t1, t2, tf0, tf1, tf2⟩ := T2.out.c3
    go_wp2_with fail
    refine (KEy.out _ _ I2.out).mono ?_
    rintro e w6 ⟨rfl, hb⟩
    clear t0 t1 t2 tf0 tf1 tf2
    (replace B := Lib.hid (B.out.trans (hb.mono B.out.size)); clear hb)
    clear T2 I2 KEy
    go_wp2_with fail
    refine (KA.out _).mono ?_
    rintro e w7 ⟨rfl, hb⟩
    (replace B := Lib.hid (B.out.trans (hb.mono B.out.size)); clear hb)
    go_wp2
    go_ret
    exact ⟨rfl, B.out⟩
  · have hy := hErr hc
    subst hy
    clear KE2 hOk hErr HTb
    by_cases hf : x.size ≤ 400
    rotate_left
    · rw [decide_eq_false hf] at KF
      clear hf KE KD1 KX HE1
      obtain ⟨a0, a1, a2, af0, af1, af2⟩ := L.out.c3
      go_enter Try.func9, Try.ntmps9
      go_wp2_with fail
      refine (KF.out _ B.out).mono ?_
      rintro e w1 ⟨rfl, hb⟩
      clear a0 a1 a2 af0 af1 af2
      (replace L := Lib.hid (L.out.belowS hb); replace B := Lib.hid (B.out.trans (hb.mono B.out.size)); clear hb)
      go_wp2_with fail
      refine (K2.out _).mono ?_
      rintro e w5 ⟨v, rfl, hv, hb⟩
      obtain ⟨⟨zl, zb, zp, zn, zc⟩, rfl⟩ := hv.triple
      simp only [IV.val, IV.kids] at hv ⊢
      have T2 : Hid (RowAt (w5.alloc (ivO (zl, zb, zp, zn, zc))) w5.heap.size #[.bool zl, .string zb, .slice zp zn zc] 24) := Lib.hid (RowAt.new _ _ _)
      have I2 : Hid (ItemIs (w5.alloc (ivO (zl, zb, zp, zn, zc))) zeroI (.agg #[.bool zl, .string zb, .slice zp zn zc])) := Lib.hid (ItemIs.below ((Below.refl w5.heap.size w5).alloc (Nat.le_refl _) _) (Nat.le_refl _) _ _ (ItemP.is _ _ hv))
      replace B := Lib.hid ((B.out.trans (hb.mono B.out.size)).alloc (Nat.le_trans B.out.size hb.size) (ivO (zl, zb, zp, zn, zc)))
      clear hb hv K2 L
      go_wp2_with fail
      refine (KA.out _).mono ?_
      rintro e w6 ⟨rfl, hb⟩
      replace T2 := Lib.hid (T2.out.belowS hb)
      replace I2 : Hid (ItemIs w6 zeroI (.agg #[.bool zl, .string zb, .slice zp zn zc])) := Lib.hid (ItemIs.below hb (Nat.le_refl _) _ _ I2.out)
      (replace B := Lib.hid (B.out.trans (hb.mono B.out.size)); clear hb)
      obtain ⟨t0, t1, t2, tf0, tf1, tf2⟩ := T2.out.c3
      go_wp2_with fail
      refine (KZ.out _ _ I2.out).mono ?_
      rintro e w7 ⟨rfl, hb⟩
      clear t0 t1 t2 tf0 tf1 tf2
      (replace B := Lib.hid (B.out.trans (hb.mono B.out.size)); clear hb)
      clear T2 I2
      go_wp2
      go_ret
      exact ⟨rfl, B.out⟩
    rw [decide_eq_true hf] at KF
    clear hf
    by_cases he : x.enc.2 = 0
    rotate_left
    · obtain ⟨c1, hc1⟩ : ∃ c1, x.enc.2 = c1 := ⟨_, rfl⟩
      rw [hc1] at KE he
      clear hc1 KD1 KX HE1
      generalize mkS x.enc.1 = A at *
      obtain ⟨a0, a1, a2, af0, af1, af2⟩ := L.out.c3
      go_enter Try.func9, Try.ntmps9
      go_wp2_with fail
      refine (KF.out _ B.out).mono ?_
      rintro e w1 ⟨rfl, hb⟩
      clear a0 a1 a2 af0 af1 af2
      (replace L := Lib.hid (L.out.belowS hb); replace B := Lib.hid (B.out.trans (hb.mono B.out.size)); clear hb)
      obtain ⟨a0, a1, a2, af0, af1, af2⟩ := L.out.c3
      go_wp2_with fail
      refine (KE.out _ B.out).mono ?_
      rintro e w2 ⟨rfl, hb⟩
      clear a0 a1 a2 af0 af1 af2
      (replace L := Lib.hid (L.out.belowS hb); replace B := Lib.hid (B.out.trans (hb.mono B.out.size)); clear hb)
      go_wp2_with fail
      refine (K2.out _).mono ?_
      rintro e w5 ⟨v, rfl, hv, hb⟩
      obtain ⟨⟨zl, zb, zp, zn, zc⟩, rfl⟩ := hv.triple
      simp only [IV.val, IV.kids] at hv ⊢
      have T2 : Hid (RowAt (w5.alloc (ivO (zl, zb, zp, zn, zc))) w5.heap.size #[.bool zl, .string zb, .slice zp zn zc] 24) := Lib.hid (RowAt.new _ _ _)
      have I2 : Hid (ItemIs (w5.alloc (ivO (zl, zb, zp, zn, zc))) zeroI (.agg #[.bool zl, .string zb, .slice zp zn zc])) := Lib.hid (ItemIs.below ((Below.refl w5.heap.size w5).alloc (Nat.le_refl _) _) (Nat.le_refl _) _ _ (ItemP.is _ _ hv))
      replace B := Lib.hid ((B.out.trans (hb.mono B.out.size)).alloc (Nat.le_trans B.out.size hb.size) (ivO (zl, zb, zp, zn, zc)))
      clear hb hv K2 L
      go_wp2_with fail
      refine (KA.out _).mono ?_
      rintro e w6 ⟨rfl, hb⟩
      replace T2 := Lib.hid (T2.out.belowS hb)
      replace I2 : Hid (ItemIs w6 zeroI (.agg #[.bool zl, .string zb, .slice zp zn zc])) := Lib.hid (ItemIs.below hb (Nat.le_refl _) _ _ I2.out)
      (replace B := Lib.hid (B.out.trans (hb.mono B.out.size)); clear hb)
      obtain ⟨t0, t1, t2, tf0, tf1, tf2⟩ := T2.out.c3
      go_wp2_with fail
      refine (KZ.out _ _ I2.out).mono ?_
      rintro e w7 ⟨rfl, hb⟩
      clear t0 t1 t2 tf0 tf1 tf2
      (replace B := Lib.hid (B.out.trans (hb.mono B.out.size)); clear hb)
      clear T2 I2
      go_wp2
      go_ret
      exact ⟨rfl, B.out⟩
    rw [he, HE1.out he] at KE
    replace KD1 := Lib.hid (KD1.out he)
    clear he HE1
    generalize mkS x.write = A at *
    obtain ⟨a0, a1, a2, af0, af1, af2⟩ := L.out.c3
    go_enter Try.func9, Try.ntmps9
    go_wp2_with fail
    refine (KF.out _ B.out).mono ?_
    rintro e w1 ⟨rfl, hb⟩
    clear a0 a1 a2 af0 af1 af2
    (replace L := Lib.hid (L.out.belowS hb); replace B := Lib.hid (B.out.trans (hb.mono B.out.size)); clear hb)
    obtain ⟨a0, a1, a2, af0, af1, af2⟩ := L.out.c3
    go_wp2_with fail
    refine (KE.out _ B.out).mono ?_
    rintro e w2 ⟨rfl, hb⟩
    clear a0 a1 a2 af0 af1 af2
    (replace L := Lib.hid (L.out.belowS hb); replace B := Lib.hid (B.out.trans (hb.mono B.out.size)); clear hb)
    go_wp2_with fail
    refine (KD1.out _).mono ?_
    rintro e w3 ⟨v, rfl, hv, hb⟩
    obtain ⟨⟨yl, yb, yp, yn, yc⟩, rfl⟩ := hv.triple
    simp only [IV.val, IV.kids] at hv ⊢
    have T1 : Hid (RowAt (w3.alloc (ivO (yl, yb, yp, yn, yc))) w3.heap.size #[.bool yl, .string yb, .slice yp yn yc] 24) := Lib.hid (RowAt.new _ _ _)
    have I1 : Hid (ItemIs (w3.alloc (ivO (yl, yb, yp, yn, yc))) x (.agg #[.bool yl, .string yb, .slice yp yn yc])) := Lib.hid (ItemIs.below ((Below.refl w3.heap.size w3).alloc (Nat.le_refl _) _) (Nat.le_refl _) _ _ (ItemP.is _ _ hv))
    replace L := Lib.hid ((L.out.belowS hb).alloc (ivO (yl, yb, yp, yn, yc)))
    replace B := Lib.hid ((B.out.trans (hb.mono B.out.size)).alloc (Nat.le_trans B.out.size hb.size) (ivO (yl, yb, yp, yn, yc)))
    clear hb hv KD1
    obtain ⟨a0, a1, a2, af0, af1, af2⟩ := L.out.c3
    obtain ⟨t0, t1, t2, tf0, tf1, tf2⟩ := T1.out.c3
    go_wp2_with fail
    refine (KX.out _ _ B.out I1.out).mono ?_
    rintro e w4 ⟨rfl, hb⟩
    clear a0 a1 a2 af0 af1 af2
    clear t0 t1 t2 tf0 tf1 tf2
    (replace L := Lib.hid (L.out.belowS hb); replace B := Lib.hid (B.out.trans (hb.mono B.out.size)); clear hb)
    clear T1 I1 KX
    go_wp2_with fail
    refine (K2.out _).mono ?_
    rintro e w5 ⟨v, rfl, hv, hb⟩
    obtain ⟨⟨zl, zb, zp, zn, zc⟩, rfl⟩ := hv.triple
    simp only [IV.val, IV.kids] at hv ⊢
    have T2 : Hid (RowAt (w5.alloc (ivO (zl, zb, zp, zn, zc))) w5.heap.size #[.bool zl, .string zb, .slice zp zn zc] 24) := Lib.hid (RowAt.new _ _ _)
    have I2 : Hid (ItemIs (w5.alloc (ivO (zl, zb, zp, zn, zc))) zeroI (.agg #[.bool zl, .string zb, .slice zp zn zc])) := Lib.hid (ItemIs.below ((Below.refl w5.heap.size w5).alloc (Nat.le_refl _) _) (Nat.le_refl _) _ _ (ItemP.is _ _ hv))
    replace B := Lib.hid ((B.out.trans (hb.mono B.out.size)).alloc (Nat.le_trans B.out.size hb.size) (ivO (zl, zb, zp, zn, zc)))
    clear hb hv K2 L
    go_wp2_with fail
    refine (KA.out _).mono ?_
    rintro e w6 ⟨rfl, hb⟩
    replace T2 := Lib.hid (T2.out.belowS hb)
    replace I2 : Hid (ItemIs w6 zeroI (.agg #[.bool zl, .string zb, .slice zp zn zc])) := Lib.hid (ItemIs.below hb (Nat.le_refl _) _ _ I2.out)
    (replace B := Lib.hid (B.out.trans (hb.mono B.out.size)); clear hb)
    obtain ⟨t0, t1, t2, tf0, tf1, tf2⟩ := T2.out.c3
    go_wp2_with fail
    refine (KZ.out _ _ I2.out).mono ?_
    rintro e w7 ⟨rfl, hb⟩
    clear t0 t1 t2 tf0 tf1 tf2
    (replace B := Lib.hid (B.out.trans (hb.mono B.out.size)); clear hb)
    clear T2 I2
    go_wp2
    go_ret
    exact ⟨rfl, B.out⟩
end Go.Proofs.Ytdeboidelgnffaa
