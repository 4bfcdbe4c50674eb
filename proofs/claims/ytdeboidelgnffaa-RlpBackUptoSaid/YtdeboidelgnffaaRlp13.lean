/- Rlp: contracts of the reference's Encode, of alive and few; items compared. -/
import Derived.Test.YtdeboidelgnffaaRlp12
namespace Go.Proofs.Ytdeboidelgnffaa
open Go.RowKit

mutual
/-- Two items, compared. -/
def It.like : It → It → Bool
  | .mk l b ks, .mk l' b' ks' => (l == l') && (b == b') && likes ks ks'
def likes : List It → List It → Bool
  | [], [] => true
  | k :: ks, k' :: ks' => k.like k' && likes ks ks'
  | _, _ => false
end

mutual
theorem like_iff : ∀ x y : It, x.like y = true ↔ x = y
  | .mk l b ks, .mk l' b' ks' => by
    rw [It.like, Bool.and_eq_true, Bool.and_eq_true, likes_iff ks ks', It.mk.injEq, beq_iff_eq, beq_iff_eq, and_assoc]
theorem likes_iff : ∀ xs ys : List It, likes xs ys = true ↔ xs = ys
  | [], [] => by simp [likes]
  | k :: ks, k' :: ks' => by rw [likes, Bool.and_eq_true, like_iff k k', likes_iff ks ks', List.cons.injEq]
  | [], _ :: _ => by simp [likes]
  | _ :: _, [] => by simp [likes]
end

theorem likes_length : ∀ {xs ys : List It}, likes xs ys = true → xs.length = ys.length := fun h => congrArg List.length ((likes_iff _ _).1 h)

theorem likes_take : ∀ {xs ys : List It} {i : Nat} {k k' : It}, xs[i]? = some k → ys[i]? = some k' → likes (xs.take (i + 1)) (ys.take (i + 1)) = (likes (xs.take i) (ys.take i) && k.like k')
  | x :: xs, y :: ys, 0, k, k', h, h' => by simp at h h'; subst h h'; simp [likes]
  | x :: xs, y :: ys, i + 1, k, k', h, h' => by
    rw [List.take_succ_cons, List.take_succ_cons, List.take_succ_cons, List.take_succ_cons, likes, likes, likes_take (by simpa using h) (by simpa using h'), Bool.and_assoc]
  | [], _, i, k, k', h, _ => by simp at h
  | _, [], i, k, k', _, h => by simp at h

theorem likes_stop : ∀ {xs ys : List It} {i : Nat} {k k' : It}, xs[i]? = some k → ys[i]? = some k' → k.like k' = false → likes xs ys = false
  | x :: xs, y :: ys, 0, k, k', h, h', hf => by simp at h h'; subst h h'; simp [likes, hf]
  | x :: xs, y :: ys, i + 1, k, k', h, h', hf => by rw [likes, likes_stop (by simpa using h) (by simpa using h') hf, Bool.and_false]
  | [], _, i, k, k', h, _, _ => by simp at h
  | _, [], i, k, k', _, h, _ => by simp at h

set_option maxRecDepth 100000 in
set_option maxHeartbeats 1000000 in
theorem rencode_any (x : It) (v : Value) (w : World) (hx : ItemIs w x v) (hw : x.pureB = true → x.size ≤ 4000 → x.write.length ≤ 1000000000) :
    Calls Try.prog 14 #[v] w fun e w' => e = .returned (.tuple #[.string (mkS x.enc.1), .int .i64 x.enc.2]) ∧ Below w.heap.size w w' := by
  obtain ⟨⟨l, b, p, n, c⟩, rfl⟩ := itemIs_val hx
  have HX : ∀ W, Below w.heap.size w W → ItemIs W x (.agg #[.bool l, .string b, .slice p n c]) := fun W h => ItemIs.below h (Nat.le_refl _) _ _ hx
  have HI := Lib.hid HX
  have L : Hid (RowAt (w.alloc (ivO (l, b, p, n, c))) w.heap.size #[.bool l, .string b, .slice p n c] 24) := Lib.hid (RowAt.new _ _ _)
  have B : Hid (Below w.heap.size w (w.alloc (ivO (l, b, p, n, c)))) := Lib.hid ((Below.refl _ _).alloc (Nat.le_refl _) _)
  show Calls Try.prog 14 #[.agg #[.bool l, .string b, .slice p n c]] w _
  have K1 := Lib.hid (fun W h => many_any x (.agg #[.bool l, .string b, .slice p n c]) 4000 W (HX W h) (by omega))
  have KP := Lib.hid (fun W h => rpure_any x.size x (Nat.le_refl _) (.agg #[.bool l, .string b, .slice p n c]) W (HX W h))
  cases hwell : (x.pureB && decide (x.size ≤ 4000)) with
  | false =>
    have HE : Hid (x.enc = ([], 1)) := Lib.hid (by rw [It.enc, if_pos hwell])
    clear hx HX hw
    by_cases hsz : x.size ≤ 4000
    · have hp : x.pureB = false := by simpa [hsz] using hwell
      rw [hp] at KP
      rw [show min x.size (4000 + 1) = x.size by omega] at K1
      generalize x.size = sz at *
      clear hwell hp
      obtain ⟨a0, a1, a2, af0, af1, af2⟩ := L.out.c3
      go_enter Try.func14, Try.ntmps14
      go_wp2_with fail
      refine (K1.out _ B.out).mono ?_
      rintro e w2 ⟨rfl, hb⟩
      clear a0 a1 a2 af0 af1 af2
      (replace L := Lib.hid (L.out.belowS hb); replace B := Lib.hid (B.out.trans (hb.mono B.out.size)); clear hb)
      obtain ⟨a0, a1, a2, af0, af1, af2⟩ := L.out.c3
      go_wp2_with fail
      refine (KP.out _ B.out).mono ?_
      rintro e w3 ⟨rfl, hb⟩
      (replace B := Lib.hid (B.out.trans (hb.mono B.out.size)); clear hb)
      go_wp2
      go_ret2
      rw [HE.out]
      exact ⟨rfl, B.out⟩
    · rw [show min x.size (4000 + 1) = 4001 by omega] at K1
      clear hwell hsz
      obtain ⟨a0, a1, a2, af0, af1, af2⟩ := L.out.c3
      go_enter Try.func14, Try.ntmps14
      go_wp2_with fail
      refine (K1.out _ B.out).mono ?_
      rintro e w2 ⟨rfl, hb⟩
      (replace B := Lib.hid (B.out.trans (hb.mono B.out.size)); clear hb)
      go_wp2
      go_ret2
      rw [HE.out]
      exact ⟨rfl, B.out⟩
  | true =>
    have hwell' := hwell
    rw [Bool.and_eq_true, decide_eq_true_eq] at hwell'
    rw [show min x.size (4000 + 1) = x.size by omega] at K1
    rw [hwell'.1] at KP
    have hszz := hwell'.2
    have K2 := Lib.hid (fun W h => rdepth_any x.size x (Nat.le_refl _) (by omega) (.agg #[.bool l, .string b, .slice p n c]) W (HX W h))
    have K3 := Lib.hid (fun W h => rwrite_any x.size x (Nat.le_refl _) (hw hwell'.1 hwell'.2) (.agg #[.bool l, .string b, .slice p n c]) W (HX W h))
    have hwl := hw hwell'.1 hwell'.2
    have HE0 : Hid (x.enc = if 8 < x.depth then ([], 5) else if 4000 < x.write.length then ([], 2) else (x.write, 0)) := Lib.hid (by rw [It.enc, if_neg (by rw [hwell]; simp)])
    have hz : (mkS x.write).size = x.write.length := mk_size _
    clear hx HX hw hwell hwell'
    generalize hd : x.depth = d at *
    generalize hxw : x.write = xw at *
    clear hd hxw
    generalize xw.length = n' at *
    generalize x.size = sz at *
    by_cases hd : 8 < d
    · have HE : Hid (x.enc = ([], 5)) := Lib.hid (by rw [HE0.out, if_pos hd])
      obtain ⟨a0, a1, a2, af0, af1, af2⟩ := L.out.c3
      go_enter Try.func14, Try.ntmps14
      go_wp2_with fail
      refine (K1.out _ B.out).mono ?_
      rintro e w1 ⟨rfl, hb⟩
      clear a0 a1 a2 af0 af1 af2
      (replace L := Lib.hid (L.out.belowS hb); replace B := Lib.hid (B.out.trans (hb.mono B.out.size)); clear hb)
      obtain ⟨a0, a1, a2, af0, af1, af2⟩ := L.out.c3
      go_wp2_with fail
      refine (KP.out _ B.out).mono ?_
      rintro e w2 ⟨rfl, hb⟩
      clear a0 a1 a2 af0 af1 af2
      (replace L := Lib.hid (L.out.belowS hb); replace B := Lib.hid (B.out.trans (hb.mono B.out.size)); clear hb)
      obtain ⟨a0, a1, a2, af0, af1, af2⟩ := L.out.c3
      go_wp2_with fail
      refine (K2.out _ B.out).mono ?_
      rintro e w2 ⟨rfl, hb⟩
      (replace B := Lib.hid (B.out.trans (hb.mono B.out.size)); clear hb)
      go_wp2
      go_ret2
      rw [HE.out]
      exact ⟨rfl, B.out⟩
    · by_cases hn : 4000 < n'
      · have HE : Hid (x.enc = ([], 2)) := Lib.hid (by rw [HE0.out, if_neg hd, if_pos hn])
        obtain ⟨a0, a1, a2, af0, af1, af2⟩ := L.out.c3
        go_enter Try.func14, Try.ntmps14
        go_wp2_with fail
        refine (K1.out _ B.out).mono ?_
        rintro e w1 ⟨rfl, hb⟩
        clear a0 a1 a2 af0 af1 af2
        (replace L := Lib.hid (L.out.belowS hb); replace B := Lib.hid (B.out.trans (hb.mono B.out.size)); clear hb)
        obtain ⟨a0, a1, a2, af0, af1, af2⟩ := L.out.c3
        go_wp2_with fail
        refine (KP.out _ B.out).mono ?_
        rintro e w2 ⟨rfl, hb⟩
        clear a0 a1 a2 af0 af1 af2
        (replace L := Lib.hid (L.out.belowS hb); replace B := Lib.hid (B.out.trans (hb.mono B.out.size)); clear hb)
        obtain ⟨a0, a1, a2, af0, af1, af2⟩ := L.out.c3
        go_wp2_with fail
        refine (K2.out _ B.out).mono ?_
        rintro e w3 ⟨rfl, hb⟩
        clear a0 a1 a2 af0 af1 af2
        (replace L := Lib.hid (L.out.belowS hb); replace B := Lib.hid (B.out.trans (hb.mono B.out.size)); clear hb)
        obtain ⟨a0, a1, a2, af0, af1, af2⟩ := L.out.c3
        go_wp2_with fail
        refine (K3.out _ B.out).mono ?_
        rintro e w4 ⟨rfl, hb⟩
        (replace B := Lib.hid (B.out.trans (hb.mono B.out.size)); clear hb)
        go_wp2
        go_ret2
        rw [HE.out]
        exact ⟨rfl, B.out⟩
      · have HE : Hid (x.enc = (xw, 0)) := Lib.hid (by rw [HE0.out, if_neg hd, if_neg hn])
        obtain ⟨a0, a1, a2, af0, af1, af2⟩ := L.out.c3
        go_enter Try.func14, Try.ntmps14
        go_wp2_with fail
        refine (K1.out _ B.out).mono ?_
        rintro e w1 ⟨rfl, hb⟩
        clear a0 a1 a2 af0 af1 af2
        (replace L := Lib.hid (L.out.belowS hb); replace B := Lib.hid (B.out.trans (hb.mono B.out.size)); clear hb)
        obtain ⟨a0, a1, a2, af0, af1, af2⟩ := L.out.c3
        go_wp2_with fail
        refine (KP.out _ B.out).mono ?_
        rintro e w2 ⟨rfl, hb⟩
        clear a0 a1 a2 af0 af1 af2
        (replace L := Lib.hid (L.out.belowS hb); replace B := Lib.hid (B.out.trans (hb.mono B.out.size)); clear hb)
        obtain ⟨a0, a1, a2, af0, af1, af2⟩ := L.out.c3
        go_wp2_with fail
        refine (K2.out _ B.out).mono ?_
        rintro e w3 ⟨rfl, hb⟩
        clear a0 a1 a2 af0 af1 af2
        (replace L := Lib.hid (L.out.belowS hb); replace B := Lib.hid (B.out.trans (hb.mono B.out.size)); clear hb)
        obtain ⟨a0, a1, a2, af0, af1, af2⟩ := L.out.c3
        go_wp2_with fail
        refine (K3.out _ B.out).mono ?_
        rintro e w4 ⟨rfl, hb⟩
        (replace B := Lib.hid (B.out.trans (hb.mono B.out.size)); clear hb)
        go_wp2
        go_ret2
        rw [HE.out]
        exact ⟨rfl, B.out⟩

set_option maxRecDepth 100000 in
set_option maxHeartbeats 1000000 in
theorem alive_any (w : World) : Calls Try.prog 12 #[] w fun e w' => e = .returned (.bool true) ∧ Below w.heap.size w w' := by
  have hw : (It.mk false [100, 111, 103] []).write = [131, 100, 111, 103] := by
    rw [It.write, if_neg (by simp), if_neg (by simp), headL_short (by simp)]
    rfl
  have he : (It.mk false [100, 111, 103] []).enc = ([131, 100, 111, 103], 0) := by
    rw [It.enc, hw]
    simp [It.pureB, It.size, It.depth, puresB, sizes, depths]
  have K := encode_any (.mk false [100, 111, 103] []) (itemV false [100, 111, 103] (.slice none 0 0)) w (by rw [ItemIs]; exact ⟨_, rfl, by simp, .inl ⟨rfl, rfl⟩⟩) (by rw [hw]; simp)
  rw [he] at K
  have KH := Lib.hid K
  clear K hw he
  go_enter Try.func12, Try.ntmps12
  go_wp2_with fail
  refine KH.out.mono ?_
  rintro e w2 ⟨rfl, hb⟩
  have HB := Lib.hid hb
  clear hb
  have hs : (mkS [131, 100, 111, 103]).toList = [131, 100, 111, 103] := by rw [toList_bl, bl_mk]
  go_wp2
  go_ret
  exact ⟨rfl, HB.out⟩

set_option maxHeartbeats 1000000 in
theorem few_any (x : It) (v : Value) (w : World) (hx : ItemIs w x v) :
    Calls Try.prog 13 #[v] w fun e w' => e = .returned (.bool (decide (x.size ≤ 400))) ∧ Below w.heap.size w w' := by
  obtain ⟨⟨l, b, p, n, c⟩, rfl⟩ := itemIs_val hx
  have L : Hid (RowAt (w.alloc (ivO (l, b, p, n, c))) w.heap.size #[.bool l, .string b, .slice p n c] 24) := Lib.hid (RowAt.new _ _ _)
  have B : Hid (Below w.heap.size w (w.alloc (ivO (l, b, p, n, c)))) := Lib.hid ((Below.refl _ _).alloc (Nat.le_refl _) _)
  have K := Lib.hid (many_any x (.agg #[.bool l, .string b, .slice p n c]) 400 _ (ItemIs.below B.out (Nat.le_refl _) _ _ hx) (by omega))
  have HD : Hid (decide (min x.size (400 + 1) ≤ 400) = decide (x.size ≤ 400)) := Lib.hid (by congr 1; simp only [eq_iff_iff]; omega)
  clear hx
  generalize min x.size (400 + 1) = m at *
  generalize x.size = sz at *
  show Calls Try.prog 13 #[.agg #[.bool l, .string b, .slice p n c]] w _
  obtain ⟨a0, a1, a2, af0, af1, af2⟩ := L.out.c3
  go_enter Try.func13, Try.ntmps13
  go_wp2_with fail
  refine K.out.mono ?_
  rintro e w2 ⟨rfl, hb⟩
  (replace B := Lib.hid (B.out.trans (hb.mono B.out.size)); clear hb)
  go_wp2
  go_ret
  rw [← HD.out]
  exact ⟨by simp; omega, B.out⟩
end Go.Proofs.Ytdeboidelgnffaa
